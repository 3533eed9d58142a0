/- The walks of disk.Read and New. -/
import Derived.Test.YthkjodlddhdeiaaDiskWalk
namespace Go.Proofs.Ythkjodlddhdeiaa.disk
open Go.ChangeShapes Go.WideShapes Go.ChangeAt Go.RowKit
open Ythkjodlddhdeiaa.base

/-- a block of a row of blocks -/
def blk (l : List UInt8) (k : Nat) : List UInt8 := (l.drop (k * 512)).take 512
theorem blk_len {l : List UInt8} {n k : Nat} (hl : l.length = n * 512) (hk : k < n) : (blk l k).length = 512 := by
  unfold blk
  rw [List.length_take, List.length_drop, hl]
  omega
theorem blk_get (l : List UInt8) (k j : Nat) (hj : j < 512) : (blk l k)[j]? = l[k * 512 + j]? := by
  unfold blk
  rw [List.getElem?_take, if_pos hj, List.getElem?_drop]
def readS (D : Dk) (i : Int) : List UInt8 := if mayE D i = 0 then blk D.S i.toNat else []
theorem mayE_zero {D : Dk} {i : Int} (h : mayE D i = 0) : D.gone = false ∧ 0 ≤ i ∧ i < D.n := by
  unfold mayE at h
  cases hg : D.gone
  · rw [hg, if_neg (by decide)] at h
    by_cases hc : 0 ≤ i ∧ i < D.n
    · exact ⟨rfl, hc⟩
    · rw [if_neg hc] at h; cases h
  · rw [hg, if_pos rfl] at h; cases h
theorem size512 : (Try.prog.info? 105).map (·.size) = some 512 := by kernel_rfl

set_option maxRecDepth 100000 in
set_option maxHeartbeats 400000 in
theorem read_walk {w : World} {base d f s : Nat} {D : Dk} (h : At w base d f s D) (i : Int) :
    Calls Try.prog 25 #[pd d, .int .i64 i] w fun e w' => e = .returned (.tuple #[.string ⟨(readS D i).toArray⟩, .int .i64 (mayE D i)]) ∧ w = w' := by
  have hm := may_walk h i
  by_cases hz : mayE D i = 0
  · obtain ⟨_, h1, h2⟩ := mayE_zero hz
    obtain ⟨k, rfl⟩ : ∃ k : Nat, i = k := ⟨i.toNat, by omega⟩
    have hk : k < D.n := by omega
    obtain ⟨fc, cs, lv, h0, h1', h2', h3, h4, hf, hrow, _, _⟩ := h.cells
    have hread : readS D k = blk D.S k := by unfold readS; rw [if_pos hz]; rfl
    have hcv := run_string w s (k * 512) 512 512 (blk D.S k) (blk_len h.wf.S hk) (fun j c hj => by
      have hj5 : j < 512 := by have := (List.getElem?_eq_some_iff.1 hj).1; rw [blk_len h.wf.S hk] at this; exact this
      rw [hrow.cellAt _ (by omega)]
      rw [blk_get _ _ _ hj5] at hj
      simp [bytesOf, hj])
    rw [hz] at hm
    rw [hread, hz]
    have HM := Shut.mk hm
    clear hm h hz hread hrow
    go_enter Try.func25, Try.ntmps25
    go_wp2_with fail
    refine HM.out.mono ?_
    rintro e w1 ⟨rfl, rfl⟩
    go_wp2
    go_ret2
    exact ⟨rfl, rfl⟩
  · have hread : readS D i = [] := by unfold readS; rw [if_neg hz]
    rw [hread]
    have HM := Shut.mk hm
    clear hm h hread
    generalize mayE D i = r at hz HM
    go_enter Try.func25, Try.ntmps25
    go_wp2_with fail
    refine HM.out.mono ?_
    rintro e w1 ⟨rfl, rfl⟩
    go_wp2
    go_ret2
    exact ⟨rfl, rfl⟩
end Go.Proofs.Ythkjodlddhdeiaa.disk
