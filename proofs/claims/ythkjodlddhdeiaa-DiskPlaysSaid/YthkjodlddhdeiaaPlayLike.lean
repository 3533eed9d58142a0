/- Are both disks alike? -/
import Derived.Test.YthkjodlddhdeiaaPlayStep
namespace Go.Proofs.Ythkjodlddhdeiaa.disk
open Go.ChangeShapes Go.WideShapes Go.ChangeAt Go.RowKit
open Ythkjodlddhdeiaa.base

set_option maxRecDepth 100000 in
set_option maxHeartbeats 1600000 in
theorem like_walk {w0 w : World} {d r : Nat} {D : Dk} (h : Half w0 w d r D D) (hS : Seen D) (hW : D.W.length ≤ 1000) :
    Calls Try.prog 30 #[pd d, pd r] w fun e w' => e = .returned (.bool true) ∧ Below w.heap.size w w' := by
  have hn2 := h.st.wf.n2
  obtain ⟨b, z, hr⟩ := h.rt
  obtain ⟨cb, lv, c0, c1, -, -, -, -, hL⟩ := hr.cells
  obtain ⟨a, cap, rfl, -, -⟩ := own_slice hL
  have hln := len_st (h.st.mono (drewn (same w)))
  have hlo := loose_st (h.st.mono (drewn (same w)))
  have hB : Below w.heap.size w w.drew := drewn (same w)
  have h1 := h.mono hB
  have e0 : w.drew.cell? ⟨r, 0, none⟩ = some (.slice (some ⟨b, 0, none⟩) D.n cb) := c0
  have hrd := fun i : Int => half_read h1 i
  have hrr := fun i : Int => half_rread h1 hS (by omega) i
  have HH := Ythkjodlddhdeiaa.base.Shut.mk (And.intro hln (And.intro hlo (And.intro hB (And.intro hrd hrr))))
  clear hln hlo hB h1 h hr hL hS hW hrd hrr
  go_enter Try.func30, Try.ntmps30
  go_wp2
  go_region_held3 (fun w' => w'.cell? ⟨r, 0, none⟩ = some (.slice (some ⟨b, 0, none⟩) D.n cb) ∧ w'.cell? ⟨r, 1, none⟩ = some (.slice a D.W.length cap))
    (first | exact ⟨c0, c1⟩ | go_keep)
    (first | (go_at_call 33; (with_reducible refine Calls.mono HH.out.1 ?_); rintro e w1 ⟨rfl, rfl⟩) | (go_at_call 29; (with_reducible refine Calls.mono HH.out.2.1 ?_); rintro e w1 ⟨rfl, rfl⟩))
  go_wp2
  go_loopw [5] (fun i wr => ∃ k : Nat, k ≤ D.n ∧ i = .int .i64 k ∧ wr = w.drew) (fun i _ => D.n - (intOf i).toNat)
  case atStart => exact ⟨0, Nat.zero_le _, rfl, rfl⟩
  case round =>
    obtain ⟨k, hk, rfl, rfl⟩ := hrel
    by_cases hlt : k < D.n
    · have hlt' : (k : Int) < D.n := by omega
      have HA := Ythkjodlddhdeiaa.base.Shut.mk (And.intro (HH.out.2.2.2.1 k) (HH.out.2.2.2.2 k))
      generalize readS D k = R at HA
      generalize mayE D k = E at HA
      go_wp2_with fail
      refine HA.out.1.mono ?_
      rintro e w1 ⟨rfl, rfl⟩
      go_wp2_with fail
      refine HA.out.2.mono ?_
      rintro e w1 ⟨rfl, rfl⟩
      go_wp2
      go_roundw
      case rel => exact ⟨k + 1, by omega, by go_num, trivial⟩
      case measure => simp [intOf]; omega
    · have hlt' : ¬ (k : Int) < D.n := by omega
      go_wp2
      go_ret
      exact ⟨rfl, HH.out.2.2.1⟩
end Go.Proofs.Ythkjodlddhdeiaa.disk
