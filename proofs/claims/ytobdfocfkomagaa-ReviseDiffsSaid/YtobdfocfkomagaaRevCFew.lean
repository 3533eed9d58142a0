/- Changes.Few: true gives few changes. -/
import Derived.Test.YtobdfocfkomagaaRevTSmall
import Derived.Test.YtobdfocfkomagaaRevApply
namespace Go.Proofs.Ytobdfocfkomagaa.rev
open Go.ChangeShapes Go.WideShapes Go.ChangeAt Go.RowKit
open Ytobdfocfkomagaa.base (size_mk chain newer drewn same ba_ext)
open Ytobdfocfkomagaa.row2 (Row CReads)

attribute [local go_sem] si_one si_cells run_store_si
def zfi : FI := ⟨none, 0, []⟩
def zti : TI := ⟨⟨#[]⟩, zfi, zfi, 0, 0⟩
theorem zfi_ok (w : World) : FOk w zfi := ⟨fun h => absurd rfl h, Nat.zero_le _, fun k hk => by cases hk⟩
set_option maxRecDepth 100000 in
set_option maxHeartbeats 1600000 in
theorem cfew_walk (A : Option Addr) (n c : Nat) (cs : List CI) (hn : cs.length = n) (hn2 : n ≤ maxLen) (w : World) (hC : CL w A cs) :
    Calls Try.prog 13 #[.slice A n c] w fun e w' => SmallEnd n 60 e ∧ Below w.heap.size w w' := by
  have hs63 : n ≤ 9223372036854775807 := by unfold maxLen at hn2; omega
  have H := Ytobdfocfkomagaa.base.Shut.mk (And.intro hC hn)
  clear hC hn hn2
  by_cases g : (60 : Int) < n
  · go_enter Try.func13, Try.ntmps13
    go_wp2
    go_ret
    exact ⟨SmallEnd.no, same w⟩
  · go_enter Try.func13, Try.ntmps13
    go_wp2
    go_loopw [3] (fun i wr => ∃ k : Nat, i = .int .i64 k ∧ k ≤ n ∧ Ytobdfocfkomagaa.base.Shut (Below w.heap.size w wr)) (fun i _ => n - (intOf i).toNat)
    case atStart => exact ⟨0, rfl, Nat.zero_le _, ⟨same w⟩⟩
    case round =>
      obtain ⟨k, rfl, hk, HI⟩ := hrel
      by_cases hlt : k < n
      · obtain ⟨C, hC⟩ : ∃ C, cs[k]? = some C := ⟨_, List.getElem?_eq_getElem (by rw [H.out.2]; exact hlt)⟩
        obtain ⟨b, off, rfl, hb0, m0, m1, m2, m3, hok⟩ := (H.out.1.keep HI.out).at_ hC
        have hlt' : (k : Int) < n := by omega
        have hnw := newer (same wr) (.cells #[C.r.x.v, C.r.y.v] 77)
        have hone : CReads (wr.alloc (.cells #[C.r.x.v, C.r.y.v] 77)) (some ⟨wr.heap.size, 0, none⟩) (cellsR [C.r]) := fun _ => ⟨wr.heap.size, 0, rfl, by rw [World.size_alloc]; omega, fun j v hj => by
          have hr1 := Row.new wr #[C.r.x.v, C.r.y.v] 77
          rw [Nat.zero_add]
          refine hr1.at_ ?_
          simpa [cellsR, cellR] using hj⟩
        have HS := Ytobdfocfkomagaa.base.Shut.mk (small_walk zti (some ⟨wr.heap.size, 0, none⟩) 1 1 [C.r] rfl (by decide) (wr.alloc (.cells #[C.r.x.v, C.r.y.v] 77)) ⟨zfi_ok _, zfi_ok _⟩ ⟨hone, fun r hr => by
          obtain rfl : r = C.r := by simpa using hr
          exact hok.r.keep hnw⟩)
        have HN := Ytobdfocfkomagaa.base.Shut.mk (chain HI.out hnw)
        clear hnw hone hok hb0 hC m0 m1
        go_wp2_with fail
        refine HS.out.mono ?_
        rintro e w5 ⟨⟨v, rfl, -⟩, hb5⟩
        have H5 := Ytobdfocfkomagaa.base.Shut.mk (chain HN.out hb5)
        clear hb5
        cases v with
        | false =>
          go_wp2
          go_ret
          exact ⟨SmallEnd.no, H5.out⟩
        | true =>
          go_wp2
          go_roundw
          case rel => exact ⟨k + 1, by go_num, by omega, H5⟩
          case measure => simp [intOf]; omega
      · obtain rfl : k = n := by omega
        go_wp2
        go_ret
        exact ⟨SmallEnd.yes (by omega) true, HI.out⟩
end Go.Proofs.Ytobdfocfkomagaa.rev
