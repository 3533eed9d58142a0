/- The walk of WalNil. -/
import Derived.Test.YthkjodlddhdeiaaWalLives
namespace Go.Proofs.Ythkjodlddhdeiaa.wal
open Go.ChangeShapes Go.WideShapes Go.ChangeAt Go.RowKit
open Ythkjodlddhdeiaa.base Ythkjodlddhdeiaa.disk

set_option maxRecDepth 100000 in
set_option maxHeartbeats 1600000 in
theorem walNil_walk (A : Option Addr) (n cap : Nat) (t : Int) (b : Bool) (w : World) :
    Calls Try.prog 10 #[.slice A n cap, .int .i64 t, .bool b] w fun e w' => e = .returned (.bool true) ∧ Below w.heap.size w w' := by
  by_cases hn : (20 : Int) < (n : Int)
  · go_enter Try.func10, Try.ntmps10
    go_wp2_with fail
    refine (lives_walk _).mono ?_
    rintro e w1 ⟨rfl, hb⟩
    go_wp2
    go_ret
    exact ⟨rfl, hb⟩
  · cases b
    · have HU := Ythkjodlddhdeiaa.base.Shut.mk (show ∀ u, UnLog u (.pointer none) from fun u => .inl rfl)
      go_enter Try.func10, Try.ntmps10
      go_wp2_with fail
      refine (open_un _ _ _ _ _).mono ?_
      rintro e w1 ⟨rfl, rfl⟩
      go_wp2_with fail
      refine (append_un (HU.out _) _).mono ?_
      rintro e w1 ⟨rfl, rfl⟩
      go_wp2_with fail
      refine (trim_un (HU.out _) _).mono ?_
      rintro e w1 ⟨rfl, rfl⟩
      go_wp2_with fail
      refine (records_un (HU.out _)).mono ?_
      rintro e w1 ⟨rfl, rfl⟩
      go_wp2_with fail
      refine (tail_un (HU.out _)).mono ?_
      rintro e w1 ⟨rfl, rfl⟩
      go_wp2_with fail
      refine (head_un (HU.out _)).mono ?_
      rintro e w1 ⟨rfl, rfl⟩
      go_wp2_with fail
      refine (room_un (HU.out _)).mono ?_
      rintro e w1 ⟨rfl, rfl⟩
      go_wp2_with fail
      refine (lives_walk _).mono ?_
      rintro e w1 ⟨rfl, hb⟩
      go_wp2
      go_ret
      exact ⟨rfl, hb⟩
    · go_enter Try.func10, Try.ntmps10
      go_wp2_with fail
      have hu : UnLog (w.alloc (.cells #[.pointer none, .int .i64 0, .int .i64 0, .int .i64 0, .slice none 0 0] 78)) (.pointer (some ⟨w.heap.size, 0, none⟩)) := by
        refine .inr ⟨w.heap.size, rfl, ?_⟩
        rw [cell_of_row _ _ 0 _ _ _ (heap_alloc_new _ _)]
        rfl
      have hb0 : Below w.heap.size w (w.alloc (.cells #[.pointer none, .int .i64 0, .int .i64 0, .int .i64 0, .slice none 0 0] 78)) := newer (same w) _
      have HU := Ythkjodlddhdeiaa.base.Shut.mk (And.intro hu hb0)
      clear hu hb0
      generalize w.alloc (.cells #[.pointer none, .int .i64 0, .int .i64 0, .int .i64 0, .slice none 0 0] 78) = V at HU
      refine (open_un _ _ _ _ _).mono ?_
      rintro e w1 ⟨rfl, rfl⟩
      go_wp2_with fail
      refine (append_un HU.out.1 _).mono ?_
      rintro e w1 ⟨rfl, rfl⟩
      go_wp2_with fail
      refine (trim_un HU.out.1 _).mono ?_
      rintro e w1 ⟨rfl, rfl⟩
      go_wp2_with fail
      refine (records_un HU.out.1).mono ?_
      rintro e w1 ⟨rfl, rfl⟩
      go_wp2_with fail
      refine (tail_un HU.out.1).mono ?_
      rintro e w1 ⟨rfl, rfl⟩
      go_wp2_with fail
      refine (head_un HU.out.1).mono ?_
      rintro e w1 ⟨rfl, rfl⟩
      go_wp2_with fail
      refine (room_un HU.out.1).mono ?_
      rintro e w1 ⟨rfl, rfl⟩
      go_wp2_with fail
      refine (lives_walk _).mono ?_
      rintro e w1 ⟨rfl, hb⟩
      have HB := Ythkjodlddhdeiaa.base.Shut.mk (HU.out.2.trans (hb.mono HU.out.2.size))
      clear hb
      go_wp2
      go_ret
      exact ⟨rfl, HB.out⟩
end Go.Proofs.Ythkjodlddhdeiaa.wal
