/- The walk of DiskNil. -/
import Derived.Test.YthkjodlddhdeiaaDiskLives
namespace Go.Proofs.Ythkjodlddhdeiaa.disk
open Go.ChangeShapes Go.WideShapes Go.ChangeAt Go.RowKit
open Ythkjodlddhdeiaa.base

set_option maxRecDepth 100000 in
set_option maxHeartbeats 1600000 in
theorem diskNil_walk (i : Int) (s : ByteArray) (b : Bool) (w : World) :
    Calls Try.prog 8 #[.int .i64 i, .string s, .bool b] w fun e w' => e = .returned (.bool true) ∧ Below w.heap.size w w' := by
  cases b
  · have HU := Ythkjodlddhdeiaa.base.Shut.mk (show ∀ u, Un u (.pointer none) from fun u => .inl rfl)
    go_enter Try.func8, Try.ntmps8
    go_wp2_with fail
    refine (read_un (HU.out _) i).mono ?_
    rintro e w1 ⟨rfl, rfl⟩
    go_wp2_with fail
    refine (write_un (HU.out _) i s).mono ?_
    rintro e w1 ⟨rfl, rfl⟩
    go_wp2_with fail
    refine (flush_un (HU.out _)).mono ?_
    rintro e w1 ⟨rfl, rfl⟩
    go_wp2_with fail
    refine (arm_un (HU.out _) i).mono ?_
    rintro e w1 ⟨rfl, rfl⟩
    go_wp2_with fail
    refine (crash_un (HU.out _) _).mono ?_
    rintro e w1 ⟨rfl, rfl⟩
    go_wp2_with fail
    refine (len_un (HU.out _)).mono ?_
    rintro e w1 ⟨rfl, rfl⟩
    go_wp2_with fail
    refine (loose_un (HU.out _)).mono ?_
    rintro e w1 ⟨rfl, rfl⟩
    go_wp2_with fail
    refine (copy_un (HU.out _)).mono ?_
    rintro e w1 ⟨rfl, rfl⟩
    go_wp2_with fail
    refine (lives_walk _).mono ?_
    rintro e w1 ⟨rfl, hb⟩
    go_wp2
    go_ret
    exact ⟨rfl, hb⟩
  · go_enter Try.func8, Try.ntmps8
    go_wp2_with fail
    have hu : Un (w.alloc (.cells #[.slice none 0 0, .slice none 0 0, .slice none 0 0, .int .i64 0, .bool false] 65)) (.pointer (some ⟨w.heap.size, 0, none⟩)) := by
      refine .inr ⟨w.heap.size, rfl, ?_⟩
      rw [cell_of_row _ _ 0 _ _ _ (heap_alloc_new _ _)]
      rfl
    have hb0 : Below w.heap.size w (w.alloc (.cells #[.slice none 0 0, .slice none 0 0, .slice none 0 0, .int .i64 0, .bool false] 65)) := newer (same w) _
    have HU := Ythkjodlddhdeiaa.base.Shut.mk (And.intro hu hb0)
    clear hu hb0
    generalize w.alloc (.cells #[.slice none 0 0, .slice none 0 0, .slice none 0 0, .int .i64 0, .bool false] 65) = V at HU
    refine (read_un HU.out.1 i).mono ?_
    rintro e w1 ⟨rfl, rfl⟩
    go_wp2_with fail
    refine (write_un HU.out.1 i s).mono ?_
    rintro e w1 ⟨rfl, rfl⟩
    go_wp2_with fail
    refine (flush_un HU.out.1).mono ?_
    rintro e w1 ⟨rfl, rfl⟩
    go_wp2_with fail
    refine (arm_un HU.out.1 i).mono ?_
    rintro e w1 ⟨rfl, rfl⟩
    go_wp2_with fail
    refine (crash_un HU.out.1 _).mono ?_
    rintro e w1 ⟨rfl, rfl⟩
    go_wp2_with fail
    refine (len_un HU.out.1).mono ?_
    rintro e w1 ⟨rfl, rfl⟩
    go_wp2_with fail
    refine (loose_un HU.out.1).mono ?_
    rintro e w1 ⟨rfl, rfl⟩
    go_wp2_with fail
    refine (copy_un HU.out.1).mono ?_
    rintro e w1 ⟨rfl, rfl⟩
    go_wp2_with fail
    refine (lives_walk _).mono ?_
    rintro e w1 ⟨rfl, hb⟩
    go_wp2
    go_ret
    exact ⟨rfl, HU.out.2.trans (hb.mono HU.out.2.size)⟩
end Go.Proofs.Ythkjodlddhdeiaa.disk
