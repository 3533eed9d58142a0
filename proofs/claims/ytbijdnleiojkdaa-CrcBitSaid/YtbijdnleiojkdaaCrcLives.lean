/- The walk of 'lives' of the laws on crc. -/
import Derived.Test.YtbijdnleiojkdaaCrcWalkB
namespace Go.Proofs.Ytbijdnleiojkdaa.crc
open Go.ChangeShapes Go.WideShapes Go.ChangeAt Go.RowKit
open Ytbijdnleiojkdaa.base (ret_str ret_bool ba_ext run_string_new)

set_option maxHeartbeats 400000 in
theorem lives_walk (w : World) :
    Calls Try.prog 14 #[] w
      fun e w' => e = .returned (.bool true) ∧ Below w.heap.size w w' := by
  have e1 : sum [49, 50, 51, 52, 53, 54, 55, 56, 57] = 3808858755#32 := by decide +kernel
  have e2 : sealed [49, 50, 51, 52, 53, 54, 55, 56, 57] = [49, 50, 51, 52, 53, 54, 55, 56, 57, 227, 6, 146, 131] := by decide +kernel
  have E1 := Lib.hid e1
  have E2 := Lib.hid e2
  clear e1 e2
  go_enter Try.func14, Try.ntmps14
  go_wp2_with fail
  refine (sum_walk _ [⟨#[49, 50, 51, 52, 53, 54, 55, 56, 57]⟩] _ (by simp) (by unfold maxLen; simp) (by intro t ht; obtain rfl := List.mem_singleton.1 ht; show 9 ≤ maxLen; unfold maxLen; omega) (fun i t h => ?_)).mono ?_
  · rw [cell_of_row _ _ _ _ _ _ (heap_alloc_new _ _)]
    match i, h with
    | 0, h => simp at h; subst h; rfl
  · rintro e w1 ⟨rfl, hb1⟩
    rw [sumL_one]
    have E1' := E1.out
    simp only [E1']
    clear E1'
    go_wp2_with fail
    refine (seal_walk _ _ (by simp [ByteArray.size])).mono ?_
    rintro e w2 ⟨rfl, hb2⟩
    have E2' := E2.out
    simp only [E2']
    clear E2'
    go_wp2_with fail
    refine (sum_nil_walk _).mono ?_
    rintro e w3 ⟨rfl, hb3⟩
    go_wp2
    go_ret
    refine ⟨ret_bool (by rw [ByteArray.toList_eq]; decide), ?_⟩
    exact (((Below.refl _ _).alloc (Nat.le_refl _) _).trans (hb1.mono (by simp))).trans ((hb2.mono (by have := hb1.size; simp at this; omega)).trans (hb3.mono (by have := hb1.size; have := hb2.size; simp at *; omega)))
end Go.Proofs.Ytbijdnleiojkdaa.crc
