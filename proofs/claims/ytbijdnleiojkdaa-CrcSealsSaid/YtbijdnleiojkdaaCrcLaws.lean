/- The walks of the laws on crc. -/
import Derived.Test.YtbijdnleiojkdaaCrcLives
namespace Go.Proofs.Ytbijdnleiojkdaa.crc
open Go.ChangeShapes Go.WideShapes Go.ChangeAt Go.RowKit
open Ytbijdnleiojkdaa.base (ret_str ret_bool ba_ext run_string_new chain more drewn same)

theorem right_sealed (l : List UInt8) : rightB (sealed l) = true := by
  have h4 : (byte4 (sum l)).length = 4 := rfl
  unfold rightB sealed
  rw [List.length_append, h4, decide_eq_true (by omega), Bool.true_and, Nat.add_sub_cancel, List.take_left]
  simp
theorem sealed_size (l : List UInt8) : (ByteArray.mk (sealed l).toArray).size = l.length + 4 := by
  simp [ByteArray.size, sealed, byte4]

set_option maxHeartbeats 400000 in
theorem crcSeals_walk (s t : ByteArray) (_hs : s.size ≤ maxLen) (_ht : t.size ≤ maxLen) (w : World) :
    Calls Try.prog 4 #[.string s, .string t] w
      fun e w' => e = .returned (.bool true) ∧ Below w.heap.size w w' := by
  by_cases hs3 : s.size ≤ 3000
  · by_cases ht3 : t.size ≤ 3000
    · go_enter Try.func4, Try.ntmps4
      go_wp2_with fail
      refine (seal_walk s _ (by omega)).mono ?_
      rintro e w1 ⟨rfl, hb1⟩
      go_wp2_with fail
      refine (rseal_walk s _ (by omega)).mono ?_
      rintro e w2 ⟨rfl, hb2⟩
      go_wp2_with fail
      refine (right_walk s _ (by omega)).mono ?_
      rintro e w3 ⟨rfl, hb3⟩
      go_wp2_with fail
      refine (rright_walk s _ (by omega)).mono ?_
      rintro e w4 ⟨rfl, hb4⟩
      go_wp2_with fail
      refine (rseal_walk t _ (by omega)).mono ?_
      rintro e w5 ⟨rfl, hb5⟩
      go_wp2_with fail
      refine (right_walk _ _ (by rw [sealed_size]; simp; omega)).mono ?_
      rintro e w6 ⟨rfl, hb6⟩
      have hr : rightB (ByteArray.mk (sealed t.data.toList).toArray).data.toList = true := right_sealed _
      rw [hr]
      clear hr
      go_wp2_with fail
      refine (lives_walk _).mono ?_
      rintro e w7 ⟨rfl, hb7⟩
      go_wp2
      go_ret
      exact ⟨rfl, chain hb1 (chain hb2 (chain hb3 (chain hb4 (chain hb5 (chain hb6 hb7)))))⟩
    · go_enter Try.func4, Try.ntmps4
      go_wp2_with fail
      refine (lives_walk _).mono ?_
      rintro e w7 ⟨rfl, hb7⟩
      go_wp2
      go_ret
      exact ⟨rfl, hb7⟩
  · go_enter Try.func4, Try.ntmps4
    go_wp2_with fail
    refine (lives_walk _).mono ?_
    rintro e w7 ⟨rfl, hb7⟩
    go_wp2
    go_ret
    exact ⟨rfl, hb7⟩
end Go.Proofs.Ytbijdnleiojkdaa.crc
