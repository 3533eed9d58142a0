/- The walks of the laws on crc. -/
import Derived.Test.YtbijdnleiojkdaaCrcLives
namespace Go.Proofs.Ytbijdnleiojkdaa.crc
open Go.ChangeShapes Go.WideShapes Go.ChangeAt Go.RowKit
open Ytbijdnleiojkdaa.base (ret_str ret_bool ba_ext run_string_new chain newer drewn same)

theorem right_sealed (l : List UInt8) : rightB (sealed l) = true := by
  have h4 : (byte4 (sum l)).length = 4 := rfl
  unfold rightB sealed
  rw [List.length_append, h4, decide_eq_true (by omega), Bool.true_and, Nat.add_sub_cancel, List.take_left]
  simp
theorem sealed_size (l : List UInt8) : (ByteArray.mk (sealed l).toArray).size = l.length + 4 := by
  simp [ByteArray.size, sealed, byte4]

set_option maxHeartbeats 400000 in
theorem crcSeals_walk (s t : ByteArray) (_hs : s.size ≤ maxLen) (_ht : t.size ≤ maxLen) (w : World) :
    Calls Try.prog 4 #[.string s, .string t] w
      fun e w' => e = .returned (.bool true) ∧ Below w.heap.size w w' := by
  by_cases hs3 : s.size ≤ 3000
  · by_cases ht3 : t.size ≤ 3000
    · go_enter Try.func4, Try.ntmps4
      go_wp2_with fail
      refine (seal_walk s _ (by omega)).mono ?_
      rintro e w1 ⟨rfl, hb1⟩
      go_wp2_with fail
      refine (rseal_walk s _ (by omega)).mono ?_
      rintro e w2 ⟨rfl, hb2⟩
      go_wp2_with fail
      refine (right_walk s _ (by omega)).mono ?_
      rintro e w3 ⟨rfl, hb3⟩
      go_wp2_with fail
      refine (rright_walk s _ (by omega)).mono ?_
      rintro e w4 ⟨rfl, hb4⟩
      go_wp2_with fail
      refine (rseal_walk t _ (by omega)).mono ?_
      rintro e w5 ⟨rfl, hb5⟩
      go_wp2_with fail
      refine (right_walk _ _ (by rw [sealed_size]; simp; omega)).mono ?_
      rintro e w6 ⟨rfl, hb6⟩
      have hr : rightB (ByteArray.mk (sealed t.data.toList).toArray).data.toList = true := right_sealed _
      rw [hr]
      clear hr
      go_wp2_with fail
      refine (lives_walk _).mono ?_
      rintro e w7 ⟨rfl, hb7⟩
      go_wp2
      go_ret
      exact ⟨rfl, chain hb1 (chain hb2 (chain hb3 (chain hb4 (chain hb5 (chain hb6 hb7)))))⟩
    · go_enter Try.func4, Try.ntmps4
      go_wp2_with fail
      refine (lives_walk _).mono ?_
      rintro e w7 ⟨rfl, hb7⟩
      go_wp2
      go_ret
      exact ⟨rfl, hb7⟩
  · go_enter Try.func4, Try.ntmps4
    go_wp2_with fail
    refine (lives_walk _).mono ?_
    rintro e w7 ⟨rfl, hb7⟩
    go_wp2
    go_ret
    exact ⟨rfl, hb7⟩

/-- the CRC of one text that has just been laid as a list -/
theorem sum_new (w : World) (s : ByteArray) (hs : s.size ≤ maxLen) :
    Calls Try.prog 15 #[.slice (some ⟨w.heap.size, 0, none⟩) 1 1] (w.alloc (.cells #[.string s] 9))
      fun e w' => e = .returned (.int .i64 ((sum s.data.toList).toNat : Int)) ∧ Below w.heap.size w w' := by
  refine (sum_walk _ [s] _ (by simp) (by unfold maxLen; simp) (by simpa using hs) (fun i t h => ?_)).mono ?_
  · rw [cell_of_row _ _ _ _ _ _ (heap_alloc_new _ _)]
    match i, h with
    | 0, h => simp at h; subst h; rfl
  · rintro e w1 ⟨rfl, hb1⟩
    exact ⟨rfl, ((same w).alloc (Nat.le_refl _) _).trans (hb1.mono (by simp))⟩
theorem sum_new3 (w : World) (a b c : ByteArray) (ha : a.size ≤ maxLen) (hb : b.size ≤ maxLen) (hc : c.size ≤ maxLen) :
    Calls Try.prog 15 #[.slice (some ⟨w.heap.size, 0, none⟩) 3 3] (w.alloc (.cells #[.string a, .string b, .string c] 9))
      fun e w' => e = .returned (.int .i64 ((sumL [a, b, c]).toNat : Int)) ∧ Below w.heap.size w w' := by
  refine (sum_walk _ [a, b, c] _ (by simp) (by unfold maxLen; simp) (by intro s hs; simp at hs; rcases hs with rfl | rfl | rfl <;> assumption) (fun i t h => ?_)).mono ?_
  · rw [cell_of_row _ _ _ _ _ _ (heap_alloc_new _ _)]
    match i, h with
    | 0, h => simp at h; subst h; rfl
    | 1, h => simp at h; subst h; rfl
    | 2, h => simp at h; subst h; rfl
  · rintro e w1 ⟨rfl, hb1⟩
    exact ⟨rfl, ((same w).alloc (Nat.le_refl _) _).trans (hb1.mono (by simp))⟩
theorem more_sum (a l : List UInt8) : more ((sum a).toNat : Int) l = sum (a ++ l) := by
  unfold more sum on
  rw [BitVec.ofInt_natCast, BitVec.ofNat_toNat, BitVec.setWidth_eq, BitVec.xor_assoc, BitVec.xor_self, BitVec.xor_zero, List.foldl_append]
theorem nat_name (z : BitVec 32) : ∃ n : Int, (z.toNat : Int) = n ∧ 0 ≤ n ∧ n < 4294967296 := ⟨_, rfl, by omega, by have := z.isLt; omega⟩
theorem sumL_three (a b c : ByteArray) : sumL [a, b, c] = sum (a.data.toList ++ (b.data.toList ++ c.data.toList)) := by
  unfold sumL sum onL on
  simp [List.foldl_append]

set_option maxHeartbeats 400000 in
theorem crcSums_walk (s : ByteArray) (n : Int) (t : ByteArray) (_hs : s.size ≤ maxLen) (_hn : (Lit.int .i64 n).wf = true) (_ht : t.size ≤ maxLen) (w : World) :
    Calls Try.prog 9 #[.string s, .int .i64 n, .string t] w
      fun e w' => e = .returned (.bool true) ∧ Below w.heap.size w w' := by
  by_cases hs3 : s.size ≤ 5000
  · by_cases ht3 : t.size ≤ 5000
    · go_enter Try.func9, Try.ntmps9
      go_wp2_with fail
      refine (sum_new _ s (by unfold maxLen; omega)).mono ?_
      rintro e w1 ⟨rfl, hb1⟩
      go_wp2_with fail
      refine (rsum_walk s _ (by unfold maxLen; omega)).mono ?_
      rintro e w2 ⟨rfl, rfl⟩
      generalize sum s.data.toList = z
      go_wp2_with fail
      refine (more_walk n t _ (by unfold maxLen; omega)).mono ?_
      rintro e w3 ⟨rfl, hb3⟩
      go_wp2_with fail
      refine (rmore_walk n t _ (by unfold maxLen; omega)).mono ?_
      rintro e w4 ⟨rfl, rfl⟩
      generalize more n t.data.toList = y
      go_wp2_with fail
      refine (lives_walk _).mono ?_
      rintro e w7 ⟨rfl, hb7⟩
      go_wp2
      go_ret
      exact ⟨rfl, chain hb1 (chain hb3 hb7)⟩
    · go_enter Try.func9, Try.ntmps9
      go_wp2_with fail
      refine (lives_walk _).mono ?_
      rintro e w7 ⟨rfl, hb7⟩
      go_wp2
      go_ret
      exact ⟨rfl, hb7⟩
  · go_enter Try.func9, Try.ntmps9
    go_wp2_with fail
    refine (lives_walk _).mono ?_
    rintro e w7 ⟨rfl, hb7⟩
    go_wp2
    go_ret
    exact ⟨rfl, hb7⟩

set_option maxRecDepth 100000 in
set_option maxHeartbeats 800000 in
theorem crcParts_walk (a b c : ByteArray) (_ha : a.size ≤ maxLen) (_hb : b.size ≤ maxLen) (_hc : c.size ≤ maxLen) (w : World) :
    Calls Try.prog 10 #[.string a, .string b, .string c] w
      fun e w' => e = .returned (.bool true) ∧ Below w.heap.size w w' := by
  by_cases ha3 : a.size ≤ 3000
  · by_cases hb3 : b.size ≤ 3000
    · by_cases hc3 : c.size ≤ 3000
      · have e1 : sum (a ++ b ++ c).data.toList = sum (a.data.toList ++ (b.data.toList ++ c.data.toList)) := by simp [ByteArray.data_append]
        have e2 : more ((sum a.data.toList).toNat : Int) (b ++ c).data.toList = sum (a.data.toList ++ (b.data.toList ++ c.data.toList)) := by simp [more_sum, ByteArray.data_append]
        have e3 : more ((more ((sum a.data.toList).toNat : Int) b.data.toList).toNat : Int) c.data.toList = sum (a.data.toList ++ (b.data.toList ++ c.data.toList)) := by
          rw [more_sum, more_sum, List.append_assoc]
        have e4 := sumL_three a b c
        generalize sum (a.data.toList ++ (b.data.toList ++ c.data.toList)) = z at e1 e2 e3 e4
        obtain ⟨n, hn, hn0, hn1⟩ := nat_name z
        have E1 := Lib.hid ((congrArg (fun x : BitVec 32 => (x.toNat : Int)) e1).trans hn)
        have E2 := Lib.hid ((congrArg (fun x : BitVec 32 => (x.toNat : Int)) e2).trans hn)
        have E3 := Lib.hid ((congrArg (fun x : BitVec 32 => (x.toNat : Int)) e3).trans hn)
        have E4 := Lib.hid ((congrArg (fun x : BitVec 32 => (x.toNat : Int)) e4).trans hn)
        clear e1 e2 e3 e4 hn
        go_enter Try.func10, Try.ntmps10
        go_wp2_with fail
        refine (sum_new _ (a ++ b ++ c) (by unfold maxLen; simp; omega)).mono ?_
        rintro e w1 ⟨rfl, hb1⟩
        rw [E1.out]
        go_wp2_with fail
        refine (sum_new3 _ a b c (by unfold maxLen; omega) (by unfold maxLen; omega) (by unfold maxLen; omega)).mono ?_
        rintro e w2 ⟨rfl, hb2⟩
        rw [E4.out]
        go_wp2_with fail
        refine (sum_new _ a (by unfold maxLen; omega)).mono ?_
        rintro e w3 ⟨rfl, hb3⟩
        go_wp2_with fail
        refine (more_walk _ (b ++ c) _ (by unfold maxLen; simp; omega)).mono ?_
        rintro e w4 ⟨rfl, hb4⟩
        rw [E2.out]
        go_wp2_with fail
        refine (sum_new _ a (by unfold maxLen; omega)).mono ?_
        rintro e w5 ⟨rfl, hb5⟩
        go_wp2_with fail
        refine (more_walk _ b _ (by unfold maxLen; omega)).mono ?_
        rintro e w6 ⟨rfl, hb6⟩
        go_wp2_with fail
        refine (more_walk _ c _ (by unfold maxLen; omega)).mono ?_
        rintro e w7 ⟨rfl, hb7⟩
        rw [E3.out]
        go_wp2_with fail
        refine (lives_walk _).mono ?_
        rintro e w8 ⟨rfl, hb8⟩
        go_wp2
        go_ret
        exact ⟨rfl, chain hb1 (chain hb2 (chain hb3 (chain hb4 (chain hb5 (chain hb6 (chain hb7 hb8))))))⟩
      · go_enter Try.func10, Try.ntmps10
        go_wp2_with fail
        refine (lives_walk _).mono ?_
        rintro e w7 ⟨rfl, hb7⟩
        go_wp2
        go_ret
        exact ⟨rfl, hb7⟩
    · go_enter Try.func10, Try.ntmps10
      go_wp2_with fail
      refine (lives_walk _).mono ?_
      rintro e w7 ⟨rfl, hb7⟩
      go_wp2
      go_ret
      exact ⟨rfl, hb7⟩
  · go_enter Try.func10, Try.ntmps10
    go_wp2_with fail
    refine (lives_walk _).mono ?_
    rintro e w7 ⟨rfl, hb7⟩
    go_wp2
    go_ret
    exact ⟨rfl, hb7⟩
end Go.Proofs.Ytbijdnleiojkdaa.crc
