/- The walks of the laws OctetNums, OctetOnly, OctetFirst, OctetFixed. -/
import Derived.Test.YtbijdnleiojkdaaOctLives
namespace Go.Proofs.Ytbijdnleiojkdaa.oct
open Go.ChangeShapes Go.WideShapes Go.ChangeAt Go.RowKit
open Ytbijdnleiojkdaa.base (still drewnN rest_eq Shut size_mk ret_int ret_str ret_bool ba_ext run_string own_string run_string_new chain newer drewn same bytesOf bytesOf_one)

theorem range_i64 {n : Int} (h : (Lit.int .i64 n).wf = true) : -9223372036854775808 ≤ n ∧ n ≤ 9223372036854775807 := by
  simpa [Lit.wf, IntKind.min, IntKind.max, IntKind.signed, IntKind.bits] using h

set_option maxRecDepth 100000 in
set_option maxHeartbeats 400000 in
theorem octetNums_walk (n : Int) (s : ByteArray) (hn : (Lit.int .i64 n).wf = true) (hs : s.size ≤ maxLen) (w : World) :
    Calls Try.prog 6 #[.int .i64 n, .string s] w fun e w' => e = .returned (.bool true) ∧ Below w.heap.size w w' := by
  have HR : Shut (-9223372036854775808 ≤ n ∧ n ≤ 9223372036854775807) := ⟨range_i64 hn⟩
  have HS : Shut (s.size ≤ maxLen) := ⟨hs⟩
  clear hn hs
  go_enter Try.func6, Try.ntmps6
  go_wp2_with fail
  refine (take_walk s HS.out _).mono ?_
  rintro e w1 ⟨rfl, hb1⟩
  generalize ht : take s.data.toList = t
  obtain ⟨a, x, e⟩ := t
  have HT := Lib.hid ht
  clear ht
  go_wp2_with fail
  refine (rtake_walk s HS.out _).mono ?_
  rintro e' w2 ⟨rfl, hb2⟩
  rw [HT.out]
  go_wp2_with fail
  refine (num_walk n HR.out _).mono ?_
  rintro e' w3 ⟨rfl, hb3⟩
  go_wp2_with fail
  refine (rnum_walk n HR.out _).mono ?_
  rintro e' w4 ⟨rfl, hb4⟩
  generalize num n = l
  go_wp2_with fail
  refine (lives_walk _).mono ?_
  rintro e' w5 ⟨rfl, hb5⟩
  go_wp2
  go_ret
  exact ⟨rfl, chain hb1 (chain hb2 (chain hb3 (chain hb4 hb5)))⟩

set_option maxRecDepth 100000 in
set_option maxHeartbeats 400000 in
theorem octetFixed_walk (n b : Int) (s : ByteArray) (hn : (Lit.int .i64 n).wf = true) (_hb : (Lit.int .i64 b).wf = true) (hs : s.size ≤ maxLen) (w : World) :
    Calls Try.prog 11 #[.int .i64 n, .int .i64 b, .string s] w fun e w' => e = .returned (.bool true) ∧ Below w.heap.size w w' := by
  have HR : Shut (readI (fixed n 8) = n) := ⟨read_fixed n (range_i64 hn)⟩
  have HS : Shut (s.size ≤ maxLen) := ⟨hs⟩
  clear hn hs
  go_enter Try.func11, Try.ntmps11
  go_wp2_with fail
  refine (fixed_walk n b _).mono ?_
  rintro e w1 ⟨rfl, hb1⟩
  go_wp2_with fail
  refine (rfixed_walk n b _).mono ?_
  rintro e w2 ⟨rfl, hb2⟩
  go_wp2_with fail
  refine (read_walk s HS.out _).mono ?_
  rintro e w3 ⟨rfl, rfl⟩
  go_wp2_with fail
  refine (rread_walk s HS.out _).mono ?_
  rintro e w4 ⟨rfl, rfl⟩
  go_wp2_with fail
  refine (fixed_walk n 8 _).mono ?_
  rintro e w5 ⟨rfl, hb5⟩
  go_wp2_with fail
  refine (read_walk _ (by rw [size_mk]; unfold fixed; rw [beN_len]; unfold maxLen; omega) _).mono ?_
  rintro e w6 ⟨rfl, rfl⟩
  have h6 : readI (ByteArray.mk (fixed n 8).toArray).data.toList = n := HR.out
  rw [h6]
  clear h6
  go_wp2_with fail
  refine (lives_walk _).mono ?_
  rintro e w7 ⟨rfl, hb7⟩
  go_wp2
  go_ret
  exact ⟨rfl, chain hb1 (chain hb2 (chain hb5 hb7))⟩

set_option maxRecDepth 100000 in
set_option maxHeartbeats 400000 in
theorem octetOnly_walk (s : ByteArray) (hs : s.size ≤ maxLen) (w : World) :
    Calls Try.prog 7 #[.string s] w fun e w' => e = .returned (.bool true) ∧ Below w.heap.size w w' := by
  have HS : Shut (s.size ≤ maxLen) := ⟨hs⟩
  clear hs
  generalize ht : take s.data.toList = t
  obtain ⟨n, r, e⟩ := t
  have HT := Lib.hid ht
  by_cases he : e = 0
  · subst he
    obtain ⟨hl, hr⟩ := num_take ht
    have hlen : (num n).length + r.length = s.size := by
      have := congrArg List.length hl
      simp at this
      omega
    have HL : Shut (num n ++ r = s.data.toList) := ⟨hl.symm⟩
    have HR : Shut (-9223372036854775808 ≤ n ∧ n ≤ 9223372036854775807) := ⟨hr⟩
    have HN : Shut ((num n).length + r.length ≤ 2 ^ 63 - 1) := ⟨by rw [hlen]; exact HS.out⟩
    clear ht hl hr hlen
    go_enter Try.func7, Try.ntmps7
    go_wp2_with fail
    refine (take_walk s HS.out _).mono ?_
    rintro e' w1 ⟨rfl, hb1⟩
    rw [HT.out]
    go_wp2_with fail
    refine (num_walk n HR.out _).mono ?_
    rintro e' w2 ⟨rfl, hb2⟩
    have hn := HN.out
    generalize num n = l at HL HN hn
    have e5 : ((ByteArray.mk l.toArray ++ ByteArray.mk r.toArray).toList == s.toList) = true := by
      rw [ByteArray.toList_eq, ByteArray.toList_eq]
      have : (ByteArray.mk l.toArray ++ ByteArray.mk r.toArray).data.toList = l ++ r := by simp [ByteArray.data_append]
      rw [this, HL.out]
      simp
    go_wp2_with fail
    refine (lives_walk _).mono ?_
    rintro e' w5 ⟨rfl, hb5⟩
    go_wp2
    go_ret
    exact ⟨rfl, chain hb1 (chain hb2 hb5)⟩
  · have h := take_err (l := s.data.toList) (by rw [ht]; exact he)
    rw [ht] at h
    clear ht
    rcases h with h | h
    all_goals
      simp only [Prod.mk.injEq] at h
      obtain ⟨rfl, rfl, rfl⟩ := h
      clear he
      go_enter Try.func7, Try.ntmps7
      go_wp2_with fail
      refine (take_walk s HS.out _).mono ?_
      rintro e' w1 ⟨rfl, hb1⟩
      rw [HT.out]
      go_wp2_with fail
      refine (lives_walk _).mono ?_
      rintro e' w5 ⟨rfl, hb5⟩
      go_wp2
      go_ret
      exact ⟨rfl, chain hb1 hb5⟩

/-- no number's bytes are the beginning of another one's -/
theorem num_first {n m : Int} (hn : -9223372036854775808 ≤ n ∧ n ≤ 9223372036854775807) (hm : -9223372036854775808 ≤ m ∧ m ≤ 9223372036854775807) (h : n ≠ m) :
    ((num m).take (num n).length == num n) = false := by
  rw [beq_eq_false_iff_ne]
  intro he
  have h1 : num m = num n ++ (num m).drop (num n).length := by
    conv => lhs; rw [← List.take_append_drop (num n).length (num m), he]
  have h2 := take_num n hn ((num m).drop (num n).length)
  have h3 := take_num m hm []
  rw [List.append_nil, h1, h2] at h3
  simp only [Prod.mk.injEq] at h3
  exact h h3.1

set_option maxRecDepth 100000 in
set_option maxHeartbeats 800000 in
theorem octetFirst_walk (n m : Int) (hn : (Lit.int .i64 n).wf = true) (hm : (Lit.int .i64 m).wf = true) (w : World) :
    Calls Try.prog 8 #[.int .i64 n, .int .i64 m] w fun e w' => e = .returned (.bool true) ∧ Below w.heap.size w w' := by
  have HN : Shut (-9223372036854775808 ≤ n ∧ n ≤ 9223372036854775807) := ⟨range_i64 hn⟩
  have HM : Shut (-9223372036854775808 ≤ m ∧ m ≤ 9223372036854775807) := ⟨range_i64 hm⟩
  clear hn hm
  have pa := num_pos n
  have pb := num_pos m
  by_cases h : n = m
  · subst h
    go_enter Try.func8, Try.ntmps8
    go_wp2_with fail
    refine (num_walk n HN.out _).mono ?_
    rintro e w1 ⟨rfl, hb1⟩
    go_wp2_with fail
    refine (num_walk n HN.out _).mono ?_
    rintro e w2 ⟨rfl, hb2⟩
    generalize num n = l at pa pb
    have e1 : l.isEmpty = false := by cases l with | nil => simp at pa | cons _ _ => rfl
    have e2 : (!l.isEmpty) = true := by rw [e1]; rfl
    clear pa pb
    go_wp2_with fail
    refine (lives_walk _).mono ?_
    rintro e w3 ⟨rfl, hb3⟩
    go_wp2
    go_ret
    exact ⟨rfl, chain hb1 (chain hb2 hb3)⟩
  · have f1 := num_first HN.out HM.out h
    have f2 := num_first HM.out HN.out (Ne.symm h)
    have e0 : (n == m) = false := by simpa using h
    have F1 := Lib.hid f1
    have F2 := Lib.hid f2
    clear h f1 f2
    go_enter Try.func8, Try.ntmps8
    go_wp2_with fail
    refine (num_walk n HN.out _).mono ?_
    rintro e w1 ⟨rfl, hb1⟩
    go_wp2_with fail
    refine (num_walk m HM.out _).mono ?_
    rintro e w2 ⟨rfl, hb2⟩
    have f1 := F1.out
    have f2 := F2.out
    clear F1 F2
    generalize num n = a at pa f1 f2
    generalize num m = b at pb f1 f2
    have e1 : a.isEmpty = false := by cases a with | nil => simp at pa | cons _ _ => rfl
    have e2 : b.isEmpty = false := by cases b with | nil => simp at pb | cons _ _ => rfl
    have g1 : (((ByteArray.mk b.toArray).extract 0 a.length).toList == a) = false := by rw [Go.ByteArray.extract_mk, ByteArray.toList_mk]; exact f1
    have g2 : (((ByteArray.mk a.toArray).extract 0 b.length).toList == b) = false := by rw [Go.ByteArray.extract_mk, ByteArray.toList_mk]; exact f2
    clear pa pb f1 f2
    rcases Nat.lt_trichotomy a.length b.length with hl | hl | hl
    · go_wp2_with fail
      refine (lives_walk _).mono ?_
      rintro e w3 ⟨rfl, hb3⟩
      go_wp2
      go_ret
      exact ⟨rfl, chain hb1 (chain hb2 hb3)⟩
    · have hl1 : a.length ≤ b.length := by omega
      have hl2 : b.length ≤ a.length := by omega
      clear hl
      go_wp2_with fail
      refine (lives_walk _).mono ?_
      rintro e w3 ⟨rfl, hb3⟩
      go_wp2
      go_ret
      exact ⟨rfl, chain hb1 (chain hb2 hb3)⟩
    · go_wp2_with fail
      refine (lives_walk _).mono ?_
      rintro e w3 ⟨rfl, hb3⟩
      go_wp2
      go_ret
      exact ⟨rfl, chain hb1 (chain hb2 hb3)⟩
end Go.Proofs.Ytbijdnleiojkdaa.oct
