/- The walks of octet.size, octet.TakeText and of the reference's TakeText. -/
import Derived.Test.YtobdfocfkomagaaOctText
namespace Go.Proofs.Ytobdfocfkomagaa.oct
open Go.ChangeShapes Go.WideShapes Go.ChangeAt Go.RowKit
open Ytobdfocfkomagaa.base (still drewnN rest_eq Shut size_mk ret_int ret_str ret_bool ba_ext run_string own_string run_string_new chain newer drewn same bytesOf bytesOf_one)

/-- the ways that 'take' ends: short, no form, or a number -/
theorem take_ways (l : List UInt8) : take l = (0, [], 3) ∨ take l = (0, [], 4) ∨ ∃ n r, take l = (n, r, 0) ∧ -9223372036854775808 ≤ n ∧ n ≤ 9223372036854775807 ∧ r.length + 1 ≤ l.length := by
  by_cases h : (take l).2.2 = 0
  · right; right
    generalize ht : take l = q at h
    obtain ⟨n, r, e⟩ := q
    simp only at h
    subst h
    obtain ⟨_, h1, h2⟩ := num_take ht
    exact ⟨n, r, rfl, h1, h2, take_len ht⟩
  · rcases take_err h with h | h
    · exact .inl h
    · exact .inr (.inl h)
theorem text_of_take {l r : List UInt8} {n most : Int} (h : take l = (n, r, 0)) : takeText l most = if n < 0 then ([], [], 4) else if most < n then ([], [], 5) else if (r.length : Int) < n then ([], [], 3) else (r.take n.toNat, r.drop n.toNat, 0) := by
  unfold takeText; rw [h]; simp
theorem text_of_err {l : List UInt8} {e most : Int} (h : take l = (0, [], e)) (he : e ≠ 0) : takeText l most = ([], [], e) := by
  unfold takeText; rw [h]; simp [he]
theorem size_of_take {l r : List UInt8} {n most : Int} (h : take l = (n, r, 0)) : sizeOfs l most = if n < 0 then (0, [], 4) else if most < n then (0, [], 5) else (n, r, 0) := by
  unfold sizeOfs; rw [h]; simp
theorem size_of_err {l : List UInt8} {e most : Int} (h : take l = (0, [], e)) (he : e ≠ 0) : sizeOfs l most = (0, [], e) := by
  unfold sizeOfs; rw [h]; simp [he]

set_option maxRecDepth 100000 in
set_option maxHeartbeats 400000 in
theorem size_walk (s : ByteArray) (most : Int) (hs : s.size ≤ maxLen) (w : World) :
    Calls Try.prog 90 #[.string s, .int .i64 most] w fun e w' =>
      e = .returned (.tuple #[.int .i64 (sizeOfs s.data.toList most).1, .string ⟨(sizeOfs s.data.toList most).2.1.toArray⟩, .int .i64 (sizeOfs s.data.toList most).2.2]) ∧ Below w.heap.size w w' := by
  have HS : Shut (s.size ≤ maxLen) := ⟨hs⟩
  clear hs
  rcases take_ways s.data.toList with h | h | ⟨n, r, h, h1, h2, _⟩
  · have HT : Shut (take s.data.toList = (0, [], 3)) := ⟨h⟩
    have HF : Shut (sizeOfs s.data.toList most = (0, [], 3)) := ⟨size_of_err h (by decide)⟩
    clear h
    go_enter Try.func90, Try.ntmps90
    go_wp2_with fail
    refine (take_walk s HS.out _).mono ?_
    rintro e w1 ⟨rfl, hb1⟩
    rw [HT.out]
    go_wp2
    go_ret3
    exact ⟨by rw [HF.out]; rfl, hb1⟩
  · have HT : Shut (take s.data.toList = (0, [], 4)) := ⟨h⟩
    have HF : Shut (sizeOfs s.data.toList most = (0, [], 4)) := ⟨size_of_err h (by decide)⟩
    clear h
    go_enter Try.func90, Try.ntmps90
    go_wp2_with fail
    refine (take_walk s HS.out _).mono ?_
    rintro e w1 ⟨rfl, hb1⟩
    rw [HT.out]
    go_wp2
    go_ret3
    exact ⟨by rw [HF.out]; rfl, hb1⟩
  · have HT : Shut (take s.data.toList = (n, r, 0)) := ⟨h⟩
    have HF : Shut (sizeOfs s.data.toList most = if n < 0 then (0, [], 4) else if most < n then (0, [], 5) else (n, r, 0)) := ⟨size_of_take h⟩
    clear h h1 h2
    by_cases g1 : n < 0
    · go_enter Try.func90, Try.ntmps90
      go_wp2_with fail
      refine (take_walk s HS.out _).mono ?_
      rintro e w1 ⟨rfl, hb1⟩
      rw [HT.out]
      go_wp2
      go_ret3
      exact ⟨by rw [HF.out, if_pos g1]; rfl, hb1⟩
    · have g1' : 0 ≤ n := by omega
      by_cases g2 : most < n
      · go_enter Try.func90, Try.ntmps90
        go_wp2_with fail
        refine (take_walk s HS.out _).mono ?_
        rintro e w1 ⟨rfl, hb1⟩
        rw [HT.out]
        go_wp2
        go_ret3
        exact ⟨by rw [HF.out, if_neg (by omega), if_pos (by omega)]; rfl, hb1⟩
      · have g2' : n ≤ most := by omega
        clear g1 g2
        go_enter Try.func90, Try.ntmps90
        go_wp2_with fail
        refine (take_walk s HS.out _).mono ?_
        rintro e w1 ⟨rfl, hb1⟩
        rw [HT.out]
        go_wp2
        go_ret3
        exact ⟨by rw [HF.out, if_neg (by omega), if_neg (by omega)]; rfl, hb1⟩

theorem size_ways (l : List UInt8) (most : Int) :
    (∃ e : Int, (e = 3 ∨ e = 4 ∨ e = 5) ∧ sizeOfs l most = (0, [], e) ∧ takeText l most = ([], [], e)) ∨
    ∃ (m : Nat) (r : List UInt8), sizeOfs l most = ((m : Int), r, 0) ∧ (m : Int) ≤ most ∧ m ≤ 9223372036854775807 ∧ r.length + 1 ≤ l.length ∧ takeText l most = if r.length < m then ([], [], 3) else (r.take m, r.drop m, 0) := by
  rcases take_ways l with h | h | ⟨n, r, h, h1, h2, h3⟩
  · exact .inl ⟨3, .inl rfl, size_of_err h (by decide), text_of_err h (by decide)⟩
  · exact .inl ⟨4, .inr (.inl rfl), size_of_err h (by decide), text_of_err h (by decide)⟩
  · have hs := size_of_take (most := most) h
    have ht := text_of_take (most := most) h
    by_cases g1 : n < 0
    · rw [if_pos g1] at hs ht
      exact .inl ⟨4, .inr (.inl rfl), hs, ht⟩
    · rw [if_neg g1] at hs ht
      by_cases g2 : most < n
      · rw [if_pos g2] at hs ht
        exact .inl ⟨5, .inr (.inr rfl), hs, ht⟩
      · rw [if_neg g2] at hs ht
        obtain ⟨m, rfl⟩ := Int.eq_ofNat_of_zero_le (by omega : 0 ≤ n)
        refine .inr ⟨m, r, hs, by omega, by omega, h3, ?_⟩
        rw [ht]
        by_cases g3 : r.length < m
        · rw [if_pos g3, if_pos (by omega)]
        · rw [if_neg g3, if_neg (by omega), Int.toNat_natCast]
theorem cut_eq (r : List UInt8) (m : Nat) (h : m ≤ r.length) : (ByteArray.mk r.toArray).extract 0 m = ⟨(r.take m).toArray⟩ ∧ (ByteArray.mk r.toArray).extract m r.length = ⟨(r.drop m).toArray⟩ := by
  constructor
  · rw [Go.ByteArray.extract_mk]; simp
  · rw [Go.ByteArray.extract_mk, List.take_of_length_le (by simp)]

set_option maxRecDepth 100000 in
set_option maxHeartbeats 400000 in
theorem takeText_walk (s : ByteArray) (most : Int) (hs : s.size ≤ maxLen) (w : World) :
    Calls Try.prog 73 #[.string s, .int .i64 most] w fun e w' =>
      e = .returned (.tuple #[.string ⟨(takeText s.data.toList most).1.toArray⟩, .string ⟨(takeText s.data.toList most).2.1.toArray⟩, .int .i64 (takeText s.data.toList most).2.2]) ∧ Below w.heap.size w w' := by
  have HS : Shut (s.size ≤ maxLen) := ⟨hs⟩
  clear hs
  rcases size_ways s.data.toList most with ⟨e, he, h1, h2⟩ | ⟨m, r, h1, _, hm, hr, h2⟩
  · have HT : Shut (sizeOfs s.data.toList most = (0, [], e)) := ⟨h1⟩
    have HF : Shut (takeText s.data.toList most = ([], [], e)) := ⟨h2⟩
    clear h1 h2
    rcases he with rfl | rfl | rfl
    all_goals
      go_enter Try.func73, Try.ntmps73
      go_wp2_with fail
      refine (size_walk s most HS.out _).mono ?_
      rintro e w1 ⟨rfl, hb1⟩
      rw [HT.out]
      go_wp2
      go_ret3
      exact ⟨by rw [HF.out]; rfl, hb1⟩
  · have HT : Shut (sizeOfs s.data.toList most = ((m : Int), r, 0)) := ⟨h1⟩
    have HR : Shut (r.length + 1 ≤ s.data.toList.length) := ⟨hr⟩
    have hrl : r.length ≤ 2 ^ 63 - 1 := by have h := HS.out; unfold maxLen at h; simp at hr; omega
    clear h1 hr hm
    by_cases g : r.length < m
    · have HF : Shut (takeText s.data.toList most = ([], [], 3)) := ⟨by rw [h2, if_pos g]⟩
      clear h2
      go_enter Try.func73, Try.ntmps73
      go_wp2_with fail
      refine (size_walk s most HS.out _).mono ?_
      rintro e w1 ⟨rfl, hb1⟩
      rw [HT.out]
      go_wp2
      go_ret3
      exact ⟨by rw [HF.out]; rfl, hb1⟩
    · have HF : Shut (takeText s.data.toList most = (r.take m, r.drop m, 0)) := ⟨by rw [h2, if_neg g]⟩
      have HC : Shut ((ByteArray.mk r.toArray).extract 0 m = ⟨(r.take m).toArray⟩ ∧ (ByteArray.mk r.toArray).extract m r.length = ⟨(r.drop m).toArray⟩) := ⟨cut_eq r m (by omega)⟩
      have g' : m ≤ r.length := by omega
      clear h2 g
      go_enter Try.func73, Try.ntmps73
      go_wp2_with fail
      refine (size_walk s most HS.out _).mono ?_
      rintro e w1 ⟨rfl, hb1⟩
      rw [HT.out]
      go_wp2_with fail
      go_quiet (fail)
      go_wp2
      go_ret3
      exact ⟨by rw [HF.out]; show _ = Ending.returned (.tuple #[.string ⟨(r.take m).toArray⟩, .string ⟨(r.drop m).toArray⟩, .int .i64 0]); rw [← HC.out.1, ← HC.out.2]; rfl, drewnN hb1 _⟩

set_option maxRecDepth 100000 in
set_option maxHeartbeats 400000 in
theorem rtakeText_walk (s : ByteArray) (most : Int) (hs : s.size ≤ maxLen) (w : World) :
    Calls Try.prog 75 #[.string s, .int .i64 most] w fun e w' =>
      e = .returned (.tuple #[.string ⟨(takeText s.data.toList most).1.toArray⟩, .string ⟨(takeText s.data.toList most).2.1.toArray⟩, .int .i64 (takeText s.data.toList most).2.2]) ∧ Below w.heap.size w w' := by
  have HS : Shut (s.size ≤ maxLen) := ⟨hs⟩
  clear hs
  have herr : (∃ e : Int, (e = 3 ∨ e = 4) ∧ take s.data.toList = (0, [], e) ∧ takeText s.data.toList most = ([], [], e)) ∨ ∃ n r, take s.data.toList = (n, r, 0) ∧ r.length + 1 ≤ s.data.toList.length := by
    rcases take_ways s.data.toList with h | h | ⟨n, r, h, _, _, h3⟩
    · exact .inl ⟨3, .inl rfl, h, text_of_err h (by decide)⟩
    · exact .inl ⟨4, .inr rfl, h, text_of_err h (by decide)⟩
    · exact .inr ⟨n, r, h, h3⟩
  rcases herr with ⟨e, he, h1, h2⟩ | ⟨n, r, h1, hr⟩
  · have HT : Shut (take s.data.toList = (0, [], e)) := ⟨h1⟩
    have HF : Shut (takeText s.data.toList most = ([], [], e)) := ⟨h2⟩
    clear h1 h2
    rcases he with rfl | rfl
    all_goals
      go_enter Try.func75, Try.ntmps75
      go_wp2_with fail
      refine (rtake_walk s HS.out _).mono ?_
      rintro e w1 ⟨rfl, hb1⟩
      rw [HT.out]
      go_wp2
      go_ret3
      exact ⟨by rw [HF.out]; rfl, hb1⟩
  · have HT : Shut (take s.data.toList = (n, r, 0)) := ⟨h1⟩
    have h2 := text_of_take (most := most) h1
    have hrl : r.length ≤ 2 ^ 63 - 1 := by have h := HS.out; unfold maxLen at h; simp at hr; omega
    clear h1 hr
    by_cases g1 : n < 0
    · have HF : Shut (takeText s.data.toList most = ([], [], 4)) := ⟨by rw [h2, if_pos g1]⟩
      clear h2
      go_enter Try.func75, Try.ntmps75
      go_wp2_with fail
      refine (rtake_walk s HS.out _).mono ?_
      rintro e w1 ⟨rfl, hb1⟩
      rw [HT.out]
      go_wp2
      go_ret3
      exact ⟨by rw [HF.out]; rfl, hb1⟩
    · obtain ⟨m, rfl⟩ := Int.eq_ofNat_of_zero_le (by omega : 0 ≤ n)
      rw [if_neg g1] at h2
      clear g1
      by_cases g2 : most < (m : Int)
      · have HF : Shut (takeText s.data.toList most = ([], [], 5)) := ⟨by rw [h2, if_pos g2]⟩
        clear h2
        go_enter Try.func75, Try.ntmps75
        go_wp2_with fail
        refine (rtake_walk s HS.out _).mono ?_
        rintro e w1 ⟨rfl, hb1⟩
        rw [HT.out]
        go_wp2
        go_ret3
        exact ⟨by rw [HF.out]; rfl, hb1⟩
      · rw [if_neg g2] at h2
        have g2' : (m : Int) ≤ most := by omega
        clear g2
        by_cases g : r.length < m
        · have HF : Shut (takeText s.data.toList most = ([], [], 3)) := ⟨by rw [h2, if_pos (by omega)]⟩
          clear h2
          go_enter Try.func75, Try.ntmps75
          go_wp2_with fail
          refine (rtake_walk s HS.out _).mono ?_
          rintro e w1 ⟨rfl, hb1⟩
          rw [HT.out]
          go_wp2
          go_ret3
          exact ⟨by rw [HF.out]; rfl, hb1⟩
        · have HF : Shut (takeText s.data.toList most = (r.take m, r.drop m, 0)) := ⟨by rw [h2, if_neg (by omega), Int.toNat_natCast]⟩
          have HC : Shut ((ByteArray.mk r.toArray).extract 0 m = ⟨(r.take m).toArray⟩ ∧ (ByteArray.mk r.toArray).extract m r.length = ⟨(r.drop m).toArray⟩) := ⟨cut_eq r m (by omega)⟩
          have g' : m ≤ r.length := by omega
          clear h2 g
          go_enter Try.func75, Try.ntmps75
          go_wp2_with fail
          refine (rtake_walk s HS.out _).mono ?_
          rintro e w1 ⟨rfl, hb1⟩
          rw [HT.out]
          go_wp2_with fail
          go_quiet (fail)
          go_wp2
          go_ret3
          exact ⟨by rw [HF.out]; show _ = Ending.returned (.tuple #[.string ⟨(r.take m).toArray⟩, .string ⟨(r.drop m).toArray⟩, .int .i64 0]); rw [← HC.out.1, ← HC.out.2]; rfl, drewnN hb1 _⟩
end Go.Proofs.Ytobdfocfkomagaa.oct
