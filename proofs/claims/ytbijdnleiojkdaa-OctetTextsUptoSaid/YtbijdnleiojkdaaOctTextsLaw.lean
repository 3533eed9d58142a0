/- The walk of the law OctetTexts, for texts of at most 1048576 bytes. -/
import Derived.Test.YtbijdnleiojkdaaOctSame
namespace Go.Proofs.Ytbijdnleiojkdaa.oct
open Go.ChangeShapes Go.WideShapes Go.ChangeAt Go.RowKit
open Ytbijdnleiojkdaa.base (still drewnN rest_eq Shut size_mk ret_int ret_str ret_bool ba_ext run_string own_string run_string_new chain newer drewn same bytesOf bytesOf_one)

theorem texts_len {l : List UInt8} {count most : Int} (h : l.length ≤ 1048576) : (takeTexts l count most).1.length ≤ 1048576 := by
  have key : ∀ (n : Nat) (acc : List ByteArray) (r : List UInt8), acc.length + r.length ≤ 1048576 → (loopT most n acc r).1.length ≤ 1048576 := by
    intro n
    induction n with
    | zero => intro acc r h; show acc.length ≤ _; omega
    | succ n ih =>
      intro acc r h
      rw [loopT]
      generalize ht : takeText r most = q
      obtain ⟨t, r', e⟩ := q
      simp only
      split
      · exact Nat.zero_le _
      · rename_i he
        obtain rfl : e = 0 := by omega
        have := takeText_len ht
        exact ih _ _ (by simp; omega)
  unfold takeTexts
  generalize hs : sizeOfs l count = q
  obtain ⟨n, r, e⟩ := q
  simp only
  split
  · exact Nat.zero_le _
  · apply key
    rcases size_ways l count with ⟨e', he, h1, _⟩ | ⟨m, r', h1, _, _, hr, _⟩
    · rw [h1] at hs; simp only [Prod.mk.injEq] at hs; rw [← hs.2.1]; simp
    · rw [h1] at hs; simp only [Prod.mk.injEq] at hs; rw [← hs.2.1]; simp; omega

set_option maxRecDepth 100000 in
set_option maxHeartbeats 800000 in
theorem octetTexts_walk (s : ByteArray) (count most : Int) (hs : s.size ≤ 1048576) (w : World) :
    Calls Try.prog 12 #[.string s, .int .i64 count, .int .i64 most] w fun e w' => e = .returned (.bool true) ∧ Below w.heap.size w w' := by
  have HU : Shut (s.size ≤ 1048576) := ⟨hs⟩
  have HS : Shut (s.size ≤ maxLen) := ⟨by unfold maxLen; omega⟩
  have hln := texts_len (l := s.data.toList) (count := count) (most := most) (by simpa using hs)
  clear hs
  generalize ht : takeText s.data.toList most = q
  obtain ⟨a, x, e⟩ := q
  have HT : Shut (takeText s.data.toList most = (a, x, e)) := ⟨ht⟩
  generalize hu : takeTexts s.data.toList count most = p at hln
  obtain ⟨c, z, g⟩ := p
  have HV : Shut (takeTexts s.data.toList count most = (c, z, g)) := ⟨hu⟩
  have HLN : Shut (c.length ≤ maxLen) := ⟨by unfold maxLen; simp only at hln; omega⟩
  clear ht hu hln
  go_enter Try.func12, Try.ntmps12
  go_wp2_with fail
  refine (takeText_walk s most HS.out _).mono ?_
  rintro e1 w1 ⟨rfl, hb1⟩
  rw [HT.out]
  go_wp2_with fail
  refine (rtakeText_walk s most HS.out _).mono ?_
  rintro e1 w2 ⟨rfl, hb2⟩
  rw [HT.out]
  go_wp2_with fail
  refine (takeTexts_walk s count most HU.out _).mono ?_
  rw [HV.out]
  rintro e1 w3 ⟨A, cap, rfl, hown1, hb3⟩
  have HR1 : Shut (Reads w3 A c) := ⟨Reads.of_own hown1⟩
  clear hown1
  go_wp2_with fail
  refine (rtakeTexts_walk s count most HU.out _).mono ?_
  rw [HV.out]
  rintro e1 w4 ⟨A', cap', rfl, hown2, hb4⟩
  have HR2 : Shut (Reads w4 A' c) := ⟨Reads.of_own hown2⟩
  clear hown2
  go_wp2_with fail
  refine (same_walk A A' cap cap' c c _ HLN.out HLN.out (HR1.out.keep hb4) HR2.out).mono ?_
  rintro e1 w5 ⟨rfl, hb5⟩
  rw [decide_eq_true rfl]
  go_wp2_with fail
  refine (lives_walk _).mono ?_
  rintro e1 w6 ⟨rfl, hb6⟩
  go_wp2
  go_ret
  exact ⟨rfl, chain hb1 (chain hb2 (chain hb3 (chain hb4 (chain hb5 hb6))))⟩
end Go.Proofs.Ytbijdnleiojkdaa.oct
