/- The walks of the reference's SameTexts. -/
import Derived.Test.YtobdfocfkomagaaOctWalk
import Derived.Test.YtobdfocfkomagaaStrs
namespace Go.Proofs.Ytobdfocfkomagaa.oct
open Go.ChangeShapes Go.WideShapes Go.ChangeAt Go.RowKit
open Ytobdfocfkomagaa.base (still drewnN rest_eq Shut size_mk ret_int ret_str ret_bool ba_ext run_string own_string run_string_new chain newer drewn same bytesOf bytesOf_one)

theorem eq_of_take {ss tt : List ByteArray} {k : Nat} (h : ss.take k = tt.take k) (h1 : ss.length ≤ k) (h2 : tt.length ≤ k) : ss = tt := by
  rwa [List.take_of_length_le h1, List.take_of_length_le h2] at h
theorem take_more {ss tt : List ByteArray} {k : Nat} (h : ss.take k = tt.take k) (h1 : k < ss.length) (h2 : k < tt.length) (he : ss[k] = tt[k]) : ss.take (k + 1) = tt.take (k + 1) := by
  rw [List.take_succ_eq_append_getElem h1, List.take_succ_eq_append_getElem h2, h, he]
theorem ne_str {s t : ByteArray} (h : s ≠ t) : (s.toList == t.toList) = false := by
  rw [beq_eq_false_iff_ne, ByteArray.toList_eq, ByteArray.toList_eq]
  exact fun he => h (ba_ext he)

set_option maxRecDepth 100000 in
set_option maxHeartbeats 800000 in
theorem same_walk (A A' : Option Addr) (cap cap' : Nat) (ss tt : List ByteArray) (w : World) (hs : ss.length ≤ maxLen) (ht : tt.length ≤ maxLen) (hr : Reads w A ss) (hr' : Reads w A' tt) :
    Calls Try.prog 53 #[.slice A ss.length cap, .slice A' tt.length cap'] w fun e w' => e = .returned (.bool (decide (ss = tt))) ∧ Below w.heap.size w w' := by
  by_cases hl : ss.length = tt.length
  · by_cases h0 : ss = []
    · subst h0
      have h0' : tt = [] := List.eq_nil_of_length_eq_zero (by simpa using hl.symm)
      subst h0'
      go_enter Try.func53, Try.ntmps53
      go_wp2
      refine wp_loop_once ?_
      go_wp2
      go_ret
      exact ⟨rfl, same w⟩
    · obtain ⟨b, off, rfl, _, hc⟩ := hr h0
      obtain ⟨b', off', rfl, _, hc'⟩ := hr' (by intro h; subst h; exact h0 (List.eq_nil_of_length_eq_zero (by simpa using hl)))
      have HC := Lib.hid hc
      have HC' := Lib.hid hc'
      have e0 : ((ss.length : Int) != (tt.length : Int)) = false := by simp [hl]
      have HL := Lib.hid hl
      unfold maxLen at hs ht
      clear hc hc' hr hr' hl h0
      go_enter Try.func53, Try.ntmps53
      go_wp2
      go_loopw [5] (fun i wr => ∃ k j : Nat, i = .int .i64 k ∧ k ≤ ss.length ∧ Shut (ss.take k = tt.take k) ∧ wr = w.drewN j) (fun i _ => ss.length - (intOf i).toNat)
      case atStart => exact ⟨0, 0, rfl, by omega, ⟨rfl⟩, rfl⟩
      case round =>
        obtain ⟨k, j, rfl, hk, HI, rfl⟩ := hrel
        by_cases hlt : k < ss.length
        · have hlt' : k < tt.length := by rw [← HL.out]; exact hlt
          have c1 := HC.out k ss[k] (List.getElem?_eq_getElem hlt)
          have c2 := HC'.out k tt[k] (List.getElem?_eq_getElem hlt')
          have k1 : (k : Int) < (ss.length : Int) := by omega
          have k2 : (k : Int) < (tt.length : Int) := by omega
          have k0 : (0 : Int) ≤ (k : Int) := by omega
          by_cases he : ss[k] = tt[k]
          · have HG : Shut (ss.take (k + 1) = tt.take (k + 1)) := ⟨take_more HI.out hlt hlt' he⟩
            rw [← he] at c2
            generalize ss[k] = x at c1 c2
            clear he
            go_wp2_with fail
            go_quiet (fail)
            go_wp2
            go_roundw
            case rel => exact ⟨k + 1, _, by go_num, by omega, HG, rfl⟩
            case measure => simp [intOf]; omega
          · have hne : Shut (ss ≠ tt) := ⟨by intro h; subst h; exact he rfl⟩
            have e1 := ne_str he
            generalize ss[k] = x at c1 e1 he
            generalize tt[k] = y at c2 e1 he
            clear he
            go_wp2_with fail
            go_quiet (fail)
            go_wp2
            go_ret
            exact ⟨ret_bool (by rw [decide_eq_false hne.out]), drewnN (drewnN (same w) _) _⟩
        · have heq : Shut (ss = tt) := ⟨eq_of_take HI.out (by omega) (by rw [← HL.out]; omega)⟩
          go_wp2
          go_ret
          exact ⟨ret_bool (by rw [decide_eq_true heq.out]), drewnN (same w) _⟩
  · have e0 : ((ss.length : Int) != (tt.length : Int)) = true := by simp; omega
    have hne : Shut (ss ≠ tt) := ⟨by intro h; subst h; exact hl rfl⟩
    go_enter Try.func53, Try.ntmps53
    go_wp2
    go_ret
    exact ⟨ret_bool (by rw [decide_eq_false hne.out]), same w⟩
end Go.Proofs.Ytobdfocfkomagaa.oct
