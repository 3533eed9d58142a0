/- The walks of octet.TakeNum and of its reference: the number that bytes begin with. -/
import Derived.Test.YtobdfocfkomagaaOctWalk
namespace Go.Proofs.Ytobdfocfkomagaa.oct
open Go.ChangeShapes Go.WideShapes Go.ChangeAt Go.RowKit
open Ytobdfocfkomagaa.base (still drewnN rest_eq Shut size_mk ret_int ret_str ret_bool ba_ext run_string own_string chain newer drewn same bytesOf bytesOf_one)

set_option maxRecDepth 100000 in
set_option maxHeartbeats 800000 in
theorem take_walk (s : ByteArray) (hs : s.size ≤ maxLen) (w : World) :
    Calls Try.prog 72 #[.string s] w fun e w' =>
      e = .returned (.tuple #[.int .i64 (take s.data.toList).1, .string ⟨(take s.data.toList).2.1.toArray⟩, .int .i64 (take s.data.toList).2.2]) ∧ Below w.heap.size w w' := by
  unfold maxLen at hs
  by_cases h10 : 10 < s.size
  all_goals
    go_enter Try.func72, Try.ntmps72
    go_wp2
    go_loopw [5, 11] (fun cv i wr => ∃ k c : Nat, i = .int .i64 k ∧ cv = .int .u64 c ∧ k ≤ s.size ∧ k ≤ 9 ∧ Shut (take s.data.toList = takeN (s.data.toList.drop k) k c ∧ c < 128 ^ k) ∧ w = wr) (fun _ i _ => 10 - (intOf i).toNat)
    case atStart => exact ⟨0, 0, rfl, rfl, by omega, by omega, ⟨rfl, by decide⟩, rfl⟩
    case round =>
      obtain ⟨k, c, rfl, rfl, hk, hk9, HI, rfl⟩ := hrel
      by_cases hlt : k < s.size
      · have hd := drop_at s k hlt
        have hbl := s[k].toNat_lt
        have HE : Shut (take s.data.toList = takeN (s[k] :: s.data.toList.drop (k + 1)) k c) := ⟨by rw [HI.out.1, hd]⟩
        clear hd
        generalize hb : s[k] = b at HE hbl
        by_cases hform : (0 < k ∧ b.toNat = 0) ∨ (k = 9 ∧ 1 < b.toNat)
        · have HF : Shut (take s.data.toList = (0, [], 4)) := ⟨by rw [HE.out, takeN, if_pos hform]⟩
          by_cases hz : 0 < k ∧ b.toNat = 0
          · obtain ⟨hk0, hb0⟩ := hz
            have e1 : ((b.toNat : Int) == 0) = true := by simp [hb0]
            clear hform hb0
            go_wp2
            go_ret3
            exact ⟨by rw [HF.out]; rfl, same _⟩
          · obtain ⟨h9, hb1⟩ := hform.resolve_left hz
            have e1 : ((b.toNat : Int) == 0) = false := by simp; omega
            have e2 : ((k : Int) == 9) = true := by simp; omega
            have hk0 : 0 < k := by omega
            clear hz hform h9
            go_wp2
            go_ret3
            exact ⟨by rw [HF.out]; rfl, same _⟩
        · by_cases h128 : b.toNat < 128
          · have HF : Shut (take s.data.toList = (number (c + b.toNat * 128 ^ k), s.data.toList.drop (k + 1), 0)) := ⟨by rw [HE.out, takeN, if_neg hform, if_pos h128]⟩
            have hways : (k ≤ 0 ∧ ((k : Int) == 9) = false) ∨ (0 < k ∧ ((b.toNat : Int) == 0) = false ∧ ((k : Int) == 9) = false) ∨ (0 < k ∧ ((b.toNat : Int) == 0) = false ∧ ((k : Int) == 9) = true ∧ b.toNat ≤ 1) := nine_ways k b.toNat hform
            clear hform
            rcases hways with ⟨hk0, e2⟩ | ⟨hk0, e1, e2⟩ | ⟨hk0, e1, e2, hb1⟩
            all_goals
              obtain ⟨d, hd, hd64, _, e3⟩ := acc_name c b.toNat k HI.out.2 hk9 (by first | (left; omega) | (right; omega) | (left; simp at e2; omega))
              have HD : Shut (d = c + b.toNat * 128 ^ k ∧ d < 18446744073709551616) := ⟨by rw [hd, Nat.mod_eq_of_lt h128], hd64⟩
              clear hd hd64
              go_wp2_with fail
              refine (low_walk b.toNat (by omega) _).mono ?_
              rintro e w' ⟨rfl, rfl⟩
              go_wp2_with fail
              go_quiet ((go_at_call 89; exact still (number_walk d HD.out.2 _)))
              go_wp2
              go_ret3
              exact ⟨by rw [HF.out, ← HD.out.1, ← rest_eq]; rfl, drewnN (same _) _⟩
          · have hbm : k ≤ 8 ∧ ((k ≤ 0 ∧ ((k : Int) == 9) = false) ∨ (0 < k ∧ ((b.toNat : Int) == 0) = false ∧ ((k : Int) == 9) = false)) := eight_ways k b.toNat hform (by omega) hk9
            obtain ⟨hk8, hways⟩ := hbm
            obtain ⟨d, hd, _, hdl, e3⟩ := acc_name c b.toNat k HI.out.2 hk9 (Or.inl hk8)
            have HG : Shut (take s.data.toList = takeN (s.data.toList.drop (k + 1)) (k + 1) d ∧ d < 128 ^ (k + 1)) := ⟨by rw [HE.out, takeN, if_neg hform, if_neg h128, hd], hdl hk8⟩
            clear hform hd hdl
            rcases hways with ⟨hk0, e2⟩ | ⟨hk0, e1, e2⟩
            all_goals
              go_wp2_with fail
              refine (low_walk b.toNat (by omega) _).mono ?_
              rintro e w' ⟨rfl, rfl⟩
              go_wp2
              go_roundw
              case rel => exact ⟨k + 1, d, by go_num, rfl, by omega, by omega, HG, trivial⟩
              case measure => simp [intOf]; omega
      · first
          | (exfalso; omega)
          | (obtain rfl : k = s.size := by omega
             have HF : Shut (take s.data.toList = (0, [], 3)) := ⟨by rw [HI.out.1, List.drop_eq_nil_of_le (by simp), takeN]⟩
             go_wp2
             go_ret3
             exact ⟨by rw [HF.out]; rfl, same _⟩)

set_option maxRecDepth 100000 in
set_option maxHeartbeats 800000 in
theorem rtake_walk (s : ByteArray) (hs : s.size ≤ maxLen) (w : World) :
    Calls Try.prog 74 #[.string s] w fun e w' =>
      e = .returned (.tuple #[.int .i64 (take s.data.toList).1, .string ⟨(take s.data.toList).2.1.toArray⟩, .int .i64 (take s.data.toList).2.2]) ∧ Below w.heap.size w w' := by
  unfold maxLen at hs
  go_enter Try.func74, Try.ntmps74
  go_wp2
  go_loop [5, 6, 7] (fun cv pv i => ∃ k c p : Nat, i = .int .i64 k ∧ cv = .int .u64 c ∧ pv = .int .u64 p ∧ k ≤ s.size ∧ k ≤ 9 ∧ Shut (take s.data.toList = takeN (s.data.toList.drop k) k c ∧ c < 128 ^ k ∧ p = 128 ^ k)) (fun _ _ i => 10 - (intOf i).toNat)
  case atStart => exact ⟨0, 0, 1, rfl, rfl, rfl, by omega, by omega, ⟨rfl, by decide, by decide⟩⟩
  case round =>
    obtain ⟨k, c, p, rfl, rfl, rfl, hk, hk9, HI⟩ := hrel
    by_cases hlt : k < s.size
    · have hd := drop_at s k hlt
      have hbl := s[k].toNat_lt
      have HE : Shut (take s.data.toList = takeN (s[k] :: s.data.toList.drop (k + 1)) k c) := ⟨by rw [HI.out.1, hd]⟩
      clear hd
      generalize hb : s[k] = b at HE hbl
      by_cases hform : (0 < k ∧ b.toNat = 0) ∨ (k = 9 ∧ 1 < b.toNat)
      · have HF : Shut (take s.data.toList = (0, [], 4)) := ⟨by rw [HE.out, takeN, if_pos hform]⟩
        by_cases hz : k = 9 ∧ 1 < b.toNat
        · obtain ⟨h9, hb1⟩ := hz
          have e2 : ((k : Int) == 9) = true := by simp; omega
          clear hform h9
          go_wp2
          go_ret3
          exact ⟨by rw [HF.out]; rfl, same _⟩
        · obtain ⟨hk0, hb0⟩ := hform.resolve_right hz
          have e1 : ((b.toNat : Int) == 0) = true := by simp [hb0]
          have hb1 : b.toNat ≤ 1 := by omega
          by_cases h9 : k = 9
          · have e2 : ((k : Int) == 9) = true := by simp; omega
            clear hz hform hb0 h9
            go_wp2
            go_ret3
            exact ⟨by rw [HF.out]; rfl, same _⟩
          · have e2 : ((k : Int) == 9) = false := by simp; omega
            clear hz hform hb0 h9
            go_wp2
            go_ret3
            exact ⟨by rw [HF.out]; rfl, same _⟩
      · by_cases h128 : b.toNat < 128
        · have HF : Shut (take s.data.toList = (number (c + b.toNat * 128 ^ k), s.data.toList.drop (k + 1), 0)) := ⟨by rw [HE.out, takeN, if_neg hform, if_pos h128]⟩
          have hways : (k ≤ 0 ∧ ((k : Int) == 9) = false) ∨ (0 < k ∧ ((b.toNat : Int) == 0) = false ∧ ((k : Int) == 9) = false) ∨ (0 < k ∧ ((b.toNat : Int) == 0) = false ∧ ((k : Int) == 9) = true ∧ b.toNat ≤ 1) := nine_ways k b.toNat hform
          clear hform
          rcases hways with ⟨hk0, e2⟩ | ⟨hk0, e1, e2⟩ | ⟨hk0, e1, e2, hb1⟩
          all_goals
            obtain ⟨q, d, p', hd, hd64, _, _, e3, e4, e5⟩ := racc_name c b.toNat k p HI.out.2.2 HI.out.2.1 hk9 (by first | (left; omega) | (right; omega) | (left; simp at e2; omega))
            have HD : Shut (d = c + b.toNat * 128 ^ k ∧ d < 18446744073709551616) := ⟨by rw [hd, Nat.mod_eq_of_lt h128], hd64⟩
            clear hd hd64
            go_wp2_with fail
            go_quiet ((go_at_call 91; exact still (rnumber_walk d HD.out.2 _)))
            go_wp2
            go_ret3
            exact ⟨by rw [HF.out, ← HD.out.1, ← rest_eq]; rfl, drewnN (same _) _⟩
        · obtain ⟨hk8, hways⟩ : k ≤ 8 ∧ ((k ≤ 0 ∧ ((k : Int) == 9) = false) ∨ (0 < k ∧ ((b.toNat : Int) == 0) = false ∧ ((k : Int) == 9) = false)) := eight_ways k b.toNat hform (by omega) hk9
          obtain ⟨q, d, p', hd, _, hdl, hpl, e3, e4, e5⟩ := racc_name c b.toNat k p HI.out.2.2 HI.out.2.1 hk9 (Or.inl hk8)
          have HG : Shut (take s.data.toList = takeN (s.data.toList.drop (k + 1)) (k + 1) d ∧ d < 128 ^ (k + 1) ∧ p' = 128 ^ (k + 1)) := ⟨by rw [HE.out, takeN, if_neg hform, if_neg h128, hd], hdl hk8, hpl hk8⟩
          clear hform hd hdl hpl
          rcases hways with ⟨hk0, e2⟩ | ⟨hk0, e1, e2⟩
          all_goals
            go_wp2
            go_round
            case rel => exact ⟨k + 1, d, p', by go_num, rfl, rfl, by omega, by omega, HG⟩
            case measure => simp [intOf]; omega
    · obtain rfl : k = s.size := by omega
      have HF : Shut (take s.data.toList = (0, [], 3)) := ⟨by rw [HI.out.1, List.drop_eq_nil_of_le (by simp), takeN]⟩
      go_wp2
      go_ret3
      exact ⟨by rw [HF.out]; rfl, same _⟩
end Go.Proofs.Ytobdfocfkomagaa.oct
