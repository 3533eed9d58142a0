/- The walks of octet.Num and of its reference: a number's bytes. -/
import Derived.Test.YtobdfocfkomagaaOctWalk
namespace Go.Proofs.Ytobdfocfkomagaa.oct
open Go.ChangeShapes Go.WideShapes Go.ChangeAt Go.RowKit
open Ytobdfocfkomagaa.base (Shut size_mk ret_int ret_str ret_bool ba_ext run_string own_string chain newer drewn same bytesOf bytesOf_one)

theorem info_u8 : (Try.prog.info? 5).map (fun i => (i.zero, i.size, i.bytes)) = some (some (.int .u8 0), 1, 1) := by kernel_rfl

set_option maxRecDepth 100000 in
set_option maxHeartbeats 400000 in
theorem num_walk (n : Int) (hn : -9223372036854775808 ≤ n ∧ n ≤ 9223372036854775807) (w : World) :
    Calls Try.prog 83 #[.int .i64 n] w fun e w' => e = .returned (.string ⟨(num n).toArray⟩) ∧ Below w.heap.size w w' := by
  obtain ⟨i0, hi, hz0, hz1, hz2⟩ := info_parts info_u8
  have hcl := code_lt hn
  have hnum : num n = numF 10 (code n) := rfl
  have HN : Shut (num n = numF 10 (code n)) := ⟨hnum⟩
  clear hnum
  have hmk : ∀ u : World, (Instr.makeSlice 105 (.int .i64 0) (.int .i64 10)).run Try.prog u = .ok (.slice (some ⟨u.heap.size, 0, none⟩) 0 10) (u.alloc (.cells (Array.replicate 10 (.int .u8 0)) 5)) := fun u => by kernel_rfl
  go_enter Try.func83, Try.ntmps83
  go_wp2_with fail
  refine (code_walk n hn _).mono ?_
  rintro e w' ⟨rfl, rfl⟩
  generalize code n = c0 at hcl HN
  have HCL : Shut (c0 < 18446744073709551616) := ⟨hcl⟩
  clear hcl
  go_wp2
  clear hmk
  go_loopw [3, 4] (fun cv v wr => ∃ (k c : Nat) (p : List UInt8), cv = .int .u64 c ∧ v = .slice (some ⟨w.heap.size, 0, none⟩) k 10 ∧ Hid (NumInv c0 k c p) ∧
      wr.ownsRow w.heap.size 5 1 (.slice (some ⟨w.heap.size, 0, none⟩) k 10) k (bytesOf p) ∧ Below w.heap.size w wr) (fun cv _ _ => (intOf cv).toNat)
  case atStart => exact ⟨0, c0, [], rfl, rfl, NumInv.start HCL.out, World.ownsRow_made _ _ _ (Nat.le_refl _) (by unfold maxLen; omega) (by simp), newer (same w) _⟩
  case round =>
    obtain ⟨k, c, p, rfl, rfl, HI, hown, hb⟩ := hrel
    have hc : Shut (c < 18446744073709551616) := ⟨HI.out.lt⟩
    have hk := HI.out.k9
    have hsz := hb.size
    clear hn
    by_cases h128 : 128 ≤ c
    · have HM := HI.out.more h128
      obtain ⟨v, hv, eo⟩ := or_name c
      rw [← hv] at HM
      have HV : Shut (v = UInt8.ofNat (128 + c % 128)) := ⟨hv⟩
      have HMM : Shut (NumInv c0 (k + 1) (c / 128) (p ++ [v])) := ⟨HM⟩
      have hk8 : k + 1 ≤ 9 := HM.k9
      clear hv HM
      go_wp2_with fail
      refine (low64_walk c hc.out _).mono ?_
      rintro e w' ⟨rfl, rfl⟩
      go_wp2_with (at_builtin; refine wpList_append_fits _ rfl _ _ 105 rfl w.heap.size 5 i0 1 Try.underlying105 hi hz1 w.heap.size k 10 (bytesOf p) rfl (hown.alloc _) ⟨wr.heap.size, 0, none⟩ 1 1 [.int .u8 (v.toNat : Int)] rfl rfl (World.news_of_block (cs := #[.int .u8 (v.toNat : Int)]) (t := 5) (fr := (0, 0)) (heap_alloc_new wr _)) (by simp [Value.oneCell']) (by omega) ?_)
      intro w1 hown1 hgrow
      go_wp2
      go_roundw
      case rel => exact ⟨k + 1, c / 128, p ++ [v], vint (by omega), rfl, HMM.out, by simpa [bytesOf] using hown1, (newer hb _).grown hgrow (by simp; omega) (fun g hg => by injection hg with hg; omega)⟩
      case measure => simp [intOf]; omega
    · obtain ⟨v, hv, eo⟩ := low_name c (by omega)
      have hd := HI.out.done (show c < 128 by omega)
      rw [← hv, ← HN.out] at hd
      have HD : Shut (p ++ [v] = num n) := ⟨hd⟩
      clear hd hv
      go_wp2_with fail
      refine (low64_walk c hc.out _).mono ?_
      rintro e w' ⟨rfl, rfl⟩
      go_wp2_with (at_builtin; refine wpList_append_fits _ rfl _ _ 105 rfl w.heap.size 5 i0 1 Try.underlying105 hi hz1 w.heap.size k 10 (bytesOf p) rfl (hown.alloc _) ⟨wr.heap.size, 0, none⟩ 1 1 [.int .u8 (v.toNat : Int)] rfl rfl (World.news_of_block (cs := #[.int .u8 (v.toNat : Int)]) (t := 5) (fr := (0, 0)) (heap_alloc_new wr _)) (by simp [Value.oneCell']) (by omega) ?_)
      intro w1 hown1 hgrow
      have hown2 : w1.ownsRow w.heap.size 5 1 (.slice (some ⟨w.heap.size, 0, none⟩) (k + 1) 10) (k + 1) (bytesOf (p ++ [v])) := by simpa [bytesOf] using hown1
      have hcv := own_string hown2
      rw [HD.out] at hcv
      go_wp2
      go_ret
      exact ⟨rfl, (newer hb _).grown hgrow (by simp; omega) (fun g hg => by injection hg with hg; omega)⟩

set_option maxRecDepth 100000 in
set_option maxHeartbeats 400000 in
theorem rnum_walk (n : Int) (hn : -9223372036854775808 ≤ n ∧ n ≤ 9223372036854775807) (w : World) :
    Calls Try.prog 86 #[.int .i64 n] w fun e w' => e = .returned (.string ⟨(num n).toArray⟩) ∧ Below w.heap.size w w' := by
  obtain ⟨i0, hi, hz0, hz1, hz2⟩ := info_parts info_u8
  have hcl := code_lt hn
  have hnum : num n = numF 10 (code n) := rfl
  have HN : Shut (num n = numF 10 (code n)) := ⟨hnum⟩
  clear hnum
  go_enter Try.func86, Try.ntmps86
  go_wp2_with fail
  refine (rcode_walk n hn _).mono ?_
  rintro e w' ⟨rfl, rfl⟩
  generalize code n = c0 at hcl HN
  have HCL : Shut (c0 < 18446744073709551616) := ⟨hcl⟩
  clear hcl
  go_wp2
  go_loopw [3, 4] (fun cv v wr => ∃ (k c : Nat) (p : List UInt8), cv = .int .u64 c ∧ Hid (NumInv c0 k c p) ∧
      wr.ownsRow w.heap.size 5 1 v k (bytesOf p) ∧ Below w.heap.size w wr) (fun cv _ _ => (intOf cv).toNat)
  case atStart => exact ⟨0, c0, [], rfl, NumInv.start HCL.out, World.ownsRow_nil _ _ _ _, same w⟩
  case round =>
    obtain ⟨k, c, p, rfl, HI, hown, hb⟩ := hrel
    have hc : Shut (c < 18446744073709551616) := ⟨HI.out.lt⟩
    have hk := HI.out.k9
    have hsz := hb.size
    clear hn
    by_cases h128 : 128 ≤ c
    · have HM := HI.out.more h128
      obtain ⟨v, hv, eo⟩ := plus_name c
      have ew := wrap_div c hc.out
      rw [← hv] at HM
      have HMM : Shut (NumInv c0 (k + 1) (c / 128) (p ++ [v])) := ⟨HM⟩
      have hk8 : k + 1 ≤ 9 := HM.k9
      clear hv HM
      go_wp2_with (at_builtin; refine wpList_append_lies _ rfl _ _ 105 rfl w.heap.size 5 i0 _ 1 1 Try.underlying105 hi hz0 hz1 hz2 rfl (by omega) _ k (bytesOf p) rfl (hown.alloc _) ⟨wr.heap.size, 0, none⟩ 1 1 [.int .u8 (v.toNat : Int)] rfl rfl (World.news_of_block (cs := #[.int .u8 (v.toNat : Int)]) (t := 5) (fr := (0, 0)) (heap_alloc_new wr _)) (by simp [Value.oneCell']) (by omega) (by unfold maxLen; omega) (by omega) (by simp; omega) _ rfl ?_)
      intro g cap w1 hown1 hgrow hat hlt
      go_wp2
      go_roundw
      case rel => exact ⟨k + 1, c / 128, p ++ [v], vint (by omega), HMM.out, by simpa [bytesOf] using hown1, (newer hb _).grown hgrow (by simp; omega) (fun g hg => (hown.lt g hg).1)⟩
      case measure => simp [intOf]; omega
    · obtain ⟨v, hv, eo⟩ := small_name c (by omega)
      have EO : Shut ((c : Int) = (v.toNat : Int)) := ⟨eo⟩
      have hd := HI.out.done (show c < 128 by omega)
      rw [← hv, ← HN.out] at hd
      have HD : Shut (p ++ [v] = num n) := ⟨hd⟩
      clear hd hv eo
      go_wp2_with (at_builtin; refine wpList_append_lies _ rfl _ _ 105 rfl w.heap.size 5 i0 _ 1 1 Try.underlying105 hi hz0 hz1 hz2 rfl (by omega) _ k (bytesOf p) rfl (hown.alloc _) ⟨wr.heap.size, 0, none⟩ 1 1 [.int .u8 (c : Int)] rfl rfl (World.news_of_block (cs := #[.int .u8 (c : Int)]) (t := 5) (fr := (0, 0)) (heap_alloc_new wr _)) (by simp [Value.oneCell']) (by omega) (by unfold maxLen; omega) (by omega) (by simp; omega) _ rfl ?_)
      intro g cap w1 hown1 hgrow hat hlt
      rw [EO.out] at hown1
      have hown2 : w1.ownsRow w.heap.size 5 1 (.slice (some ⟨g, 0, none⟩) (k + 1) cap) (k + 1) (bytesOf (p ++ [v])) := by simpa [bytesOf] using hown1
      have hcv := own_string hown2
      rw [HD.out] at hcv
      go_wp2
      go_ret
      exact ⟨rfl, (newer hb _).grown hgrow (by simp; omega) (fun g hg => (hown.lt g hg).1)⟩
end Go.Proofs.Ytobdfocfkomagaa.oct
