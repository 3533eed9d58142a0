/- The laws' blocks of two letters. -/
import Derived.Test.YthkjodlddhdeiaaDiskSt
import Derived.Deep.AppendLies
namespace Go.Proofs.Ythkjodlddhdeiaa.disk
open Go.ChangeShapes Go.WideShapes Go.ChangeAt Go.RowKit
open Ythkjodlddhdeiaa.base

def blkG (m : Nat) (a b : UInt8) : List UInt8 := List.replicate m a ++ List.replicate m b
def blkL (a b : UInt8) : List UInt8 := blkG 256 a b
theorem blkG_len (m : Nat) (a b : UInt8) : (blkG m a b).length = m + m := by simp [blkG]
theorem blkG_get (m : Nat) (a b : UInt8) (k : Nat) (h : k < m + m) : (blkG m a b)[k]? = some (if k < m then a else b) := by
  unfold blkG
  by_cases h2 : k < m
  · rw [List.getElem?_append_left (by simpa using h2), if_pos h2, List.getElem?_replicate, if_pos h2]
  · rw [List.getElem?_append_right (by simp; omega), if_neg h2, List.getElem?_replicate, if_pos (by simp; omega)]
theorem blkL_len (a b : UInt8) : (blkL a b).length = 512 := blkG_len 256 a b
theorem blkL_get (a b : UInt8) (k : Nat) (h : k < 512) : (blkL a b)[k]? = some (if k < 256 then a else b) := blkG_get 256 a b k h
theorem blkG_take (m : Nat) (a b : UInt8) : (blkG m a b).take m = List.replicate m a := by
  unfold blkG
  rw [List.take_append_of_le_length (by simp), List.take_of_length_le (by simp)]
theorem blkG_drop (m : Nat) (a b : UInt8) : (blkG m a b).drop m = List.replicate m b := by
  unfold blkG
  rw [List.drop_append_of_le_length (by simp), List.drop_of_length_le (by simp), List.nil_append]
theorem blkL_torn (a b c e : UInt8) (fate : Int) : torn (blkL a b) (blkL c e) fate = blkL a b ∨ torn (blkL a b) (blkL c e) fate = blkL c e ∨ torn (blkL a b) (blkL c e) fate = blkL c b ∨ torn (blkL a b) (blkL c e) fate = blkL a e := by
  unfold torn
  split
  · exact .inr (.inl rfl)
  · split
    · refine .inr (.inr (.inl ?_))
      unfold blkL
      rw [blkG_take, blkG_drop]
      rfl
    · split
      · refine .inr (.inr (.inr ?_))
        unfold blkL
        rw [blkG_take, blkG_drop]
        rfl
      · exact .inl rfl
theorem blkL_torn2 (a b c e : UInt8) : torn (blkL a b) (blkL c e) 2 = blkL c b := by
  unfold torn
  rw [if_neg (by decide), if_pos rfl]
  unfold blkL
  rw [blkG_take, blkG_drop]
  rfl
theorem blkL_snoc (a b : UInt8) (k : Nat) (h : k < 512) : (blkL a b).take (k + 1) = (blkL a b).take k ++ [if k < 256 then a else b] := by
  have hk : k < (blkL a b).length := by rw [blkL_len]; exact h
  rw [List.take_succ_eq_append_getElem hk]
  have h2 := blkL_get a b k h
  rw [List.getElem?_eq_getElem hk] at h2
  rw [Option.some.inj h2]
theorem byte_of {x : Int} (h : (Lit.int .u8 x).wf = true) : ∃ b : UInt8, x = (b.toNat : Int) := by
  have h2 := bounds_u8 h
  refine ⟨UInt8.ofNat x.toNat, ?_⟩
  have : (UInt8.ofNat x.toNat).toNat = x.toNat := by simp; omega
  rw [this]
  omega
theorem info_u8 : (Try.prog.info? 5).map (fun i => (i.zero, i.size, i.bytes)) = some (some (.int .u8 0), 1, 1) := by kernel_rfl
set_option maxRecDepth 100000 in
set_option maxHeartbeats 400000 in
theorem block_walk (a b : UInt8) (w : World) : Calls Try.prog 22 #[.int .u8 (a.toNat : Int), .int .u8 (b.toNat : Int)] w fun e w' => e = .returned (.string ⟨(blkL a b).toArray⟩) ∧ Below w.heap.size w w' := by
  obtain ⟨i0, hi, hz0, hz1, hz2⟩ := info_parts info_u8
  have ha := a.toNat_lt
  have hb' := b.toNat_lt
  go_enter Try.func22, Try.ntmps22
  go_wp2
  go_loopw [5, 6] (fun v i wr => ∃ k : Nat, k ≤ 512 ∧ i = .int .i64 k ∧ wr.ownsRow w.heap.size 5 1 v k (bytesOf ((blkL a b).take k)) ∧ Below w.heap.size w wr) (fun _ i _ => 512 - (intOf i).toNat)
  case atStart => exact ⟨0, Nat.zero_le _, rfl, World.ownsRow_nil _ _ _ _, same w⟩
  case round =>
    obtain ⟨k, hk, rfl, hown, hb⟩ := hrel
    have hsz := hb.size
    by_cases hlt : k < 512
    · have hsn := blkL_snoc a b k hlt
      by_cases hf : k < 256
      · rw [if_pos hf] at hsn
        have HS := Shut.mk hsn
        clear hsn
        go_wp2_with (at_builtin; refine wpList_append_lies _ rfl _ _ 29 rfl w.heap.size 5 i0 _ 1 1 Try.underlying29 hi hz0 hz1 hz2 rfl (by omega) _ k (bytesOf ((blkL a b).take k)) rfl (hown.alloc _) ⟨wr.heap.size, 0, none⟩ 1 1 [.int .u8 (a.toNat : Int)] rfl rfl (World.news_of_block (cs := #[.int .u8 (a.toNat : Int)]) (t := 5) (fr := (0, 0)) (heap_alloc_new wr _)) (by simp [Value.oneCell']) (by omega) (by unfold maxLen; omega) (by omega) (by simp; omega) _ rfl ?_)
        intro g cap w1 hown1 hgrow hat hltt
        go_wp2
        go_roundw
        case rel => exact ⟨k + 1, by omega, by go_num, by rw [HS.out]; simpa [bytesOf] using hown1, (newer hb _).grown hgrow (by simp; omega) (fun g hg => (hown.lt g hg).1)⟩
        case measure => simp [intOf]; omega
      · rw [if_neg hf] at hsn
        have HS := Shut.mk hsn
        clear hsn
        go_wp2_with (at_builtin; refine wpList_append_lies _ rfl _ _ 29 rfl w.heap.size 5 i0 _ 1 1 Try.underlying29 hi hz0 hz1 hz2 rfl (by omega) _ k (bytesOf ((blkL a b).take k)) rfl (hown.alloc _) ⟨wr.heap.size, 0, none⟩ 1 1 [.int .u8 (b.toNat : Int)] rfl rfl (World.news_of_block (cs := #[.int .u8 (b.toNat : Int)]) (t := 5) (fr := (0, 0)) (heap_alloc_new wr _)) (by simp [Value.oneCell']) (by omega) (by unfold maxLen; omega) (by omega) (by simp; omega) _ rfl ?_)
        intro g cap w1 hown1 hgrow hat hltt
        go_wp2
        go_roundw
        case rel => exact ⟨k + 1, by omega, by go_num, by rw [HS.out]; simpa [bytesOf] using hown1, (newer hb _).grown hgrow (by simp; omega) (fun g hg => (hown.lt g hg).1)⟩
        case measure => simp [intOf]; omega
    · have e : k = 512 := by omega
      subst e
      have htk : (blkL a b).take 512 = blkL a b := List.take_of_length_le (by rw [blkL_len]; exact Nat.le_refl _)
      rw [htk] at hown
      have hcv := own_string hown
      clear hown htk
      go_wp2
      go_ret
      exact ⟨rfl, hb⟩
end Go.Proofs.Ythkjodlddhdeiaa.disk
