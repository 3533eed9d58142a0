/- The walks of 'lives' of the laws on the disk, and of DiskNil. -/
import Derived.Test.YthkjodlddhdeiaaBlock
namespace Go.Proofs.Ythkjodlddhdeiaa.disk
open Go.ChangeShapes Go.WideShapes Go.ChangeAt Go.RowKit
open Ythkjodlddhdeiaa.base

theorem burnD_free {D : Dk} (hz : D.fuse = -1) : burnD D = D := by
  unfold burnD
  rw [if_neg (by omega), hz]
  obtain ⟨n, F, S, W, fuse, gone⟩ := D
  simp only at hz
  subst hz
  rfl
theorem mayE_ok {D : Dk} {i : Int} (hg : D.gone = false) (h0 : 0 ≤ i) (h1 : i < D.n) : mayE D i = 0 := by unfold mayE; rw [if_neg (by rw [hg]; decide), if_pos ⟨h0, h1⟩]
theorem write_free {D : Dk} {i : Int} {l : List UInt8} (hg : D.gone = false) (hz : D.fuse = -1) (h0 : 0 ≤ i) (h1 : i < D.n) (hl : l.length = 512) :
    writeD D i l = { D with W := D.W ++ [(i.toNat, l)], S := setBlk D.S i.toNat l } ∧ writeE D i l.length = 0 := by
  have hm := mayE_ok hg h0 h1
  refine ⟨by rw [writeD_ok hm hl (by omega), burnD_free hz], ?_⟩
  unfold writeE burnE
  rw [if_pos hm, if_pos hl, if_neg (by omega)]
theorem flush_free {D : Dk} (hg : D.gone = false) (hz : D.fuse = -1) : flushD D = { D with F := applyW D.F D.W, W := [] } ∧ flushE D = 0 := by
  unfold flushD flushE burnE
  rw [if_neg (by rw [hg]; decide), if_neg (by omega), if_neg (by rw [hg]; decide), if_neg (by omega), burnD_free hz]
  exact ⟨rfl, rfl⟩
theorem lives_plain (A B : List UInt8) (hA : A.length = 512) (hB : B.length = 512) : ∃ D1 D2 D3 : Dk, writeD (newD 1) 0 A = D1 ∧ flushD D1 = D2 ∧ writeD D2 0 B = D3 ∧ writeE D2 0 B.length = 0 ∧
    D1.W.length ≤ 1000000 ∧ D2.W.length ≤ 1000000 ∧ D3.W.length ≤ 1000000 ∧ readS (crashD D3 [2]) 0 = torn A B 2 ∧ mayE (crashD D3 [2]) 0 = 0 := by
  have hw := newD_wf 1 (by decide) (by decide)
  obtain ⟨e1, _⟩ := write_free (D := newD 1) (i := 0) (l := A) rfl rfl (by decide) (by decide) hA
  obtain ⟨e2, _⟩ := flush_free (D := writeD (newD 1) 0 A) (by rw [e1]; rfl) (by rw [e1]; rfl)
  obtain ⟨e3, e4⟩ := write_free (D := flushD (writeD (newD 1) 0 A)) (i := 0) (l := B) (by rw [e2, e1]; rfl) (by rw [e2, e1]; rfl) (by decide) (by rw [e2, e1]; show (0 : Int) < ((1 : Nat) : Int); decide) hB
  refine ⟨_, _, _, rfl, rfl, rfl, e4, by rw [e1]; show (1 : Nat) ≤ 1000000; decide, by rw [e2]; show (0 : Nat) ≤ 1000000; decide, by rw [e3, e2]; show (1 : Nat) ≤ 1000000; decide, ?_, ?_⟩
  · have hm : mayE (crashD (writeD (flushD (writeD (newD 1) 0 A)) 0 B) [2]) 0 = 0 := mayE_ok rfl (by decide) (by rw [e3, e2, e1]; show (0 : Int) < ((1 : Nat) : Int); decide)
    unfold readS
    rw [if_pos hm, e3, e2, e1]
    show blk (crashF (applyW (newD 1).F ((newD 1).W ++ [((0 : Int).toNat, A)])) ([] ++ [((0 : Int).toNat, B)]) [2]) 0 = torn A B 2
    have hF := hw.F
    generalize (newD 1).F = F at hF
    have hF1 : F.length = 1 * 512 := hF
    have h1 : applyW F ((newD 1).W ++ [((0 : Int).toNat, A)]) = setBlk F 0 A := rfl
    rw [h1]
    show blk (setBlk (setBlk F 0 A) 0 (torn (blk (setBlk F 0 A) 0) B 2)) 0 = torn A B 2
    rw [blk_setBlk_same hF1 (by decide) hA, blk_setBlk_same (setBlk_len hF1 (by decide) hA) (by decide) (torn_len _ _ _ hA hB)]
  · exact mayE_ok rfl (by decide) (by rw [e3, e2, e1]; show (0 : Int) < ((1 : Nat) : Int); decide)
theorem fates_new (w0 u : World) (C : List Int) (hC : C.length ≤ 9223372036854775807) : Fates w0 (u.alloc (.cells (C.map (Value.int .i64)).toArray 3)) (.slice (some ⟨u.heap.size, 0, none⟩) C.length C.length) C := by
  refine ⟨.inr ⟨u.heap.size, 0, C.length, rfl, fun j x hj => ?_⟩, fun g o n c hv _ => ?_, hC⟩
  · rw [cell_of_row _ _ _ _ _ _ (heap_alloc_new u _), Nat.zero_add]
    simp [hj]
  · cases hv
    exact .inr ⟨_, _, heap_alloc_new u _⟩
set_option maxRecDepth 100000 in
set_option maxHeartbeats 800000 in
theorem lives_walk (w : World) :
    Calls Try.prog 26 #[] w fun e w' => e = .returned (.bool true) ∧ Below w.heap.size w w' := by
  obtain ⟨D1, D2, D3, e1, e2, e3, e4, l1, l2, l3, hr, hm⟩ := lives_plain (blkL 97 97) (blkL 98 98) (blkL_len _ _) (blkL_len _ _)
  have hbig : (blkL 97 97).length ≤ 9223372036854775807 := by rw [blkL_len]; decide
  have hbig2 : (blkL 98 98).length ≤ 9223372036854775807 := by rw [blkL_len]; decide
  have hB := fun (u : World) => block_walk 97 97 u
  have hB2 := fun (u : World) => block_walk 98 98 u
  have hB3 := fun (u : World) => block_walk 98 97 u
  rw [blkL_torn2] at hr
  generalize blkL 97 97 = A at *
  generalize blkL 98 98 = B at *
  obtain ⟨R, hR⟩ : ∃ R, R = blkL 98 97 := ⟨_, rfl⟩
  rw [← hR] at hr
  simp only [← hR] at hB3
  have HE := Shut.mk (And.intro e1 (And.intro e2 (And.intro e3 (And.intro e4 (And.intro l1 (And.intro l2 (And.intro l3 (And.intro hr hm))))))))
  have HB := Shut.mk (And.intro hB (And.intro hB2 (And.intro hB3 (And.intro hbig hbig2))))
  clear e1 e2 e3 e4 l1 l2 l3 hr hm hB hB2 hB3 hbig hbig2 hR
  go_enter Try.func26, Try.ntmps26
  go_wp2_with fail
  refine (new_st 1 (by decide) (by decide) w _ (same w)).mono ?_
  rintro e w1 ⟨d, rfl, hs, hd⟩
  have HS1 := Shut.mk hs
  clear hs hd
  go_wp2_with fail
  refine (HB.out.1 _).mono ?_
  rintro e w2 ⟨rfl, hb2⟩
  have HS2 := Shut.mk (HS1.out.mono hb2)
  clear hb2
  go_wp2_with fail
  refine (write_st HS2.out 0 A HB.out.2.2.2.1 (by decide)).mono ?_
  rintro e w3 ⟨rfl, hs⟩
  rw [HE.out.1] at hs
  have HS3 := Shut.mk hs
  clear hs
  go_wp2_with fail
  refine (flush_st HS3.out HE.out.2.2.2.2.1).mono ?_
  rintro e w4 ⟨rfl, hs⟩
  rw [HE.out.2.1] at hs
  have HS4 := Shut.mk hs
  clear hs
  go_wp2_with fail
  refine (HB.out.2.1 _).mono ?_
  rintro e w5 ⟨rfl, hb5⟩
  have HS5 := Shut.mk (HS4.out.mono hb5)
  clear hb5
  go_wp2_with fail
  refine (write_st HS5.out 0 B HB.out.2.2.2.2 HE.out.2.2.2.2.2.1).mono ?_
  rintro e w6 ⟨rfl, hs⟩
  rw [HE.out.2.2.1] at hs
  rw [HE.out.2.2.2.1]
  have HS6 := Shut.mk hs
  clear hs
  go_wp2_with fail
  refine (crash_st (HS6.out.mono (newer (same w6) _)) _ [2] (fates_new w w6 [2] (by decide)) HE.out.2.2.2.2.2.2.1).mono ?_
  rintro e w7 ⟨rfl, hs⟩
  have HS7 := Shut.mk hs
  clear hs
  go_wp2_with fail
  refine (read_st HS7.out 0).mono ?_
  rintro e w8 ⟨rfl, rfl⟩
  rw [HE.out.2.2.2.2.2.2.2.1, HE.out.2.2.2.2.2.2.2.2]
  go_wp2_with fail
  refine (HB.out.2.2.1 _).mono ?_
  rintro e w9 ⟨rfl, hb9⟩
  have HS9 := Shut.mk (HS7.out.mono hb9)
  clear hb9
  go_wp2
  go_ret
  exact ⟨rfl, HS9.out.below⟩
end Go.Proofs.Ythkjodlddhdeiaa.disk
