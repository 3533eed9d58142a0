/- LabelTurns, plainly: a write, and the power that goes. -/
import Derived.Test.YthkjodlddhdeiaaLabTurnsP
namespace Go.Proofs.Ythkjodlddhdeiaa.label
open Go.ChangeShapes Go.WideShapes Go.ChangeAt Go.RowKit
open Ythkjodlddhdeiaa.base Ythkjodlddhdeiaa.disk
open Ythkjodlddhdeiaa.seal (takeE halvesL)

theorem torn_not {k : Int} {l : List UInt8} {L : Lb} (hL : rightL L = true) (h : Torn k l) : l ≠ labB L := by
  rintro rfl
  obtain ⟨_, a, b, h1, h2, _⟩ := h
  rw [(labB_facts L hL).2.2.1] at h1
  exact h2 ((congrArg Prod.fst h1).symm.trans (congrArg Prod.snd h1))
theorem blank_not {l : List UInt8} {L : Lb} (hL : rightL L = true) (h : Blank l) : l ≠ labB L := by
  rintro rfl
  have e := (blank_facts _ h.1 h.2).1
  rw [(labB_facts L hL).2.1] at e
  cases e
theorem after {k : Int} {F : List UInt8} (h : Inv k F) (hk : 0 ≤ k) (hk2 : k ≤ 1000) {I N : Int} (hN : nextD (keyD F) = (I, N, 0)) (L : Lb) (hL : rightL L = true) (ht : L.turn = N) (X : List UInt8)
    (hX : X = blk F I.toNat ∨ X = labB L ∨ Torn (k + 1) X) :
    Inv (k + 1) (setBlk F I.toNat X) ∧ (labelD (keyD (setBlk F I.toNat X)) = labelD (keyD F) ∨ labelD (keyD (setBlk F I.toNat X)) = (L, 0)) ∧ (X = labB L → labelD (keyD (setBlk F I.toNat X)) = (L, 0)) := by
  have hm := most_bd h hk hk2
  have hw := ways h
  have hNm : N = mostP (blkS (keyD F) 0) (blkS (keyD F) 1) + 1 := by
    have e := key_next F
    rw [hN] at e
    unfold nextT at e
    by_cases hs : stateP (blkS (keyD F) 0) (blkS (keyD F) 1) = 9
    · rw [if_pos hs] at e; cases congrArg (·.2.2) e
    · rw [if_neg hs] at e; exact congrArg (·.2.1) e
  have hup : Inv (k + 1) F := ⟨h.len, h.zero.mono (by omega), by
    rcases h.one with h | h | h
    · exact .inl h
    · exact .inr (.inl (h.mono (by omega)))
    · exact .inr (.inr ⟨h.1.mono (by omega), h.2.mono (by omega)⟩)⟩
  have hLB := labB_facts L hL
  have hgood : Good (k + 1) (labB L) := ⟨L, hL, rfl, by omega⟩
  rcases hw with ⟨e, en, ee, c0, b1⟩ | ⟨M, hM, hmt, h0, e, en, ee⟩ | ⟨M, hM, hmt, h1, e, en, ee⟩
  · have hI : I = 0 := by rw [hN] at en; exact en
    subst hI
    have hl0 : (blk F 0).length = 512 := blk_len h.len (by decide)
    rcases hX with hX | hX | hX
    · rw [hX, setBlk_blk h.len (by decide)]
      refine ⟨hup, .inl rfl, fun hc => ?_⟩
      have e1 := c0 0
      rw [show blk F 0 = labB L from hc, hLB.2.2.2 0] at e1
      cases e1
    · subst hX
      have f0 : blk (setBlk F (0 : Int).toNat (labB L)) 0 = labB L := blk_setBlk_same h.len (by decide) hLB.1
      have f1 : blk (setBlk F (0 : Int).toNat (labB L)) 1 = blk F 1 := blk_setBlk_other h.len (by decide) (by decide) hLB.1 (by decide)
      have hb := key_best (setBlk F (0 : Int).toNat (labB L))
      rw [f0, f1, hLB.2.2.2, blank_cand b1, List.append_nil, best_one] at hb
      have hl := (way_good (by decide) hb).1
      exact ⟨⟨setBlk_len h.len (by decide) hLB.1, by rw [f0]; exact .inr (.inl hgood), by rw [f1]; exact .inl b1⟩, .inr hl, fun _ => hl⟩
    · have f0 : blk (setBlk F (0 : Int).toNat X) 0 = X := blk_setBlk_same h.len (by decide) hX.1
      have f1 : blk (setBlk F (0 : Int).toNat X) 1 = blk F 1 := blk_setBlk_other h.len (by decide) (by decide) hX.1 (by decide)
      have hi : Inv (k + 1) (setBlk F (0 : Int).toNat X) := ⟨setBlk_len h.len (by decide) hX.1, by rw [f0]; exact .inr (.inr hX), by rw [f1]; exact .inl b1⟩
      refine ⟨hi, .inl ?_, fun hc => absurd hc (torn_not hL hX)⟩
      rcases ways hi with ⟨e', _, _, _, _⟩ | ⟨M, hM, _, h0', _, _, _⟩ | ⟨M, hM, _, h1', _, _, _⟩
      · rw [e', e]
      · rw [f0] at h0'; exact absurd h0' (torn_not hM hX)
      · rw [f1] at h1'; exact absurd h1' (blank_not hM b1)
  · have hI : I = 1 := by rw [hN] at en; exact en
    subst hI
    have hlt : M.turn < L.turn := by
      have := (hm.2.2 0 (by decide)).1
      rw [h0, (labB_facts M hM).2.2.1] at this
      simp only at this
      omega
    rcases hX with hX | hX | hX
    · rw [hX, setBlk_blk h.len (by decide)]
      refine ⟨hup, .inl rfl, fun hc => ?_⟩
      have f1 : blk F 1 = labB L := hc
      have := (hm.2.2 1 (by decide)).1
      rw [f1, hLB.2.2.1] at this
      simp only at this
      omega
    · subst hX
      have f0 : blk (setBlk F (1 : Int).toNat (labB L)) 0 = blk F 0 := blk_setBlk_other h.len (by decide) (by decide) hLB.1 (by decide)
      have f1 : blk (setBlk F (1 : Int).toNat (labB L)) 1 = labB L := blk_setBlk_same h.len (by decide) hLB.1
      have hb := key_best (setBlk F (1 : Int).toNat (labB L))
      rw [f0, f1, h0, hLB.2.2.2, (labB_facts M hM).2.2.2, List.singleton_append, best_two, if_pos hlt] at hb
      have hl := (way_good (by decide) hb).1
      exact ⟨⟨setBlk_len h.len (by decide) hLB.1, by rw [f0]; exact h.zero.mono (by omega), by rw [f1]; exact .inr (.inl hgood)⟩, .inr hl, fun _ => hl⟩
    · have f0 : blk (setBlk F (1 : Int).toNat X) 0 = blk F 0 := blk_setBlk_other h.len (by decide) (by decide) hX.1 (by decide)
      have f1 : blk (setBlk F (1 : Int).toNat X) 1 = X := blk_setBlk_same h.len (by decide) hX.1
      have hb := key_best (setBlk F (1 : Int).toNat X)
      rw [f0, f1, h0, (labB_facts M hM).2.2.2, torn_cand hX, List.append_nil, best_one] at hb
      have hl := (way_good (by decide) hb).1
      exact ⟨⟨setBlk_len h.len (by decide) hX.1, by rw [f0]; exact h.zero.mono (by omega), by rw [f0, f1]; exact .inr (.inr ⟨hX, M, hM, h0, by omega⟩)⟩, .inl (by rw [hl, e]), fun hc => absurd hc (torn_not hL hX)⟩
  · have hI : I = 0 := by rw [hN] at en; exact en
    subst hI
    have hlt : M.turn < L.turn := by
      have := (hm.2.2 1 (by decide)).1
      rw [h1, (labB_facts M hM).2.2.1] at this
      simp only at this
      omega
    rcases hX with hX | hX | hX
    · rw [hX, setBlk_blk h.len (by decide)]
      refine ⟨hup, .inl rfl, fun hc => ?_⟩
      have f1 : blk F 0 = labB L := hc
      have := (hm.2.2 0 (by decide)).1
      rw [f1, hLB.2.2.1] at this
      simp only at this
      omega
    · subst hX
      have f0 : blk (setBlk F (0 : Int).toNat (labB L)) 0 = labB L := blk_setBlk_same h.len (by decide) hLB.1
      have f1 : blk (setBlk F (0 : Int).toNat (labB L)) 1 = blk F 1 := blk_setBlk_other h.len (by decide) (by decide) hLB.1 (by decide)
      have hb := key_best (setBlk F (0 : Int).toNat (labB L))
      rw [f0, f1, h1, hLB.2.2.2, (labB_facts M hM).2.2.2, List.singleton_append, best_two, if_neg (by omega)] at hb
      have hl := (way_good (by decide) hb).1
      exact ⟨⟨setBlk_len h.len (by decide) hLB.1, by rw [f0]; exact .inr (.inl hgood), by rw [f1]; exact .inr (.inl ⟨M, hM, h1, by omega⟩)⟩, .inr hl, fun _ => hl⟩
    · have f0 : blk (setBlk F (0 : Int).toNat X) 0 = X := blk_setBlk_same h.len (by decide) hX.1
      have f1 : blk (setBlk F (0 : Int).toNat X) 1 = blk F 1 := blk_setBlk_other h.len (by decide) (by decide) hX.1 (by decide)
      have hb := key_best (setBlk F (0 : Int).toNat X)
      rw [f0, f1, h1, (labB_facts M hM).2.2.2, torn_cand hX, List.nil_append, best_one] at hb
      have hl := (way_good (by decide) hb).1
      exact ⟨⟨setBlk_len h.len (by decide) hX.1, by rw [f0]; exact .inr (.inr hX), by rw [f1]; exact .inr (.inl ⟨M, hM, h1, by omega⟩)⟩, .inl (by rw [hl, e]), fun hc => absurd hc (torn_not hL hX)⟩

theorem next_bds {k : Int} {F : List UInt8} (h : Inv k F) (hk : 0 ≤ k) (hk2 : k ≤ 1000) : ∃ I N, nextD (keyD F) = (I, N, 0) ∧ (I = 0 ∨ I = 1) ∧ 1 ≤ N ∧ N ≤ k + 1 ∧ ∀ i, i < 2 → (halvesL (blk F i)).1 < N ∧ (halvesL (blk F i)).2 < N := by
  have hm := most_bd h hk hk2
  have he : (nextD (keyD F)).2.2 = 0 := by
    rcases ways h with ⟨_, _, e, _, _⟩ | ⟨_, _, _, _, _, _, e⟩ | ⟨_, _, _, _, _, _, e⟩ <;> exact e
  obtain ⟨_, hI, _, _⟩ := next_bd (keyD F) he
  have hN : (nextD (keyD F)).2.1 = mostP (blkS (keyD F) 0) (blkS (keyD F) 1) + 1 := by
    rw [key_next] at he ⊢
    unfold nextT at he ⊢
    by_cases hs : stateP (blkS (keyD F) 0) (blkS (keyD F) 1) = 9
    · rw [if_pos hs] at he; cases he
    · rw [if_neg hs]
  refine ⟨(nextD (keyD F)).1, (nextD (keyD F)).2.1, ?_, hI, by omega, by omega, fun i hi => by have := hm.2.2 i hi; omega⟩
  rw [← he]
theorem flush_zero {D : Dk} (hg : D.gone = false) (hz : D.fuse = 0) : flushD D = { D with gone := true } ∧ flushE D = 7 := by
  unfold flushD flushE burnE burnD
  rw [hg, if_neg Bool.false_ne_true, if_neg Bool.false_ne_true, if_pos hz, if_pos hz, if_pos hz]
  exact ⟨rfl, rfl⟩
theorem flush_more {D : Dk} (hg : D.gone = false) (hz : D.fuse ≠ 0) : flushD D = { D with fuse := max (D.fuse - 1) (-1), F := applyW D.F D.W, W := [] } ∧ flushE D = 0 := by
  unfold flushD flushE burnE burnD
  rw [hg, if_neg Bool.false_ne_true, if_neg Bool.false_ne_true, if_neg hz, if_neg hz, if_neg hz]
  exact ⟨rfl, rfl⟩
/-- a write of a label, and the power that goes -/
theorem turn_disk {F : List UInt8} {I N : Int} (hN : nextD (keyD F) = (I, N, 0)) (hI : I = 0 ∨ I = 1) (fuse : Int) (l : Lb) (fates : List Int) (hlen : F.length = 2 * 512) :
    (labD (armD (keyD F) fuse) l).W.length ≤ 1 ∧ (rightL ⟨N, l.tail, l.head, l.note⟩ = false → labE (armD (keyD F) fuse) l = 2 ∧ crashD (labD (armD (keyD F) fuse) l) fates = keyD F) ∧
    (rightL ⟨N, l.tail, l.head, l.note⟩ = true → (labE (armD (keyD F) fuse) l = 0 ∨ labE (armD (keyD F) fuse) l = 7) ∧ ∃ X, (X = blk F I.toNat ∨ X = labB ⟨N, l.tail, l.head, l.note⟩ ∨ ∃ fate, X = torn (blk F I.toNat) (labB ⟨N, l.tail, l.head, l.note⟩) fate) ∧
      crashD (labD (armD (keyD F) fuse) l) fates = keyD (setBlk F I.toNat X) ∧ (labE (armD (keyD F) fuse) l = 0 → X = labB ⟨N, l.tail, l.head, l.note⟩)) := by
  have hA : armD (keyD F) fuse = { keyD F with fuse := max fuse (-1) } := by unfold armD; rw [if_neg (show ¬ (keyD F).gone = true from Bool.false_ne_true)]
  rw [hA]
  generalize hz : max fuse (-1) = z
  have hzl : -1 ≤ z := by omega
  have hN' : nextD { keyD F with fuse := z } = (I, N, 0) := hN
  have hbl : blockD N l = labB ⟨N, l.tail, l.head, l.note⟩ := rfl
  cases hr : rightL ⟨N, l.tail, l.head, l.note⟩ with
  | false =>
    have hD : labD { keyD F with fuse := z } l = { keyD F with fuse := z } := by unfold labD; rw [hN']; simp only; rw [if_pos trivial, hr]; rfl
    have hE : labE { keyD F with fuse := z } l = 2 := by unfold labE; rw [hN']; simp only; rw [if_pos trivial, hr]; rfl
    rw [hD, hE]
    exact ⟨Nat.zero_le _, fun _ => ⟨rfl, rfl⟩, fun h => by cases h⟩
  | true =>
    have hB := (labB_facts _ hr).1
    have hi : 0 ≤ I ∧ I < ((2 : Nat) : Int) := by omega
    have hIn : I.toNat < 2 := by omega
    have hmay : mayE { keyD F with fuse := z } I = 0 := mayE_ok rfl hi.1 hi.2
    have hD0 : labD { keyD F with fuse := z } l = if writeE { keyD F with fuse := z } I 512 = 0 then flushD (writeD { keyD F with fuse := z } I (labB ⟨N, l.tail, l.head, l.note⟩)) else writeD { keyD F with fuse := z } I (labB ⟨N, l.tail, l.head, l.note⟩) := by
      unfold labD; rw [hN']; simp only; rw [if_pos trivial, hr, if_pos rfl, hbl]
    have hE0 : labE { keyD F with fuse := z } l = if writeE { keyD F with fuse := z } I 512 = 0 then flushE (writeD { keyD F with fuse := z } I (labB ⟨N, l.tail, l.head, l.note⟩)) else writeE { keyD F with fuse := z } I 512 := by
      unfold labE; rw [hN']; simp only; rw [if_pos trivial, hr, if_pos rfl, hbl]
    rw [hD0, hE0]
    generalize labB ⟨N, l.tail, l.head, l.note⟩ = B at *
    have hw : writeE { keyD F with fuse := z } I 512 = if z = 0 then 7 else 0 := by unfold writeE burnE; rw [if_pos hmay, if_pos rfl]
    by_cases hz0 : z = 0
    · subst hz0
      rw [hw, if_pos rfl, if_neg (by decide), if_neg (by decide)]
      have hd : writeD { keyD F with fuse := 0 } I B = { keyD F with fuse := 0, gone := true } := by
        unfold writeD burnD; rw [if_pos ⟨hmay, hB⟩, if_pos rfl]; rfl
      rw [hd]
      refine ⟨Nat.zero_le _, fun h => (by cases h), fun _ => ⟨.inr rfl, blk F I.toNat, .inl rfl, ?_, fun h => by cases h⟩⟩
      rw [setBlk_blk hlen hIn]
      rfl
    · rw [hw, if_neg hz0, if_pos rfl, if_pos rfl]
      have hd : writeD { keyD F with fuse := z } I B = { keyD F with fuse := max (z - 1) (-1), W := [(I.toNat, B)], S := setBlk F I.toNat B } := by
        unfold writeD burnD
        rw [if_pos ⟨hmay, hB⟩, if_neg hz0, if_neg hz0]
        rfl
      rw [hd]
      generalize hz1 : max (z - 1) (-1) = z1
      by_cases h1 : z1 = 0
      · subst h1
        have hf : flushD { keyD F with fuse := 0, W := [(I.toNat, B)], S := setBlk F I.toNat B } = { keyD F with fuse := 0, W := [(I.toNat, B)], S := setBlk F I.toNat B, gone := true } := by
          exact (flush_zero rfl rfl).1
        have he : flushE { keyD F with fuse := 0, W := [(I.toNat, B)], S := setBlk F I.toNat B } = 7 := (flush_zero rfl rfl).2
        rw [hf, he]
        refine ⟨Nat.le_refl _, fun h => (by cases h), fun _ => ⟨.inr rfl, ?_⟩⟩
        cases fates with
        | nil => exact ⟨blk F I.toNat, .inl rfl, by rw [setBlk_blk hlen hIn]; rfl, fun h => by cases h⟩
        | cons f fs => exact ⟨torn (blk F I.toNat) B f, .inr (.inr ⟨f, rfl⟩), rfl, fun h => by cases h⟩
      · have hf : flushD { keyD F with fuse := z1, W := [(I.toNat, B)], S := setBlk F I.toNat B } = { keyD F with fuse := max (z1 - 1) (-1), F := setBlk F I.toNat B, W := [], S := setBlk F I.toNat B } := by
          exact (flush_more rfl h1).1
        have he : flushE { keyD F with fuse := z1, W := [(I.toNat, B)], S := setBlk F I.toNat B } = 0 := (flush_more rfl h1).2
        rw [hf, he]
        exact ⟨Nat.zero_le _, fun h => (by cases h), fun _ => ⟨.inl rfl, B, .inr (.inl rfl), rfl, fun _ => rfl⟩⟩

theorem key_new : newD 2 = keyD (List.replicate (2 * 512) 0) := rfl
theorem inv_new : Inv 0 (List.replicate (2 * 512) 0) := by
  have hl : (List.replicate (2 * 512) (0 : UInt8)).length = 2 * 512 := List.length_replicate
  have b0 : Blank (blk (List.replicate (2 * 512) (0 : UInt8)) 0) := ⟨blk_len hl (by decide), blk_zero _ _⟩
  have b1 : Blank (blk (List.replicate (2 * 512) (0 : UInt8)) 1) := ⟨blk_len hl (by decide), blk_zero _ _⟩
  exact ⟨hl, .inl b0, .inl b1⟩
end Go.Proofs.Ythkjodlddhdeiaa.label
