/- LabelTurns, plainly: what may stand in the two blocks, and what is read. -/
import Derived.Test.YthkjodlddhdeiaaLabFacts
namespace Go.Proofs.Ythkjodlddhdeiaa.label
open Go.ChangeShapes Go.WideShapes Go.ChangeAt Go.RowKit
open Ythkjodlddhdeiaa.base Ythkjodlddhdeiaa.disk
open Ythkjodlddhdeiaa.seal (takeE takeN takeS halvesL blockL put_len take_put put_halves blankL readI_zero take_torn put_front put_back)
open Ythkjodlddhdeiaa.crc (sealed)
open Ythkjodlddhdeiaa.oct (readI read_fixed)

theorem halves_two (a b : List UInt8) (ha : a.length = 256) (hb : b.length = 256) : (a ++ b).length = 512 ∧ halvesL (a ++ b) = (readI (a.take 8), readI (b.take 8)) := by
  have hl : (a ++ b).length = 512 := by rw [List.length_append]; omega
  refine ⟨hl, ?_⟩
  unfold halvesL
  rw [if_pos hl, List.take_append_of_le_length (by omega), Ythkjodlddhdeiaa.seal.drop_at ha.symm]
def Blank (l : List UInt8) : Prop := l.length = 512 ∧ ∀ c ∈ l, c = 0
def Good (k : Int) (l : List UInt8) : Prop := ∃ L, rightL L = true ∧ l = labB L ∧ L.turn ≤ k
def Torn (k : Int) (l : List UInt8) : Prop := l.length = 512 ∧ ∃ a b, halvesL l = (a, b) ∧ a ≠ b ∧ 0 ≤ a ∧ a ≤ k ∧ 0 ≤ b ∧ b ≤ k
def Any (k : Int) (l : List UInt8) : Prop := Blank l ∨ Good k l ∨ Torn k l
theorem Good.mono {k m : Int} {l : List UInt8} (h : Good k l) (hm : k ≤ m) : Good m l := by obtain ⟨L, h1, h2, h3⟩ := h; exact ⟨L, h1, h2, by omega⟩
theorem Torn.mono {k m : Int} {l : List UInt8} (h : Torn k l) (hm : k ≤ m) : Torn m l := by obtain ⟨h0, a, b, h1, h2, h3, h4, h5, h6⟩ := h; exact ⟨h0, a, b, h1, h2, h3, by omega, h5, by omega⟩
theorem Any.mono {k m : Int} {l : List UInt8} (h : Any k l) (hm : k ≤ m) : Any m l := by
  rcases h with h | h | h
  · exact .inl h
  · exact .inr (.inl (h.mono hm))
  · exact .inr (.inr (h.mono hm))
theorem blank_cand {l : List UInt8} (h : Blank l) (i : Int) : cand i l = [] := cand_err i l (by rw [(blank_facts l h.1 h.2).1]; decide)
theorem torn_cand {k : Int} {l : List UInt8} (h : Torn k l) (i : Int) : cand i l = [] := by
  obtain ⟨h0, a, b, h1, h2, _⟩ := h
  exact cand_err i l (by rw [(take_torn l h0 (by rw [h1]; exact h2)).1]; decide)
theorem any_halves {k : Int} {l : List UInt8} (hk : 0 ≤ k) (h : Any k l) : l.length = 512 ∧ ∃ a b, halvesL l = (a, b) ∧ 0 ≤ a ∧ a ≤ k ∧ 0 ≤ b ∧ b ≤ k := by
  rcases h with h | ⟨L, h1, h2, h3⟩ | ⟨h0, a, b, h1, _, h2⟩
  · exact ⟨h.1, 0, 0, (blank_facts l h.1 h.2).2, by omega⟩
  · obtain ⟨b0, _, b2, _⟩ := labB_facts L h1
    have hr := (right_iff L).1 h1
    rw [h2]
    exact ⟨b0, _, _, b2, by omega, h3, by omega, h3⟩
  · exact ⟨h0, a, b, h1, h2⟩
/-- a block, torn by a new label's -/
theorem torn_any {k : Int} {l : List UInt8} {L : Lb} (hk : 0 ≤ k) (h : Any k l) (hL : rightL L = true) (a b : Int) (hh : halvesL l = (a, b)) (ha : a < L.turn) (hb : b < L.turn) (hm : L.turn ≤ k + 1) (fate : Int) :
    torn l (labB L) fate = l ∨ torn l (labB L) fate = labB L ∨ Torn (k + 1) (torn l (labB L) fate) := by
  obtain ⟨hl, a', b', hh', hab⟩ := any_halves hk h
  rw [hh] at hh'
  obtain ⟨rfl, rfl⟩ : a = a' ∧ b = b' := Prod.mk.inj hh'
  have hr := ((right_iff L).1 hL).1
  have q1 : L.turn ≠ b ∧ 0 ≤ L.turn ∧ L.turn ≤ k + 1 ∧ 0 ≤ b ∧ b ≤ k + 1 := by omega
  have q2 : a ≠ L.turn ∧ 0 ≤ a ∧ a ≤ k + 1 ∧ 0 ≤ L.turn ∧ L.turn ≤ k + 1 := by omega
  obtain ⟨b0, _, b2, _⟩ := labB_facts L hL
  have ea : readI (l.take 8) = a := by unfold halvesL at hh; rw [if_pos hl] at hh; exact (Prod.mk.inj hh).1
  have eb : readI ((l.drop 256).take 8) = b := by unfold halvesL at hh; rw [if_pos hl] at hh; exact (Prod.mk.inj hh).2
  have na : readI ((labB L).take 8) = L.turn := by unfold halvesL at b2; rw [if_pos b0] at b2; exact (Prod.mk.inj b2).1
  have nb : readI (((labB L).drop 256).take 8) = L.turn := by unfold halvesL at b2; rw [if_pos b0] at b2; exact (Prod.mk.inj b2).2
  unfold torn
  by_cases f1 : fate = 1
  · rw [if_pos f1]; exact .inr (.inl rfl)
  · rw [if_neg f1]
    by_cases f2 : fate = 2
    · rw [if_pos f2]
      obtain ⟨h1, h2⟩ := halves_two ((labB L).take 256) (l.drop 256) (by rw [List.length_take]; omega) (by rw [List.length_drop]; omega)
      rw [List.take_take, show min 8 256 = 8 from rfl, na, eb] at h2
      exact .inr (.inr ⟨h1, _, _, h2, q1⟩)
    · rw [if_neg f2]
      by_cases f3 : fate = 3
      · rw [if_pos f3]
        obtain ⟨h1, h2⟩ := halves_two (l.take 256) ((labB L).drop 256) (by rw [List.length_take]; omega) (by rw [List.length_drop]; omega)
        rw [List.take_take, show min 8 256 = 8 from rfl, nb, ea] at h2
        exact .inr (.inr ⟨h1, _, _, h2, q2⟩)
      · rw [if_neg f3]; exact .inl rfl

/-- the disk between two writes -/
def keyD (F : List UInt8) : Dk := ⟨2, F, F, [], -1, false⟩
structure Inv (k : Int) (F : List UInt8) : Prop where
  len : F.length = 2 * 512
  zero : Any k (blk F 0)
  one : Blank (blk F 1) ∨ Good k (blk F 1) ∨ (Torn k (blk F 1) ∧ Good k (blk F 0))
theorem key_blk {F : List UInt8} (i : Nat) (hi : i < 2) : (blkS (keyD F) i).data.toList = blk F i := blkS_eq (D := keyD F) rfl rfl i hi
theorem key_label (F : List UInt8) : labelD (keyD F) = ((bestP (blkS (keyD F) 0) (blkS (keyD F) 1)).1, stateP (blkS (keyD F) 0) (blkS (keyD F) 1)) := by unfold labelD; rw [if_neg (show ¬ (keyD F).gone = true from Bool.false_ne_true)]
theorem key_next (F : List UInt8) : nextD (keyD F) = nextT (blkS (keyD F) 0) (blkS (keyD F) 1) := by unfold nextD; rw [if_neg (show ¬ (keyD F).gone = true from Bool.false_ne_true)]
theorem key_best (F : List UInt8) : bestP (blkS (keyD F) 0) (blkS (keyD F) 1) = bestOf (cand 0 (blk F 0) ++ cand 1 (blk F 1)) := by
  unfold bestP
  rw [show (blkS (keyD F) 0).data.toList = _ from key_blk 0 (by decide), show (blkS (keyD F) 1).data.toList = _ from key_blk 1 (by decide)]
theorem most_bd {F : List UInt8} {k : Int} (h : Inv k F) (hk : 0 ≤ k) (hk2 : k ≤ 1000) : 0 ≤ mostP (blkS (keyD F) 0) (blkS (keyD F) 1) ∧ mostP (blkS (keyD F) 0) (blkS (keyD F) 1) ≤ k ∧
    ∀ i, i < 2 → (halvesL (blk F i)).1 ≤ mostP (blkS (keyD F) 0) (blkS (keyD F) 1) ∧ (halvesL (blk F i)).2 ≤ mostP (blkS (keyD F) 0) (blkS (keyD F) 1) := by
  have a1 : Any k (blk F 1) := by
    rcases h.one with h | h | h
    · exact .inl h
    · exact .inr (.inl h)
    · exact .inr (.inr h.1)
  obtain ⟨_, a, b, e0, ha⟩ := any_halves hk h.zero
  obtain ⟨_, c, d, e1, hc⟩ := any_halves hk a1
  have hm : mostP (blkS (keyD F) 0) (blkS (keyD F) 1) = stepM (stepM (stepM (stepM 0 a) b) c) d := by
    unfold mostP mostAt
    rw [show (blkS (keyD F) 0).data.toList = _ from key_blk 0 (by decide), show (blkS (keyD F) 1).data.toList = _ from key_blk 1 (by decide), e0, e1]
    rfl
  have hs : stepM (stepM (stepM (stepM 0 a) b) c) d = max (max (max (max 0 a) b) c) d := by
    unfold stepM
    rw [if_pos (by omega), if_pos (by omega), if_pos (by omega), if_pos (by omega)]
  rw [hm, hs]
  refine ⟨by omega, by omega, fun i hi => ?_⟩
  have : i = 0 ∨ i = 1 := by omega
  rcases this with rfl | rfl
  · rw [e0]; simp only; omega
  · rw [e1]; simp only; omega
/-- what stands in both blocks -/
inductive Ways (k : Int) (F : List UInt8) : Prop
  | none (h : labelD (keyD F) = (Lb.zero, 6)) (hn : (nextD (keyD F)).1 = 0) (he : (nextD (keyD F)).2.2 = 0) (c0 : ∀ i, cand i (blk F 0) = []) (b1 : Blank (blk F 1))
  | zero (L : Lb) (hL : rightL L = true) (ht : L.turn ≤ k) (h0 : blk F 0 = labB L) (h : labelD (keyD F) = (L, 0)) (hn : (nextD (keyD F)).1 = 1) (he : (nextD (keyD F)).2.2 = 0)
  | one (L : Lb) (hL : rightL L = true) (ht : L.turn ≤ k) (h1 : blk F 1 = labB L) (h : labelD (keyD F) = (L, 0)) (hn : (nextD (keyD F)).1 = 0) (he : (nextD (keyD F)).2.2 = 0)
theorem best_first (i : Int) (L : Lb) : stepB (Lb.zero, -1) (i, L) = (L, i) := if_pos (Or.inl (show (-1 : Int) < 0 by decide))
theorem best_two (L M : Lb) : bestOf [((0 : Int), L), (1, M)] = if L.turn < M.turn then (M, 1) else (L, 0) := by
  show stepB (stepB (Lb.zero, -1) (0, L)) (1, M) = _
  rw [best_first]
  show (if (0 : Int) < 0 ∨ L.turn < M.turn then (M, (1 : Int)) else (L, 0)) = _
  by_cases h : L.turn < M.turn
  · rw [if_pos (.inr h), if_pos h]
  · rw [if_neg (fun x => by rcases x with x | x; exact absurd x (by decide); exact h x), if_neg h]
theorem best_one (i : Int) (L : Lb) : bestOf [(i, L)] = (L, i) := best_first i L
theorem next_of (s0 s1 : ByteArray) (h : stateP s0 s1 ≠ 9) : nextT s0 s1 = (if (bestP s0 s1).2 = 0 then 1 else 0, mostP s0 s1 + 1, 0) := by unfold nextT; rw [if_neg h]
theorem way_good {F : List UInt8} {L : Lb} {i : Int} (hi : 0 ≤ i) (hb : bestP (blkS (keyD F) 0) (blkS (keyD F) 1) = (L, i)) : labelD (keyD F) = (L, 0) ∧ (nextD (keyD F)).1 = (if i = 0 then 1 else 0) ∧ (nextD (keyD F)).2.2 = 0 := by
  have hs : stateP (blkS (keyD F) 0) (blkS (keyD F) 1) = 0 := by unfold stateP; rw [hb, if_pos hi]
  rw [key_label, key_next, next_of _ _ (by rw [hs]; decide), hs, hb]
  exact ⟨rfl, rfl, rfl⟩
theorem ways {k : Int} {F : List UInt8} (h : Inv k F) : Ways k F := by
  have hb := key_best F
  have z1 : (blkS (keyD F) 1).data.toList = blk F 1 := key_blk 1 (by decide)
  have other : (∀ i, cand i (blk F 0) = []) → Blank (blk F 1) → Ways k F := by
    intro c0 b1
    rw [c0, blank_cand b1] at hb
    have hs : stateP (blkS (keyD F) 0) (blkS (keyD F) 1) = 6 := by
      unfold stateP freshP
      rw [hb, z1, (blank_facts _ b1.1 b1.2).1]
      simp [bestOf]
    refine .none ?_ ?_ ?_ c0 b1
    · rw [key_label, hs, hb]; rfl
    · rw [key_next, next_of _ _ (by rw [hs]; decide), hb]; rfl
    · rw [key_next, next_of _ _ (by rw [hs]; decide)]
  have two : ∀ L, rightL L = true → blk F 0 = labB L → L.turn ≤ k → (∀ i, cand i (blk F 1) = []) → Ways k F := by
    intro L hL h0 ht c1
    rw [h0, (labB_facts L hL).2.2.2, c1, List.append_nil, best_one] at hb
    obtain ⟨e1, e2, e3⟩ := way_good (by decide) hb
    exact .zero L hL ht h0 e1 e2 e3
  rcases h.one with b1 | ⟨M, hM, h1, hm⟩ | ⟨t1, ⟨L, hL, h0, ht⟩⟩
  · rcases h.zero with b0 | ⟨L, hL, h0, ht⟩ | t0
    · exact other (blank_cand b0) b1
    · exact two L hL h0 ht (blank_cand b1)
    · exact other (torn_cand t0) b1
  · have none0 : (∀ i, cand i (blk F 0) = []) → Ways k F := by
      intro c0
      rw [c0, h1, (labB_facts M hM).2.2.2, List.nil_append, best_one] at hb
      obtain ⟨e1, e2, e3⟩ := way_good (by decide) hb
      exact .one M hM hm h1 e1 e2 e3
    rcases h.zero with b0 | ⟨L, hL, h0, ht⟩ | t0
    · exact none0 (blank_cand b0)
    · rw [h0, h1, (labB_facts L hL).2.2.2, (labB_facts M hM).2.2.2, List.singleton_append, best_two] at hb
      by_cases hlt : L.turn < M.turn
      · rw [if_pos hlt] at hb
        obtain ⟨e1, e2, e3⟩ := way_good (by decide) hb
        exact .one M hM hm h1 e1 e2 e3
      · rw [if_neg hlt] at hb
        obtain ⟨e1, e2, e3⟩ := way_good (by decide) hb
        exact .zero L hL ht h0 e1 e2 e3
    · exact none0 (torn_cand t0)
  · exact two L hL h0 ht (torn_cand t1)
end Go.Proofs.Ythkjodlddhdeiaa.label
