/- Labels: plain facts; lives, plainly. -/
import Derived.Test.YthkjodlddhdeiaaLabWrite
namespace Go.Proofs.Ythkjodlddhdeiaa.label
open Go.ChangeShapes Go.WideShapes Go.ChangeAt Go.RowKit
open Ythkjodlddhdeiaa.base Ythkjodlddhdeiaa.disk
open Ythkjodlddhdeiaa.seal (takeE takeN takeS halvesL blockL put_len take_put put_halves blankL readI_zero)
open Ythkjodlddhdeiaa.crc (sealed)
open Ythkjodlddhdeiaa.oct (num text takeText take_num takeText_text num_take)

theorem blank_facts (l : List UInt8) (hl : l.length = 512) (hz : ∀ c ∈ l, c = 0) : takeE l = 6 ∧ halvesL l = (0, 0) := by
  constructor
  · have hb : blankL l = true := by unfold blankL; rw [List.all_eq_true]; intro c hc; rw [hz c hc]; rfl
    unfold takeE
    rw [if_pos hl, if_pos hb]
  · unfold halvesL
    rw [if_pos hl, readI_zero _ (fun c hc => hz c (List.mem_of_mem_take hc)), readI_zero _ (fun c hc => hz c (List.mem_of_mem_drop (List.mem_of_mem_take hc)))]
theorem list_mk (s : ByteArray) : (ByteArray.mk s.data.toList.toArray) = s := by apply ba_ext; simp
theorem parse_bytes (L : Lb) (h : rightL L = true) : parseL L.turn (bytesL L) = (L, 0) := by
  have hr := (right_iff L).1 h
  obtain ⟨t, a, b, n⟩ := L
  simp only at hr
  have hs : n.data.toList.length = n.size := by simp
  have hb : bytesL ⟨t, a, b, n⟩ = num a ++ (num b ++ (text n.data.toList ++ [])) := by unfold bytesL; rw [if_pos h]; simp
  have h1 := take_num a (by omega) (num b ++ (text n.data.toList ++ []))
  have h2 := take_num b (by omega) (text n.data.toList ++ [])
  have h3 := takeText_text n.data.toList [] 400 (by omega) (by omega)
  unfold parseL
  rw [hb, h1]
  simp only
  rw [h2]
  simp only
  rw [h3]
  unfold parseOf
  simp only
  rw [list_mk, if_pos ⟨trivial, trivial, trivial, trivial, h⟩]
theorem text_back {l t r : List UInt8} {most : Int} (h : takeText l most = (t, r, 0)) : l = text t ++ r := by
  unfold takeText at h
  cases hx : Ythkjodlddhdeiaa.oct.take l with
  | mk n rest =>
    obtain ⟨r', e⟩ := rest
    rw [hx] at h
    simp only at h
    by_cases h1 : e ≠ 0
    · rw [if_pos h1] at h; exact absurd (congrArg (·.2.2) h) h1
    · rw [if_neg h1] at h
      have he : e = 0 := by omega
      subst he
      by_cases h2 : n < 0
      · rw [if_pos h2] at h; cases congrArg (·.2.2) h
      · rw [if_neg h2] at h
        by_cases h3 : most < n
        · rw [if_pos h3] at h; cases congrArg (·.2.2) h
        · rw [if_neg h3] at h
          by_cases h4 : (r'.length : Int) < n
          · rw [if_pos h4] at h; cases congrArg (·.2.2) h
          · rw [if_neg h4] at h
            have ht : r'.take n.toNat = t := congrArg (·.1) h
            have hr : r'.drop n.toNat = r := congrArg (·.2.1) h
            have hl := (num_take hx).1
            have htl : (t.length : Int) = n := by rw [← ht, List.length_take]; omega
            unfold text
            rw [htl, hl, ← ht, ← hr, List.append_assoc, List.take_append_drop]
theorem parse_back {turn : Int} {s : List UInt8} (h : (parseL turn s).2 = 0) : rightL (parseL turn s).1 = true ∧ (parseL turn s).1.turn = turn ∧ bytesL (parseL turn s).1 = s := by
  unfold parseL at h ⊢
  unfold parseOf at h ⊢
  cases hx : Ythkjodlddhdeiaa.oct.take s with
  | mk a ra =>
    obtain ⟨r1, e1⟩ := ra
    rw [hx] at h
    simp only at h ⊢
    cases hy : Ythkjodlddhdeiaa.oct.take r1 with
    | mk b rb =>
      obtain ⟨r2, e2⟩ := rb
      rw [hy] at h
      simp only at h ⊢
      cases hw : takeText r2 400 with
      | mk t rt =>
        obtain ⟨r3, e3⟩ := rt
        rw [hw] at h
        simp only at h ⊢
        by_cases hc : e1 = 0 ∧ e2 = 0 ∧ e3 = 0 ∧ r3 = [] ∧ rightL ⟨turn, a, b, ⟨t.toArray⟩⟩ = true
        · rw [if_pos hc]
          obtain ⟨rfl, rfl, rfl, rfl, hr⟩ := hc
          refine ⟨hr, rfl, ?_⟩
          have l1 := (num_take hx).1
          have l2 := (num_take hy).1
          have l3 := text_back hw
          unfold bytesL
          rw [if_pos hr]
          simp only
          rw [l1, l2, l3]
          simp
        · rw [if_neg hc] at h
          cases h
theorem cand_err (i : Int) (s : List UInt8) (h : takeE s ≠ 0) : cand i s = [] := by unfold cand; rw [if_neg (fun x => h x.1)]
/-- a right label's block -/
def labB (L : Lb) : List UInt8 := sealed (blockL L.turn (bytesL L))
theorem labB_facts (L : Lb) (h : rightL L = true) : (labB L).length = 512 ∧ takeE (labB L) = 0 ∧ halvesL (labB L) = (L.turn, L.turn) ∧ ∀ i, cand i (labB L) = [(i, L)] := by
  have hr := (right_iff L).1 h
  have hl := bytes_len h
  obtain ⟨h1, h2, h3⟩ := take_put L.turn (bytesL L) (by omega) hr.1 hr.2.1
  refine ⟨put_len _ _ (by omega), h1, put_halves _ _ (by omega) hr.1 hr.2.1, fun i => ?_⟩
  unfold cand labB
  rw [h2, h3, parse_bytes L h, if_pos ⟨h1, rfl⟩]

theorem nextT_blank (s0 s1 : ByteArray) (h0 : s0.data.toList.length = 512 ∧ ∀ c ∈ s0.data.toList, c = 0) (h1 : s1.data.toList.length = 512 ∧ ∀ c ∈ s1.data.toList, c = 0) : nextT s0 s1 = (0, 1, 0) := by
  obtain ⟨a1, a2⟩ := blank_facts _ h0.1 h0.2
  obtain ⟨b1, b2⟩ := blank_facts _ h1.1 h1.2
  have hb : bestP s0 s1 = (Lb.zero, -1) := by unfold bestP; rw [cand_err 0 _ (by rw [a1]; decide), cand_err 1 _ (by rw [b1]; decide)]; rfl
  have hs : stateP s0 s1 = 6 := by unfold stateP freshP; rw [hb, a1, b1]; decide
  unfold nextT
  rw [hs, hb]
  unfold mostP mostAt
  rw [a2, b2]
  decide
theorem lab_one (s0 s1 : ByteArray) (L : Lb) (hL : rightL L = true) (h0 : s0.data.toList = labB L) (h1 : s1.data.toList.length = 512 ∧ ∀ c ∈ s1.data.toList, c = 0) :
    bestP s0 s1 = (L, 0) ∧ stateP s0 s1 = 0 ∧ (L.turn < 4611686018427387904 → nextT s0 s1 = (1, L.turn + 1, 0)) := by
  obtain ⟨a0, a1, a2, a3⟩ := labB_facts L hL
  obtain ⟨b1, b2⟩ := blank_facts _ h1.1 h1.2
  have hr := (right_iff L).1 hL
  have hb : bestP s0 s1 = (L, 0) := by unfold bestP; rw [h0, a3, cand_err 1 _ (by rw [b1]; decide)]; rfl
  have hs : stateP s0 s1 = 0 := by unfold stateP; rw [hb]; rfl
  refine ⟨hb, hs, fun ht => ?_⟩
  unfold nextT
  rw [hs, hb]
  unfold mostP mostAt
  rw [h0, a2, b2, if_neg (by decide), if_pos rfl]
  have e : stepM (stepM (stepM (stepM 0 L.turn) L.turn) 0) 0 = L.turn := by
    unfold stepM
    simp only [if_pos ht]
    omega
  simp only
  rw [e]

theorem labD_free {D : Dk} {l : Lb} (hg : D.gone = false) (hz : D.fuse = -1) (hn : D.n = 2) (he : (nextD D).2.2 = 0) (hr : rightL ⟨(nextD D).2.1, l.tail, l.head, l.note⟩ = true) :
    labE D l = 0 ∧ (labD D l).gone = false ∧ (labD D l).n = 2 ∧ (labD D l).W = [] ∧ (labD D l).S = setBlk D.S (nextD D).1.toNat (labB ⟨(nextD D).2.1, l.tail, l.head, l.note⟩) ∧ (labD D l).fuse = -1 := by
  obtain ⟨_, hI, _, _⟩ := next_bd D he
  have hbl := (labB_facts _ hr).1
  obtain ⟨w1, w2⟩ := write_free (D := D) (i := (nextD D).1) (l := blockD (nextD D).2.1 l) hg hz (by omega) (by omega) hbl
  rw [show (blockD (nextD D).2.1 l).length = 512 from hbl] at w2
  obtain ⟨f1, f2⟩ := flush_free (D := writeD D (nextD D).1 (blockD (nextD D).2.1 l)) (by rw [w1]; exact hg) (by rw [w1]; exact hz)
  have hD : labD D l = flushD (writeD D (nextD D).1 (blockD (nextD D).2.1 l)) := by unfold labD; rw [if_pos he, if_pos hr, if_pos w2]
  have hE : labE D l = flushE (writeD D (nextD D).1 (blockD (nextD D).2.1 l)) := by unfold labE; rw [if_pos he, if_pos hr, if_pos w2]
  rw [hD, hE, f1]
  refine ⟨f2, by rw [w1]; exact hg, by rw [w1]; exact hn, rfl, by rw [w1]; rfl, by rw [w1]; exact hz⟩

theorem blk_zero (n k : Nat) : ∀ c ∈ blk (List.replicate n 0) k, c = (0 : UInt8) := fun c hc => List.eq_of_mem_replicate (List.mem_of_mem_drop (List.mem_of_mem_take hc))
abbrev exL : Lb := ⟨0, 0, 5, ⟨#[120]⟩⟩
abbrev exM : Lb := ⟨1, 0, 5, ⟨#[120]⟩⟩
theorem exM_right : rightL exM = true := by decide
theorem blkS_eq {D : Dk} (hg : D.gone = false) (hn : D.n = 2) (i : Nat) (hi : i < 2) : (blkS D i).data.toList = blk D.S i := by
  unfold blkS readS
  rw [if_pos (mayE_ok hg (by omega) (by omega))]
  simp
theorem lives_plain : nextD (newD 2) = (0, 1, 0) ∧ labE (newD 2) exL = 0 ∧ (labD (newD 2) exL).n = 2 ∧ nextD (labD (newD 2) exL) = (1, 2, 0) ∧ labelD (labD (newD 2) exL) = (exM, 0) := by
  have hS : (newD 2).S = List.replicate 1024 0 := rfl
  have hSl : (newD 2).S.length = 2 * 512 := (newD_wf 2 (by decide) (by decide)).S
  have z0 := blkS_eq (D := newD 2) rfl rfl 0 (by decide)
  have z1 := blkS_eq (D := newD 2) rfl rfl 1 (by decide)
  have y0 : (blk (newD 2).S 0).length = 512 ∧ ∀ c ∈ blk (newD 2).S 0, c = 0 := ⟨blk_len hSl (by decide), by rw [hS]; exact blk_zero _ _⟩
  have y1 : (blk (newD 2).S 1).length = 512 ∧ ∀ c ∈ blk (newD 2).S 1, c = 0 := ⟨blk_len hSl (by decide), by rw [hS]; exact blk_zero _ _⟩
  have hN : nextD (newD 2) = (0, 1, 0) := by
    unfold nextD
    rw [if_neg (by decide)]
    exact nextT_blank _ _ (by rw [show (blkS (newD 2) 0).data.toList = _ from z0]; exact y0) (by rw [show (blkS (newD 2) 1).data.toList = _ from z1]; exact y1)
  obtain ⟨e1, e2, e3, _, e5, _⟩ := labD_free (D := newD 2) (l := exL) rfl rfl rfl (by rw [hN]) (by rw [hN]; exact exM_right)
  rw [hN] at e5
  have hB := (labB_facts exM exM_right).1
  generalize labD (newD 2) exL = D1 at e2 e3 e5 ⊢
  have x0 : (blkS D1 0).data.toList = labB exM := by
    rw [show (blkS D1 0).data.toList = _ from blkS_eq e2 e3 0 (by decide), e5]
    exact blk_setBlk_same hSl (by decide) hB
  have x1 : (blkS D1 1).data.toList = blk (newD 2).S 1 := by
    rw [show (blkS D1 1).data.toList = _ from blkS_eq e2 e3 1 (by decide), e5]
    exact blk_setBlk_other hSl (by decide) (by decide) hB (by decide)
  obtain ⟨b1, b2, b3⟩ := lab_one (blkS D1 0) (blkS D1 1) exM exM_right x0 (by rw [x1]; exact y1)
  refine ⟨hN, e1, e3, ?_, ?_⟩
  · unfold nextD
    rw [if_neg (by rw [e2]; decide), b3 (by decide)]
    rfl
  · unfold labelD
    rw [if_neg (by rw [e2]; decide), b1, b2]
end Go.Proofs.Ythkjodlddhdeiaa.label
