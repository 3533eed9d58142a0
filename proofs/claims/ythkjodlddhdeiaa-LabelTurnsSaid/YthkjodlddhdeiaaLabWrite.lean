/- Labels on a disk: label.Read, Next and Write at a disk's state. -/
import Derived.Test.YthkjodlddhdeiaaLabNext
namespace Go.Proofs.Ythkjodlddhdeiaa.label
open Go.ChangeShapes Go.WideShapes Go.ChangeAt Go.RowKit
open Ythkjodlddhdeiaa.base Ythkjodlddhdeiaa.disk
open Ythkjodlddhdeiaa.seal (takeE takeN takeS halvesL blockL put_len putE putL put_ok puts_walk)
open Ythkjodlddhdeiaa.crc (sealed)

def blkS (D : Dk) (i : Int) : ByteArray := ⟨(readS D i).toArray⟩
def nextD (D : Dk) : Int × Int × Int := if D.gone = true then (0, 0, 7) else nextT (blkS D 0) (blkS D 1)
def labelD (D : Dk) : Lb × Int := if D.gone = true then (Lb.zero, 7) else ((bestP (blkS D 0) (blkS D 1)).1, stateP (blkS D 0) (blkS D 1))
/-- what a label is written as, and the disk then -/
def blockD (N : Int) (l : Lb) : List UInt8 := sealed (blockL N (bytesL ⟨N, l.tail, l.head, l.note⟩))
def labD (D : Dk) (l : Lb) : Dk :=
  if (nextD D).2.2 = 0 then (if rightL ⟨(nextD D).2.1, l.tail, l.head, l.note⟩ = true then
    (if writeE D (nextD D).1 512 = 0 then flushD (writeD D (nextD D).1 (blockD (nextD D).2.1 l)) else writeD D (nextD D).1 (blockD (nextD D).2.1 l)) else D) else D
def labE (D : Dk) (l : Lb) : Int :=
  if (nextD D).2.2 = 0 then (if rightL ⟨(nextD D).2.1, l.tail, l.head, l.note⟩ = true then
    (if writeE D (nextD D).1 512 = 0 then flushE (writeD D (nextD D).1 (blockD (nextD D).2.1 l)) else writeE D (nextD D).1 512) else 2) else (nextD D).2.2

theorem mayE_gone {D : Dk} (h : D.gone = true) (i : Int) : mayE D i = 7 := by unfold mayE; rw [if_pos h]
theorem st_reads {w0 w : World} {d : Nat} {D : Dk} (h : St w0 w d D) (i : Int) : Reads w (pd d) i (blkS D i) (mayE D i) := fun _ hu => read_st (h.mono hu) i
theorem next_st {w0 w : World} {d : Nat} {D : Dk} (h : St w0 w d D) (hn : 2 ≤ D.n) :
    Calls Try.prog 50 #[pd d] w fun e w' => e = .returned (.tuple #[.int .i64 (nextD D).1, .int .i64 (nextD D).2.1, .int .i64 (nextD D).2.2]) ∧ Below w.heap.size w w' := by
  have h0 := st_reads h 0
  have h1 := st_reads h 1
  cases hg : D.gone with
  | true =>
    rw [mayE_gone hg] at h0
    unfold nextD
    rw [if_pos hg]
    exact next_err w _ _ 7 (by decide) h0
  | false =>
    rw [mayE_ok hg (by decide) (by omega)] at h0 h1
    unfold nextD
    rw [if_neg (by rw [hg]; decide)]
    exact next_ok w _ _ _ h0 h1
theorem label_st {w0 w : World} {d : Nat} {D : Dk} (h : St w0 w d D) (hn : 2 ≤ D.n) :
    Calls Try.prog 49 #[pd d] w fun e w' => e = .returned (.tuple #[(labelD D).1.v, .int .i64 (labelD D).2]) ∧ Below w.heap.size w w' := by
  have h0 := st_reads h 0
  have h1 := st_reads h 1
  cases hg : D.gone with
  | true =>
    rw [mayE_gone hg] at h0
    unfold labelD
    rw [if_pos hg]
    exact read_err w _ _ 7 (by decide) h0
  | false =>
    rw [mayE_ok hg (by decide) (by omega)] at h0 h1
    unfold labelD
    rw [if_neg (by rw [hg]; decide)]
    exact read_ok w _ _ _ h0 h1
/-- a store into a label of one's own leaves the disk -/
theorem st_own {w0 w : World} {d q : Nat} {D : Dk} {cs : Array Value} (h : St w0 w d D) (hr : Row w q cs 81) (hq : w0.heap.size ≤ q) (i : Nat) (v : Value) : St w0 (w.setCell ⟨q, i, none⟩ v) d D := by
  have ho : Only [q] w (w.setCell ⟨q, i, none⟩ v) := Only.cell w q i v
  obtain ⟨⟨f, s, hw, hb, ⟨fc, cs', lv, h1, h2, h3, h4⟩⟩, hB⟩ := h
  have key : ∀ {size n : Nat} {e : TypeId} {x : Value} {xs : List Value}, w.ownsRow w0.heap.size e size x n xs → e ≠ 81 → (w.setCell ⟨q, i, none⟩ v).ownsRow w0.heap.size e size x n xs := by
    intro size n e v' xs hr' he
    refine ho.row hr' (fun g hg hm => ?_)
    obtain ⟨_, cu, hc⟩ := row_type hr' g hg
    simp only [List.mem_singleton] at hm
    subst hm
    exact he (obj_type hc hr)
  refine ⟨⟨f, s, hw, hb, ⟨fc, cs', lv, ?_, key h2 (by decide), key h3 (by decide), key h4 (by decide)⟩⟩, ho.below hB (by simpa using hq) hB.size⟩
  rw [ho.block d (lt_of_obj h1) (fun hm => ?_)]
  · exact h1
  · simp only [List.mem_singleton] at hm
    subst hm
    exact absurd (obj_type h1 hr) (by decide)

set_option maxRecDepth 100000 in
set_option maxHeartbeats 1600000 in
theorem write_early (w : World) (v : Value) (l : Lb) (E : Int) (hE : E ≠ 0) (hN : ∀ u, Below w.heap.size w u → Calls Try.prog 50 #[v] u fun e u' => e = .returned (.tuple #[.int .i64 0, .int .i64 0, .int .i64 E]) ∧ Below u.heap.size u u') :
    Calls Try.prog 51 #[v, l.v] w fun e w' => e = .returned (.int .i64 E) ∧ Below w.heap.size w w' := by
  have HH := Ythkjodlddhdeiaa.base.Shut.mk hN
  clear hN
  obtain ⟨lt, la, lh, ln⟩ := l
  have HB := Ythkjodlddhdeiaa.base.Shut.mk (newer (same w) (.cells (Lb.cells ⟨lt, la, lh, ln⟩) 81))
  go_enter Try.func51, Try.ntmps51
  go_wp2_with fail
  refine (HH.out _ HB.out).mono ?_
  rintro e w1 ⟨rfl, hb1⟩
  have H1 := Ythkjodlddhdeiaa.base.Shut.mk (chain HB.out hb1)
  clear hb1
  go_wp2
  go_ret
  exact ⟨rfl, H1.out⟩

theorem writeD_W (D : Dk) (i : Int) (l : List UInt8) : (writeD D i l).W.length ≤ D.W.length + 1 := by
  unfold writeD
  split
  · split
    · rw [burnD_W]; omega
    · show (D.W ++ [_]).length ≤ _
      simp
  · omega
theorem next_bd (D : Dk) (h : (nextD D).2.2 = 0) : D.gone = false ∧ ((nextD D).1 = 0 ∨ (nextD D).1 = 1) ∧ 1 ≤ (nextD D).2.1 ∧ (nextD D).2.1 ≤ 4611686018427387904 := by
  unfold nextD at h ⊢
  cases hg : D.gone with
  | true => rw [hg, if_pos rfl] at h; cases h
  | false =>
    rw [if_neg (by decide)]
    rw [hg, if_neg (by decide)] at h
    unfold nextT at h ⊢
    by_cases hs : stateP (blkS D 0) (blkS D 1) = 9
    · rw [if_pos hs] at h; cases h
    · rw [if_neg hs]
      have hb := mostAt_bd (blkS D 0) (blkS D 1) 2
      refine ⟨rfl, ?_, ?_, ?_⟩
      · show (if _ then (1 : Int) else 0) = 0 ∨ (if _ then (1 : Int) else 0) = 1
        split <;> simp
      · show 1 ≤ mostP _ _ + 1
        unfold mostP
        omega
      · show mostP _ _ + 1 ≤ _
        unfold mostP
        omega

set_option maxRecDepth 100000 in
set_option maxHeartbeats 1600000 in
theorem labW_walk {w0 w : World} {d : Nat} {D : Dk} (h : St w0 w d D) (hn : 2 ≤ D.n) (l : Lb) (hl : l.note.size ≤ maxLen) (hW : D.W.length ≤ 900000) :
    Calls Try.prog 51 #[pd d, l.v] w fun e w' => e = .returned (.int .i64 (labE D l)) ∧ St w0 w' d (labD D l) := by
  obtain ⟨lt, la, lh, ln⟩ := l
  have HB := Ythkjodlddhdeiaa.base.Shut.mk (newer (same w) (.cells (Lb.cells ⟨lt, la, lh, ln⟩) 81))
  have hV := h.mono HB.out
  have hrow : Row (w.alloc (.cells (Lb.cells ⟨lt, la, lh, ln⟩) 81)) w.heap.size (Lb.cells ⟨lt, la, lh, ln⟩) 81 := Row.new _ _ _
  have hN := next_st hV hn
  have hbd := next_bd D
  have hDef := Ythkjodlddhdeiaa.base.Shut.mk (show labD D ⟨lt, la, lh, ln⟩ = (if (nextD D).2.2 = 0 then (if rightL ⟨(nextD D).2.1, la, lh, ln⟩ = true then
    (if writeE D (nextD D).1 512 = 0 then flushD (writeD D (nextD D).1 (blockD (nextD D).2.1 ⟨lt, la, lh, ln⟩)) else writeD D (nextD D).1 (blockD (nextD D).2.1 ⟨lt, la, lh, ln⟩)) else D) else D) ∧
    labE D ⟨lt, la, lh, ln⟩ = (if (nextD D).2.2 = 0 then (if rightL ⟨(nextD D).2.1, la, lh, ln⟩ = true then
    (if writeE D (nextD D).1 512 = 0 then flushE (writeD D (nextD D).1 (blockD (nextD D).2.1 ⟨lt, la, lh, ln⟩)) else writeE D (nextD D).1 512) else 2) else (nextD D).2.2) from ⟨rfl, rfl⟩)
  have hBk := Ythkjodlddhdeiaa.base.Shut.mk (show blockD (nextD D).2.1 ⟨lt, la, lh, ln⟩ = sealed (blockL (nextD D).2.1 (bytesL ⟨(nextD D).2.1, la, lh, ln⟩)) from rfl)
  generalize blockD (nextD D).2.1 ⟨lt, la, lh, ln⟩ = bk at hDef hBk
  generalize nextD D = T at hN hbd hDef hBk
  obtain ⟨I, N, E⟩ := T
  simp only at hN hbd hDef hBk
  have hBy := fun u : World => bytes_walk ⟨N, la, lh, ln⟩ hl u
  have hBe := Ythkjodlddhdeiaa.base.Shut.mk (show bytesE ⟨N, la, lh, ln⟩ = if rightL ⟨N, la, lh, ln⟩ = true then 0 else 2 from rfl)
  have hBl := @bytes_len ⟨N, la, lh, ln⟩
  generalize labD D ⟨lt, la, lh, ln⟩ = D' at hDef ⊢
  generalize labE D ⟨lt, la, lh, ln⟩ = E' at hDef ⊢
  have hq : w0.heap.size ≤ w.heap.size := h.below.size
  have HH := Ythkjodlddhdeiaa.base.Shut.mk (And.intro hN (And.intro hV (And.intro hrow (And.intro hBy (And.intro hBl hbd)))))
  have HW := Ythkjodlddhdeiaa.base.Shut.mk hW
  have HQ := Ythkjodlddhdeiaa.base.Shut.mk hq
  clear hN hV hrow hBy hBl hbd h hW hq HB hn hl
  by_cases hE : E = 0
  · subst hE
    cases hR : rightL ⟨N, la, lh, ln⟩ with
    | false =>
      obtain ⟨rfl, rfl⟩ : D' = D ∧ E' = 2 := by have h := hDef.out; rw [hR] at h; exact ⟨h.1, h.2⟩
      have hbe : bytesE ⟨N, la, lh, ln⟩ = 2 := by rw [hBe.out, hR]; rfl
      have HBe := Ythkjodlddhdeiaa.base.Shut.mk hbe
      clear hDef hBe hBk hR hbe
      go_enter Try.func51, Try.ntmps51
      go_wp2_with fail
      refine HH.out.1.mono ?_
      rintro e w1 ⟨rfl, hb1⟩
      have hr1 := HH.out.2.2.1.below hb1
      have hs1 := HH.out.2.1.mono hb1
      have z0 : w1.cell? ⟨w.heap.size, 0, none⟩ = some (.int .i64 lt) := hr1.cell 0
      have g0 := hr1.frozen 0
      obtain ⟨V1, hV1⟩ : ∃ V1, w1.setCell ⟨w.heap.size, 0, none⟩ (.int .i64 N) = V1 := ⟨_, rfl⟩
      have hr2 : Row V1 w.heap.size (Lb.cells ⟨N, la, lh, ln⟩) 81 := by rw [← hV1]; exact hr1.set 0 _
      have hs2 : St w0 V1 d D' := by rw [← hV1]; exact st_own hs1 hr1 HQ.out 0 _
      have a0 : V1.cell? ⟨w.heap.size, 0, none⟩ = some (.int .i64 N) := hr2.cell 0
      have a1 : V1.cell? ⟨w.heap.size, 1, none⟩ = some (.int .i64 la) := hr2.cell 1
      have a2 : V1.cell? ⟨w.heap.size, 2, none⟩ = some (.int .i64 lh) := hr2.cell 2
      have a3 : V1.cell? ⟨w.heap.size, 3, none⟩ = some (.string ln) := hr2.cell 3
      have H2 := Ythkjodlddhdeiaa.base.Shut.mk hs2
      clear hb1 hr1 hs1 hr2 hs2
      go_wp2_with fail
      refine (HH.out.2.2.2.1 _).mono ?_
      rintro e w2 ⟨rfl, hb2⟩
      rw [HBe.out]
      have H3 := Ythkjodlddhdeiaa.base.Shut.mk (H2.out.mono hb2)
      clear hb2
      go_wp2
      go_ret
      exact ⟨rfl, H3.out⟩
    | true =>
      obtain ⟨_, hI, hN1, hN2⟩ := HH.out.2.2.2.2.2 rfl
      have hbe : bytesE ⟨N, la, lh, ln⟩ = 0 := by rw [hBe.out, hR]; rfl
      have HBe := Ythkjodlddhdeiaa.base.Shut.mk hbe
      have hlen := HH.out.2.2.2.2.1 hR
      have hp := put_ok N (bytesL ⟨N, la, lh, ln⟩) hN1 hN2 (by omega)
      have hbl := put_len N (bytesL ⟨N, la, lh, ln⟩) (by omega)
      have hput := fun u : World => puts_walk N ⟨(bytesL ⟨N, la, lh, ln⟩).toArray⟩ u
      simp only at hput
      rw [hp.1, hp.2, ← hBk.out] at hput
      rw [← hBk.out] at hbl
      have HP := Ythkjodlddhdeiaa.base.Shut.mk (And.intro hput hbl)
      have hD : D' = (if writeE D I 512 = 0 then flushD (writeD D I bk) else writeD D I bk) ∧ E' = (if writeE D I 512 = 0 then flushE (writeD D I bk) else writeE D I 512) := by
        have h := hDef.out; rw [hR] at h; exact h
      have HD := Ythkjodlddhdeiaa.base.Shut.mk hD
      clear hDef hBe hBk hR hbe hlen hp hput hbl hD hI hN1 hN2
      go_enter Try.func51, Try.ntmps51
      go_wp2_with fail
      refine HH.out.1.mono ?_
      rintro e w1 ⟨rfl, hb1⟩
      have hr1 := HH.out.2.2.1.below hb1
      have hs1 := HH.out.2.1.mono hb1
      have z0 : w1.cell? ⟨w.heap.size, 0, none⟩ = some (.int .i64 lt) := hr1.cell 0
      have g0 := hr1.frozen 0
      obtain ⟨V1, hV1⟩ : ∃ V1, w1.setCell ⟨w.heap.size, 0, none⟩ (.int .i64 N) = V1 := ⟨_, rfl⟩
      have hr2 : Row V1 w.heap.size (Lb.cells ⟨N, la, lh, ln⟩) 81 := by rw [← hV1]; exact hr1.set 0 _
      have hs2 : St w0 V1 d D := by rw [← hV1]; exact st_own hs1 hr1 HQ.out 0 _
      have a0 : V1.cell? ⟨w.heap.size, 0, none⟩ = some (.int .i64 N) := hr2.cell 0
      have a1 : V1.cell? ⟨w.heap.size, 1, none⟩ = some (.int .i64 la) := hr2.cell 1
      have a2 : V1.cell? ⟨w.heap.size, 2, none⟩ = some (.int .i64 lh) := hr2.cell 2
      have a3 : V1.cell? ⟨w.heap.size, 3, none⟩ = some (.string ln) := hr2.cell 3
      have H2 := Ythkjodlddhdeiaa.base.Shut.mk hs2
      clear hb1 hr1 hs1 hr2 hs2
      go_wp2_with fail
      refine (HH.out.2.2.2.1 _).mono ?_
      rintro e w2 ⟨rfl, hb2⟩
      rw [HBe.out]
      have h2 := H2.out.mono hb2
      have H3 := Ythkjodlddhdeiaa.base.Shut.mk h2
      clear hb2 h2 a0 a1 a2 a3 hV1 z0 g0
      go_wp2_with fail
      refine (HP.out.1 _).mono ?_
      rintro e w3 ⟨rfl, hb3⟩
      have h3 := H3.out.mono hb3
      have hwr := write_st h3 I bk (by rw [HP.out.2]; decide) (by have := HW.out; omega)
      rw [HP.out.2] at hwr
      have H4 := Ythkjodlddhdeiaa.base.Shut.mk hwr
      clear hb3 h3 hwr
      go_wp2_with fail
      refine H4.out.mono ?_
      rintro e w4 ⟨rfl, h4⟩
      have H5 := Ythkjodlddhdeiaa.base.Shut.mk h4
      clear h4
      obtain ⟨wE, hwE⟩ : ∃ x, writeE D I 512 = x := ⟨_, rfl⟩
      rw [hwE] at HD ⊢
      by_cases hz : wE = 0
      · subst hz
        have hfl := flush_st H5.out (by have := writeD_W D I bk; have := HW.out; omega)
        have HF := Ythkjodlddhdeiaa.base.Shut.mk hfl
        clear hfl
        obtain ⟨rfl, rfl⟩ : D' = flushD (writeD D I bk) ∧ E' = flushE (writeD D I bk) := HD.out
        clear HD
        go_wp2_with fail
        refine HF.out.mono ?_
        rintro e w5 ⟨rfl, h5⟩
        have H6 := Ythkjodlddhdeiaa.base.Shut.mk h5
        clear h5
        go_wp2
        go_ret
        exact ⟨rfl, H6.out⟩
      · obtain ⟨rfl, rfl⟩ : D' = writeD D I bk ∧ E' = wE := by have h := HD.out; rw [if_neg hz, if_neg hz] at h; exact h
        clear HD
        go_wp2
        go_ret
        exact ⟨rfl, H5.out⟩
  · obtain ⟨rfl, rfl⟩ : D' = D ∧ E' = E := by have h := hDef.out; rw [if_neg hE, if_neg hE] at h; exact h
    clear hDef hBe hBk
    go_enter Try.func51, Try.ntmps51
    go_wp2_with fail
    refine HH.out.1.mono ?_
    rintro e w1 ⟨rfl, hb1⟩
    have H1 := Ythkjodlddhdeiaa.base.Shut.mk (HH.out.2.1.mono hb1)
    clear hb1
    go_wp2
    go_ret
    exact ⟨rfl, H1.out⟩
end Go.Proofs.Ythkjodlddhdeiaa.label
