/- Labels on a disk, with the frame: rows of labels stay. -/
import Derived.Test.YthkjodlddhdeiaaLabTrys
namespace Go.Proofs.Ythkjodlddhdeiaa.label
open Go.ChangeShapes Go.WideShapes Go.ChangeAt Go.RowKit
open Ythkjodlddhdeiaa.base Ythkjodlddhdeiaa.disk
open Ythkjodlddhdeiaa.seal (takeE takeN takeS halvesL blockL put_len putE putL put_ok puts_walk)
open Ythkjodlddhdeiaa.crc (sealed)

/-- rows of labels stay -/
def KeepL (w w' : World) : Prop := ∀ q cs, Row w q cs 81 → Row w' q cs 81
theorem KeepL.trans {a b c : World} (h : KeepL a b) (k : KeepL b c) : KeepL a c := fun q cs hr => k q cs (h q cs hr)
theorem keep_below {w w' : World} (h : Below w.heap.size w w') : KeepL w w' := fun _ _ hr => hr.below h
theorem keep_only {w w' : World} {base d f s : Nat} {D : Dk} {l : List Nat} (ha : At w base d f s D) (ho : Only l w w') (hl : ∀ k ∈ l, k = d ∨ k = f ∨ k = s) : KeepL w w' := fun q cs hr => by
  refine (ho.block q hr.lt (fun hm => ?_)).trans hr
  obtain ⟨fc, cs', lv, h1, h2, _, h4⟩ := ha.fields
  rcases hl q hm with rfl | rfl | rfl
  · exact absurd (obj_type h1 hr) (by decide)
  · obtain ⟨_, cu, hc⟩ := row_type h4 q rfl
    exact absurd (obj_type hc hr) (by decide)
  · obtain ⟨_, cu, hc⟩ := row_type h2 q rfl
    exact absurd (obj_type hc hr) (by decide)
theorem write_keep {w0 w : World} {d : Nat} {D : Dk} (h : St w0 w d D) (i : Int) (l : List UInt8) (hlm : l.length ≤ 9223372036854775807) (hW : D.W.length ≤ 1000000) :
    Calls Try.prog 21 #[pd d, .int .i64 i, .string ⟨l.toArray⟩] w fun e w' => e = .returned (.int .i64 (writeE D i l.length)) ∧ St w0 w' d (writeD D i l) ∧ KeepL w w' := by
  obtain ⟨f, s, ha⟩ := h.at_
  refine (write_walk ha i l hlm hW).mono fun e w' ⟨he, ha', ho⟩ => ⟨he, st_step ha h.below ha' ho (fun k hk => ?_), keep_only ha ho (fun k hk => ?_)⟩
  · simp at hk
    rcases hk with rfl | rfl
    · exact ha.low.1
    · exact ha.low.2.2.1
  · simp at hk; omega
theorem flush_keep {w0 w : World} {d : Nat} {D : Dk} (h : St w0 w d D) (hW : D.W.length ≤ 1000000) :
    Calls Try.prog 23 #[pd d] w fun e w' => e = .returned (.int .i64 (flushE D)) ∧ St w0 w' d (flushD D) ∧ KeepL w w' := by
  obtain ⟨f, s, ha⟩ := h.at_
  refine (flush_walk ha hW).mono fun e w' ⟨he, ha', ho⟩ => ⟨he, st_step ha h.below ha' ho (fun k hk => ?_), keep_only ha ho (fun k hk => ?_)⟩
  · simp at hk
    rcases hk with rfl | rfl
    · exact ha.low.1
    · exact ha.low.2.1
  · simp at hk; omega
theorem arm_keep {w0 w : World} {d : Nat} {D : Dk} (h : St w0 w d D) (n : Int) (hn : n ≤ 9223372036854775807) :
    Calls Try.prog 34 #[pd d, .int .i64 n] w fun e w' => e = .returned (.int .i64 (armE D)) ∧ St w0 w' d (armD D n) ∧ KeepL w w' := by
  obtain ⟨f, s, ha⟩ := h.at_
  refine (arm_walk ha n hn).mono fun e w' ⟨he, ha', ho⟩ => ⟨he, st_step ha h.below ha' ho (fun k hk => ?_), keep_only ha ho (fun k hk => ?_)⟩
  · simp at hk
    rw [hk]
    exact ha.low.1
  · simp at hk; omega
theorem crash_keep {w0 w : World} {d : Nat} {D : Dk} (h : St w0 w d D) (v : Value) (L : List Int) (hv : Fates w0 w v L) (hW : D.W.length ≤ 1000000) :
    Calls Try.prog 24 #[pd d, v] w fun e w' => e = .returned (.int .i64 0) ∧ St w0 w' d (crashD D L) ∧ KeepL w w' := by
  obtain ⟨f, s, ha⟩ := h.at_
  refine (crash_walk ha h.below.size v L hv.1 (fun g o n c hg hn => ?_) hv.2.2 hW).mono fun e w' ⟨s', he, _, ha', ho⟩ => ⟨he, st_step ha h.below ha' ho (fun k hk => ?_), keep_only ha ho (fun k hk => ?_)⟩
  · rcases hv.2.1 g o n c hg hn with h1 | ⟨cur, fz, h1⟩
    · have := ha.low.2.1; omega
    · rintro rfl
      obtain ⟨fc, cs, lv, -, -, -, h4⟩ := ha.fields
      obtain ⟨_, cu, hc⟩ := row_type h4 g rfl
      rw [h1] at hc
      cases hc
  · simp at hk
    rcases hk with rfl | rfl
    · exact ha.low.1
    · exact ha.low.2.1
  · simp at hk; omega
set_option maxRecDepth 100000 in
set_option maxHeartbeats 1600000 in
theorem labW_keep {w0 w : World} {d : Nat} {D : Dk} (h : St w0 w d D) (hn : 2 ≤ D.n) (l : Lb) (hl : l.note.size ≤ maxLen) (hW : D.W.length ≤ 900000) :
    Calls Try.prog 51 #[pd d, l.v] w fun e w' => e = .returned (.int .i64 (labE D l)) ∧ St w0 w' d (labD D l) ∧ KeepL w w' := by
  obtain ⟨lt, la, lh, ln⟩ := l
  have HB := Ythkjodlddhdeiaa.base.Shut.mk (newer (same w) (.cells (Lb.cells ⟨lt, la, lh, ln⟩) 81))
  have hV := h.mono HB.out
  have hK := keep_below HB.out
  have hrow : Row (w.alloc (.cells (Lb.cells ⟨lt, la, lh, ln⟩) 81)) w.heap.size (Lb.cells ⟨lt, la, lh, ln⟩) 81 := Row.new _ _ _
  have hN := next_st hV hn
  have hbd := next_bd D
  have hDef := Ythkjodlddhdeiaa.base.Shut.mk (show labD D ⟨lt, la, lh, ln⟩ = (if (nextD D).2.2 = 0 then (if rightL ⟨(nextD D).2.1, la, lh, ln⟩ = true then
    (if writeE D (nextD D).1 512 = 0 then flushD (writeD D (nextD D).1 (blockD (nextD D).2.1 ⟨lt, la, lh, ln⟩)) else writeD D (nextD D).1 (blockD (nextD D).2.1 ⟨lt, la, lh, ln⟩)) else D) else D) ∧
    labE D ⟨lt, la, lh, ln⟩ = (if (nextD D).2.2 = 0 then (if rightL ⟨(nextD D).2.1, la, lh, ln⟩ = true then
    (if writeE D (nextD D).1 512 = 0 then flushE (writeD D (nextD D).1 (blockD (nextD D).2.1 ⟨lt, la, lh, ln⟩)) else writeE D (nextD D).1 512) else 2) else (nextD D).2.2) from ⟨rfl, rfl⟩)
  have hBk := Ythkjodlddhdeiaa.base.Shut.mk (show blockD (nextD D).2.1 ⟨lt, la, lh, ln⟩ = sealed (blockL (nextD D).2.1 (bytesL ⟨(nextD D).2.1, la, lh, ln⟩)) from rfl)
  generalize blockD (nextD D).2.1 ⟨lt, la, lh, ln⟩ = bk at hDef hBk
  generalize nextD D = T at hN hbd hDef hBk
  obtain ⟨I, N, E⟩ := T
  simp only at hN hbd hDef hBk
  have hBy := fun u : World => bytes_walk ⟨N, la, lh, ln⟩ hl u
  have hBe := Ythkjodlddhdeiaa.base.Shut.mk (show bytesE ⟨N, la, lh, ln⟩ = if rightL ⟨N, la, lh, ln⟩ = true then 0 else 2 from rfl)
  have hBl := @bytes_len ⟨N, la, lh, ln⟩
  generalize labD D ⟨lt, la, lh, ln⟩ = D' at hDef ⊢
  generalize labE D ⟨lt, la, lh, ln⟩ = E' at hDef ⊢
  have hq : w0.heap.size ≤ w.heap.size := h.below.size
  have HH := Ythkjodlddhdeiaa.base.Shut.mk (And.intro hN (And.intro hV (And.intro hrow (And.intro hBy (And.intro hBl (And.intro hbd hK))))))
  have HW := Ythkjodlddhdeiaa.base.Shut.mk hW
  have HQ := Ythkjodlddhdeiaa.base.Shut.mk hq
  clear hN hV hrow hBy hBl hbd hK h hW hq HB hn hl
  by_cases hE : E = 0
  · subst hE
    cases hR : rightL ⟨N, la, lh, ln⟩ with
    | false =>
      obtain ⟨rfl, rfl⟩ : D' = D ∧ E' = 2 := by have h := hDef.out; rw [hR] at h; exact ⟨h.1, h.2⟩
      have hbe : bytesE ⟨N, la, lh, ln⟩ = 2 := by rw [hBe.out, hR]; rfl
      have HBe := Ythkjodlddhdeiaa.base.Shut.mk hbe
      clear hDef hBe hBk hR hbe
      go_enter Try.func51, Try.ntmps51
      go_wp2_with fail
      refine HH.out.1.mono ?_
      rintro e w1 ⟨rfl, hb1⟩
      have hr1 := HH.out.2.2.1.below hb1
      have hs1 := HH.out.2.1.mono hb1
      have z0 : w1.cell? ⟨w.heap.size, 0, none⟩ = some (.int .i64 lt) := hr1.cell 0
      have g0 := hr1.frozen 0
      obtain ⟨V1, hV1⟩ : ∃ V1, w1.setCell ⟨w.heap.size, 0, none⟩ (.int .i64 N) = V1 := ⟨_, rfl⟩
      have hr2 : Row V1 w.heap.size (Lb.cells ⟨N, la, lh, ln⟩) 81 := by rw [← hV1]; exact hr1.set 0 _
      have hs2 : St w0 V1 d D' ∧ KeepL w V1 := by rw [← hV1]; exact ⟨st_own hs1 hr1 HQ.out 0 _, fun p cs hr => ((HH.out.2.2.2.2.2.2.trans (keep_below hb1)) p cs hr).other _ _ _ (by have := hr.lt; omega)⟩
      have a0 : V1.cell? ⟨w.heap.size, 0, none⟩ = some (.int .i64 N) := hr2.cell 0
      have a1 : V1.cell? ⟨w.heap.size, 1, none⟩ = some (.int .i64 la) := hr2.cell 1
      have a2 : V1.cell? ⟨w.heap.size, 2, none⟩ = some (.int .i64 lh) := hr2.cell 2
      have a3 : V1.cell? ⟨w.heap.size, 3, none⟩ = some (.string ln) := hr2.cell 3
      have H2 := Ythkjodlddhdeiaa.base.Shut.mk hs2
      clear hb1 hr1 hs1 hr2 hs2
      go_wp2_with fail
      refine (HH.out.2.2.2.1 _).mono ?_
      rintro e w2 ⟨rfl, hb2⟩
      rw [HBe.out]
      have H3 := Ythkjodlddhdeiaa.base.Shut.mk (And.intro (H2.out.1.mono hb2) (H2.out.2.trans (keep_below hb2)))
      clear hb2
      go_wp2
      go_ret
      exact ⟨rfl, H3.out.1, H3.out.2⟩
    | true =>
      obtain ⟨_, hI, hN1, hN2⟩ := HH.out.2.2.2.2.2.1 rfl
      have hbe : bytesE ⟨N, la, lh, ln⟩ = 0 := by rw [hBe.out, hR]; rfl
      have HBe := Ythkjodlddhdeiaa.base.Shut.mk hbe
      have hlen := HH.out.2.2.2.2.1 hR
      have hp := put_ok N (bytesL ⟨N, la, lh, ln⟩) hN1 hN2 (by omega)
      have hbl := put_len N (bytesL ⟨N, la, lh, ln⟩) (by omega)
      have hput := fun u : World => puts_walk N ⟨(bytesL ⟨N, la, lh, ln⟩).toArray⟩ u
      simp only at hput
      rw [hp.1, hp.2, ← hBk.out] at hput
      rw [← hBk.out] at hbl
      have HP := Ythkjodlddhdeiaa.base.Shut.mk (And.intro hput hbl)
      have hD : D' = (if writeE D I 512 = 0 then flushD (writeD D I bk) else writeD D I bk) ∧ E' = (if writeE D I 512 = 0 then flushE (writeD D I bk) else writeE D I 512) := by
        have h := hDef.out; rw [hR] at h; exact h
      have HD := Ythkjodlddhdeiaa.base.Shut.mk hD
      clear hDef hBe hBk hR hbe hlen hp hput hbl hD hI hN1 hN2
      go_enter Try.func51, Try.ntmps51
      go_wp2_with fail
      refine HH.out.1.mono ?_
      rintro e w1 ⟨rfl, hb1⟩
      have hr1 := HH.out.2.2.1.below hb1
      have hs1 := HH.out.2.1.mono hb1
      have z0 : w1.cell? ⟨w.heap.size, 0, none⟩ = some (.int .i64 lt) := hr1.cell 0
      have g0 := hr1.frozen 0
      obtain ⟨V1, hV1⟩ : ∃ V1, w1.setCell ⟨w.heap.size, 0, none⟩ (.int .i64 N) = V1 := ⟨_, rfl⟩
      have hr2 : Row V1 w.heap.size (Lb.cells ⟨N, la, lh, ln⟩) 81 := by rw [← hV1]; exact hr1.set 0 _
      have hs2 : St w0 V1 d D ∧ KeepL w V1 := by rw [← hV1]; exact ⟨st_own hs1 hr1 HQ.out 0 _, fun p cs hr => ((HH.out.2.2.2.2.2.2.trans (keep_below hb1)) p cs hr).other _ _ _ (by have := hr.lt; omega)⟩
      have a0 : V1.cell? ⟨w.heap.size, 0, none⟩ = some (.int .i64 N) := hr2.cell 0
      have a1 : V1.cell? ⟨w.heap.size, 1, none⟩ = some (.int .i64 la) := hr2.cell 1
      have a2 : V1.cell? ⟨w.heap.size, 2, none⟩ = some (.int .i64 lh) := hr2.cell 2
      have a3 : V1.cell? ⟨w.heap.size, 3, none⟩ = some (.string ln) := hr2.cell 3
      have H2 := Ythkjodlddhdeiaa.base.Shut.mk hs2
      clear hb1 hr1 hs1 hr2 hs2
      go_wp2_with fail
      refine (HH.out.2.2.2.1 _).mono ?_
      rintro e w2 ⟨rfl, hb2⟩
      rw [HBe.out]
      have h2 := And.intro (H2.out.1.mono hb2) (H2.out.2.trans (keep_below hb2))
      have H3 := Ythkjodlddhdeiaa.base.Shut.mk h2
      clear hb2 h2 a0 a1 a2 a3 hV1 z0 g0
      go_wp2_with fail
      refine (HP.out.1 _).mono ?_
      rintro e w3 ⟨rfl, hb3⟩
      have h3 := H3.out.1.mono hb3
      have hk3 := H3.out.2.trans (keep_below hb3)
      have hwr := write_keep h3 I bk (by rw [HP.out.2]; decide) (by have := HW.out; omega)
      rw [HP.out.2] at hwr
      have H4 := Ythkjodlddhdeiaa.base.Shut.mk (And.intro hwr hk3)
      clear hb3 h3 hwr hk3
      go_wp2_with fail
      refine H4.out.1.mono ?_
      rintro e w4 ⟨rfl, h4, hk4⟩
      have H5 := Ythkjodlddhdeiaa.base.Shut.mk (And.intro h4 (H4.out.2.trans hk4))
      clear h4 hk4
      obtain ⟨wE, hwE⟩ : ∃ x, writeE D I 512 = x := ⟨_, rfl⟩
      rw [hwE] at HD ⊢
      by_cases hz : wE = 0
      · subst hz
        have hfl := flush_keep H5.out.1 (by have := writeD_W D I bk; have := HW.out; omega)
        have HF := Ythkjodlddhdeiaa.base.Shut.mk hfl
        clear hfl
        obtain ⟨rfl, rfl⟩ : D' = flushD (writeD D I bk) ∧ E' = flushE (writeD D I bk) := HD.out
        clear HD
        go_wp2_with fail
        refine HF.out.mono ?_
        rintro e w5 ⟨rfl, h5, hk5⟩
        have H6 := Ythkjodlddhdeiaa.base.Shut.mk (And.intro h5 (H5.out.2.trans hk5))
        clear h5 hk5
        go_wp2
        go_ret
        exact ⟨rfl, H6.out.1, H6.out.2⟩
      · obtain ⟨rfl, rfl⟩ : D' = writeD D I bk ∧ E' = wE := by have h := HD.out; rw [if_neg hz, if_neg hz] at h; exact h
        clear HD
        go_wp2
        go_ret
        exact ⟨rfl, H5.out.1, H5.out.2⟩
  · obtain ⟨rfl, rfl⟩ : D' = D ∧ E' = E := by have h := hDef.out; rw [if_neg hE, if_neg hE] at h; exact h
    clear hDef hBe hBk
    go_enter Try.func51, Try.ntmps51
    go_wp2_with fail
    refine HH.out.1.mono ?_
    rintro e w1 ⟨rfl, hb1⟩
    have H1 := Ythkjodlddhdeiaa.base.Shut.mk (And.intro (HH.out.2.1.mono hb1) (HH.out.2.2.2.2.2.2.trans (keep_below hb1)))
    clear hb1
    go_wp2
    go_ret
    exact ⟨rfl, H1.out.1, H1.out.2⟩
end Go.Proofs.Ythkjodlddhdeiaa.label
