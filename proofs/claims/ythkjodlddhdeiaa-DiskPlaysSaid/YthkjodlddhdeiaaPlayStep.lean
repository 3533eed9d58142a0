/- A call of both disks. -/
import Derived.Test.YthkjodlddhdeiaaPlayBase
import Derived.Deep.RegionHeld3
namespace Go.Proofs.Ythkjodlddhdeiaa.disk
open Go.ChangeShapes Go.WideShapes Go.ChangeAt Go.RowKit
open Ythkjodlddhdeiaa.base

def stepD (D : Dk) (x : ActV) : Dk :=
  if x.kind = 0 then writeD D x.i (blkL x.a x.b) else if x.kind = 1 then D else if x.kind = 2 then flushD D else if x.kind = 3 then armD D x.i else if x.kind = 4 then crashD D x.fates else writeD D x.i (shortL x.i)
/-- what is seen is what was flushed, with what is loose -/
def Seen (D : Dk) : Prop := D.S = applyW D.F D.W
theorem seen_write {D : Dk} (h : Seen D) (i : Int) (l : List UInt8) : Seen (writeD D i l) := by
  unfold Seen at h ⊢
  unfold writeD
  split
  · split
    · rw [burnD_S, burnD_F, burnD_W]; exact h
    · show setBlk D.S i.toNat l = applyW (burnD D).F (D.W ++ [(i.toNat, l)])
      rw [burnD_F]
      unfold applyW at h ⊢
      rw [List.foldl_append, ← h]
      rfl
  · exact h
theorem seen_step {D : Dk} (h : Seen D) (x : ActV) : Seen (stepD D x) := by
  unfold stepD
  split
  · exact seen_write h _ _
  split
  · exact h
  split
  · unfold flushD
    split
    · exact h
    split
    · unfold Seen; rw [burnD_S, burnD_F, burnD_W]; exact h
    · show (burnD D).S = applyW (applyW D.F D.W) []
      rw [burnD_S]
      exact h
  split
  · unfold armD
    split
    · exact h
    · exact h
  split
  · exact rfl
  · exact seen_write h _ _
theorem writeD_len (D : Dk) (i : Int) (l : List UInt8) : (writeD D i l).W.length ≤ D.W.length + 1 := by
  unfold writeD
  split
  · split
    · rw [burnD_W]; omega
    · show (D.W ++ [_]).length ≤ _
      simp
  · omega
theorem step_len (D : Dk) (x : ActV) : (stepD D x).W.length ≤ D.W.length + 1 := by
  unfold stepD
  split
  · exact writeD_len _ _ _
  split
  · omega
  split
  · unfold flushD
    split
    · omega
    split
    · rw [burnD_W]; omega
    · exact Nat.zero_le _
  split
  · unfold armD
    split
    · omega
    · show D.W.length ≤ _; omega
  split
  · exact Nat.zero_le _
  · exact writeD_len _ _ _
/-- the call's own box -/
def Box (q : Nat) (C : Array Value) (w : World) : Prop := w.heap[q]? = some (.cells C 51 (0, 0))
theorem Box.keep {q : Nat} {C : Array Value} {base : Nat} {u w' : World} (h : Box q C u) (ho : OnlyT base aT u w') : Box q C w' := ho.obj h (by decide)
theorem Box.below {q : Nat} {C : Array Value} {u w' : World} (h : Box q C u) (hb : Below u.heap.size u w') : Box q C w' := (OnlyT.of_below (base := 0) (ts := aT) hb).obj h (by decide)
theorem Box.cell {q : Nat} {C : Array Value} {w : World} (h : Box q C w) (i : Nat) : w.cell? ⟨q, i, none⟩ = C[i]? := cell_of_row w q i C _ _ h
def StayQ (q : Nat) (u w' : World) : Prop := ∀ i v, u.cell? ⟨q, i, none⟩ = some v → w'.cell? ⟨q, i, none⟩ = some v
theorem stayQ {q : Nat} {C : Array Value} {base : Nat} {u w' : World} (h : Box q C u) (ho : OnlyT base aT u w') : Ythkjodlddhdeiaa.base.Shut (StayQ q u w') := ⟨fun i v hc => by rw [(h.keep ho).cell, ← h.cell]; exact hc⟩
theorem stay1 {q i : Nat} {a : Value} {u w' : World} (hs : Ythkjodlddhdeiaa.base.Shut (StayQ q u w')) (h : u.cell? ⟨q, i, none⟩ = some a) : w'.cell? ⟨q, i, none⟩ = some a := hs.out _ _ h
set_option maxRecDepth 100000 in
set_option maxHeartbeats 1600000 in
theorem step_walk {w0 w : World} {d r : Nat} {D : Dk} (h : Half w0 w d r D D) (hS : Seen D) (hW : D.W.length ≤ 1000) (x : ActV) (fa : Option Addr) (fcap : Nat) (hi : -9223372036854775808 ≤ x.i ∧ x.i ≤ 9223372036854775807)
    (hfv : ArgFates w0 w0 (.slice fa x.fates.length fcap) x.fates) :
    Calls Try.prog 28 #[pd d, pd r, .agg #[.int .i64 x.kind, .int .i64 x.i, .int .u8 (x.a.toNat : Int), .int .u8 (x.b.toNat : Int), .slice fa x.fates.length fcap]] w fun e w' => e = .returned (.bool true) ∧ HTo w0 w d r (stepD D x) (stepD D x) w' := by
  obtain ⟨q, hq⟩ : ∃ q, w.heap.size = q := ⟨_, rfl⟩
  obtain ⟨V, hV⟩ : ∃ V, w.alloc (.cells #[.int .i64 x.kind, .int .i64 x.i, .int .u8 (x.a.toNat : Int), .int .u8 (x.b.toNat : Int), .slice fa x.fates.length fcap] 51) = V := ⟨_, rfl⟩
  have hB : Below w.heap.size w V := by rw [← hV]; exact newer (same w) _
  have hX : Box q #[.int .i64 x.kind, .int .i64 x.i, .int .u8 (x.a.toNat : Int), .int .u8 (x.b.toNat : Int), .slice fa x.fates.length fcap] V := by rw [← hV, ← hq]; exact heap_alloc_new _ _
  have hH := h.mono hB
  have hO : OnlyT w0.heap.size aT w V := OnlyT.of_below hB
  have x0 : V.cell? ⟨q, 0, none⟩ = some (.int .i64 x.kind) := hX.cell 0
  have x1 : V.cell? ⟨q, 1, none⟩ = some (.int .i64 x.i) := hX.cell 1
  have x2 : V.cell? ⟨q, 2, none⟩ = some (.int .u8 (x.a.toNat : Int)) := hX.cell 2
  have x3 : V.cell? ⟨q, 3, none⟩ = some (.int .u8 (x.b.toNat : Int)) := hX.cell 3
  have x4 : V.cell? ⟨q, 4, none⟩ = some (.slice fa x.fates.length fcap) := hX.cell 4
  have hways : x.kind = 0 ∨ ((x.kind == 0) = false ∧ x.kind = 1) ∨ ((x.kind == 0) = false ∧ (x.kind == 1) = false ∧ x.kind = 2) ∨ ((x.kind == 0) = false ∧ (x.kind == 1) = false ∧ (x.kind == 2) = false ∧ x.kind = 3) ∨ ((x.kind == 0) = false ∧ (x.kind == 1) = false ∧ (x.kind == 2) = false ∧ (x.kind == 3) = false ∧ x.kind = 4) ∨
      ((x.kind == 0) = false ∧ (x.kind == 1) = false ∧ (x.kind == 2) = false ∧ (x.kind == 3) = false ∧ (x.kind == 4) = false) := by
    simp only [beq_eq_false_iff_ne, ne_eq]
    omega
  have hDef : stepD D x = if x.kind = 0 then writeD D x.i (blkL x.a x.b) else if x.kind = 1 then D else if x.kind = 2 then flushD D else if x.kind = 3 then armD D x.i else if x.kind = 4 then crashD D x.fates else writeD D x.i (shortL x.i) := rfl
  have HD := Ythkjodlddhdeiaa.base.Shut.mk hDef
  have HH := Ythkjodlddhdeiaa.base.Shut.mk (And.intro hH (And.intro hO (And.intro hX (And.intro hS (And.intro hW hfv)))))
  have HWb := Ythkjodlddhdeiaa.base.Shut.mk (show D.W.length ≤ 100000 by omega)
  clear hB hX hH hO h hDef hS hW hfv
  generalize stepD D x = D' at HD ⊢
  generalize x.kind = kd at *
  rcases hways with rfl | ⟨n0, rfl⟩ | ⟨n0, n1, rfl⟩ | ⟨n0, n1, n2, rfl⟩ | ⟨n0, n1, n2, n3, rfl⟩ | ⟨n0, n1, n2, n3, n4⟩
  · have HF := Ythkjodlddhdeiaa.base.Shut.mk (show D' = writeD D x.i (blkL x.a x.b) from HD.out)
    have hblk := fun u : World => block_walk x.a x.b u
    have hl := blkL_len x.a x.b
    have HBk := Ythkjodlddhdeiaa.base.Shut.mk (And.intro hblk hl)
    clear hblk HD hl
    generalize blkL x.a x.b = B at HBk HF
    go_enter Try.func28, Try.ntmps28
    go_wp2_with fail
    refine (HBk.out.1 _).mono ?_
    rintro e w1 ⟨rfl, hb1⟩
    have hbx := (HH.out.2.2.1.below hb1).below (drewn (same w1))
    have hh := (HH.out.1.mono hb1).mono (drewn (same w1))
    have y1 : w1.cell? ⟨q, 1, none⟩ = some (.int .i64 x.i) := (HH.out.2.2.1.below hb1).cell 1
    have hc := half_write hh x.i B (by rw [HBk.out.2]; decide) (by have := HH.out.2.2.2.2.1; omega)
    have H1 := Ythkjodlddhdeiaa.base.Shut.mk (And.intro hc (And.intro hbx (OnlyT.of_below (base := w0.heap.size) (ts := aT) (chain hb1 (drewn (same w1))))))
    clear hb1 hbx hh hc
    obtain ⟨E, hE⟩ : ∃ E, E = writeE D x.i B.length := ⟨_, rfl⟩
    rw [← hE] at H1
    have HE := Ythkjodlddhdeiaa.base.Shut.mk hE
    clear hE
    go_wp2
    go_region_held3 (fun w' => w'.cell? ⟨q, 1, none⟩ = some (.int .i64 x.i))
      (first | exact stay1 ‹_› ‹_› | go_keep)
      (first | (go_at_call 21; (with_reducible refine Calls.mono H1.out.1 ?_); rintro e w2 ⟨rfl, hh2, ho2⟩; have hst2 := stayQ H1.out.2.1 ho2; have H2 := Ythkjodlddhdeiaa.base.Shut.mk (And.intro (half_rwrite hh2 x.i B HWb.out) (And.intro ho2 (H1.out.2.1.keep ho2))); clear hh2 ho2) | (go_at_call 63; (with_reducible refine Calls.mono H2.out.1 ?_); rintro e w3 ⟨rfl, hh3, ho3⟩; have hst3 := stayQ H2.out.2.2 ho3; have H3 := Ythkjodlddhdeiaa.base.Shut.mk (And.intro hh3 ho3); clear hh3 ho3))
    go_wp2
    go_ret
    refine ⟨?_, by rw [HF.out]; exact ⟨H3.out.1, (HH.out.2.1.trans H1.out.2.2).trans (H2.out.2.1.trans H3.out.2)⟩⟩
    show Ending.returned (.bool (E == writeE D x.i B.length)) = _
    rw [← HE.out, beq_self_eq_true]
  · have HF := Ythkjodlddhdeiaa.base.Shut.mk (show D' = D from HD.out)
    have hr1 := half_read HH.out.1 x.i
    have hr2 := half_rread HH.out.1 HH.out.2.2.2.1 (by have := HH.out.2.2.2.2.1; omega) x.i
    have HR := Ythkjodlddhdeiaa.base.Shut.mk (And.intro hr1 hr2)
    clear hr1 hr2 HD
    generalize readS D x.i = R at HR
    generalize mayE D x.i = E at HR
    go_enter Try.func28, Try.ntmps28
    go_wp2_with fail
    refine HR.out.1.mono ?_
    rintro e w1 ⟨rfl, rfl⟩
    go_wp2_with fail
    refine HR.out.2.mono ?_
    rintro e w1 ⟨rfl, rfl⟩
    go_wp2
    go_ret
    exact ⟨rfl, by rw [HF.out]; exact ⟨HH.out.1, HH.out.2.1⟩⟩
  · have HF := Ythkjodlddhdeiaa.base.Shut.mk (show D' = flushD D from HD.out)
    have hr1 := half_flush HH.out.1 (by have := HH.out.2.2.2.2.1; omega)
    have HR := Ythkjodlddhdeiaa.base.Shut.mk hr1
    clear hr1 HD
    go_enter Try.func28, Try.ntmps28
    go_wp2_with fail
    refine HR.out.mono ?_
    rintro e w1 ⟨rfl, hh1, ho1⟩
    have H1 := Ythkjodlddhdeiaa.base.Shut.mk (And.intro (half_rflush hh1 (by have := HH.out.2.2.2.2.1; omega)) ho1)
    clear hh1 ho1
    generalize flushE D = E at H1 ⊢
    go_wp2_with fail
    refine H1.out.1.mono ?_
    rintro e w2 ⟨rfl, hh2, ho2⟩
    have H2 := Ythkjodlddhdeiaa.base.Shut.mk (And.intro hh2 ho2)
    clear hh2 ho2
    go_wp2
    go_ret
    exact ⟨rfl, by rw [HF.out]; exact ⟨H2.out.1, HH.out.2.1.trans (H1.out.2.trans H2.out.2)⟩⟩
  · have HF := Ythkjodlddhdeiaa.base.Shut.mk (show D' = armD D x.i from HD.out)
    have hbx := HH.out.2.2.1.below (drewn (same V))
    have hc := half_arm (HH.out.1.mono (drewn (same V))) x.i hi.2
    have H1 := Ythkjodlddhdeiaa.base.Shut.mk (And.intro hc (And.intro hbx (OnlyT.of_below (base := w0.heap.size) (ts := aT) (drewn (same V)))))
    have HI := Ythkjodlddhdeiaa.base.Shut.mk hi
    clear hbx hc HD
    obtain ⟨E, hE⟩ : ∃ E, E = armE D := ⟨_, rfl⟩
    rw [← hE] at H1
    have HE := Ythkjodlddhdeiaa.base.Shut.mk hE
    clear hE
    go_enter Try.func28, Try.ntmps28
    go_wp2
    go_region_held3 (fun w' => w'.cell? ⟨q, 1, none⟩ = some (.int .i64 x.i))
      (first | exact stay1 ‹_› ‹_› | go_keep)
      (first | (go_at_call 34; (with_reducible refine Calls.mono H1.out.1 ?_); rintro e w2 ⟨rfl, hh2, ho2⟩; have hst2 := stayQ H1.out.2.1 ho2; have H2 := Ythkjodlddhdeiaa.base.Shut.mk (And.intro (half_rarm hh2 x.i HI.out) (And.intro ho2 (H1.out.2.1.keep ho2))); clear hh2 ho2) | (go_at_call 66; (with_reducible refine Calls.mono H2.out.1 ?_); rintro e w3 ⟨rfl, hh3, ho3⟩; have hst3 := stayQ H2.out.2.2 ho3; have H3 := Ythkjodlddhdeiaa.base.Shut.mk (And.intro hh3 ho3); clear hh3 ho3))
    go_wp2
    go_ret
    refine ⟨?_, by rw [HF.out]; exact ⟨H3.out.1, (HH.out.2.1.trans H1.out.2.2).trans (H2.out.2.1.trans H3.out.2)⟩⟩
    show Ending.returned (.bool (E == armE D)) = _
    rw [← HE.out, beq_self_eq_true]
  · have HF := Ythkjodlddhdeiaa.base.Shut.mk (show D' = crashD D x.fates from HD.out)
    have hr1 := half_rcrash HH.out.1 _ _ (HH.out.2.2.2.2.2.later HH.out.1.st.below) (by have := HH.out.2.2.2.2.1; omega)
    have HR := Ythkjodlddhdeiaa.base.Shut.mk hr1
    clear hr1 HD
    go_enter Try.func28, Try.ntmps28
    go_wp2_with fail
    refine HR.out.mono ?_
    rintro e w1 ⟨rfl, hh1, ho1⟩
    have y4 : w1.cell? ⟨q, 4, none⟩ = some (.slice fa x.fates.length fcap) := (HH.out.2.2.1.keep ho1).cell 4
    have H1 := Ythkjodlddhdeiaa.base.Shut.mk (And.intro (half_crash hh1 _ _ (HH.out.2.2.2.2.2.later hh1.st.below) (by have := HH.out.2.2.2.2.1; omega)) ho1)
    clear hh1 ho1
    go_wp2_with fail
    refine H1.out.1.mono ?_
    rintro e w2 ⟨rfl, hh2, ho2⟩
    have H2 := Ythkjodlddhdeiaa.base.Shut.mk (And.intro hh2 ho2)
    clear hh2 ho2
    go_wp2
    go_ret
    exact ⟨rfl, by rw [HF.out]; exact ⟨H2.out.1, HH.out.2.1.trans (H1.out.2.trans H2.out.2)⟩⟩
  · have hfin : D' = writeD D x.i (shortL x.i) := by
      rw [HD.out, if_neg (by simpa using n0), if_neg (by simpa using n1), if_neg (by simpa using n2), if_neg (by simpa using n3), if_neg (by simpa using n4)]
    have HF := Ythkjodlddhdeiaa.base.Shut.mk hfin
    have hbx := HH.out.2.2.1.below (drewn (same V))
    have hh := HH.out.1.mono (drewn (same V))
    have hsh := fun u : World => short_walk x.i u
    have hl : (shortL x.i).length ≤ 9223372036854775807 := by have := short_len x.i; omega
    generalize shortL x.i = B at hsh hl HF
    obtain ⟨E, hE⟩ : ∃ E, E = writeE D x.i B.length := ⟨_, rfl⟩
    have hc := fun (u : World) (hu : Half w0 u d r D D) => half_write hu x.i B hl HWb.out
    rw [← hE] at hc
    have HE := Ythkjodlddhdeiaa.base.Shut.mk hE
    have H1 := Ythkjodlddhdeiaa.base.Shut.mk (And.intro hsh (And.intro hbx (And.intro hh (And.intro hc (OnlyT.of_below (base := w0.heap.size) (ts := aT) (drewn (same V)))))))
    clear hbx hc HD hh hE hsh hl hfin
    go_enter Try.func28, Try.ntmps28
    go_wp2
    go_region_held3 (fun w' => w'.cell? ⟨q, 1, none⟩ = some (.int .i64 x.i))
      (first | exact stay1 ‹_› ‹_› | go_keep)
      (first | (go_at_call 21; (with_reducible refine Calls.mono (H1.out.2.2.2.1 _ H2.out.1) ?_); rintro e w3 ⟨rfl, hh3, ho3⟩; have hst3 := stayQ H2.out.2.1 ho3; have H3 := Ythkjodlddhdeiaa.base.Shut.mk (And.intro hh3 (And.intro (H2.out.2.1.keep ho3) ho3)); clear hh3 ho3) | (go_at_call 63; (with_reducible refine Calls.mono (half_rwrite H4.out.1 x.i B HWb.out) ?_); rintro e w5 ⟨rfl, hh5, ho5⟩; have hst5 := stayQ H4.out.2.1 ho5; have H5 := Ythkjodlddhdeiaa.base.Shut.mk (And.intro hh5 ho5); clear hh5 ho5) | (go_at_call 68; (with_reducible refine Calls.mono (H1.out.1 w3) ?_); rintro e w4 ⟨rfl, hb4⟩; have hst4 := stayQ H3.out.2.1 (OnlyT.of_below (base := w0.heap.size) hb4); have H4 := Ythkjodlddhdeiaa.base.Shut.mk (And.intro (H3.out.1.mono hb4) (And.intro (H3.out.2.1.below hb4) (OnlyT.of_below (base := w0.heap.size) (ts := aT) hb4))); clear hb4) | (go_at_call 68; (with_reducible refine Calls.mono (H1.out.1 _) ?_); rintro e w2 ⟨rfl, hb2⟩; have hst2 := stayQ H1.out.2.1 (OnlyT.of_below (base := w0.heap.size) hb2); have H2 := Ythkjodlddhdeiaa.base.Shut.mk (And.intro (H1.out.2.2.1.mono hb2) (And.intro (H1.out.2.1.below hb2) (OnlyT.of_below (base := w0.heap.size) (ts := aT) hb2))); clear hb2))
    go_wp2
    go_ret
    refine ⟨?_, by rw [HF.out]; exact ⟨H5.out.1, (HH.out.2.1.trans (H1.out.2.2.2.2.trans H2.out.2.2)).trans ((H3.out.2.2.trans H4.out.2.2).trans H5.out.2)⟩⟩
    show Ending.returned (.bool (E == writeE D x.i B.length)) = _
    rw [← HE.out, beq_self_eq_true]
end Go.Proofs.Ythkjodlddhdeiaa.disk
