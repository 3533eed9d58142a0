/- The walk of 'do': one call. -/
import Derived.Test.YthkjodlddhdeiaaActs
import Derived.Deep.RegionHeld3
namespace Go.Proofs.Ythkjodlddhdeiaa.disk
open Go.ChangeShapes Go.WideShapes Go.ChangeAt Go.RowKit
open Ythkjodlddhdeiaa.base

def doD (D : Dk) (x : ActV) : Dk :=
  if x.kind = 0 then writeD D x.i (blkL x.a x.b) else if x.kind = 2 then flushD D else if x.kind = 3 then armD D x.i else if x.kind = 4 then crashD D x.fates else D
/-- cells of block q that stay -/
def Stay (q : Nat) (u w' : World) : Prop := ∀ i v, u.cell? ⟨q, i, none⟩ = some v → w'.cell? ⟨q, i, none⟩ = some v
theorem stay_below {q : Nat} {u w' : World} (h : Below u.heap.size u w') : Ythkjodlddhdeiaa.base.Shut (Stay q u w') := ⟨fun i v hc => by rw [h.cell (World.block_lt_of_cell? u _ hc)]; exact hc⟩
theorem stay_only {q : Nat} {l : List Nat} {u w' : World} (h : Only l u w') (hn : q ∉ l) : Ythkjodlddhdeiaa.base.Shut (Stay q u w') := ⟨fun i v hc => h.cellAt hc hn⟩
theorem stay3 {q i j k : Nat} {a b c : Value} {u w' : World} (hs : Ythkjodlddhdeiaa.base.Shut (Stay q u w')) (h : u.cell? ⟨q, i, none⟩ = some a ∧ u.cell? ⟨q, j, none⟩ = some b ∧ u.cell? ⟨q, k, none⟩ = some c) :
    w'.cell? ⟨q, i, none⟩ = some a ∧ w'.cell? ⟨q, j, none⟩ = some b ∧ w'.cell? ⟨q, k, none⟩ = some c := ⟨hs.out _ _ h.1, hs.out _ _ h.2.1, hs.out _ _ h.2.2⟩
/-- what a call does to a disk in its blocks -/
def Done (w : World) (base d f s : Nat) (D' : Dk) (e : Ending) (w' : World) : Prop := ∃ s', e = .returned (.tuple #[]) ∧ At w' base d f s' D' ∧ Only [d, f, s] w w' ∧ (s' = s ∨ w.heap.size ≤ s')
set_option maxRecDepth 100000 in
set_option maxHeartbeats 1600000 in
theorem do_walk {w : World} {base d f s : Nat} {D : Dk} (h : At w base d f s D) (hbase : base ≤ w.heap.size) (hW : D.W.length ≤ 100000) (x : ActV) (fv : Value) (hi : -9223372036854775808 ≤ x.i ∧ x.i ≤ 9223372036854775807)
    (hfv : Ints w fv x.fates) (hff : ∀ g o n c, fv = .slice (some ⟨g, o, none⟩) n c → 0 < n → g < base) (hfl : x.fates.length ≤ 9223372036854775807) (hfs : ∃ a c, fv = .slice a x.fates.length c) :
    Calls Try.prog 31 #[pd d, .agg #[.int .i64 x.kind, .int .i64 x.i, .int .u8 (x.a.toNat : Int), .int .u8 (x.b.toNat : Int), fv]] w (Done w base d f s (doD D x)) := by
  obtain ⟨fa, fcap, rfl⟩ := hfs
  obtain ⟨q, hq⟩ : ∃ q, w.heap.size = q := ⟨_, rfl⟩
  obtain ⟨V, hV⟩ : ∃ V, w.alloc (.cells #[.int .i64 x.kind, .int .i64 x.i, .int .u8 (x.a.toNat : Int), .int .u8 (x.b.toNat : Int), .slice fa x.fates.length fcap] 51) = V := ⟨_, rfl⟩
  have hB : Below w.heap.size w V := by rw [← hV]; exact newer (same w) _
  have hX : V.heap[q]? = some (.cells #[.int .i64 x.kind, .int .i64 x.i, .int .u8 (x.a.toNat : Int), .int .u8 (x.b.toNat : Int), .slice fa x.fates.length fcap] 51 (0, 0)) := by rw [← hV, ← hq]; exact heap_alloc_new _ _
  have hA := h.below hB
  have hqd : q ≠ d ∧ q ≠ s := by
    obtain ⟨fc, cs, lv, h1, h2, _⟩ := h.fields
    have := lt_of_obj h1
    obtain ⟨_, cu, hc⟩ := row_type h2 s rfl
    have := lt_of_obj hc
    omega
  have x0 : V.cell? ⟨q, 0, none⟩ = some (.int .i64 x.kind) := by rw [cell_of_row V q 0 _ _ _ hX]; rfl
  have x1 : V.cell? ⟨q, 1, none⟩ = some (.int .i64 x.i) := by rw [cell_of_row V q 1 _ _ _ hX]; rfl
  have x2 : V.cell? ⟨q, 2, none⟩ = some (.int .u8 (x.a.toNat : Int)) := by rw [cell_of_row V q 2 _ _ _ hX]; rfl
  have x3 : V.cell? ⟨q, 3, none⟩ = some (.int .u8 (x.b.toNat : Int)) := by rw [cell_of_row V q 3 _ _ _ hX]; rfl
  have x4 : V.cell? ⟨q, 4, none⟩ = some (.slice fa x.fates.length fcap) := by rw [cell_of_row V q 4 _ _ _ hX]; rfl
  have hints : Ints V (.slice fa x.fates.length fcap) x.fates := by
    rcases hfv with h | ⟨g, o, c, hv, hc⟩
    · exact .inl h
    · exact .inr ⟨g, o, c, hv, fun j y hj => by rw [hB.cell (World.block_lt_of_cell? w _ (hc j y hj))]; exact hc j y hj⟩
  have hcrash := crash_walk hA (Nat.le_trans hbase hB.size) _ x.fates hints (fun g o n c hg hn => by have := hff g o n c hg hn; have := hA.low.2.1; omega) hfl (by omega)
  have hflush := flush_walk hA (by omega)
  have harm := arm_walk hA x.i hi.2
  have hdrew := hA.below (drewn (same V))
  have hblk := fun u : World => block_walk x.a x.b u
  have hlb : (blkL x.a x.b).length ≤ 9223372036854775807 := by rw [blkL_len]; decide
  have hwr : ∀ w2 : World, Below V.drew.heap.size V.drew w2 → Calls Try.prog 21 #[pd d, .int .i64 x.i, .string ⟨(blkL x.a x.b).toArray⟩] w2 fun e w' => e = .returned (.int .i64 (writeE D x.i 512)) ∧ At w' base d f s (writeD D x.i (blkL x.a x.b)) ∧ Only [d, s] w2 w' := by
    intro w2 hb2
    have := write_walk (hdrew.below hb2) x.i (blkL x.a x.b) hlb (by omega)
    rw [blkL_len] at this
    exact this
  have hDef := Ythkjodlddhdeiaa.base.Shut.mk (show doD D x = if x.kind = 0 then writeD D x.i (blkL x.a x.b) else if x.kind = 2 then flushD D else if x.kind = 3 then armD D x.i else if x.kind = 4 then crashD D x.fates else D from rfl)
  have hways : x.kind = 0 ∨ ((x.kind == 0) = false ∧ x.kind = 2) ∨ ((x.kind == 0) = false ∧ (x.kind == 2) = false ∧ x.kind = 3) ∨ ((x.kind == 0) = false ∧ (x.kind == 2) = false ∧ (x.kind == 3) = false ∧ x.kind = 4) ∨
      ((x.kind == 0) = false ∧ (x.kind == 2) = false ∧ (x.kind == 3) = false ∧ (x.kind == 4) = false) := by
    simp only [beq_eq_false_iff_ne, ne_eq]
    omega
  have HS := Ythkjodlddhdeiaa.base.Shut.mk (And.intro hcrash (And.intro hflush (And.intro harm (And.intro hblk (And.intro hwr (And.intro hA hB))))))
  have hle : [d, s] ⊆ [d, f, s] ∧ [d, f] ⊆ [d, f, s] ∧ [d] ⊆ [d, f, s] := by simp
  have HL := Ythkjodlddhdeiaa.base.Shut.mk (And.intro hle (And.intro hqd hq))
  have hfz : ∀ i, V.frozen? ⟨q, i, none⟩ = false := fun i => by unfold World.frozen?; simp only [hX]; simp
  clear hcrash hflush harm hblk hwr hA hB hX hdrew hints hfv hff hfl h hlb hW hbase hle hfz hqd
  generalize x.kind = k at hDef hways x0 hV
  generalize x.i = i at HS hDef x1 hi hV
  generalize doD D x = D' at hDef
  rcases hways with rfl | ⟨n0, rfl⟩ | ⟨n0, n2, rfl⟩ | ⟨n0, n2, n3, rfl⟩ | ⟨n0, n2, n3, n4⟩
  · have hfin : D' = writeD D i (blkL x.a x.b) := by rw [hDef.out, if_pos rfl]
    have HFIN := Ythkjodlddhdeiaa.base.Shut.mk hfin
    clear hfin hDef
    go_enter Try.func31, Try.ntmps31
    go_wp2
    have hq3 : q ∉ [d, s] := by simpa using HL.out.2.1
    have HQ := Ythkjodlddhdeiaa.base.Shut.mk hq3
    clear hq3
    go_region_held3 (fun w' => w'.cell? ⟨q, 1, none⟩ = some (.int .i64 i) ∧ w'.cell? ⟨q, 2, none⟩ = some (.int .u8 (x.a.toNat : Int)) ∧ w'.cell? ⟨q, 3, none⟩ = some (.int .u8 (x.b.toNat : Int)))
      (first | exact stay3 ‹_› ‹_› | go_keep)
      (first | (go_at_call 22; (with_reducible refine Calls.mono (HS.out.2.2.2.1 _) ?_); rintro e w2 ⟨rfl, hb2⟩; have HB2 := Ythkjodlddhdeiaa.base.Shut.mk hb2; have hst2 := stay_below (q := q) hb2; clear hb2) | (go_at_call 21; (with_reducible refine Calls.mono (HS.out.2.2.2.2.1 _ HB2.out) ?_); rintro e w3 ⟨rfl, hA3, hO3⟩; have H3 := Ythkjodlddhdeiaa.base.Shut.mk (And.intro hA3 hO3); have hst3 := stay_only hO3 HQ.out; clear hA3 hO3))
    go_wp2
    have hO : Only [d, f, s] w w3 := ((Only.of_below _ HS.out.2.2.2.2.2.2).trans (((Only.refl _ _).drew).trans (Only.of_below _ HB2.out))).trans (H3.out.2.mono HL.out.1.1)
    go_end0
    exact ⟨s, rfl, by rw [HFIN.out]; exact H3.out.1, hO, .inl rfl⟩
  · have hfin : D' = flushD D := by rw [hDef.out, if_neg (by decide), if_pos rfl]
    have HFIN := Ythkjodlddhdeiaa.base.Shut.mk hfin
    clear hfin hDef
    go_enter Try.func31, Try.ntmps31
    go_wp2_with fail
    refine HS.out.2.1.mono ?_
    rintro e w3 ⟨rfl, hA3, hO3⟩
    have H3 := Ythkjodlddhdeiaa.base.Shut.mk (And.intro hA3 hO3)
    clear hA3 hO3
    go_wp2
    have hO : Only [d, f, s] w w3 := (Only.of_below _ HS.out.2.2.2.2.2.2).trans (H3.out.2.mono HL.out.1.2.1)
    go_end0
    exact ⟨s, rfl, by rw [HFIN.out]; exact H3.out.1, hO, .inl rfl⟩
  · have hfin : D' = armD D i := by rw [hDef.out, if_neg (by decide), if_neg (by decide), if_pos rfl]
    have HFIN := Ythkjodlddhdeiaa.base.Shut.mk hfin
    clear hfin hDef
    go_enter Try.func31, Try.ntmps31
    go_wp2_with fail
    refine HS.out.2.2.1.mono ?_
    rintro e w3 ⟨rfl, hA3, hO3⟩
    have H3 := Ythkjodlddhdeiaa.base.Shut.mk (And.intro hA3 hO3)
    clear hA3 hO3
    go_wp2
    have hO : Only [d, f, s] w w3 := (Only.of_below _ HS.out.2.2.2.2.2.2).trans (H3.out.2.mono HL.out.1.2.2)
    go_end0
    exact ⟨s, rfl, by rw [HFIN.out]; exact H3.out.1, hO, .inl rfl⟩
  · have hfin : D' = crashD D x.fates := by rw [hDef.out, if_neg (by decide), if_neg (by decide), if_neg (by decide), if_pos rfl]
    have HFIN := Ythkjodlddhdeiaa.base.Shut.mk hfin
    clear hfin hDef
    go_enter Try.func31, Try.ntmps31
    go_wp2_with fail
    refine HS.out.1.mono ?_
    rintro e w3 ⟨s', rfl, hs', hA3, hO3⟩
    have H3 := Ythkjodlddhdeiaa.base.Shut.mk (And.intro hA3 (And.intro hO3 hs'))
    clear hA3 hO3 hs'
    go_wp2
    have hO : Only [d, f, s] w w3 := (Only.of_below _ HS.out.2.2.2.2.2.2).trans (H3.out.2.1.mono HL.out.1.2.1)
    go_end0
    exact ⟨s', rfl, by rw [HFIN.out]; exact H3.out.1, hO, .inr (Nat.le_trans HS.out.2.2.2.2.2.2.size H3.out.2.2)⟩
  · have hfin : D' = D := by
      rw [hDef.out, if_neg (by simpa using n0), if_neg (by simpa using n2), if_neg (by simpa using n3), if_neg (by simpa using n4)]
    have HFIN := Ythkjodlddhdeiaa.base.Shut.mk hfin
    clear hfin hDef
    go_enter Try.func31, Try.ntmps31
    go_wp2
    have hO : Only [d, f, s] w V := Only.of_below _ HS.out.2.2.2.2.2.2
    go_end0
    exact ⟨s, rfl, by rw [HFIN.out]; exact HS.out.2.2.2.2.2.1, hO, .inl rfl⟩
end Go.Proofs.Ythkjodlddhdeiaa.disk
