/- The walks of a log's records: loaded, stored, cloned, trimmed. -/
import Derived.Test.YthkjodlddhdeiaaWalBase
import Derived.Test.YthkjodlddhdeiaaClone
import Derived.Test.YthkjodlddhdeiaaSealFacts
import Derived.Test.YthkjodlddhdeiaaSealTakeW
import Derived.Deep.RegionHeld3
namespace Go.Proofs.Ythkjodlddhdeiaa.wal
open Go.ChangeShapes Go.WideShapes Go.ChangeAt Go.RowKit
open Ythkjodlddhdeiaa.base Ythkjodlddhdeiaa.disk
open Ythkjodlddhdeiaa.oct (Reads)
open Ythkjodlddhdeiaa.seal (blockL putL putE puts_walk take_walk take_put put_ok put_len takeE takeN takeS arr_list)
open Ythkjodlddhdeiaa.crc (sealed)

section
def shutEmptyS : Sem Value := Instr.buildSlice 53 0 #[]
theorem emptyS : Instr.buildSlice 53 0 #[] = shutEmptyS := rfl
def shutAppS (args : Array Value) : Sem Value := Builtin.append_ #[53, 53] 53 args
theorem appS (args : Array Value) : Builtin.append_ #[53, 53] 53 args = shutAppS args := rfl
theorem strs_one (ss : List ByteArray) : ∀ u ∈ oct.strs ss, u.oneCell' = true := by
  intro u hu
  obtain ⟨s, _, rfl⟩ := List.mem_map.1 hu
  rfl
attribute [local go_sem ↓] emptyS appS
set_option maxRecDepth 100000 in
set_option maxHeartbeats 400000 in
theorem clone_strs {w : World} {base n : Nat} {v : Value} {ss : List ByteArray} (h : w.ownsRow base 9 1 v n (oct.strs ss)) (h63 : n ≤ 1000000) :
    Calls Try.prog 75 #[v] w (Cloned 9 1 n v (oct.strs ss) w) := by
  obtain ⟨i, hi, hz, hs, hb⟩ := info_parts oct.info_str
  obtain ⟨hl, ⟨rfl, rfl⟩ | ⟨g, cap, cur, rfl, hg1, hg2, hg3, hg4, hg5, hg6⟩⟩ := h
  · have heq := Lib.run_eql_slice_nil (P := Try.prog) w 53 9 none 0 0 0 0 Try.underlying53
    obtain rfl : ss = [] := List.eq_nil_of_length_eq_zero (by simpa [oct.strs] using hl)
    clear hi hz hs hb hl h63
    go_enter Try.func75, Try.ntmps75
    go_wp2
    go_ret
    exact ⟨_, rfl, World.ownsRow_nil _ _ _ _, same _, Iff.rfl⟩
  · have heq := Lib.run_eql_slice_nil (P := Try.prog) w 53 9 (some ⟨g, 0, none⟩) n cap 0 0 Try.underlying53
    obtain ⟨g6, cap6, w6, hrun, hown, hb6⟩ := clone_append (T := 53) Try.underlying53 hi hz hs hb rfl (by decide) (show w.ownsRow base 9 1 _ n (oct.strs ss) from ⟨hl, .inr ⟨g, cap, cur, rfl, hg1, hg2, hg3, hg4, hg5, hg6⟩⟩) (strs_one ss) (by unfold maxLen; omega) (by omega)
    have hemp := run_empty 53 9 i Try.underlying53 hi w
    have HO := Ythkjodlddhdeiaa.base.Shut.mk (And.intro hown hb6)
    clear hi hz hs hb hl h63 hown hb6 hg1 hg2 hg3 hg4 hg5 hg6
    rw [emptyS] at hemp
    rw [appS] at hrun
    go_enter Try.func75, Try.ntmps75
    go_wp2
    go_ret
    exact ⟨_, rfl, HO.out.1, HO.out.2, by simp⟩
end
set_option maxRecDepth 100000 in
set_option maxHeartbeats 400000 in
theorem records_walk {w : World} {base l d : Nat} {G : Lg} (h : LogAt w base l d G) :
    Calls Try.prog 42 #[pl l] w fun e w' => ∃ A cap, e = .returned (.slice A G.recs.length cap) ∧ w'.ownsRow w.heap.size 9 1 (.slice A G.recs.length cap) G.recs.length (oct.strs G.recs) ∧ Below w.heap.size w w' := by
  have HM := Ythkjodlddhdeiaa.base.Shut.mk (there_walk h)
  obtain ⟨A, cap, c0, c1, c2, c3, c4, cf, hr⟩ := h.cells
  have hC := clone_strs hr (by have := h.wf.full; have := h.wf.room; omega)
  have HC := Ythkjodlddhdeiaa.base.Shut.mk hC
  clear h hr hC
  go_enter Try.func42, Try.ntmps42
  go_wp2_with fail
  refine HM.out.mono ?_
  rintro e w1 ⟨rfl, rfl⟩
  go_wp2_with fail
  refine HC.out.mono ?_
  intro e w2 hcl
  obtain ⟨v', rfl, hr, hb, _⟩ := hcl
  obtain ⟨A', cap', rfl⟩ := row_val hr
  have HR := Ythkjodlddhdeiaa.base.Shut.mk (And.intro hr hb)
  clear hr hb
  go_wp2
  go_ret
  exact ⟨A', cap', rfl, HR.out.1, HR.out.2⟩
attribute [local go_sem ↓] Go.wp_at_zero Go.wp_at_succ
set_option maxRecDepth 100000 in
set_option maxHeartbeats 800000 in
theorem load_walk {w : World} {base l d f s : Nat} {G : Lg} {D : Dk} (hl : LogAt w base l d G) (ha : At w base d f s D) (p : Nat) (hp : p ≤ 1125899906842624) (hm : mayE D ((G.from_ + p % G.n : Nat) : Int) = 0) (t : ByteArray) (ht : t.size ≤ 490)
    (hr : readS D ((G.from_ + p % G.n : Nat) : Int) = sealed (blockL ((p : Int) + 1) t.data.toList)) :
    Calls Try.prog 70 #[pl l, .int .i64 (p : Int)] w fun e w' => e = .returned (.tuple #[.string t, .int .i64 0]) ∧ Below w.heap.size w w' := by
  have hlen : t.data.toList.length ≤ 490 := by simpa using ht
  obtain ⟨t1, t2, t3⟩ := take_put ((p : Int) + 1) t.data.toList hlen (by omega) (by omega)
  have hblk := fun (u : World) (hb : Below w.drew.heap.size w.drew u) => block_walk ((hl.below (drewn (same w))).below hb) p hp
  have hrd := fun (u : World) (hb : Below w.drew.heap.size w.drew u) => read_walk ((ha.below (drewn (same w))).below hb) ((G.from_ + p % G.n : Nat) : Int)
  rw [hm, hr] at hrd
  generalize hB : sealed (blockL ((p : Int) + 1) t.data.toList) = B at *
  have htk := fun (u : World) => take_walk (ByteArray.mk B.toArray) u
  rw [arr_list, t1, t2, t3] at htk
  have hte : (ByteArray.mk (t.data.toList).toArray) = t := by apply ba_ext; simp
  rw [hte] at htk
  obtain ⟨A, cap, c0, c1, c2, c3, c4, cf, _⟩ := hl.cells
  have HH := Ythkjodlddhdeiaa.base.Shut.mk (And.intro hblk (And.intro hrd htk))
  have hpp : (p : Int) ≤ 1125899906842624 := by omega
  generalize ((G.from_ + p % G.n : Nat) : Int) = q at *
  have hlw : l < w.heap.size := World.block_lt_of_cell? w _ c0
  have HLW := Ythkjodlddhdeiaa.base.Shut.mk hlw
  clear hblk hrd htk t1 t2 t3 hB hte hl ha hm hr hlen ht hp hlw
  go_enter Try.func70, Try.ntmps70
  go_wp2
  go_region_held3 (fun w' => w'.cell? ⟨l, 0, none⟩ = some (pd d))
    (first | exact (Ythkjodlddhdeiaa.base.Shut.out (p := Stay l _ _) ‹_›) _ _ ‹_› | go_keep)
    (first | (go_at_call 94; (with_reducible refine Calls.mono (HH.out.1 _ (same _)) ?_); rintro e w2 ⟨rfl, hb2⟩; have HB2 := Ythkjodlddhdeiaa.base.Shut.mk hb2; have hst2 := stay_below (q := l) hb2; clear hb2) | (go_at_call 25; (with_reducible refine Calls.mono (HH.out.2.1 _ HB2.out) ?_); rintro e w3 ⟨rfl, rfl⟩))
  go_wp2_with fail
  refine (HH.out.2.2 _).mono ?_
  rintro e w4 ⟨rfl, hb4⟩
  have HB4 := Ythkjodlddhdeiaa.base.Shut.mk ((((same w).drew).trans (HB2.out.mono (Nat.le_refl _))).trans (hb4.mono HB2.out.size))
  clear hb4
  have hpe : ((p : Int) + 1 != (p : Int) + 1) = false := by simp
  go_wp2
  go_ret2
  exact ⟨rfl, HB4.out⟩
/-- a place's block, stored -/
def putD (D : Dk) (k : Nat) (B : List UInt8) : Dk := { D with W := D.W ++ [(k, B)], S := setBlk D.S k B }
set_option maxRecDepth 100000 in
set_option maxHeartbeats 800000 in
theorem store_walk {w : World} {base l d f s : Nat} {G : Lg} {D : Dk} (hl : LogAt w base l d G) (ha : At w base d f s D) (p : Nat) (hp : p ≤ 1125899906842624) (hg : D.gone = false) (hz : D.fuse = -1) (hk : G.from_ + p % G.n < D.n) (t : ByteArray) (ht : t.size ≤ 490) (hW : D.W.length ≤ 1000000) :
    Calls Try.prog 74 #[pl l, .int .i64 (p : Int), .string t] w fun e w' => e = .returned (.int .i64 0) ∧ At w' base d f s (putD D (G.from_ + p % G.n) (sealed (blockL ((p : Int) + 1) t.data.toList))) ∧ LogAt w' base l d G ∧ Only [d, s] w w' := by
  have hlen : t.data.toList.length ≤ 490 := by simpa using ht
  obtain ⟨p1, p2⟩ := put_ok ((p : Int) + 1) t.data.toList (by omega) (by omega) hlen
  have hput := fun u : World => puts_walk ((p : Int) + 1) t u
  simp only [p1, p2] at hput
  have hBl := put_len ((p : Int) + 1) t.data.toList hlen
  generalize hB : sealed (blockL ((p : Int) + 1) t.data.toList) = B at *
  have hbig : B.length ≤ 9223372036854775807 := by rw [hBl]; decide
  obtain ⟨q, hq⟩ : ∃ q, q = G.from_ + p % G.n := ⟨_, rfl⟩
  have hblk := fun (w1 : World) (hb1 : Below w.heap.size w w1) (u : World) (hb : Below w1.drew.heap.size w1.drew u) => block_walk (((hl.below hb1).below (drewn (same w1))).below hb) p hp
  have hwr := fun (w1 : World) (hb1 : Below w.heap.size w w1) (u : World) (hb : Below w1.drew.heap.size w1.drew u) => write_walk (((ha.below hb1).below (drewn (same w1))).below hb) (q : Int) B hbig hW
  obtain ⟨e1, e2⟩ := write_free (D := D) (i := (q : Int)) (l := B) hg hz (by omega) (by omega) hBl
  simp only [e2] at hwr
  have hD : writeD D (q : Int) B = putD D q B := e1
  simp only [hD] at hwr
  rw [← hq] at *
  have hlo := fun (w1 : World) (hb1 : Below w.heap.size w w1) (u : World) (hb : Below w1.drew.heap.size w1.drew u) => ((hl.below hb1).below (drewn (same w1))).below hb
  have hao := fun (w1 : World) (hb1 : Below w.heap.size w w1) (u : World) (hb : Below w1.drew.heap.size w1.drew u) => ((ha.below hb1).below (drewn (same w1))).below hb
  obtain ⟨A, cap, c0, c1, c2, c3, c4, cf, _⟩ := hl.cells
  have hlw : l < w.heap.size := World.block_lt_of_cell? w _ c0
  have hld : l ∉ [d, s] := by
    obtain ⟨gc, gs, gl, g1, g2, g3, g4⟩ := ha.fields
    obtain ⟨a2, ha2⟩ := (row_type g2 s rfl).2
    obtain ⟨_, _, rv, r1, _⟩ := hl
    intro hm
    simp at hm
    rcases hm with rfl | rfl
    · exact absurd (obj_type r1 g1) (by decide)
    · exact absurd (obj_type r1 ha2) (by decide)
  have HH := Ythkjodlddhdeiaa.base.Shut.mk (And.intro hput (And.intro hblk (And.intro hwr (And.intro hlo (And.intro hao (And.intro hlw hld))))))
  have hpp : (p : Int) ≤ 1125899906842624 := by omega
  clear hput hblk hwr hlo hao hlw hld p1 p2 hBl hB hbig hq e1 e2 hD hl ha hlen ht hp hk hW hz hg c1 c2 c3 c4 cf
  go_enter Try.func74, Try.ntmps74
  go_wp2_with fail
  refine (HH.out.1 _).mono ?_
  rintro e w1 ⟨rfl, hb1⟩
  have HB1 := Ythkjodlddhdeiaa.base.Shut.mk hb1
  have c01 : w1.cell? ⟨l, 0, none⟩ = some (pd d) := by rw [hb1.cell HH.out.2.2.2.2.2.1]; exact c0
  clear hb1
  go_wp2
  go_region_held3 (fun w' => w'.cell? ⟨l, 0, none⟩ = some (pd d))
    (first | exact (Ythkjodlddhdeiaa.base.Shut.out (p := Stay l _ _) ‹_›) _ _ ‹_› | go_keep)
    (first | (go_at_call 94; (with_reducible refine Calls.mono (HH.out.2.1 _ HB1.out _ (same _)) ?_); rintro e w2 ⟨rfl, hb2⟩; have HB2 := Ythkjodlddhdeiaa.base.Shut.mk hb2; have hst2 := stay_below (q := l) hb2; clear hb2) | (go_at_call 21; (with_reducible refine Calls.mono (HH.out.2.2.1 _ HB1.out _ HB2.out) ?_); rintro e w3 ⟨rfl, hA3, hO3⟩; have H3 := Ythkjodlddhdeiaa.base.Shut.mk (And.intro hA3 hO3); have hst3 := stay_only hO3 HH.out.2.2.2.2.2.2; clear hA3 hO3))
  have hfin : LogAt w3 base l d G := (HH.out.2.2.2.1 _ HB1.out _ HB2.out).other (HH.out.2.2.2.2.1 _ HB1.out _ HB2.out) (H3.out.2.mono (by simp))
  have hon : Only [d, s] w w3 := (((Only.of_below _ HB1.out).trans ((Only.refl _ _).drew)).trans (Only.of_below _ HB2.out)).trans H3.out.2
  have HF := Ythkjodlddhdeiaa.base.Shut.mk (And.intro hfin hon)
  clear hfin hon
  go_wp2
  go_ret
  exact ⟨rfl, H3.out.1, HF.out.1, HF.out.2⟩
end Go.Proofs.Ythkjodlddhdeiaa.wal
