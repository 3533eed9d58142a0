/- The walk of a log's Trim. -/
import Derived.Test.YthkjodlddhdeiaaWalOps
import Derived.IntWalk
namespace Go.Proofs.Ythkjodlddhdeiaa.wal
open Go.ChangeShapes Go.WideShapes Go.ChangeAt Go.RowKit
open Ythkjodlddhdeiaa.base Ythkjodlddhdeiaa.disk
open Ythkjodlddhdeiaa.oct (Reads)

theorem str_size (w : World) : (sizeOf 9).run Try.prog w = .ok 1 w := by
  obtain ⟨i, hi, hz, hs, hb⟩ := info_parts oct.info_str
  simp [sizeOf, typeInfo, hi, hs]
def fromA (A : Option Addr) (cap k : Nat) : Option Addr := if cap = k then A else A.map (·.add k)
theorem run_from (A : Option Addr) (n cap k : Nat) (h : k ≤ n) (hc : n ≤ cap) (w : World) : (Instr.slice 53 (.slice A n cap) (some (.int .i64 (k : Int))) none none).run Try.prog w = .ok (.slice (fromA A cap k) (n - k) (cap - k)) w := by
  have h1 : (k : Int) ≤ (n : Int) := by omega
  have h2 : (n : Int) ≤ (cap : Int) := by omega
  simp [Instr.slice, run_underlying Try.underlying53, Instr.sliceBounds, Instr.sliceBound, asIntOf, h, h1, str_size, fromA]
theorem reads_from {w : World} {A : Option Addr} {ss : List ByteArray} (h : Reads w A ss) (cap k : Nat) (hc : ss.length ≤ cap) : Reads w (fromA A cap k) (ss.drop k) := by
  intro hne
  have hk : k < ss.length := by
    apply Nat.lt_of_not_le
    intro hle
    exact hne (List.drop_eq_nil_of_le hle)
  obtain ⟨b, off, rfl, hlt, hcell⟩ := h (fun e => by rw [e] at hk; simp at hk)
  refine ⟨b, off + k, ?_, hlt, fun i s hi => ?_⟩
  · unfold fromA
    rw [if_neg (by omega)]
    simp [Addr.add_mid]
  · rw [List.getElem?_drop] at hi
    rw [show off + k + i = off + (k + i) from by omega]
    exact hcell _ _ hi
theorem reads_cells {w : World} {ad : Addr} {ss : List ByteArray} (h : Reads w (some ad) ss) : ∀ j u, (oct.strs ss)[j]? = some u → w.cell? (ad.add j) = some u := by
  intro j u hj
  have hne : ss ≠ [] := fun e => by rw [e] at hj; simp [oct.strs] at hj
  obtain ⟨b, off, he, hlt, hc⟩ := h hne
  cases he
  rw [Addr.add_mid]
  unfold oct.strs at hj
  rw [List.getElem?_map] at hj
  obtain ⟨s, hs, rfl⟩ := Option.map_eq_some_iff.1 hj
  exact hc _ _ hs
/-- the log's records lie in a row that was not there -/
def FreshRow (w w' : World) (l : Nat) : Prop := ∀ rv g, w'.cell? ⟨l, 4, none⟩ = some rv → rv.ownBlock = some g → w.heap.size ≤ g
section
attribute [local go_sem ↓] emptyS appS
set_option maxRecDepth 100000 in
set_option maxHeartbeats 400000 in
/-- slices.Clone of whatever reads as strings -/
theorem clone_reads {w : World} {A : Option Addr} {cap : Nat} {ss : List ByteArray} (h : Reads w A ss) (h63 : ss.length ≤ 1000000) (hnil : A = none → ss = [] ∧ cap = 0) :
    Calls Try.prog 75 #[.slice A ss.length cap] w fun e w' => ∃ A' cap', e = .returned (.slice A' ss.length cap') ∧ w'.ownsRow w.heap.size 9 1 (.slice A' ss.length cap') ss.length (oct.strs ss) ∧ Below w.heap.size w w' := by
  obtain ⟨i, hi, hz, hs, hb⟩ := info_parts oct.info_str
  cases A with
  | none =>
    obtain ⟨rfl, rfl⟩ := hnil rfl
    have heq := Lib.run_eql_slice_nil (P := Try.prog) w 53 9 none 0 0 0 0 Try.underlying53
    clear hi hz hs hb h63 h hnil
    go_enter Try.func75, Try.ntmps75
    go_wp2
    go_ret
    exact ⟨none, 0, rfl, World.ownsRow_nil _ _ _ _, same _⟩
  | some ad =>
    have heq := Lib.run_eql_slice_nil (P := Try.prog) w 53 9 (some ad) ss.length cap 0 0 Try.underlying53
    have hnl : (w.alloc (.cells #[] 9)).ownsRow w.heap.size 9 1 (.slice (some ⟨w.heap.size, 0, none⟩) 0 0) 0 [] :=
      ⟨by simp, .inr ⟨w.heap.size, 0, #[], rfl, Nat.le_refl _, heap_alloc_new _ _, Nat.le_refl _, Nat.zero_le _, by simp, by simp⟩⟩
    have hlen : (oct.strs ss).length = ss.length * 1 := by simp [oct.strs]
    obtain ⟨v', w6, hrun, hown, hgrow, hnn⟩ := run_append_own (P := Try.prog) (w := w.alloc (.cells #[] 9)) w.heap.size 53 53 9 i _ 1 16 Try.underlying53 hi hz hs hb rfl (by decide) _ 0 [] hnl ad ss.length cap (oct.strs ss) hlen
      (fun j u hj => by
        have hc := reads_cells h j u hj
        rw [World.cell?_alloc_lt _ _ _ (World.block_lt_of_cell? w _ hc)]
        exact hc) (strs_one ss) (by unfold maxLen; omega) (by omega) (by simp)
    rw [Nat.zero_add, List.nil_append] at hown
    have hb1 : Below w.heap.size w w6 := (newer (same w) (.cells #[] 9)).grown hgrow (by simp) (fun k hk => by cases hk; exact Nat.le_refl _)
    obtain ⟨A', cap', rfl⟩ := row_val hown
    have hemp := run_empty 53 9 i Try.underlying53 hi w
    have HO := Ythkjodlddhdeiaa.base.Shut.mk (And.intro hown hb1)
    clear hi hz hs hb hlen h63 hown hb1 hgrow hnn hnl h hnil
    rw [emptyS] at hemp
    rw [appS] at hrun
    go_enter Try.func75, Try.ntmps75
    go_wp2
    go_ret
    exact ⟨A', cap', rfl, HO.out.1, HO.out.2⟩
end
def shutFromS (v k : Value) : Sem Value := Instr.slice 53 v (some k) none none
theorem fromS (v k : Value) : Instr.slice 53 v (some k) none none = shutFromS v k := rfl
attribute [local go_sem ↓] fromS
set_option maxRecDepth 100000 in
set_option maxHeartbeats 800000 in
theorem trim_walk {w : World} {base l d : Nat} {G : Lg} (hl : LogAt w base l d G) (hbase : base ≤ w.heap.size) (k : Nat) (hk : k ≤ G.recs.length) :
    Calls Try.prog 38 #[pl l, .int .i64 ((G.tail : Int) + (k : Int))] w fun e w' => e = .returned (.int .i64 0) ∧ LogAt w' base l d { G with tail := G.tail + k, recs := G.recs.drop k } ∧ Only [l] w w' ∧ FreshRow w w' l := by
  have HM := Ythkjodlddhdeiaa.base.Shut.mk (there_walk hl)
  have hhead := head_walk hl
  obtain ⟨A, cap, c0, c1, c2, c3, c4, cf, hr⟩ := hl.cells
  have hcap : G.recs.length ≤ cap ∧ (A = none → G.recs = [] ∧ cap = 0) := by
    obtain ⟨hx, ⟨h1, h2⟩ | ⟨g, cap', cur, h1, h2, h3, h4, _⟩⟩ := hr
    · simp only [Value.slice.injEq] at h1
      exact ⟨by omega, fun _ => ⟨List.eq_nil_of_length_eq_zero h2, h1.2.2⟩⟩
    · simp only [Value.slice.injEq] at h1
      exact ⟨by omega, fun h => by rw [h] at h1; cases h1.1⟩
  have hsl := fun u : World => run_from A G.recs.length cap k hk hcap.1 u
  have hreads : Reads w A G.recs := Reads.of_own hr
  have hlen : (G.recs.drop k).length = G.recs.length - k := List.length_drop
  have hclone := fun (u : World) (hb : Below w.heap.size w u) => clone_reads (cap := cap - k) (reads_from (hreads.keep hb) cap k hcap.1) (by rw [hlen]; have := hl.wf.full; have := hl.wf.room; omega)
    (fun h => by
      unfold fromA at h
      have hA : A = none := by
        split at h
        · exact h
        · cases A with
          | none => rfl
          | some a => cases h
      obtain ⟨h1, h2⟩ := hcap.2 hA
      rw [h1, h2]
      exact ⟨by simp, by omega⟩)
  rw [hlen] at hclone
  obtain ⟨A', hA'⟩ : ∃ A', A' = fromA A cap k := ⟨_, rfl⟩
  rw [← hA'] at hclone
  simp only [← hA'] at hsl
  have hfin : ∀ (w1 w2 : World) (A2 : Option Addr) (cap2 : Nat), Below w.heap.size w w1 → w2.ownsRow w1.heap.size 9 1 (.slice A2 (G.recs.length - k) cap2) (G.recs.length - k) (oct.strs (G.recs.drop k)) → Below w1.heap.size w1 w2 →
      LogAt ((w2.setCell ⟨l, 4, none⟩ (.slice A2 (G.recs.length - k) cap2)).setCell ⟨l, 3, none⟩ (.int .i64 ((G.tail : Int) + (k : Int)))) base l d { G with tail := G.tail + k, recs := G.recs.drop k } ∧ Only [l] w ((w2.setCell ⟨l, 4, none⟩ (.slice A2 (G.recs.length - k) cap2)).setCell ⟨l, 3, none⟩ (.int .i64 ((G.tail : Int) + (k : Int)))) ∧ FreshRow w ((w2.setCell ⟨l, 4, none⟩ (.slice A2 (G.recs.length - k) cap2)).setCell ⟨l, 3, none⟩ (.int .i64 ((G.tail : Int) + (k : Int)))) l := by
    intro w1 w2 A2 cap2 hb1 hrow hb2
    have hb : Below w.heap.size w w2 := hb1.trans (hb2.mono hb1.size)
    have hl2 := hl.below hb
    obtain ⟨hw, hlo, rv, r1, r2⟩ := hl2
    refine ⟨⟨⟨hw.n1, hw.room, ?_, ?_⟩, hlo, .slice A2 (G.recs.length - k) cap2, ?_, ?_⟩, ?_, ?_⟩
    · show G.tail + k + (G.recs.drop k).length ≤ _
      rw [hlen]
      have := hw.far
      omega
    · show (G.recs.drop k).length ≤ G.n
      rw [hlen]
      have := hw.full
      omega
    · have h3 := heap_setCell_same _ _ 3 _ _ (.int .i64 ((G.tail : Int) + (k : Int))) (heap_setCell_same _ _ 4 _ _ (.slice A2 (G.recs.length - k) cap2) r1)
      rw [← Int.natCast_add]
      rw [← Int.natCast_add] at h3
      exact h3
    · show World.ownsRow _ base _ _ _ (G.recs.drop k).length _
      rw [hlen]
      have hrow' := low_row hrow (base := base) (Nat.le_trans hbase hb1.size)
      refine row_kept hrow' (fun g hg => ?_)
      obtain ⟨_, cu, hc⟩ := row_type hrow' g hg
      have hne : g ≠ l := fun e => by rw [e] at hc; exact absurd (obj_type hc r1) (by decide)
      rw [Below.heap_setCell _ _ _ _ hne, Below.heap_setCell _ _ _ _ hne]
    · exact ((Only.of_below [l] hb).trans (Only.cell _ _ _ _)).trans (Only.cell _ _ _ _)
    · intro rv' g hc hg
      have h3 := heap_setCell_same _ _ 3 _ _ (.int .i64 ((G.tail : Int) + (k : Int))) (heap_setCell_same _ _ 4 _ _ (.slice A2 (G.recs.length - k) cap2) r1)
      rw [cell_of_row _ _ 4 _ _ _ h3] at hc
      have hv : rv' = .slice A2 (G.recs.length - k) cap2 := by simpa using hc.symm
      rw [hv] at hg
      exact Nat.le_trans hb1.size (row_type hrow g hg).1
  have hlw : l < w.heap.size := World.block_lt_of_cell? w _ c0
  have hk1 : (k : Int) ≤ (G.recs.length : Int) := by omega
  have hk0 : (0 : Int) ≤ (k : Int) := by omega
  have hb1 : (G.tail : Int) + (G.recs.length : Int) ≤ 1125899906842624 := by have := hl.wf.far; omega
  have HH := Ythkjodlddhdeiaa.base.Shut.mk (And.intro hhead (And.intro hclone (And.intro hfin hlw)))
  have HC := Ythkjodlddhdeiaa.base.Shut.mk (And.intro c3 (And.intro c4 cf))
  have HRL := Ythkjodlddhdeiaa.base.Shut.mk hlen
  clear hhead hclone hfin hlw hreads hlen hcap hr hl hbase hk hA' c0 c1 c2 cf
  simp only [fromS] at hsl
  have hsub : IntKind.i64.wrap ((G.tail : Int) + (k : Int) - (G.tail : Int)) = (k : Int) := by
    rw [show (G.tail : Int) + (k : Int) - (G.tail : Int) = (k : Int) from by omega]
    exact IntWalk.i64_in _ (by omega)
  go_enter Try.func38, Try.ntmps38
  go_wp2_with fail
  refine HM.out.mono ?_
  rintro e w0 ⟨rfl, rfl⟩
  go_wp2_with fail
  refine HH.out.1.mono ?_
  rintro e w1 ⟨rfl, hb1'⟩
  have HB1 := Ythkjodlddhdeiaa.base.Shut.mk hb1'
  have d3 : w1.cell? ⟨l, 3, none⟩ = some (.int .i64 G.tail) := by rw [hb1'.cell HH.out.2.2.2]; exact c3
  have d4 : w1.cell? ⟨l, 4, none⟩ = some (.slice A G.recs.length cap) := by rw [hb1'.cell HH.out.2.2.2]; exact c4
  clear hb1' c3 c4
  go_wp2
  go_region_with (first | (go_at_call 75; (with_reducible refine Calls.mono (HH.out.2.1 _ (HB1.out.drew)) ?_); rintro e w2 ⟨A2, cap2, rfl, hrow2, hb2⟩; have HC2 := Ythkjodlddhdeiaa.base.Shut.mk (And.intro hrow2 hb2); have f3 : w2.cell? ⟨l, 3, none⟩ = some (.int .i64 G.tail) := (by rw [hb2.cell (p := ⟨l, 3, none⟩) (Nat.lt_of_lt_of_le HH.out.2.2.2 HB1.out.size)]; exact d3); have f4 : w2.cell? ⟨l, 4, none⟩ = some (.slice A G.recs.length cap) := (by rw [hb2.cell (p := ⟨l, 4, none⟩) (Nat.lt_of_lt_of_le HH.out.2.2.2 HB1.out.size)]; exact d4); have fz : ∀ i, w2.frozen? ⟨l, i, none⟩ = false := (fun i => by rw [hb2.frozen (p := ⟨l, i, none⟩) (Nat.lt_of_lt_of_le HH.out.2.2.2 HB1.out.size)]; show w1.frozen? _ = false; rw [HB1.out.frozen (p := ⟨l, i, none⟩) HH.out.2.2.2]; exact HC.out.2.2 i); clear hrow2 hb2))
  all_goals
    have hfin := HH.out.2.2.1 w1.drew w2 A2 cap2 (HB1.out.drew) HC2.out.1 HC2.out.2
    have HF := Ythkjodlddhdeiaa.base.Shut.mk hfin
    clear hfin
    go_wp2
    go_ret
    exact ⟨rfl, HF.out.1, HF.out.2.1, HF.out.2.2⟩
end Go.Proofs.Ythkjodlddhdeiaa.wal
