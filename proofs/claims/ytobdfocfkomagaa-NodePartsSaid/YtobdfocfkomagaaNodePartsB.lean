/- How node.Parts stands: nodes in a row of its own, each with a row of pairs. -/
import Derived.Test.YtobdfocfkomagaaNodePartsOne
import Derived.Test.YtobdfocfkomagaaNodeEven
namespace Go.Proofs.Ytobdfocfkomagaa.node
open Go Go.ChangeShapes Go.WideShapes Go.ChangeAt Go.RowKit
open Ytobdfocfkomagaa.base (size_mk chain newer drewn same ba_ext)

/-- a part: where its pairs lie -/
structure Pt where
  g : Nat
  n : Nat
  c : Nat
  p : PL
def cellD (leaf : Bool) (d : Pt) : List Value := [.bool leaf, sv d.g d.n d.c]
def cellsD (leaf : Bool) (D : List Pt) : List Value := D.flatMap (cellD leaf)
theorem cellsD_len (leaf : Bool) (D : List Pt) : (cellsD leaf D).length = D.length * 2 := by
  induction D with
  | nil => rfl
  | cons x r ih => unfold cellsD at *; rw [List.flatMap_cons, List.length_append, ih, List.length_cons]; show 2 + _ = _; omega
theorem cellsD_app (leaf : Bool) (a b : List Pt) : cellsD leaf (a ++ b) = cellsD leaf a ++ cellsD leaf b := by unfold cellsD; rw [List.flatMap_append]
theorem cellsD_get (leaf : Bool) (D : List Pt) (i : Nat) (d : Pt) (h : D[i]? = some d) : (cellsD leaf D)[i * 2]? = some (.bool leaf) ∧ (cellsD leaf D)[i * 2 + 1]? = some (sv d.g d.n d.c) := by
  induction D generalizing i with
  | nil => simp at h
  | cons x r ih =>
    have e : cellsD leaf (x :: r) = .bool leaf :: sv x.g x.n x.c :: cellsD leaf r := rfl
    rw [e]
    cases i with
    | zero => obtain rfl : x = d := by simpa using h
              exact ⟨rfl, rfl⟩
    | succ i => rw [show (i + 1) * 2 = i * 2 + 1 + 1 by omega]; exact ih i (by simpa using h)
/-- the parts that are done -/
structure PartsAt (V wr : World) (leaf : Bool) (v : Value) (D : List Pt) : Prop where
  below : Below V.heap.size V wr
  own : wr.ownsRow V.heap.size 49 2 v D.length (cellsD leaf D)
  each : ∀ d ∈ D, wr.ownsRow V.heap.size 60 2 (sv d.g d.n d.c) d.n (cellsP d.p)
  up : D.Pairwise (fun a b => a.g < b.g)
theorem PartsAt.start (V : World) (leaf : Bool) : PartsAt V V leaf (.slice none 0 0) [] := ⟨same V, ⟨rfl, .inl ⟨rfl, rfl⟩⟩, (fun _ hd => absurd hd (List.not_mem_nil)), List.Pairwise.nil⟩
theorem PartsAt.keep {V wr w' : World} {leaf : Bool} {v : Value} {D : List Pt} (h : PartsAt V wr leaf v D) (hb : Below wr.heap.size wr w') : PartsAt V w' leaf v D :=
  ⟨chain h.below hb, own_keep h.own (fun g _ hg => hb.block g hg), fun d hd => own_keep (h.each d hd) (fun g _ hg => hb.block g hg), h.up⟩
/-- a part is laid behind -/
theorem PartsAt.more {V wr w5 : World} {leaf : Bool} {v : Value} {D : List Pt} (h : PartsAt V wr leaf v D) (hD : D.length ≤ 1000) {g m c : Nat} {seg : PL} (hb : Below wr.heap.size wr w5) (hown : w5.ownsRow wr.heap.size 60 2 (sv g m c) m (cellsP seg)) :
    ∃ v' w7, (Builtin.append_ #[51, 51] 51 #[v, .slice (some ⟨w5.heap.size, 0, none⟩) 1 1]).run Try.prog (w5.alloc (.cells #[.bool leaf, sv g m c] 49)) = .ok v' w7 ∧ PartsAt V w7 leaf v' (D ++ [⟨g, m, c, seg⟩]) ∧ (∃ o k, v' = .slice (some ⟨o, 0, none⟩) (D.length + 1) k) ∧ ∀ k cs t, Row w5 k cs t → t ≠ 49 → Row w7 k cs t := by
  have hb8 := newer (same w5) (.cells #[.bool leaf, sv g m c] 49)
  have h5 := (h.keep hb).keep hb8
  obtain ⟨W8, hW8⟩ : ∃ W8, w5.alloc (.cells #[.bool leaf, sv g m c] 49) = W8 := ⟨_, rfl⟩
  have hnew : W8.heap[w5.heap.size]? = some (.cells #[.bool leaf, sv g m c] 49 (0, 0)) := by rw [← hW8]; exact heap_alloc_new w5 _
  rw [hW8] at hb8 h5 ⊢
  obtain ⟨i, z, hi, hz, hs, hbt, hc⟩ := node_info
  obtain ⟨v', w7, hrun, hown7, hgrow, hnn⟩ := run_append_own (P := Try.prog) (w := W8) V.heap.size 51 51 49 i z 2 32 Try.underlying51 hi hz hs hbt hc (by decide) v D.length (cellsD leaf D) h5.own ⟨w5.heap.size, 0, none⟩ 1 1 [.bool leaf, sv g m c] rfl
    (World.news_of_block (cs := #[.bool leaf, sv g m c]) (t := 49) (fr := (0, 0)) hnew) (fun u hu => by simp at hu; rcases hu with rfl | rfl <;> rfl) (by unfold maxLen; omega) (by omega) h5.below.size
  have hsz : wr.heap.size ≤ W8.heap.size := Nat.le_trans hb.size hb8.size
  have hapart : ∀ (g' n' c' : Nat) (xs : List Value) (b : Nat), W8.ownsRow b 60 2 (sv g' n' c') n' xs → w7.ownsRow b 60 2 (sv g' n' c') n' xs := by
    intro g' n' c' xs b ho
    refine own_move ho ?_
    obtain ⟨cur, hr, _, _⟩ := own_row ho
    refine hgrow.block g' hr.lt (fun e => ?_)
    obtain ⟨_, ⟨hv, _⟩ | ⟨o, cap, curO, hv, _, hO, _⟩⟩ := h5.own
    · rw [hv] at e; cases e
    · rw [hv] at e
      have : g' = o := by simpa [Value.ownBlock] using e
      exact row_apart hr hO (by decide) this
  have hown8 := hapart _ _ _ _ _ (own_keep hown (fun g _ hg => hb8.block g hg))
  refine ⟨v', w7, hrun, ⟨?_, ?_, ?_, ?_⟩, ?_, fun k cs t hr ht => ?_⟩
  · refine h5.below.grown hgrow h5.below.size (fun k hk => ?_)
    exact (h5.own.lt k hk).1
  · rw [List.length_append, cellsD_app]
    exact hown7
  · intro d hd
    rcases List.mem_append.1 hd with hd | hd
    · exact hapart _ _ _ _ _ (h5.each d hd)
    · obtain rfl : d = ⟨g, m, c, seg⟩ := by simpa using hd
      obtain ⟨hl, hx | ⟨g', cap, cur, hv, hbg, r⟩⟩ := hown8
      · cases hx.1
      · exact ⟨hl, .inr ⟨g', cap, cur, hv, Nat.le_trans h.below.size hbg, r⟩⟩
  · refine List.pairwise_append.2 ⟨h.up, List.pairwise_singleton _ _, fun a ha b hb9 => ?_⟩
    obtain rfl : b = ⟨g, m, c, seg⟩ := by simpa using hb9
    have h1 := (own_row (h.each a ha)).choose_spec.1.lt
    have h2 := (own_row hown).choose_spec.2.1
    exact Nat.lt_of_lt_of_le h1 h2
  · obtain ⟨_, ⟨_, h0⟩ | ⟨o, cap, cur, hv, _⟩⟩ := hown7
    · omega
    · exact ⟨o, cap, hv⟩
  · have hr8 := hr.below hb8
    refine (hgrow.block k hr8.lt (fun e => ?_)).trans hr8
    obtain ⟨_, ⟨hv, _⟩ | ⟨o, cap, curO, hv, _, hO, _⟩⟩ := h5.own
    · rw [hv] at e; cases e
    · rw [hv] at e
      have : k = o := by simpa [Value.ownBlock] using e
      exact row_apart hr8 hO ht this
/-- nodes that may be read -/
def NReads (w : World) (O : Option Addr) (leaf : Bool) (P : List PL) : Prop := P ≠ [] → ∃ o, O = some ⟨o, 0, none⟩ ∧ o < w.heap.size ∧ ∀ i p, P[i]? = some p → ∃ g n c, w.cell? ⟨o, i * 2, none⟩ = some (.bool leaf) ∧ w.cell? ⟨o, i * 2 + 1, none⟩ = some (sv g n c) ∧ p.length = n ∧ PReads w (some ⟨g, 0, none⟩) p
theorem NReads.keep {w w' : World} {O : Option Addr} {leaf : Bool} {P : List PL} (h : NReads w O leaf P) (hb : Below w.heap.size w w') : NReads w' O leaf P := by
  intro hne
  obtain ⟨o, h1, h2, h3⟩ := h hne
  refine ⟨o, h1, Nat.lt_of_lt_of_le h2 hb.size, fun i p hi => ?_⟩
  obtain ⟨g, n, c, e1, e2, e3, e4⟩ := h3 i p hi
  exact ⟨g, n, c, (hb.cell h2).trans e1, (hb.cell h2).trans e2, e3, e4.keep hb⟩
def EvenOf (L P : List PL) : Prop := (L.length < 2 ∧ P = L) ∨ ∃ pre a b, L = pre ++ [a, b] ∧ P = pre ++ [(evenP a.length a b).1, (evenP a.length a b).2]
theorem own_cells {w : World} {base o n c : Nat} {e : TypeId} {xs : List Value} (h : w.ownsRow base e 2 (sv o n c) n xs) : ∃ cur, Row w o cur e ∧ base ≤ o ∧ n ≤ c ∧ ∀ (j : Nat) (v : Value), xs[j]? = some v → cur[j]? = some v := by
  obtain ⟨hl, ⟨h1, _⟩ | ⟨g', cap, cur, hv, hbg, hg, hle, hm, hs, ht⟩⟩ := h
  · cases h1
  · cases hv
    refine ⟨cur, hg, hbg, hle, fun j v hj => ?_⟩
    rw [← ht, List.getElem?_take] at hj
    split at hj
    · simpa using hj
    · cases hj
theorem Keep2.to_below {V w w' : World} {o g : Nat} (h : Keep2 w w' o g) (hb : Below V.heap.size V w) (ho : V.heap.size ≤ o) (hg : V.heap.size ≤ g) : Below V.heap.size V w' :=
  ⟨h.os.trans hb.os, h.tape.trans hb.tape, h.output.trans hb.output, Nat.le_trans hb.size h.size, fun k hk => (h.block k (Nat.lt_of_lt_of_le hk hb.size) (by omega) (by omega)).trans (hb.block k hk)⟩
theorem two_last {α : Type} (D : List α) (h : 2 ≤ D.length) : ∃ pre a b, D = pre ++ [a, b] := by
  have h1 : D ≠ [] := by intro e; rw [e] at h; simp at h
  have h2 : D.dropLast ≠ [] := by
    intro e
    have := congrArg List.length e
    rw [List.length_dropLast] at this
    simp at this
    omega
  refine ⟨D.dropLast.dropLast, D.dropLast.getLast h2, D.getLast h1, ?_⟩
  have e1 := List.dropLast_concat_getLast h2
  have e2 := List.dropLast_concat_getLast h1
  rw [show ∀ (x y : α) (l : List α), l ++ [x, y] = (l ++ [x]) ++ [y] from fun x y l => by simp, e1, e2]
set_option maxRecDepth 100000 in
set_option maxHeartbeats 400000 in
theorem even_few (a : Option Addr) (n c : Nat) (hn : n < 2) (w : World) : Calls Try.prog 65 #[.slice a n c] w fun e w' => e = .returned (.slice a n c) ∧ w = w' := by
  have h : (n : Int) < 2 := by omega
  go_enter Try.func65, Try.ntmps65
  go_wp2
  go_ret
  exact ⟨rfl, rfl⟩
theorem even_all (V w : World) (leaf : Bool) (o cap : Nat) (D : List Pt) (h : PartsAt V w leaf (sv o D.length cap) D) (h1 : 1 ≤ D.length) (h60 : D.length ≤ 1000) (hne : ∀ d ∈ D, d.p ≠ []) (hlen : (D.map (·.p)).flatten.length ≤ 60) (hnice : ∀ x ∈ (D.map (·.p)).flatten, x.1.size ≤ 300 ∧ x.2.size ≤ 600) :
    Calls Try.prog 65 #[sv o D.length cap] w fun e w' => e = .returned (sv o D.length cap) ∧ ∃ P, EvenOf (D.map (·.p)) P ∧ P.length = D.length ∧ NReads w' (some ⟨o, 0, none⟩) leaf P ∧ Below V.heap.size V w' := by
  obtain ⟨cur, hro, hbo, hle, hcs⟩ := own_cells h.own
  have hread : ∀ d ∈ D, d.p.length = d.n ∧ PReads w (some ⟨d.g, 0, none⟩) d.p := fun d hd => own_reads (h.each d hd)
  by_cases h2 : D.length < 2
  · refine (even_few _ _ _ h2 w).mono ?_
    rintro e w' ⟨rfl, rfl⟩
    refine ⟨rfl, D.map (·.p), .inl ⟨by simpa using h2, rfl⟩, by simp, fun _ => ⟨o, rfl, hro.lt, fun i p hi => ?_⟩, h.below⟩
    rw [List.getElem?_map] at hi
    obtain ⟨d, hd, rfl⟩ := Option.map_eq_some_iff.1 hi
    have hm := List.mem_of_getElem? hd
    have hg := cellsD_get leaf D i d hd
    exact ⟨d.g, d.n, d.c, row_at hro (hcs _ _ hg.1), row_at hro (hcs _ _ hg.2), (hread d hm).1, (hread d hm).2⟩
  · obtain ⟨pre, a, b, rfl⟩ := two_last D (by omega)
    have hk : (pre ++ [a, b]).length = pre.length + 2 := by simp
    have ha : (pre ++ [a, b])[pre.length]? = some a := by simp
    have hb : (pre ++ [a, b])[pre.length + 1]? = some b := by simp
    have hma : a ∈ pre ++ [a, b] := by simp
    have hmb : b ∈ pre ++ [a, b] := by simp
    have hga := cellsD_get leaf _ _ _ ha
    have hgb := cellsD_get leaf _ _ _ hb
    have hup := List.pairwise_append.1 h.up
    have hab : a.g < b.g := by
      have := hup.2.1
      simp at this
      exact this
    obtain ⟨ca, hra, hba, hna⟩ := own_row (h.each a hma)
    obtain ⟨cb, hrb, hbb, hnb⟩ := own_row (h.each b hmb)
    have hlen2 : a.p.length + b.p.length ≤ 60 := by
      simp only [List.map_append, List.map_cons, List.map_nil, List.flatten_append, List.flatten_cons, List.flatten_nil, List.append_nil, List.length_append] at hlen
      omega
    have hin : ∀ x ∈ a.p ++ b.p, x ∈ ((pre ++ [a, b]).map (·.p)).flatten := by
      intro x hx
      simp only [List.map_append, List.map_cons, List.map_nil, List.flatten_append, List.flatten_cons, List.flatten_nil, List.append_nil, List.mem_append] at hx ⊢
      exact .inr hx
    have hrda := hread a hma
    have hrdb := hread b hmb
    have hob := h.each b hmb
    rw [← hrdb.1] at hob
    have hw := even_walk leaf w V.heap.size o (pre ++ [a, b]).length cap a.g a.c b.g b.c cur a.p b.p (by omega) hle (by omega) hro
      (by rw [hk, show pre.length + 2 - 2 = pre.length by omega]; exact hcs _ _ hga.1) (by rw [hk, show pre.length + 2 - 1 = pre.length + 1 by omega]; exact hcs _ _ hgb.1)
      (by rw [hk, show pre.length + 2 - 2 = pre.length by omega, hrda.1]; exact hcs _ _ hga.2) (by rw [hk, show pre.length + 2 - 1 = pre.length + 1 by omega, hrdb.1]; exact hcs _ _ hgb.2)
      hrda.2 (by omega) ⟨hra.lt, row_apart hra hro (by decide), by omega⟩ hob (row_apart hrb hro (by decide)) h.below.size (hne a hma) (hne b hmb) hlen2 (fun x hx => hnice x (hin x hx))
    rw [hk, show pre.length + 2 - 2 = pre.length by omega] at hw
    rw [hk]
    refine hw.mono ?_
    rintro e w' ⟨rfl, gb', cb', pa', pb', hE, hev⟩
    have hbel := hE.keep.to_below h.below hbo hbb
    obtain ⟨O, hO, hT⟩ := hE.row
    have h3 : (evenP a.p.length a.p b.p).1 = pa' := by rw [← hev]
    have h4 : (evenP a.p.length a.p b.p).2 = pb' := by rw [← hev]
    refine ⟨rfl, pre.map (·.p) ++ [pa', pb'], .inr ⟨pre.map (·.p), a.p, b.p, by simp, by rw [h3, h4]⟩, by simp, fun _ => ⟨o, rfl, hO.lt, fun i p hi => ?_⟩, hbel⟩
    by_cases hip : i < pre.length
    · rw [List.getElem?_append_left (by simpa using hip), List.getElem?_map] at hi
      obtain ⟨d, hd, rfl⟩ := Option.map_eq_some_iff.1 hi
      have hd2 : (pre ++ [a, b])[i]? = some d := by rw [List.getElem?_append_left hip]; exact hd
      have hm := List.mem_of_getElem? hd2
      have hmp := List.mem_of_getElem? hd
      have hg := cellsD_get leaf _ _ _ hd2
      have hdb : d.g < b.g := hup.2.2 d hmp b (by simp)
      obtain ⟨cd, hrd, hbd, _⟩ := own_row (h.each d hm)
      refine ⟨d.g, d.n, d.c, row_at hO ((hT.other _ (by omega) (by omega)).trans (hcs _ _ hg.1)), row_at hO ((hT.other _ (by omega) (by omega)).trans (hcs _ _ hg.2)), (hread d hm).1, ?_⟩
      exact (hread d hm).2.move (hE.keep.block d.g hrd.lt (row_apart hrd hro (by decide)) (by omega))
    · by_cases hia : i = pre.length
      · subst hia
        obtain rfl : pa' = p := by simpa using hi
        obtain ⟨t, ht⟩ := hE.pre
        have hpr := hrda.2.move (hE.keep.block a.g hra.lt (row_apart hra hro (by decide)) (by omega))
        rw [ht] at hpr
        exact ⟨a.g, pa'.length, a.c, row_at hO ((hT.other _ (by omega) (by omega)).trans (hcs _ _ hga.1)), row_at hO hT.sa, rfl, hpr.pre⟩
      · have hi1 : i < (pre.map (·.p) ++ [pa', pb']).length := (List.getElem?_eq_some_iff.1 hi).1
        obtain rfl : i = pre.length + 1 := by simp at hi1; omega
        obtain rfl : pb' = p := by
          rw [List.getElem?_append_right (by simp)] at hi
          simpa using hi
        refine ⟨gb', pb'.length, cb', row_at hO ?_, row_at hO ?_, rfl, (own_reads hE.own).2⟩
        · rw [show (pre.length + 1) * 2 = pre.length * 2 + 2 by omega]
          exact (hT.other _ (by omega) (by omega)).trans (by rw [show pre.length * 2 + 2 = (pre.length + 1) * 2 by omega]; exact hcs _ _ hgb.1)
        · rw [show (pre.length + 1) * 2 + 1 = pre.length * 2 + 3 by omega]; exact hT.sb
end Go.Proofs.Ytobdfocfkomagaa.node
