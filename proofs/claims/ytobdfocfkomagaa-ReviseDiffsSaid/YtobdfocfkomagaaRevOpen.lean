/- How tables and changes are read out of an argument. -/
import Derived.Test.YtobdfocfkomagaaRevFrame
import Derived.Test.YtobdfocfkomagaaRevRApply
import Derived.Lib.SmallJoins
import Derived.Deep.Slices
import Derived.Deep.Fields
import Derived.ChangeSame
namespace Go.Proofs.Ytobdfocfkomagaa.rev
open Go.ChangeShapes Go.WideShapes Go.ChangeAt Go.RowKit Go.Deep
open Ytobdfocfkomagaa.base (size_mk chain newer drewn same ba_ext)
open Ytobdfocfkomagaa.row2 (Row CReads own_keep)

theorem exists_list {α : Type} (Q : Nat → α → Prop) : ∀ n, (∀ i, i < n → ∃ x, Q i x) → ∃ l : List α, l.length = n ∧ ∀ i x, l[i]? = some x → Q i x
  | 0, _ => ⟨[], rfl, fun i x h => by simp at h⟩
  | n + 1, h => by
    obtain ⟨l, hl, hq⟩ := exists_list Q n (fun i hi => h i (by omega))
    obtain ⟨x, hx⟩ := h n (by omega)
    refine ⟨l ++ [x], by simp [hl], fun i y hy => ?_⟩
    by_cases hi : i < n
    · rw [List.getElem?_append_left (by omega)] at hy
      exact hq i y hy
    · have h2 : i < (l ++ [x]).length := (List.getElem?_eq_some_iff.1 hy).1
      obtain rfl : i = n := by simp [hl] at h2; omega
      rw [List.getElem?_append_right (by omega), hl, Nat.sub_self] at hy
      cases hy
      exact hx
theorem flatMap_get {α : Type} (cf : α → List Value) (sz : Nat) (hcl : ∀ x, (cf x).length = sz) : ∀ (l : List α) (j : Nat) (v : Value), (l.flatMap cf)[j]? = some v → ∃ i x r, l[i]? = some x ∧ (cf x)[r]? = some v ∧ j = i * sz + r
  | [], j, v, h => by simp at h
  | x :: t, j, v, h => by
    rw [List.flatMap_cons] at h
    by_cases hj : j < sz
    · rw [List.getElem?_append_left (by rw [hcl]; exact hj)] at h
      exact ⟨0, x, j, rfl, h, by omega⟩
    · rw [List.getElem?_append_right (by rw [hcl]; omega), hcl] at h
      obtain ⟨i, y, r, h1, h2, h3⟩ := flatMap_get cf sz hcl t _ v h
      exact ⟨i + 1, y, r, h1, h2, by rw [Nat.succ_mul]; omega⟩
section
variable {H : Type} {enc : TypeId × Value → H} {P : Program} {w : World} {base : Nat} {held : Bool}
/-- a slice of elements of some cells each, opened -/
theorem open_list {α : Type} (cf : α → List Value) (ok : α → Prop) {t e : TypeId} {sz fuel : Nat} {cs : List Value} {x : DataW H × List MemPlace} (ht : P.underlying t = some (.slice e)) (hC : P.cellsOf e = sz) (hz : 0 < sz) (hcl : ∀ x : α, (cf x).length = sz)
    (hel : ∀ (n : Nat) (cs' : List Value) (y : DataW H × List MemPlace), cs'.length = sz → DataW.trod enc P w base (fun _ => true) held n e cs' = some y → ∃ x : α, cs' = cf x ∧ ok x)
    (h : DataW.trod enc P w base (fun _ => true) held fuel t cs = some x) :
    ∃ (A : Option Addr) (c : Nat) (l : List α), cs = [.slice A l.length c] ∧ l.length ≤ c ∧ c ≤ maxLen ∧ (A = none → l.length = 0 ∧ c = 0) ∧ CReads w A (l.flatMap cf) ∧ ∀ x ∈ l, ok x := by
  rcases open_slice ht h with h0 | ⟨a, len, cap, m, n, D, Pl, hcs, hb, hl, hm, hmm, hx, hi⟩
  · exact ⟨none, 0, [], h0.1, Nat.le_refl _, by decide, fun _ => ⟨rfl, rfl⟩, fun h => absurd rfl h, fun x hx => by cases hx⟩
  · have hmc : m = cap := by simpa using hmm
    obtain ⟨l, hll, hq⟩ := exists_list (fun i (x : α) => (∀ r v, (cf x)[r]? = some v → w.cell? (a.add (i * sz + r)) = some v) ∧ ok x) len (fun i hil => by
      obtain ⟨cs', hc, ht'⟩ := hi i (by omega)
      rw [hC] at hc
      obtain ⟨_, hcl', hat⟩ := World.cells?_some hc
      obtain ⟨x, rfl, hok⟩ := hel n cs' _ hcl' ht'
      refine ⟨x, fun r v hr => ?_, hok⟩
      have hrs : r < sz := by rw [← hcl']; exact (List.getElem?_eq_some_iff.1 hr).1
      have := hat r hrs
      rw [hr, add_add] at this
      exact this)
    subst hll
    refine ⟨some a, cap, l, hcs, hl, hm, (fun h => by cases h), fun hne => ?_, fun x hx => ?_⟩
    · cases l with
      | nil => exact absurd rfl hne
      | cons y t =>
        have hy := (hq 0 y rfl).1 0 ((cf y)[0]'(by rw [hcl]; exact hz)) (List.getElem?_eq_getElem _)
        have ha0 : a.add (0 * sz + 0) = a := by simp [Addr.add]
        rw [ha0] at hy
        obtain ⟨b, off, spot⟩ := a
        have hs := World.cell?_spot hy
        simp only at hs
        subst hs
        refine ⟨b, off, rfl, World.block_lt_of_cell? w _ hy, fun j v hj => ?_⟩
        obtain ⟨i, x, r, h1, h2, rfl⟩ := flatMap_get cf sz hcl _ j v hj
        have := (hq i x h1).1 r v h2
        rw [Addr.add_mid] at this
        exact this
    · obtain ⟨i, hi'⟩ := List.getElem?_of_mem hx
      exact (hq i x hi').2
/-- a struct of one-cell fields, its cells -/
theorem el_fields {e : TypeId} {fs : Array Field} {spare : Nat → Bool} {n : Nat} {cs : List Value} {x : DataW H × List MemPlace} (he : P.underlying e = some (.struct fs)) (hone : oneCellFields P fs = true) (h : DataW.trod enc P w base spare held n e cs = some x) :
    ∃ n', ∀ (j : Nat) (f : Field) (v : Value), fs[j]? = some f → cs[j]? = some v → ∃ y, DataW.trod enc P w base spare held n' f.type [v] = some y := by
  obtain ⟨ys, n', _, _, _, hyl, hf⟩ := DataW.trod_struct he h
  refine ⟨n', fun j f v hj hv => ?_⟩
  obtain ⟨ho, hk⟩ := hone_of hone j f hj
  have hjl : j < fs.size := (Array.getElem?_eq_some_iff.1 hj).1
  have h1 := hf j f hj
  rw [ho, hk] at h1
  obtain ⟨hlt, rfl⟩ := List.getElem?_eq_some_iff.1 hv
  have hone' : (cs.drop j).take 1 = [cs[j]] := by
    rw [List.drop_eq_getElem_cons hlt]
    rfl
  rw [hone'] at h1
  have hys : ys[j]? = some (ys[j]'(by omega)) := List.getElem?_eq_getElem (by omega)
  exact ⟨_, h1.trans hys⟩
end
theorem len2 {l : List Value} (h : l.length = 2) : ∃ a b, l = [a, b] := by
  match l, h with
  | [a, b], _ => exact ⟨a, b, rfl⟩
theorem len3 {l : List Value} (h : l.length = 3) : ∃ a b c, l = [a, b, c] := by
  match l, h with
  | [a, b, c], _ => exact ⟨a, b, c, rfl⟩
theorem len4 {l : List Value} (h : l.length = 4) : ∃ a b c d, l = [a, b, c, d] := by
  match l, h with
  | [a, b, c, d], _ => exact ⟨a, b, c, d, rfl⟩
section
variable {H : Type} {enc : TypeId × Value → H} {w : World} {base n : Nat} {cs : List Value} {y : DataW H × List MemPlace}
theorem strs_flat (l : List ByteArray) : l.flatMap (fun s => [Value.string s]) = oct.strs l := by
  induction l with
  | nil => rfl
  | cons x t ih => rw [List.flatMap_cons, ih]; rfl
theorem cells_string : Try.prog.cellsOf 9 = 1 := by kernel_rfl
theorem cells_value : Try.prog.cellsOf 123 = 3 := by kernel_rfl
theorem cells_column : Try.prog.cellsOf 121 = 3 := by kernel_rfl
theorem cells_rule : Try.prog.cellsOf 77 = 2 := by kernel_rfl
theorem cells_change : Try.prog.cellsOf 79 = 4 := by kernel_rfl
theorem cells_bool : Try.prog.cellsOf 4 = 1 := by kernel_rfl
theorem cells_int : Try.prog.cellsOf 3 = 1 := by kernel_rfl
theorem len1 {l : List Value} (h : l.length = 1) : ∃ a, l = [a] := by
  match l, h with
  | [a], _ => exact ⟨a, rfl⟩
theorem el_strs (h : DataW.trod enc Try.prog w base (fun _ => true) true n 75 cs = some y) : ∃ s : SI, cs = [s.v] ∧ SOk w s := by
  obtain ⟨A, c, l, rfl, hl, hc, _, hr, _⟩ := open_list (fun s : ByteArray => [Value.string s]) (fun _ => True) Try.underlying75 cells_string (by decide) (fun _ => rfl) (fun n' cs' y' hl h' => by
    obtain ⟨s, hs, _, _⟩ := DataW.trod_string Try.underlying9 h'
    exact ⟨s, hs, trivial⟩) h
  refine ⟨⟨A, c, l⟩, rfl, ⟨fun hne => ?_, Nat.le_trans hl hc⟩⟩
  rw [strs_flat] at hr
  obtain ⟨b, off, hA, hlt, hcell⟩ := hr (by intro e; apply hne; cases l with | nil => rfl | cons x t => cases e)
  exact ⟨b, off, hA, hlt, fun i s hi => hcell i _ (by unfold oct.strs; rw [List.getElem?_map, hi]; rfl)⟩
set_option maxRecDepth 100000 in
theorem el_value (hl : cs.length = 3) (h : DataW.trod enc Try.prog w base (fun _ => true) true n 123 cs = some y) : ∃ x : VI, cs = [.int .i64 x.k, .int .i64 x.n, .string x.s] := by
  have hst : ∃ f0 f1 f2, Try.prog.underlying 123 = some (.struct #[f0, f1, f2]) ∧ oneCellFields Try.prog #[f0, f1, f2] = true ∧ f0.type = 118 ∧ f1.type = 3 ∧ f2.type = 9 :=
    ⟨_, _, _, Try.underlying123, by kernel_rfl, rfl, rfl, rfl⟩
  obtain ⟨f0, f1, f2, hu, hone, t0, t1, t2⟩ := hst
  obtain ⟨n', hf⟩ := el_fields hu hone h
  obtain ⟨a, b, c, rfl⟩ := len3 hl
  obtain ⟨y0, h0⟩ := hf 0 f0 a rfl rfl
  obtain ⟨y1, h1⟩ := hf 1 f1 b rfl rfl
  obtain ⟨y2, h2⟩ := hf 2 f2 c rfl rfl
  rw [t0] at h0
  rw [t1] at h1
  rw [t2] at h2
  obtain ⟨k0, q0, _, _⟩ := DataW.trod_int Try.underlying118 h0
  obtain ⟨k1, q1, _, _⟩ := DataW.trod_int Try.underlying3 h1
  obtain ⟨k2, q2, _, _⟩ := DataW.trod_string Try.underlying9 h2
  simp only [List.cons.injEq, and_true] at q0 q1 q2
  subst q0 q1 q2
  exact ⟨⟨k0, k1, k2⟩, rfl⟩
theorem el_values (h : DataW.trod enc Try.prog w base (fun _ => true) true n 119 cs = some y) : ∃ o : OI, cs = [o.v] ∧ OOk w o := by
  obtain ⟨A, c, l, rfl, hl, hc, _, hr, _⟩ := open_list (fun x : VI => [Value.int .i64 x.k, .int .i64 x.n, .string x.s]) (fun _ => True) Try.underlying119 cells_value (by decide) (fun _ => rfl) (fun n' cs' y' hl h' => by
    obtain ⟨x, hx⟩ := el_value hl h'
    exact ⟨x, hx, trivial⟩) h
  exact ⟨⟨A, c, l⟩, rfl, ⟨hr, Nat.le_trans hl hc⟩⟩
set_option maxRecDepth 100000 in
theorem el_column (hl : cs.length = 3) (h : DataW.trod enc Try.prog w base (fun _ => true) true n 121 cs = some y) : ∃ x : KI, cs = [.string x.nm, .int .i64 x.kd, x.o.v] ∧ OOk w x.o := by
  have hst : ∃ f0 f1 f2, Try.prog.underlying 121 = some (.struct #[f0, f1, f2]) ∧ oneCellFields Try.prog #[f0, f1, f2] = true ∧ f0.type = 9 ∧ f1.type = 118 ∧ f2.type = 119 :=
    ⟨_, _, _, Try.underlying121, by kernel_rfl, rfl, rfl, rfl⟩
  obtain ⟨f0, f1, f2, hu, hone, t0, t1, t2⟩ := hst
  obtain ⟨n', hf⟩ := el_fields hu hone h
  obtain ⟨a, b, c, rfl⟩ := len3 hl
  obtain ⟨y0, h0⟩ := hf 0 f0 a rfl rfl
  obtain ⟨y1, h1⟩ := hf 1 f1 b rfl rfl
  obtain ⟨y2, h2⟩ := hf 2 f2 c rfl rfl
  rw [t0] at h0
  rw [t1] at h1
  rw [t2] at h2
  obtain ⟨k0, q0, _, _⟩ := DataW.trod_string Try.underlying9 h0
  obtain ⟨k1, q1, _, _⟩ := DataW.trod_int Try.underlying118 h1
  obtain ⟨o, q2, hok⟩ := el_values h2
  simp only [List.cons.injEq, and_true] at q0 q1 q2
  subst q0 q1 q2
  exact ⟨⟨k0, k1, o⟩, rfl, hok⟩
theorem el_columns (h : DataW.trod enc Try.prog w base (fun _ => true) true n 22 cs = some y) : ∃ o : FI, cs = [o.v] ∧ FOk w o := by
  obtain ⟨A, c, l, rfl, hl, hc, _, hr, hok⟩ := open_list (fun x : KI => [Value.string x.nm, .int .i64 x.kd, x.o.v]) (fun x => OOk w x.o) Try.underlying22 cells_column (by decide) (fun _ => rfl) (fun n' cs' y' hl h' => el_column hl h') h
  exact ⟨⟨A, c, l⟩, rfl, ⟨hr, Nat.le_trans hl hc, hok⟩⟩
set_option maxRecDepth 100000 in
theorem el_rule (hl : cs.length = 2) (h : DataW.trod enc Try.prog w base (fun _ => true) true n 77 cs = some y) : ∃ x : RI, cs = cellR x ∧ ROk w x := by
  have hst : ∃ f0 f1, Try.prog.underlying 77 = some (.struct #[f0, f1]) ∧ oneCellFields Try.prog #[f0, f1] = true ∧ f0.type = 75 ∧ f1.type = 75 :=
    ⟨_, _, Try.underlying77, by kernel_rfl, rfl, rfl⟩
  obtain ⟨f0, f1, hu, hone, t0, t1⟩ := hst
  obtain ⟨n', hf⟩ := el_fields hu hone h
  obtain ⟨a, b, rfl⟩ := len2 hl
  obtain ⟨y0, h0⟩ := hf 0 f0 a rfl rfl
  obtain ⟨y1, h1⟩ := hf 1 f1 b rfl rfl
  rw [t0] at h0
  rw [t1] at h1
  obtain ⟨s0, q0, k0⟩ := el_strs h0
  obtain ⟨s1, q1, k1⟩ := el_strs h1
  simp only [List.cons.injEq, and_true] at q0 q1
  subst q0 q1
  exact ⟨⟨s0, s1⟩, rfl, k0, k1⟩
theorem el_rules (h : DataW.trod enc Try.prog w base (fun _ => true) true n 25 cs = some y) : ∃ (A : Option Addr) (c : Nat) (rs : List RI), cs = [.slice A rs.length c] ∧ RL w A rs ∧ rs.length ≤ c ∧ c ≤ maxLen ∧ (A = none → rs.length = 0 ∧ c = 0) := by
  obtain ⟨A, c, l, rfl, hl, hc, hn, hr, hok⟩ := open_list cellR (ROk w) Try.underlying25 cells_rule (by decide) (fun _ => rfl) (fun n' cs' y' hl h' => el_rule hl h') h
  exact ⟨A, c, l, rfl, ⟨hr, hok⟩, hl, hc, hn⟩
set_option maxRecDepth 100000 in
theorem el_change (hl : cs.length = 4) (h : DataW.trod enc Try.prog w base (fun _ => true) true n 79 cs = some y) : ∃ x : CI, cs = x.cells.toList ∧ COk w x := by
  obtain ⟨xs, n', _, _, _, hlen, hf⟩ := DataW.trod_struct Try.underlying79 h
  obtain ⟨a, b, c, d, rfl⟩ := len4 hl
  have h0 := hf 0 _ rfl
  have h1 := hf 1 _ rfl
  have h2 := hf 2 _ rfl
  replace h0 : DataW.trod enc Try.prog w base (fun _ => true) true n' 4 (([a, b, c, d].drop 0).take (Try.prog.cellsOf 4)) = xs[0]? := h0
  replace h1 : DataW.trod enc Try.prog w base (fun _ => true) true n' 3 (([a, b, c, d].drop 1).take (Try.prog.cellsOf 3)) = xs[1]? := h1
  replace h2 : DataW.trod enc Try.prog w base (fun _ => true) true n' 77 (([a, b, c, d].drop 2).take (Try.prog.cellsOf 77)) = xs[2]? := h2
  rw [cells_bool] at h0
  rw [cells_int] at h1
  rw [cells_rule] at h2
  obtain ⟨x0, x1, x2, rfl⟩ : ∃ x0 x1 x2, xs = [x0, x1, x2] := by
    match xs, hlen with
    | [x0, x1, x2], _ => exact ⟨x0, x1, x2, rfl⟩
  obtain ⟨p, q0, _⟩ := DataW.trod_bool Try.underlying4 h0
  obtain ⟨i, q1, _, wf⟩ := DataW.trod_int Try.underlying3 h1
  obtain ⟨r, q2, k⟩ := el_rule rfl h2
  obtain rfl : a = .bool p := by simpa using q0
  obtain rfl : b = .int .i64 i := by simpa using q1
  have q3 : [c, d] = cellR r := q2
  refine ⟨⟨p, i, r⟩, ?_, k, bounds_i64 wf⟩
  show [Value.bool p, .int .i64 i] ++ [c, d] = _
  rw [q3]
  rfl
end
theorem len6 {l : List Value} (h : l.length = 6) : ∃ a b c d e f, l = [a, b, c, d, e, f] := by
  match l, h with
  | [a, b, c, d, e, f], _ => exact ⟨a, b, c, d, e, f, rfl⟩
theorem cells_table : Try.prog.cellsOf 27 = 6 := by kernel_rfl
theorem types_table : ∃ a b c d e, Try.prog.cellTypes Try.prog.depth 27 = some [a, b, c, d, e, 25] := by
  have h : (Try.prog.cellTypes Try.prog.depth 27).map (fun l => (l.length, l[5]?)) = some (6, some 25) := by kernel_rfl
  obtain ⟨l, hl, hh⟩ := Option.map_eq_some_iff.1 h
  simp only [Prod.mk.injEq] at hh
  match l, hh with
  | [a, b, c, d, e, f], ⟨_, h5⟩ => exact ⟨a, b, c, d, e, by rw [hl]; simpa using h5⟩
set_option maxRecDepth 100000 in
/-- a table, opened -/
theorem open_table {H : Type} {enc : TypeId × Value → H} {W : World} {b0 : Nat} {v : Value} {d : DataW H} {p : List MemPlace} (hv : Value.okWide Try.prog W .any b0 27 v)
    (h : DataW.Trod enc Try.prog W 0 (fun _ => true) true 27 v d p) : ∃ (t : TI) (A : Option Addr) (c : Nat) (rs : List RI), v = .agg (t.cells (.slice A rs.length c)) ∧ TOk W t ∧ RL W A rs ∧ rs.length ≤ c ∧ c ≤ maxLen ∧ (A = none → rs.length = 0 ∧ c = 0) ∧ ∀ a, A = some a → a.spot = none := by
  have hst : ∃ f0 f1 f2 f3 f4 f5, Try.prog.underlying 27 = some (.struct #[f0, f1, f2, f3, f4, f5]) ∧ oneCellFields Try.prog #[f0, f1, f2, f3, f4, f5] = true ∧ f0.type = 9 ∧ f1.type = 22 ∧ f2.type = 22 ∧ f3.type = 23 ∧ f4.type = 24 ∧ f5.type = 25 :=
    ⟨_, _, _, _, _, _, Try.underlying27, by kernel_rfl, rfl, rfl, rfl, rfl, rfl, rfl⟩
  obtain ⟨f0, f1, f2, f3, f4, f5, hu, hone, t0, t1, t2, t3, t4, t5⟩ := hst
  unfold Value.okWide at hv
  rw [hu] at hv
  obtain ⟨cs, rfl, hsz, ts, hts, _, hall⟩ := hv
  obtain ⟨fuel, hf⟩ := h
  rw [cells_table] at hsz
  obtain ⟨n', hff⟩ := el_fields hu hone hf
  obtain ⟨l⟩ := cs
  obtain ⟨a0, a1, a2, a3, a4, a5, rfl⟩ := len6 (by simpa using hsz)
  obtain ⟨y0, h0⟩ := hff 0 f0 a0 rfl rfl
  obtain ⟨y1, h1⟩ := hff 1 f1 a1 rfl rfl
  obtain ⟨y2, h2⟩ := hff 2 f2 a2 rfl rfl
  obtain ⟨y3, h3⟩ := hff 3 f3 a3 rfl rfl
  obtain ⟨y4, h4⟩ := hff 4 f4 a4 rfl rfl
  obtain ⟨y5, h5⟩ := hff 5 f5 a5 rfl rfl
  rw [t0] at h0
  rw [t1] at h1
  rw [t2] at h2
  rw [t3] at h3
  rw [t4] at h4
  rw [t5] at h5
  obtain ⟨k0, q0, _, _⟩ := DataW.trod_string Try.underlying9 h0
  obtain ⟨k1, q1, o1⟩ := el_columns h1
  obtain ⟨k2, q2, o2⟩ := el_columns h2
  obtain ⟨k3, q3, _, _⟩ := DataW.trod_int Try.underlying23 h3
  obtain ⟨k4, q4, _, _⟩ := DataW.trod_int Try.underlying24 h4
  obtain ⟨A, c, rs, q5, hrl, hlc, hcm, hnil⟩ := el_rules h5
  obtain rfl : a0 = .string k0 := by simpa using q0
  obtain rfl : a1 = k1.v := by simpa using q1
  obtain rfl : a2 = k2.v := by simpa using q2
  obtain rfl : a3 = .int .i64 k3 := by simpa using q3
  obtain rfl : a4 = .int .i64 k4 := by simpa using q4
  obtain rfl : a5 = .slice A rs.length c := by simpa using q5
  refine ⟨⟨k0, k1, k2, k3, k4⟩, A, c, rs, rfl, ⟨o1, o2⟩, hrl, hlc, hcm, hnil, ?_⟩
  rintro a rfl
  obtain ⟨u0, u1, u2, u3, u4, hty⟩ := types_table
  rw [hty] at hts
  cases hts
  obtain ⟨u, hu5, hok⟩ := hall 5 _ rfl
  obtain rfl : 25 = u := by simpa using hu5
  unfold Cell.okWide at hok
  rw [Try.underlying25] at hok
  unfold Cell.ok at hok
  simp only [Try.underlying25] at hok
  exact hok.2.2.2.1
set_option maxRecDepth 100000 in
/-- changes, opened -/
theorem open_changes {H : Type} {enc : TypeId × Value → H} {W : World} {b0 : Nat} {v : Value} {d : DataW H} {p : List MemPlace} (hv : Value.okWide Try.prog W .any b0 28 v)
    (h : DataW.Trod enc Try.prog W 0 (fun _ => true) true 28 v d p) : ∃ (A : Option Addr) (c : Nat) (l : List CI), v = .slice A l.length c ∧ CL W A l ∧ l.length ≤ c ∧ c ≤ maxLen ∧ (A = none → l.length = 0 ∧ c = 0) := by
  obtain ⟨a0, len, cap, rfl⟩ := okWide_slice Try.underlying28 hv
  obtain ⟨fuel, hf⟩ := h
  obtain ⟨A, c, l, hcs, hl, hc, hn, hr, hok⟩ := open_list (fun c : CI => c.cells.toList) (COk W) Try.underlying28 cells_change (by decide) (fun _ => rfl) (fun n' cs' y' hl h' => el_change hl h') hf
  have e : Value.slice a0 len cap = .slice A l.length c := by simpa [Value.cells] using hcs
  exact ⟨A, c, l, e, ⟨hr, hok⟩, hl, hc, hn⟩
end Go.Proofs.Ytobdfocfkomagaa.rev
