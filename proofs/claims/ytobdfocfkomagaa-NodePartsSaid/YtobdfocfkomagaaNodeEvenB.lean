/- How node.even stands: a row of nodes of which the last two turn. -/
import Derived.Test.YtobdfocfkomagaaNodeTakeB
import Derived.Test.YtobdfocfkomagaaNodePartsP
import Derived.Test.YtobdfocfkomagaaInsPair
namespace Go.Proofs.Ytobdfocfkomagaa.node
open Go Go.ChangeShapes Go.WideShapes Go.ChangeAt Go.RowKit
open Ytobdfocfkomagaa.base (size_mk chain newer drewn same ba_ext)
open Ytobdfocfkomagaa.oct (num num_len)

abbrev sv (g n c : Nat) : Value := .slice (some ⟨g, 0, none⟩) n c
/-- all blocks stay but two -/
structure Keep2 (w w' : World) (o g : Nat) : Prop where
  os : w'.os = w.os
  tape : w'.tape = w.tape
  output : w'.output = w.output
  size : w.heap.size ≤ w'.heap.size
  block : ∀ k, k < w.heap.size → k ≠ o → k ≠ g → w'.heap[k]? = w.heap[k]?
theorem Keep2.refl (w : World) (o g : Nat) : Keep2 w w o g := ⟨rfl, rfl, rfl, Nat.le_refl _, fun _ _ _ _ => rfl⟩
theorem Keep2.below {w u w' : World} {o g : Nat} (h : Keep2 w u o g) (hb : Below u.heap.size u w') : Keep2 w w' o g :=
  ⟨hb.os.trans h.os, hb.tape.trans h.tape, hb.output.trans h.output, Nat.le_trans h.size hb.size, fun k hk h1 h2 => (hb.block k (Nat.lt_of_lt_of_le hk h.size)).trans (h.block k hk h1 h2)⟩
theorem Keep2.setCell {w u : World} {o g : Nat} (h : Keep2 w u o g) (i : Nat) (v : Value) : Keep2 w (u.setCell ⟨o, i, none⟩ v) o g :=
  ⟨h.os, h.tape, h.output, by rw [World.size_setCell]; exact h.size, fun k hk h1 h2 => (Below.heap_setCell u ⟨o, i, none⟩ v k (by simpa using h1)).trans (h.block k hk h1 h2)⟩
theorem Keep2.drew {w u : World} {o g : Nat} (h : Keep2 w u o g) : Keep2 w u.drew o g := ⟨h.os, h.tape, h.output, h.size, h.block⟩
/-- what grew in one row only -/
theorem Keep2.grown {w u w' : World} {o g gb : Nat} (h : Keep2 w u o g) (hg : u.grownBy w' (some gb)) (hgb : gb = g ∨ w.heap.size ≤ gb) : Keep2 w w' o g :=
  ⟨hg.os.trans h.os, hg.tape.trans h.tape, hg.output.trans h.output, Nat.le_trans h.size hg.size, fun k hk h1 h2 => (hg.block k (Nat.lt_of_lt_of_le hk h.size) (by intro e; cases e; omega)).trans (h.block k hk h1 h2)⟩
theorem Keep2.row {w u : World} {o g k : Nat} (h : Keep2 w u o g) {cs : Array Value} {t : TypeId} (hr : Row w k cs t) (h1 : k ≠ o) (h2 : k ≠ g) : Row u k cs t := (h.block k hr.lt h1 h2).trans hr
theorem PReads.move {w u : World} {k : Nat} {ps : PL} (hr : PReads w (some ⟨k, 0, none⟩) ps) (he : u.heap[k]? = w.heap[k]?) : PReads u (some ⟨k, 0, none⟩) ps := by
  intro hne
  obtain ⟨b, off, hA, hlt, hc⟩ := hr hne
  cases hA
  have hlt' : k < u.heap.size := by
    by_cases h : k < u.heap.size
    · exact h
    · rw [Array.getElem?_eq_none (by omega), Array.getElem?_eq_getElem hlt] at he; cases he
  refine ⟨k, 0, rfl, hlt', fun i p hi => ?_⟩
  have := hc i p hi
  have e : ∀ j, u.cell? ⟨k, j, none⟩ = w.cell? ⟨k, j, none⟩ := fun j => by simp [World.cell?, he]
  rw [e, e]
  exact this
theorem PReads.pre {w : World} {A : Option Addr} {a b : PL} (hr : PReads w A (a ++ b)) : PReads w A a := by
  intro hne
  obtain ⟨b', off, hA, hlt, hc⟩ := hr (by intro e; exact hne (List.append_eq_nil_iff.1 e).1)
  refine ⟨b', off, hA, hlt, fun i p hi => hc i p ?_⟩
  rw [List.getElem?_append_left (by rw [List.getElem?_eq_some_iff] at hi; exact hi.1)]
  exact hi
/-- the row of nodes, all but two of whose cells are as they were -/
structure Two (O0 O : Array Value) (oa : Nat) (va vb : Value) : Prop where
  size : O.size = O0.size
  other : ∀ j, j ≠ oa + 1 → j ≠ oa + 3 → O[j]? = O0[j]?
  sa : O[oa + 1]? = some va
  sb : O[oa + 3]? = some vb
theorem Two.setA {O0 O : Array Value} {oa : Nat} {va vb : Value} (h : Two O0 O oa va vb) (v : Value) : Two O0 (O.setIfInBounds (oa + 1) v) oa v vb := by
  have hlt := (Array.getElem?_eq_some_iff.1 h.sa).1
  refine ⟨by rw [Array.size_setIfInBounds]; exact h.size, fun j h1 h2 => ?_, ?_, ?_⟩
  · rw [Array.getElem?_setIfInBounds_ne (by omega)]; exact h.other j h1 h2
  · rw [Array.getElem?_setIfInBounds_self]; simp [hlt]
  · rw [Array.getElem?_setIfInBounds_ne (by omega)]; exact h.sb
theorem Two.setB {O0 O : Array Value} {oa : Nat} {va vb : Value} (h : Two O0 O oa va vb) (v : Value) : Two O0 (O.setIfInBounds (oa + 3) v) oa va v := by
  have hlt := (Array.getElem?_eq_some_iff.1 h.sb).1
  refine ⟨by rw [Array.size_setIfInBounds]; exact h.size, fun j h1 h2 => ?_, ?_, ?_⟩
  · rw [Array.getElem?_setIfInBounds_ne (by omega)]; exact h.other j h1 h2
  · rw [Array.getElem?_setIfInBounds_ne (by omega)]; exact h.sa
  · rw [Array.getElem?_setIfInBounds_self]; simp [hlt]
/-- how even stands between two rounds -/
structure EvenAt (w wr : World) (base o oa : Nat) (O0 : Array Value) (ga ca gb0 gb cb : Nat) (pa0 pb0 pa pb : PL) : Prop where
  keep : Keep2 w wr o gb0
  row : ∃ O, Row wr o O 49 ∧ Two O0 O oa (sv ga pa.length ca) (sv gb pb.length cb)
  pre : ∃ t, pa0 = pa ++ t
  own : wr.ownsRow base 60 2 (sv gb pb.length cb) pb.length (cellsP pb)
  where_ : gb = gb0 ∨ w.heap.size ≤ gb
  even : evenP pa0.length pa0 pb0 = evenP pa.length pa pb
  all : pa ++ pb = pa0 ++ pb0
  ne : pa ≠ []
  neb : pb ≠ []
theorem EvenAt.move {w wr w' : World} {base o oa : Nat} {O0 : Array Value} {ga ca gb0 gb cb : Nat} {pa0 pb0 pa pb : PL} (h : EvenAt w wr base o oa O0 ga ca gb0 gb cb pa0 pb0 pa pb) (hb : Below wr.heap.size wr w') : EvenAt w w' base o oa O0 ga ca gb0 gb cb pa0 pb0 pa pb := by
  obtain ⟨O, h1, h2⟩ := h.row
  exact ⟨h.keep.below hb, ⟨O, h1.below hb, h2⟩, h.pre, own_keep h.own (fun g _ hg => hb.block g hg), h.where_, h.even, h.all, h.ne, h.neb⟩
/-- six cells of two blocks -/
theorem six_keep {o oa bx : Nat} {la sa lb sb y1 y2 : Value} {u w' : World} (hb : Below u.heap.size u w')
    (h : u.cell? ⟨o, oa, none⟩ = some la ∧ u.cell? ⟨o, oa + 1, none⟩ = some sa ∧ u.cell? ⟨o, oa + 2, none⟩ = some lb ∧ u.cell? ⟨o, oa + 3, none⟩ = some sb ∧ u.cell? ⟨bx, 0, none⟩ = some y1 ∧ u.cell? ⟨bx, 1, none⟩ = some y2) :
    w'.cell? ⟨o, oa, none⟩ = some la ∧ w'.cell? ⟨o, oa + 1, none⟩ = some sa ∧ w'.cell? ⟨o, oa + 2, none⟩ = some lb ∧ w'.cell? ⟨o, oa + 3, none⟩ = some sb ∧ w'.cell? ⟨bx, 0, none⟩ = some y1 ∧ w'.cell? ⟨bx, 1, none⟩ = some y2 :=
  have k := fun {p : Addr} {v : Value} (h : u.cell? p = some v) => (hb.cell (World.block_lt_of_cell? u p h)).trans h
  ⟨k h.1, k h.2.1, k h.2.2.1, k h.2.2.2.1, k h.2.2.2.2.1, k h.2.2.2.2.2⟩
theorem sumW_bd {l : PL} (h : ∀ x ∈ l, x.1.size ≤ 300 ∧ x.2.size ≤ 600) : sumW l ≤ 920 * l.length := by
  induction l with
  | nil => exact Nat.le_refl _
  | cons x r ih =>
    have hx := h x (by simp)
    have := ih (fun y hy => h y (by simp [hy]))
    have h1 := num_len (x.1.size : Int)
    have h2 := num_len (x.2.size : Int)
    rw [sumW_cons, List.length_cons]
    unfold wideP
    omega
/-- the length of the slice in a cell -/
def lenAt (w : World) (o j : Nat) : Nat := match w.cell? ⟨o, j, none⟩ with | some (.slice _ n _) => n | _ => 0
theorem lenAt_of {w : World} {o j n c : Nat} {A : Option Addr} (h : w.cell? ⟨o, j, none⟩ = some (.slice A n c)) : lenAt w o j = n := by unfold lenAt; rw [h]
theorem own_move {w w' : World} {base g n c size : Nat} {e : TypeId} {xs : List Value} (h : w.ownsRow base e size (sv g n c) n xs) (he : w'.heap[g]? = w.heap[g]?) : w'.ownsRow base e size (sv g n c) n xs := by
  obtain ⟨hl, h1 | ⟨g', cap, cur, hv, hbg, hg, r⟩⟩ := h
  · exact ⟨hl, .inl h1⟩
  · cases hv
    exact ⟨hl, .inr ⟨g, c, cur, rfl, hbg, he.trans hg, r⟩⟩
theorem own_row {w : World} {base g n c size : Nat} {e : TypeId} {xs : List Value} (h : w.ownsRow base e size (sv g n c) n xs) : ∃ cur, Row w g cur e ∧ base ≤ g ∧ n ≤ c := by
  obtain ⟨hl, ⟨h1, _⟩ | ⟨g', cap, cur, hv, hbg, hg, hle, r⟩⟩ := h
  · cases h1
  · cases hv
    exact ⟨cur, hg, hbg, hle⟩
theorem row_apart {w : World} {a b : Nat} {ca cb : Array Value} {s t : TypeId} (h1 : Row w a ca s) (h2 : Row w b cb t) (hne : s ≠ t) : a ≠ b := by
  intro e; subst e
  have := h1.symm.trans h2
  cases this
  exact hne rfl
theorem cell_move {w w' : World} {g : Nat} (he : w'.heap[g]? = w.heap[g]?) (j : Nat) : w'.cell? ⟨g, j, none⟩ = w.cell? ⟨g, j, none⟩ := by simp [World.cell?, he]
theorem sumW_size {leaf : Bool} {ps : PL} (h : ps.length ≤ 63) : sizeN ⟨leaf, ps⟩ = 2 + sumW ps := by unfold sizeN sumW; rw [head_two h]
theorem even_stop_one {pa pb : PL} (h : pa.length ≤ 1) : evenP pa.length pa pb = (pa, pb) := by
  match pa, h with
  | [], _ => rfl
  | [x], _ => rfl
theorem even_stop {pa pb : PL} {x : Pair} (hx : pa.getLast? = some x) (h : sumW pa < sumW pb + 2 * wideP x) : evenP pa.length pa pb = (pa, pb) := by
  cases hl : pa.length with
  | zero => rfl
  | succ k =>
    rw [evenP, hx]
    simp only
    by_cases hle : pa.length ≤ 1
    · rw [if_pos hle]
    · rw [if_neg hle, if_pos h]
theorem even_step {pa pb : PL} {x : Pair} (hx : pa.getLast? = some x) (h1 : 1 < pa.length) (h : ¬ sumW pa < sumW pb + 2 * wideP x) : evenP pa.length pa pb = evenP pa.dropLast.length pa.dropLast (x :: pb) := by
  have hl : pa.dropLast.length = pa.length - 1 := List.length_dropLast
  rw [hl]
  conv => lhs; rw [show pa.length = (pa.length - 1) + 1 by omega, evenP, hx]
  simp only
  rw [if_neg (by omega), if_neg h]
end Go.Proofs.Ytobdfocfkomagaa.node
