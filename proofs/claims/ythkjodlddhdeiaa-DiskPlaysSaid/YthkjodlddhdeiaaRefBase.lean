/- The reference's disk as it lies in memory; frames by the types of blocks. -/
import Derived.Test.YthkjodlddhdeiaaDiskSt
import Derived.Test.YthkjodlddhdeiaaStrs
namespace Go.Proofs.Ythkjodlddhdeiaa.disk
open Go.ChangeShapes Go.WideShapes Go.ChangeAt Go.RowKit
open Ythkjodlddhdeiaa.base
open Ythkjodlddhdeiaa.oct (strs)

/-- of the blocks that were there only those of these types, not below base, may have turned -/
structure OnlyT (base : Nat) (ts : List TypeId) (w w' : World) : Prop where
  os : w'.os = w.os
  tape : w'.tape = w.tape
  output : w'.output = w.output
  size : w.heap.size ≤ w'.heap.size
  block : ∀ k, k < w.heap.size → (k < base ∨ ∀ cur t, w.heap[k]? = some (.cells cur t (0, 0)) → t ∉ ts) → w'.heap[k]? = w.heap[k]?
theorem OnlyT.refl (base : Nat) (ts : List TypeId) (w : World) : OnlyT base ts w w := ⟨rfl, rfl, rfl, Nat.le_refl _, fun _ _ _ => rfl⟩
theorem OnlyT.trans {base : Nat} {ts : List TypeId} {a b c : World} (h : OnlyT base ts a b) (k : OnlyT base ts b c) : OnlyT base ts a c :=
  ⟨k.os.trans h.os, k.tape.trans h.tape, k.output.trans h.output, Nat.le_trans h.size k.size, fun i hi hn => by
    have e := h.block i hi hn
    rw [k.block i (Nat.lt_of_lt_of_le hi h.size) (hn.imp id (fun hc cur t hb => hc cur t (by rw [← e]; exact hb))), e]⟩
theorem OnlyT.of_below {base : Nat} {ts : List TypeId} {w w' : World} (h : Below w.heap.size w w') : OnlyT base ts w w' := ⟨h.os, h.tape, h.output, h.size, fun k hk _ => h.block k hk⟩
theorem OnlyT.of_only {base : Nat} {ts : List TypeId} {l : List Nat} {w w' : World} (h : Only l w w') (hl : ∀ k ∈ l, base ≤ k ∧ ∃ cur t, w.heap[k]? = some (.cells cur t (0, 0)) ∧ t ∈ ts) : OnlyT base ts w w' :=
  ⟨h.os, h.tape, h.output, h.size, fun k hk hn => h.block k hk (fun hm => by
    obtain ⟨hb, cur, t, hc, ht⟩ := hl k hm
    rcases hn with hn | hn
    · omega
    · exact hn cur t hc ht)⟩
theorem OnlyT.below {base : Nat} {ts : List TypeId} {w w' u : World} (h : OnlyT base ts w w') (hb : Below base u w) (hB : base ≤ w.heap.size) : Below base u w' :=
  ⟨h.os.trans hb.os, h.tape.trans hb.tape, h.output.trans hb.output, Nat.le_trans hb.size h.size, fun k hk => (h.block k (by omega) (.inl hk)).trans (hb.block k hk)⟩
/-- the types of the program's disk, and of the reference's -/
def dT : List TypeId := [65, 105, 107]
def rT : List TypeId := [56, 9, 137]
theorem OnlyT.row {base : Nat} {ts : List TypeId} {w w' : World} (h : OnlyT base ts w w') {b n size : Nat} {e : TypeId} {v : Value} {xs : List Value} (hr : w.ownsRow b e size v n xs) (he : e ∉ ts) : w'.ownsRow b e size v n xs :=
  row_kept hr (fun g hg => by
    obtain ⟨_, cur, hc⟩ := row_type hr g hg
    refine h.block g (lt_of_obj hc) (.inr (fun cur' t hc' => ?_))
    rw [hc] at hc'
    cases hc'
    exact he)
theorem OnlyT.obj {base : Nat} {ts : List TypeId} {w w' : World} (h : OnlyT base ts w w') {g : Nat} {cs : Array Value} {t : TypeId} (hg : w.heap[g]? = some (.cells cs t (0, 0))) (ht : t ∉ ts) : w'.heap[g]? = some (.cells cs t (0, 0)) := by
  rw [h.block g (lt_of_obj hg) (.inr (fun cur' t' hc' => by rw [hg] at hc'; cases hc'; exact ht))]
  exact hg
theorem At.keepT {w w' : World} {base base' d f s : Nat} {D : Dk} (h : At w base d f s D) (ho : OnlyT base' rT w w') : At w' base d f s D := by
  obtain ⟨hw, hl, ⟨fc, cs, lv, h1, h2, h3, h4⟩⟩ := h
  exact ⟨hw, hl, ⟨fc, cs, lv, ho.obj h1 (by decide), ho.row h2 (by decide), ho.row h3 (by decide), ho.row h4 (by decide)⟩⟩
theorem At.onlyT {w w' : World} {base d f s : Nat} {D : Dk} {l : List Nat} (h : At w base d f s D) (ho : Only l w w') (hl : ∀ k ∈ l, k = d ∨ k = f ∨ k = s) : OnlyT base dT w w' :=
  OnlyT.of_only ho (fun k hk => by
    obtain ⟨fc, cs, lv, h1, h2, _, h4⟩ := h.fields
    rcases hl k hk with rfl | rfl | rfl
    · exact ⟨h.low.1, _, _, h1, by decide⟩
    · obtain ⟨hb, cur, hc⟩ := row_type h4 k rfl
      exact ⟨hb, cur, _, hc, by decide⟩
    · obtain ⟨hb, cur, hc⟩ := row_type h2 k rfl
      exact ⟨hb, cur, _, hc, by decide⟩)
/-- blocks as texts; a loose write of the reference's -/
def txt (l : List UInt8) : Value := .string ⟨l.toArray⟩
def blks (F : List UInt8) (n : Nat) : List Value := (List.range n).map fun i => txt (blk F i)
def looseS (p : Nat × List UInt8) : List Value := [.int .i64 (p.1 : Int), txt p.2]
theorem blks_len (F : List UInt8) (n : Nat) : (blks F n).length = n := by simp [blks]
theorem blks_get (F : List UInt8) (n i : Nat) (h : i < n) : (blks F n)[i]? = some (txt (blk F i)) := by simp [blks, h]
theorem looseS_len (W : List (Nat × List UInt8)) : (W.flatMap looseS).length = W.length * 2 := by
  induction W with
  | nil => rfl
  | cons p r ih => rw [List.flatMap_cons, List.length_append, ih, List.length_cons]; simp [looseS]; omega
theorem looseS_get (W : List (Nat × List UInt8)) (k : Nat) (h : k < W.length) : (W.flatMap looseS)[k * 2]? = some (.int .i64 (W[k].1 : Int)) ∧ (W.flatMap looseS)[k * 2 + 1]? = some (txt W[k].2) := by
  induction W generalizing k with
  | nil => simp at h
  | cons p r ih =>
    rw [List.flatMap_cons]
    cases k with
    | zero => exact ⟨rfl, rfl⟩
    | succ k =>
      have hk : k < r.length := by simpa using h
      obtain ⟨h1, h2⟩ := ih k hk
      have e : (looseS p).length = 2 := rfl
      rw [List.getElem?_append_right (by omega), List.getElem?_append_right (by omega), e, show (k + 1) * 2 - 2 = k * 2 from by omega, show (k + 1) * 2 + 1 - 2 = k * 2 + 1 from by omega]
      exact ⟨h1, h2⟩
/-- it lies in the blocks r and b -/
structure RAt (w : World) (base r b : Nat) (D : Dk) (z : Int) : Prop where
  wf : D.Wf
  fuse : max z (-1) = D.fuse
  zlow : -9223372036854775808 ≤ z
  zhigh : z ≤ 9223372036854775807
  low : base ≤ r ∧ base ≤ b
  fields : ∃ cb lv, w.heap[r]? = some (.cells #[.slice (some ⟨b, 0, none⟩) D.n cb, lv, .int .i64 z, .bool D.gone] 56 (0, 0)) ∧
    w.ownsRow base 9 1 (.slice (some ⟨b, 0, none⟩) D.n cb) D.n (blks D.F D.n) ∧ w.ownsRow base 137 2 lv D.W.length (D.W.flatMap looseS)
theorem RAt.keepT {w w' : World} {base base' r b : Nat} {D : Dk} {z : Int} (h : RAt w base r b D z) (ho : OnlyT base' dT w w') : RAt w' base r b D z := by
  obtain ⟨hw, hf, hz1, hz2, hl, ⟨cb, lv, h1, h2, h3⟩⟩ := h
  exact ⟨hw, hf, hz1, hz2, hl, ⟨cb, lv, ho.obj h1 (by decide), ho.row h2 (by decide), ho.row h3 (by decide)⟩⟩
theorem RAt.below {w w' : World} {base r b : Nat} {D : Dk} {z : Int} (h : RAt w base r b D z) (hb : Below w.heap.size w w') : RAt w' base r b D z := h.keepT (base' := 0) (OnlyT.of_below hb)
theorem RAt.cells {w : World} {base r b : Nat} {D : Dk} {z : Int} (h : RAt w base r b D z) : ∃ cb lv, w.cell? ⟨r, 0, none⟩ = some (.slice (some ⟨b, 0, none⟩) D.n cb) ∧ w.cell? ⟨r, 1, none⟩ = some lv ∧ w.cell? ⟨r, 2, none⟩ = some (.int .i64 z) ∧
    w.cell? ⟨r, 3, none⟩ = some (.bool D.gone) ∧ (∀ i, w.frozen? ⟨r, i, none⟩ = false) ∧
    w.ownsRow base 9 1 (.slice (some ⟨b, 0, none⟩) D.n cb) D.n (blks D.F D.n) ∧ w.ownsRow base 137 2 lv D.W.length (D.W.flatMap looseS) := by
  obtain ⟨cb, lv, h1, h2, h3⟩ := h.fields
  refine ⟨cb, lv, ?_, ?_, ?_, ?_, ?_, h2, h3⟩
  · rw [cell_of_row w r 0 _ _ _ h1]; rfl
  · rw [cell_of_row w r 1 _ _ _ h1]; rfl
  · rw [cell_of_row w r 2 _ _ _ h1]; rfl
  · rw [cell_of_row w r 3 _ _ _ h1]; rfl
  · intro i; unfold World.frozen?; simp only [h1]; simp
/-- a store into its fields -/
theorem RAt.store {w : World} {base r b : Nat} {D : Dk} {z : Int} (h : RAt w base r b D z) (i : Nat) (v : Value) : OnlyT base rT w (w.setCell ⟨r, i, none⟩ v) :=
  OnlyT.of_only (Only.cell w r i v) (fun k hk => by
    obtain rfl : k = r := by simpa using hk
    obtain ⟨cb, lv, h1, _⟩ := h.fields
    exact ⟨h.low.1, _, _, h1, by decide⟩)
theorem RAt.rows {w : World} {base r b : Nat} {D : Dk} {z : Int} (h : RAt w base r b D z) (i : Nat) (v : Value) {n size : Nat} {e : TypeId} {x : Value} {xs : List Value} (hr : w.ownsRow base e size x n xs) (he : e ≠ 56) : (w.setCell ⟨r, i, none⟩ v).ownsRow base e size x n xs := by
  obtain ⟨cb, lv, h1, _⟩ := h.fields
  refine row_kept hr (fun g hg => ?_)
  obtain ⟨_, cur, hc⟩ := row_type hr g hg
  refine Below.heap_setCell _ _ _ _ (fun e2 => ?_)
  have e3 : g = r := e2
  subst e3
  exact he (obj_type hc h1)
theorem RAt.fused {w : World} {base r b : Nat} {D : Dk} {z : Int} (h : RAt w base r b D z) (z' : Int) (f' : Int) (hf : max z' (-1) = f') (h1 : -9223372036854775808 ≤ z') (h2 : z' ≤ 9223372036854775807) :
    RAt (w.setCell ⟨r, 2, none⟩ (.int .i64 z')) base r b { D with fuse := f' } z' := by
  obtain ⟨cb, lv, g1, g2, g3⟩ := h.fields
  have hw := h.wf
  exact ⟨⟨hw.n1, hw.n2, hw.F, hw.S, hw.W, by show -1 ≤ f'; omega, by show f' ≤ _; omega⟩, hf, h1, h2, h.low, ⟨cb, lv, heap_setCell_same _ _ 2 _ _ _ g1, h.rows 2 _ g2 (by decide), h.rows 2 _ g3 (by decide)⟩⟩
theorem RAt.went {w : World} {base r b : Nat} {D : Dk} {z : Int} (h : RAt w base r b D z) (g : Bool) : RAt (w.setCell ⟨r, 3, none⟩ (.bool g)) base r b { D with gone := g } z := by
  obtain ⟨cb, lv, g1, g2, g3⟩ := h.fields
  have hw := h.wf
  exact ⟨⟨hw.n1, hw.n2, hw.F, hw.S, hw.W, hw.low, hw.high⟩, h.fuse, h.zlow, h.zhigh, h.low, ⟨cb, lv, heap_setCell_same _ _ 3 _ _ _ g1, h.rows 3 _ g2 (by decide), h.rows 3 _ g3 (by decide)⟩⟩
theorem RAt.loosed {w : World} {base r b : Nat} {D : Dk} {z : Int} (h : RAt w base r b D z) (lv : Value) (W' : List (Nat × List UInt8)) (S' : List UInt8) (hS : S'.length = D.n * 512) (hW : ∀ p ∈ W', p.1 < D.n ∧ p.2.length = 512) (hrow : w.ownsRow base 137 2 lv W'.length (W'.flatMap looseS)) :
    RAt (w.setCell ⟨r, 1, none⟩ lv) base r b { D with W := W', S := S' } z := by
  obtain ⟨cb, lv0, g1, g2, g3⟩ := h.fields
  have hw := h.wf
  exact ⟨⟨hw.n1, hw.n2, hw.F, hS, hW, hw.low, hw.high⟩, h.fuse, h.zlow, h.zhigh, h.low, ⟨cb, lv, heap_setCell_same _ _ 1 _ _ _ g1, h.rows 1 _ g2 (by decide), h.rows 1 _ hrow (by decide)⟩⟩
/-- a block's text stored -/
theorem RAt.laid {w : World} {base r b : Nat} {D : Dk} {z : Int} (h : RAt w base r b D z) (k : Nat) (hk : k < D.n) (l : List UInt8) (hl : l.length = 512) :
    RAt (w.setCell ⟨b, k, none⟩ (txt l)) base r b { D with F := setBlk D.F k l } z ∧ OnlyT base rT w (w.setCell ⟨b, k, none⟩ (txt l)) := by
  obtain ⟨cb, lv, g1, g2, g3⟩ := h.fields
  have hw := h.wf
  have hF := hw.F
  obtain ⟨hlen, ⟨e1, _⟩ | ⟨g', cap', cur, e1, hb, hg, e2, e3, e4, e5⟩⟩ := g2
  · cases e1
  · cases e1
    have hO : OnlyT base rT w (w.setCell ⟨b, k, none⟩ (txt l)) := OnlyT.of_only (Only.cell w b k (txt l)) (fun q hq => by
      obtain rfl : q = b := by simpa using hq
      exact ⟨hb, _, _, hg, by decide⟩)
    refine ⟨⟨⟨hw.n1, hw.n2, setBlk_len hF hk hl, hw.S, hw.W, hw.low, hw.high⟩, h.fuse, h.zlow, h.zhigh, h.low, ⟨cb, lv, ?_, ?_, ?_⟩⟩, hO⟩
    · rw [Below.heap_setCell _ _ _ _ (fun e => ?_)]
      · exact g1
      · have e' : r = b := e
        rw [e'] at g1
        exact absurd (obj_type g1 hg) (by decide)
    · refine ⟨by rw [blks_len, Nat.mul_one], .inr ⟨b, cb, _, rfl, hb, heap_setCell_same _ _ k _ _ _ hg, e2, e3, by simpa using e4, ?_⟩⟩
      apply List.ext_getElem?
      intro j
      rw [Nat.mul_one] at e5 ⊢
      by_cases hj : j < D.n
      · rw [blks_get _ _ _ hj, List.getElem?_take, if_pos hj]
        have e6 := congrArg (fun x : List Value => x[j]?) e5
        simp only [blks_get _ _ _ hj, List.getElem?_take, if_pos hj] at e6
        have hjc : j < cur.size := by omega
        by_cases hjk : j = k
        · subst hjk
          rw [blk_setBlk_same hF hk hl]
          simp [hjc]
        · rw [blk_setBlk_other hF hk hj hl hjk, ← e6]
          have : ¬ k = j := fun e => hjk e.symm
          simp [this]
      · rw [List.getElem?_eq_none (by rw [List.length_take]; show min D.n _ ≤ j; omega), List.getElem?_eq_none (by rw [blks_len]; show D.n ≤ j; omega)]
    · refine row_kept g3 (fun q hq => ?_)
      obtain ⟨_, cu, hc⟩ := row_type g3 q hq
      refine Below.heap_setCell _ _ _ _ (fun e => ?_)
      have e' : q = b := e
      rw [e'] at hc
      exact absurd (obj_type hc hg) (by decide)
end Go.Proofs.Ythkjodlddhdeiaa.disk
