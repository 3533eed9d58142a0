/- A disk as it lies in memory; frames. -/
import Derived.Test.YthkjodlddhdeiaaBase
import Derived.Deep.MidRow
import Derived.Laws.OwnMore
namespace Go.Proofs.Ythkjodlddhdeiaa.disk
open Go.ChangeShapes Go.WideShapes Go.ChangeAt Go.RowKit
open Ythkjodlddhdeiaa.base

/-- of the blocks that were there only those of l may have turned -/
structure Only (l : List Nat) (w w' : World) : Prop where
  os : w'.os = w.os
  tape : w'.tape = w.tape
  output : w'.output = w.output
  size : w.heap.size ≤ w'.heap.size
  block : ∀ k, k < w.heap.size → k ∉ l → w'.heap[k]? = w.heap[k]?
theorem Only.below {l : List Nat} {w w' : World} {B : Nat} {u : World} (h : Only l w w') (hb : Below B u w) (hl : ∀ k ∈ l, B ≤ k) (hB : B ≤ w.heap.size) : Below B u w' :=
  ⟨h.os.trans hb.os, h.tape.trans hb.tape, h.output.trans hb.output, Nat.le_trans hb.size h.size, fun k hk => (h.block k (by omega) (fun hm => by have := hl k hm; omega)).trans (hb.block k hk)⟩
/-- what a disk is -/
structure Dk where
  n : Nat
  F : List UInt8
  S : List UInt8
  W : List (Nat × List UInt8)
  fuse : Int
  gone : Bool
structure Dk.Wf (D : Dk) : Prop where
  n1 : 1 ≤ D.n
  n2 : D.n ≤ 4096
  F : D.F.length = D.n * 512
  S : D.S.length = D.n * 512
  W : ∀ p ∈ D.W, p.1 < D.n ∧ p.2.length = 512
  low : -1 ≤ D.fuse
  high : D.fuse ≤ 9223372036854775807
def looseCells (p : Nat × List UInt8) : List Value := .int .i64 (p.1 : Int) :: bytesOf p.2
/-- it lies in the blocks d, f, s -/
structure At (w : World) (base d f s : Nat) (D : Dk) : Prop where
  wf : D.Wf
  low : base ≤ d ∧ base ≤ f ∧ base ≤ s ∧ f ≠ s
  fields : ∃ fc cs lv, w.heap[d]? = some (.cells #[.slice (some ⟨f, 0, none⟩) D.n fc, .slice (some ⟨s, 0, none⟩) D.n cs, lv, .int .i64 D.fuse, .bool D.gone] 65 (0, 0)) ∧
    w.ownsRow base 105 512 (.slice (some ⟨s, 0, none⟩) D.n cs) D.n (bytesOf D.S) ∧ w.ownsRow base 107 513 lv D.W.length (D.W.flatMap looseCells) ∧
    w.ownsRow base 105 512 (.slice (some ⟨f, 0, none⟩) D.n fc) D.n (bytesOf D.F)

theorem Only.refl (l : List Nat) (w : World) : Only l w w := ⟨rfl, rfl, rfl, Nat.le_refl _, fun _ _ _ => rfl⟩
theorem Only.trans {l : List Nat} {a b c : World} (h : Only l a b) (k : Only l b c) : Only l a c :=
  ⟨k.os.trans h.os, k.tape.trans h.tape, k.output.trans h.output, Nat.le_trans h.size k.size, fun i hi hn => (k.block i (Nat.lt_of_lt_of_le hi h.size) hn).trans (h.block i hi hn)⟩
theorem Only.mono {l l' : List Nat} {w w' : World} (h : Only l w w') (hl : ∀ k ∈ l, k ∈ l') : Only l' w w' :=
  ⟨h.os, h.tape, h.output, h.size, fun k hk hn => h.block k hk (fun hm => hn (hl k hm))⟩
theorem Only.of_below {w w' : World} (l : List Nat) (h : Below w.heap.size w w') : Only l w w' := ⟨h.os, h.tape, h.output, h.size, fun k hk _ => h.block k hk⟩
theorem Only.setCell (w : World) (a : Addr) (v : Value) : Only [a.block] w (w.setCell a v) :=
  ⟨rfl, rfl, rfl, by simp [World.setCell], fun k _ hn => Below.heap_setCell _ _ _ _ (fun e => hn (by simp [e]))⟩
theorem Only.cell (w : World) (d i : Nat) (v : Value) : Only [d] w (w.setCell ⟨d, i, none⟩ v) := Only.setCell w ⟨d, i, none⟩ v
theorem Only.drew {l : List Nat} {w w' : World} (h : Only l w w') : Only l w w'.drew := ⟨h.os, h.tape, h.output, h.size, h.block⟩
theorem row_kept {w w' : World} {base size n : Nat} {e : TypeId} {v : Value} {xs : List Value} (h : w.ownsRow base e size v n xs) (hk : ∀ g, v.ownBlock = some g → w'.heap[g]? = w.heap[g]?) : w'.ownsRow base e size v n xs := by
  obtain ⟨hl, h | ⟨g, cap, cur, rfl, hb, hg, h1, h2, h3, h4⟩⟩ := h
  · exact ⟨hl, .inl h⟩
  · exact ⟨hl, .inr ⟨g, cap, cur, rfl, hb, by rw [hk g rfl]; exact hg, h1, h2, h3, h4⟩⟩
theorem row_type {w : World} {base size n : Nat} {e : TypeId} {v : Value} {xs : List Value} (h : w.ownsRow base e size v n xs) : ∀ g, v.ownBlock = some g → base ≤ g ∧ ∃ cur, w.heap[g]? = some (.cells cur e (0, 0)) := by
  obtain ⟨hl, ⟨rfl, _⟩ | ⟨g, cap, cur, rfl, hb, hg, _⟩⟩ := h
  · intro g hg; cases hg
  · intro g' hg'; cases hg'; exact ⟨hb, cur, hg⟩
theorem obj_type {w : World} {g : Nat} {a b : Array Value} {s t : TypeId} (h : w.heap[g]? = some (.cells a s (0, 0))) (k : w.heap[g]? = some (.cells b t (0, 0))) : s = t := by
  rw [h] at k; cases k; rfl
theorem lt_of_obj {w : World} {g : Nat} {o : Obj} (h : w.heap[g]? = some o) : g < w.heap.size := (Array.getElem?_eq_some_iff.1 h).1
/-- the disk's fields turned, its blocks of bytes not -/
theorem At.turned {w w' : World} {base d f s : Nat} {D : Dk} (h : At w base d f s D) (hk : ∀ k, k < w.heap.size → k ≠ d → w'.heap[k]? = w.heap[k]?) (fuse : Int) (gone : Bool)
    (hlow : -1 ≤ fuse) (hhigh : fuse ≤ 9223372036854775807)
    (hd : ∀ a b c, w.heap[d]? = some (.cells #[a, b, c, .int .i64 D.fuse, .bool D.gone] 65 (0, 0)) → w'.heap[d]? = some (.cells #[a, b, c, .int .i64 fuse, .bool gone] 65 (0, 0))) :
    At w' base d f s { D with fuse := fuse, gone := gone } := by
  obtain ⟨hw, hl, ⟨fc, cs, lv, h1, h2, h3, h4⟩⟩ := h
  have key : ∀ {size n : Nat} {e : TypeId} {v : Value} {xs : List Value}, w.ownsRow base e size v n xs → e ≠ 65 → w'.ownsRow base e size v n xs := by
    intro size n e v xs hr he
    refine row_kept hr (fun g hg => ?_)
    obtain ⟨_, cur, hc⟩ := row_type hr g hg
    refine hk g (lt_of_obj hc) (fun e2 => ?_)
    subst e2
    exact he (obj_type hc h1)
  exact ⟨⟨hw.n1, hw.n2, hw.F, hw.S, hw.W, hlow, hhigh⟩, hl, ⟨fc, cs, lv, hd _ _ _ h1, key h2 (by decide), key h3 (by decide), key h4 (by decide)⟩⟩
theorem At.cells {w : World} {base d f s : Nat} {D : Dk} (h : At w base d f s D) : ∃ fc cs lv, w.cell? ⟨d, 0, none⟩ = some (.slice (some ⟨f, 0, none⟩) D.n fc) ∧ w.cell? ⟨d, 1, none⟩ = some (.slice (some ⟨s, 0, none⟩) D.n cs) ∧
    w.cell? ⟨d, 2, none⟩ = some lv ∧ w.cell? ⟨d, 3, none⟩ = some (.int .i64 D.fuse) ∧ w.cell? ⟨d, 4, none⟩ = some (.bool D.gone) ∧ (∀ i, w.frozen? ⟨d, i, none⟩ = false) ∧
    w.ownsRow base 105 512 (.slice (some ⟨s, 0, none⟩) D.n cs) D.n (bytesOf D.S) ∧ w.ownsRow base 107 513 lv D.W.length (D.W.flatMap looseCells) ∧
    w.ownsRow base 105 512 (.slice (some ⟨f, 0, none⟩) D.n fc) D.n (bytesOf D.F) := by
  obtain ⟨hw, hl, ⟨fc, cs, lv, h1, h2, h3, h4⟩⟩ := h
  refine ⟨fc, cs, lv, ?_, ?_, ?_, ?_, ?_, ?_, h2, h3, h4⟩
  · rw [cell_of_row w d 0 _ _ _ h1]; rfl
  · rw [cell_of_row w d 1 _ _ _ h1]; rfl
  · rw [cell_of_row w d 2 _ _ _ h1]; rfl
  · rw [cell_of_row w d 3 _ _ _ h1]; rfl
  · rw [cell_of_row w d 4 _ _ _ h1]; rfl
  · intro i; unfold World.frozen?; simp only [h1]; simp
theorem At.below {w w' : World} {base d f s : Nat} {D : Dk} (h : At w base d f s D) (hb : Below w.heap.size w w') : At w' base d f s D := by
  obtain ⟨hw, hl, ⟨fc, cs, lv, h1, h2, h3, h4⟩⟩ := h
  have key : ∀ {size n : Nat} {e : TypeId} {v : Value} {xs : List Value}, w.ownsRow base e size v n xs → w'.ownsRow base e size v n xs := by
    intro size n e v xs hr
    refine row_kept hr (fun g hg => ?_)
    obtain ⟨_, cur, hc⟩ := row_type hr g hg
    exact hb.block g (lt_of_obj hc)
  exact ⟨hw, hl, ⟨fc, cs, lv, by rw [hb.block d (lt_of_obj h1)]; exact h1, key h2, key h3, key h4⟩⟩
end Go.Proofs.Ythkjodlddhdeiaa.disk
