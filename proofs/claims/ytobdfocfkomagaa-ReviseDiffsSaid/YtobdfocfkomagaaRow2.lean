/- Rows of cells. -/
import Derived.Test.YtobdfocfkomagaaBase
import Derived.Laws.AppendOwn
import Derived.Deep.MidRow
namespace Go.Proofs.Ytobdfocfkomagaa.row2
open Go Go.ChangeShapes Go.WideShapes Go.ChangeAt Go.RowKit
open Ytobdfocfkomagaa.base (size_mk chain newer drewn same)
/-- a row of cells in block q -/
def Row (w : World) (q : Nat) (cs : Array Value) (t : TypeId) : Prop := w.heap[q]? = some (.cells cs t (0, 0))
theorem Row.new (w : World) (cs : Array Value) (t : TypeId) : Row (w.alloc (.cells cs t)) w.heap.size cs t := heap_alloc_new _ _
theorem Row.lt {w : World} {q : Nat} {cs : Array Value} {t : TypeId} (h : Row w q cs t) : q < w.heap.size := (Array.getElem?_eq_some_iff.1 h).1
theorem Row.below {w w' : World} {q : Nat} {cs : Array Value} {t : TypeId} (h : Row w q cs t) (hb : Below w.heap.size w w') : Row w' q cs t := (hb.block q h.lt).trans h
theorem Row.cell {w : World} {q : Nat} {cs : Array Value} {t : TypeId} (h : Row w q cs t) (i : Nat) : w.cell? ⟨q, i, none⟩ = cs[i]? := cell_of_row w q i cs t (0, 0) h
theorem Row.frozen {w : World} {q : Nat} {cs : Array Value} {t : TypeId} (h : Row w q cs t) (i : Nat) : w.frozen? ⟨q, i, none⟩ = false := frozen_of_row w q i cs t h
theorem Row.at_ {w : World} {q : Nat} {cs : Array Value} {t : TypeId} {v : Value} (h : Row w q cs t) {j : Nat} (hj : cs[j]? = some v) : w.cell? ⟨q, j, none⟩ = some v := (h.cell j).trans hj
theorem Row.set {w : World} {q : Nat} {cs : Array Value} {t : TypeId} (h : Row w q cs t) (i : Nat) (v : Value) : Row (w.setCell ⟨q, i, none⟩ v) q (cs.setIfInBounds i v) t := by
  have hlt := h.lt
  unfold Row at *
  have hq : w.heap[q] = .cells cs t (0, 0) := by rw [Array.getElem?_eq_getElem hlt] at h; exact Option.some.inj h
  simp [World.setCell, hlt, hq, Array.getElem_modify]
theorem Row.other {w : World} {q : Nat} {cs : Array Value} {t : TypeId} (h : Row w q cs t) (p i : Nat) (v : Value) (hne : q ≠ p) : Row (w.setCell ⟨p, i, none⟩ v) q cs t :=
  (Below.heap_setCell w ⟨p, i, none⟩ v q (by simpa using hne)).trans h
theorem Row.apart {w : World} {a b : Nat} {ca cb : Array Value} {s t : TypeId} (h1 : Row w a ca s) (h2 : Row w b cb t) (hne : s ≠ t) : a ≠ b := by
  intro e; subst e
  have := h1.symm.trans h2
  cases this
  exact hne rfl
/-- a slice at A reads as these cells -/
def CReads (w : World) (A : Option Addr) (xs : List Value) : Prop := xs ≠ [] → ∃ b off, A = some ⟨b, off, none⟩ ∧ b < w.heap.size ∧ ∀ (j : Nat) (v : Value), xs[j]? = some v → w.cell? ⟨b, off + j, none⟩ = some v
theorem CReads.keep {w w' : World} {A : Option Addr} {xs : List Value} (h : CReads w A xs) (hb : Below w.heap.size w w') : CReads w' A xs := by
  intro hne
  obtain ⟨b, off, hA, hlt, hc⟩ := h hne
  exact ⟨b, off, hA, Nat.lt_of_lt_of_le hlt hb.size, fun j v hj => (hb.cell (p := ⟨b, off + j, none⟩) hlt).trans (hc j v hj)⟩
theorem CReads.of_own {w : World} {base n c k : Nat} {e : TypeId} {A : Option Addr} {xs : List Value} (h : w.ownsRow base e k (.slice A n c) n xs) : CReads w A xs := by
  intro hne
  have hown := h
  obtain ⟨hl, ⟨hv, h0⟩ | ⟨g, cap, cur, hv, hbg, hg, _⟩⟩ := h
  · subst h0; rw [Nat.zero_mul] at hl; exact absurd (List.length_eq_zero_iff.1 hl) hne
  · cases hv
    refine ⟨g, 0, rfl, (Array.getElem?_eq_some_iff.1 hg).1, fun j v hj => ?_⟩
    have := hown.cells (g := g) rfl j v hj
    rw [Addr.add_mid] at this
    exact this
theorem CReads.move {w w' : World} {A : Option Addr} {xs : List Value} (h : CReads w A xs) (he : ∀ a, A = some a → xs ≠ [] → w'.heap[a.block]? = w.heap[a.block]?) : CReads w' A xs := by
  intro hne
  obtain ⟨b, off, hA, hlt, hc⟩ := h hne
  have e := he _ hA hne
  simp only at e
  have hlt' : b < w'.heap.size := by
    by_cases h : b < w'.heap.size
    · exact h
    · rw [Array.getElem?_eq_none (by omega), Array.getElem?_eq_getElem hlt] at e; cases e
  exact ⟨b, off, hA, hlt', fun j v hj => by
    have := hc j v hj
    simp only [World.cell?] at this ⊢
    rw [e]; exact this⟩
theorem CReads.add {w : World} {A : Option Addr} {xs : List Value} (h : CReads w A xs) {b off : Nat} (hA : A = some ⟨b, off, none⟩) (j : Nat) (v : Value) (hj : xs[j]? = some v) : w.cell? ((⟨b, off, none⟩ : Addr).add j) = some v := by
  obtain ⟨b', off', hA', _, hc⟩ := h (by intro e; rw [e] at hj; simp at hj)
  rw [hA] at hA'; cases hA'
  rw [Addr.add_mid]; exact hc j v hj
theorem own_keep {w w' : World} {base n size : Nat} {e : TypeId} {v : Value} {xs : List Value} (h : w.ownsRow base e size v n xs) (hb : ∀ g, base ≤ g → g < w.heap.size → w'.heap[g]? = w.heap[g]?) : w'.ownsRow base e size v n xs := by
  obtain ⟨hl, h1 | ⟨g, cap, cur, hv, hbg, hg, r⟩⟩ := h
  · exact ⟨hl, .inl h1⟩
  · exact ⟨hl, .inr ⟨g, cap, cur, hv, hbg, (hb g hbg (Array.getElem?_eq_some_iff.1 hg).1).trans hg, r⟩⟩
end Go.Proofs.Ytobdfocfkomagaa.row2
