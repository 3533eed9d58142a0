/- The small walks of package node. -/
import Derived.Test.YtobdfocfkomagaaNodeBackP
import Derived.Deep.RegionHeld3
import Derived.BigRegion
namespace Go.Proofs.Ytobdfocfkomagaa.node
open Go.ChangeShapes Go.WideShapes Go.ChangeAt Go.RowKit
open Ytobdfocfkomagaa.base (size_mk chain newer drewn same ba_ext)
open Ytobdfocfkomagaa.oct (num num_len num_pos)

abbrev Pair := ByteArray × ByteArray
abbrev pv (x : Pair) : Value := .agg #[.string x.1, .string x.2]
/-- a slice at A reads as these pairs -/
def PReads (w : World) (A : Option Addr) (ps : PL) : Prop := ps ≠ [] → ∃ b off, A = some ⟨b, off, none⟩ ∧ b < w.heap.size ∧ ∀ i p, ps[i]? = some p → w.cell? ⟨b, off + i * 2, none⟩ = some (.string p.1) ∧ w.cell? ⟨b, off + i * 2 + 1, none⟩ = some (.string p.2)
theorem PReads.keep {w w' : World} {A : Option Addr} {ps : PL} (h : PReads w A ps) (hb : Below w.heap.size w w') : PReads w' A ps := by
  intro hne
  obtain ⟨b, off, hA, hlt, hc⟩ := h hne
  refine ⟨b, off, hA, Nat.lt_of_lt_of_le hlt hb.size, fun i p hi => ?_⟩
  rw [hb.cell (p := ⟨b, off + i * 2, none⟩) hlt, hb.cell (p := ⟨b, off + i * 2 + 1, none⟩) hlt]
  exact hc i p hi
theorem PReads.at_ {w : World} {A : Option Addr} {ps : PL} (h : PReads w A ps) {k : Nat} (hk : k < ps.length) : ∃ b off, A = some ⟨b, off, none⟩ ∧ w.cell? ⟨b, off + k * 2, none⟩ = some (.string (at0 ps k).1) ∧ w.cell? ⟨b, off + k * 2 + 1, none⟩ = some (.string (at0 ps k).2) ∧
    (1 ≤ k → w.cell? ⟨b, off + (k - 1) * 2, none⟩ = some (.string (at0 ps (k - 1)).1)) := by
  obtain ⟨b, off, hA, _, hc⟩ := h (fun e => by rw [e] at hk; simp at hk)
  have h1 := List.getElem?_eq_getElem hk
  have e1 := at0_get h1
  refine ⟨b, off, hA, by rw [e1]; exact (hc k _ h1).1, by rw [e1]; exact (hc k _ h1).2, fun hk1 => ?_⟩
  have h2 : ps[k - 1]? = some (ps[k - 1]'(by omega)) := List.getElem?_eq_getElem (by omega)
  rw [at0_get h2]
  exact (hc _ _ h2).1
/-- a node, as a value -/
abbrev nv (leaf : Bool) (A : Option Addr) (n c : Nat) : Value := .agg #[.bool leaf, .slice A n c]
/-- its pairs' texts are not great -/
structure Nice (ps : PL) : Prop where
  len : ps.length ≤ 1000
  sizes : ∀ k, (at0 ps k).1.size ≤ 1000 ∧ (at0 ps k).2.size ≤ 1000
/-- a row of a block of the call's own -/
def Row (w : World) (q : Nat) (cs : Array Value) (t : TypeId) : Prop := w.heap[q]? = some (.cells cs t (0, 0))
theorem Row.new (w : World) (cs : Array Value) (t : TypeId) : Row (w.alloc (.cells cs t)) w.heap.size cs t := heap_alloc_new _ _
theorem Row.lt {w : World} {q : Nat} {cs : Array Value} {t : TypeId} (h : Row w q cs t) : q < w.heap.size := (Array.getElem?_eq_some_iff.1 h).1
theorem Row.below {w w' : World} {q : Nat} {cs : Array Value} {t : TypeId} (h : Row w q cs t) (hb : Below w.heap.size w w') : Row w' q cs t := (hb.block q h.lt).trans h
theorem Row.cell {w : World} {q : Nat} {cs : Array Value} {t : TypeId} (h : Row w q cs t) (i : Nat) : w.cell? ⟨q, i, none⟩ = cs[i]? := cell_of_row w q i cs t (0, 0) h
theorem num_size (n : Int) (hn : -9223372036854775808 ≤ n ∧ n ≤ 9223372036854775807) (w : World) :
    Calls Try.prog 83 #[.int .i64 n] w fun e w' => ∃ s, e = .returned (.string s) ∧ s = ⟨(num n).toArray⟩ ∧ Below w.heap.size w w' :=
  (oct.num_walk n hn w).mono fun e w' ⟨he, hb⟩ => ⟨_, he, rfl, hb⟩
set_option maxRecDepth 100000 in
set_option maxHeartbeats 400000 in
theorem fits_walk (x : Pair) (leaf : Bool) (hx : x.1.size ≤ 1000 ∧ x.2.size ≤ 1000) (w : World) :
    Calls Try.prog 82 #[pv x, .bool leaf] w fun e w' => e = .returned (.bool (fitsP leaf x)) ∧ Below w.heap.size w w' := by
  obtain ⟨k, v⟩ := x
  have HB := Ytobdfocfkomagaa.base.Shut.mk (newer (same w) (.cells #[.string k, .string v] 60))
  have hdef : fitsP leaf (k, v) = decide (1 ≤ k.size ∧ k.size ≤ 48 ∧ ((leaf = true ∧ v.size ≤ 160) ∨ (leaf = false ∧ v.size = 4))) := rfl
  have hways : (k.size < 1 ∧ fitsP leaf (k, v) = false) ∨ (1 ≤ k.size ∧ 48 < k.size ∧ fitsP leaf (k, v) = false) ∨ (1 ≤ k.size ∧ k.size ≤ 48 ∧ leaf = true ∧ fitsP leaf (k, v) = decide ((v.size : Int) ≤ 160)) ∨ (1 ≤ k.size ∧ k.size ≤ 48 ∧ leaf = false ∧ fitsP leaf (k, v) = ((v.size : Int) == 4)) := by
    rw [hdef]
    by_cases a : k.size < 1
    · exact .inl ⟨a, decide_eq_false (by omega)⟩
    · by_cases b : 48 < k.size
      · exact .inr (.inl ⟨by omega, b, decide_eq_false (by omega)⟩)
      · cases leaf with
        | true =>
          refine .inr (.inr (.inl ⟨by omega, by omega, rfl, ?_⟩))
          by_cases c : v.size ≤ 160
          · rw [decide_eq_true ⟨by omega, by omega, .inl ⟨rfl, c⟩⟩, decide_eq_true (by omega)]
          · rw [decide_eq_false (fun h => by rcases h.2.2 with h | h; exact c h.2; cases h.1), decide_eq_false (by omega)]
        | false =>
          refine .inr (.inr (.inr ⟨by omega, by omega, rfl, ?_⟩))
          by_cases c : v.size = 4
          · rw [decide_eq_true ⟨by omega, by omega, .inr ⟨rfl, c⟩⟩, c]; rfl
          · rw [decide_eq_false (fun h => by rcases h.2.2 with h | h; cases h.1; exact c h.2), beq_eq_false_iff_ne.2 (by omega)]
  generalize fitsP leaf (k, v) = r at hways
  simp only at hx
  clear hdef
  rcases hways with ⟨a, rfl⟩ | ⟨a, b, rfl⟩ | ⟨a, b, rfl, rfl⟩ | ⟨a, b, rfl, rfl⟩
  · have a' : (k.size : Int) < 1 := by omega
    clear a
    go_enter Try.func82, Try.ntmps82
    go_wp2
    go_ret
    exact ⟨rfl, HB.out⟩
  · have a' : ¬ (k.size : Int) < 1 := by omega
    have b' : (48 : Int) < k.size := by omega
    clear a b
    go_enter Try.func82, Try.ntmps82
    go_wp2
    go_ret
    exact ⟨rfl, HB.out⟩
  all_goals
    have a' : ¬ (k.size : Int) < 1 := by omega
    have b' : ¬ (48 : Int) < k.size := by omega
    clear a b
    go_enter Try.func82, Try.ntmps82
    go_wp2
    go_ret
    exact ⟨rfl, HB.out⟩
set_option maxRecDepth 100000 in
set_option maxHeartbeats 400000 in
theorem head_walk (leaf : Bool) (A : Option Addr) (n c count : Nat) (hc : count ≤ 1000) (w : World) :
    Calls Try.prog 62 #[nv leaf A n c, .int .i64 (count : Int)] w fun e w' => ∃ s, e = .returned (.string s) ∧ s = ⟨(headL leaf count).toArray⟩ ∧ Below w.heap.size w w' := by
  have hb := newer (same w) (.cells #[.bool leaf, .slice A n c] 49)
  have hx := Row.new w #[.bool leaf, .slice A n c] 49
  have hnum := num_size (count : Int) (by omega) (w.alloc (.cells #[.bool leaf, .slice A n c] 49))
  have hl := num_len (count : Int)
  have hdef : headL leaf count = (if leaf then 1 else 2) :: num (count : Int) := rfl
  have H := Ytobdfocfkomagaa.base.Shut.mk (And.intro hnum (And.intro hb (And.intro hl hdef)))
  clear hnum hb hl hdef hx
  cases leaf
  all_goals
    go_enter Try.func62, Try.ntmps62
    go_wp2_with fail
    refine H.out.1.mono ?_
    rintro e w1 ⟨s, rfl, hs, hb1⟩
    have hsz : s.size ≤ 10 := by rw [hs, size_mk]; exact H.out.2.2.1
    have hroom : ¬ 9223372036854775807 < 1 + s.size := by omega
    have H1 := Ytobdfocfkomagaa.base.Shut.mk (And.intro hs (chain H.out.2.1 hb1))
    clear hs hb1
    go_wp2
    go_ret
    refine ⟨_, rfl, ?_, H1.out.2⟩
    rw [H.out.2.2.2, H1.out.1]
    apply ba_ext
    simp [ByteArray.data_append]
end Go.Proofs.Ytobdfocfkomagaa.node
