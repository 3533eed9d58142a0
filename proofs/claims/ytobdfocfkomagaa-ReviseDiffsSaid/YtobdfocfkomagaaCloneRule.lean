/- The walk of slices.Clone of api.Rule. -/
import Derived.Test.YtobdfocfkomagaaRow2
import Derived.Laws.AppendOwn
import Derived.Laws.OwnMore
import Derived.Lib.SliceRun
namespace Go.Proofs.Ytobdfocfkomagaa.cloneRule
open Go.ChangeShapes Go.WideShapes Go.ChangeAt Go.RowKit
open Ytobdfocfkomagaa.base (chain newer drewn same)
open Ytobdfocfkomagaa.row2 (Row CReads)

theorem cinfo : ∃ i z, Try.prog.info? 77 = some i ∧ i.zero = some z ∧ i.size = 2 ∧ i.bytes ≤ 48 ∧ z.cells.size = 2 := by
  have h : (Try.prog.info? 77).map (fun i => (i.zero.map (·.cells.size), i.size, decide (i.bytes ≤ 48))) = some (some 2, 2, true) := by kernel_rfl
  obtain ⟨i, hi, hh⟩ := Option.map_eq_some_iff.1 h
  simp only [Prod.mk.injEq, decide_eq_true_eq] at hh
  obtain ⟨z, hz, hc⟩ := Option.map_eq_some_iff.1 hh.1
  exact ⟨i, z, hi, hz, hh.2.1, hh.2.2, hc⟩
theorem run_empty (w : World) : (Instr.buildSlice 25 0 #[]).run Try.prog w = .ok (.slice (some ⟨w.heap.size, 0, none⟩) 0 0) (w.alloc (.cells #[] 77)) := by
  obtain ⟨i, z, hi, -⟩ := cinfo
  simp [Instr.buildSlice, run_underlying Try.underlying25, sizeOf, typeInfo, hi, Instr.fill, newRow]
  rw [show Array.map (fun _ => (default : Value)) (Array.range 0) = #[] from Array.eq_empty_of_size_eq_zero (by simp)]
def shutCE : Sem Value := Instr.buildSlice 25 0 #[]
theorem ce_shut : Instr.buildSlice 25 0 #[] = shutCE := rfl
def shutCA (ats : Array TypeId) (ty : TypeId) (args : Array Value) : Sem Value := Builtin.append_ ats ty args
theorem ca_shut (ats : Array TypeId) (ty : TypeId) (args : Array Value) : Builtin.append_ ats ty args = shutCA ats ty args := rfl
attribute [local go_sem ↓] ce_shut ca_shut
theorem append_new (w : World) (base : Nat) (A : Option Addr) (n c : Nat) (xs : List Value) (hn : xs.length = n * 2) (hn2 : n ≤ 100000) (h1 : ∀ u ∈ xs, u.oneCell' = true) (hr : CReads w A xs) (hA : A = none → n = 0 ∧ c = 0) (v : Value) (m : Nat) (ys : List Value) (hm : m ≤ 100000) (hown : w.ownsRow base 77 2 v m ys) (hbase : base ≤ w.heap.size) :
    ∃ A' c' w', (Builtin.append_ #[25, 25] 25 #[v, .slice A n c]).run Try.prog w = .ok (.slice A' (m + n) c') w' ∧ w'.ownsRow base 77 2 (.slice A' (m + n) c') (m + n) (ys ++ xs) ∧ w.grownBy w' v.ownBlock := by
  obtain ⟨i, z, hi, hz, hs, hb, hc⟩ := cinfo
  have hform : ∀ (v' : Value) (w' : World) (k : Nat) (l : List Value), w'.ownsRow base 77 2 v' k l → ∃ A' c', v' = .slice A' k c' := by
    rintro v' w' k l ⟨_, ⟨hv, h0⟩ | ⟨g', cap, cur, hv, _⟩⟩
    · exact ⟨none, 0, by rw [hv, h0]⟩
    · exact ⟨_, _, hv⟩
  cases A with
  | none =>
    obtain ⟨rfl, rfl⟩ := hA rfl
    have hx : xs = [] := List.length_eq_zero_iff.1 (by rw [hn, Nat.zero_mul])
    subst hx
    obtain ⟨A', c', rfl⟩ := hform _ _ _ _ hown
    refine ⟨A', c', w, ?_, by rw [List.append_nil]; exact hown, ⟨rfl, rfl, rfl, Nat.le_refl _, fun _ _ _ => rfl⟩⟩
    have hle : m ≤ c' := by
      obtain ⟨_, ⟨hv, h0⟩ | ⟨g', cap, cur, hv, _, _, hle, _⟩⟩ := hown
      · cases hv; omega
      · cases hv; exact hle
    simp [Builtin.append_, run_underlying Try.underlying25, sizeOf, typeInfo, hi, Builtin.lenOf, Builtin.firstCells, loadCells, storeCells, hle]
    cases A' <;> simp
  | some a =>
    have hnew : ∀ j u, xs[j]? = some u → w.cell? (a.add j) = some u := by
      intro j u hj
      obtain ⟨b, off, hA, _, _⟩ := hr (by intro e; rw [e] at hj; simp at hj)
      cases hA
      exact hr.add rfl j u hj
    obtain ⟨v', w', hrun, hown', hgrow, _⟩ := run_append_own (P := Try.prog) (w := w) base 25 25 77 i z 2 i.bytes Try.underlying25 hi hz hs rfl hc (by decide) v m ys hown a n c xs hn hnew h1 (by unfold maxLen; omega)
      (by have := Nat.mul_le_mul_left (m + n) hb; omega) hbase
    obtain ⟨A', c', rfl⟩ := hform _ _ _ _ hown'
    exact ⟨A', c', w', hrun, hown', hgrow⟩
set_option maxRecDepth 100000 in
set_option maxHeartbeats 400000 in
theorem clone_walk (w : World) (A : Option Addr) (n c : Nat) (xs : List Value) (hn : xs.length = n * 2) (hn2 : n ≤ 100000) (h1 : ∀ u ∈ xs, u.oneCell' = true) (hr : CReads w A xs) (hA : A = none → n = 0 ∧ c = 0) :
    Calls Try.prog 46 #[.slice A n c] w fun e w' => ∃ A' c', e = .returned (.slice A' n c') ∧ w'.ownsRow w.heap.size 77 2 (.slice A' n c') n xs ∧ Below w.heap.size w w' := by
  cases A with
  | none =>
    obtain ⟨rfl, rfl⟩ := hA rfl
    have hx : xs = [] := List.length_eq_zero_iff.1 (by rw [hn, Nat.zero_mul])
    subst hx
    have heq := Lib.run_eql_slice_nil (P := Try.prog) w 25 77 none 0 0 0 0 Try.underlying25
    clear hr h1 hn hA
    go_enter Try.func46, Try.ntmps46
    go_wp2
    go_ret
    exact ⟨none, 0, rfl, ⟨rfl, .inl ⟨rfl, rfl⟩⟩, same w⟩
  | some a =>
    have heq := Lib.run_eql_slice_nil (P := Try.prog) w 25 77 (some a) n c 0 0 Try.underlying25
    have hnw := newer (same w) (.cells #[] 77)
    have hnil : (w.alloc (.cells #[] 77)).ownsRow w.heap.size 77 2 (.slice (some ⟨w.heap.size, 0, none⟩) 0 0) 0 [] :=
      ⟨by simp, .inr ⟨w.heap.size, 0, #[], rfl, Nat.le_refl _, heap_alloc_new _ _, Nat.le_refl _, Nat.zero_le _, by simp, by simp⟩⟩
    obtain ⟨A', c', w', hrun, hown, hgrow⟩ := append_new (w.alloc (.cells #[] 77)) w.heap.size (some a) n c xs hn hn2 h1 (hr.keep hnw) (fun h => by cases h) _ 0 [] (by decide) hnil hnw.size
    rw [Nat.zero_add] at hrun hown
    have hemp := run_empty w
    have hB : Below w.heap.size w w' := hnw.grown hgrow hnw.size (fun k hk => by cases hk; exact Nat.le_refl _)
    have HO := Ytobdfocfkomagaa.base.Shut.mk (And.intro hown hB)
    rw [ce_shut] at hemp
    rw [ca_shut] at hrun
    obtain ⟨ab, ao, asp⟩ := a
    clear hown hgrow hB hnil hnw hr hA h1 hn
    go_enter Try.func46, Try.ntmps46
    go_wp2
    go_ret
    exact ⟨_, _, rfl, HO.out.1, HO.out.2⟩
end Go.Proofs.Ytobdfocfkomagaa.cloneRule
