/- The walks of slices.Clone of pairs, and of Parts of a node with one pair. -/
import Derived.Test.YtobdfocfkomagaaNodeCheck
import Derived.Laws.AppendOwn
import Derived.Lib.SliceRun
namespace Go.Proofs.Ytobdfocfkomagaa.node
open Go.ChangeShapes Go.WideShapes Go.ChangeAt Go.RowKit
open Ytobdfocfkomagaa.base (size_mk chain newer drewn same ba_ext)

def pairC (p : Pair) : List Value := [.string p.1, .string p.2]
def cellsP (ps : PL) : List Value := ps.flatMap pairC
theorem cellsP_len (ps : PL) : (cellsP ps).length = ps.length * 2 := by
  induction ps with
  | nil => rfl
  | cons p r ih => unfold cellsP at ih ⊢; rw [List.flatMap_cons, List.length_append, ih, List.length_cons]; simp [pairC]; omega
theorem cellsP_at (ps : PL) (j : Nat) (u : Value) (h : (cellsP ps)[j]? = some u) : ∃ i p, ps[i]? = some p ∧ ((j = i * 2 ∧ u = .string p.1) ∨ (j = i * 2 + 1 ∧ u = .string p.2)) := by
  induction ps generalizing j with
  | nil => simp [cellsP] at h
  | cons p r ih =>
    unfold cellsP at ih h
    rw [List.flatMap_cons] at h
    by_cases h0 : j = 0
    · subst h0; cases h; exact ⟨0, p, rfl, .inl ⟨rfl, rfl⟩⟩
    · by_cases h1 : j = 1
      · subst h1; cases h; exact ⟨0, p, rfl, .inr ⟨rfl, rfl⟩⟩
      · rw [List.getElem?_append_right (by simp [pairC]; omega)] at h
        obtain ⟨i, q, hq, hh⟩ := ih _ h
        have e : (pairC p).length = 2 := rfl
        refine ⟨i + 1, q, by simpa using hq, ?_⟩
        rcases hh with ⟨h2, h3⟩ | ⟨h2, h3⟩
        · exact .inl ⟨by omega, h3⟩
        · exact .inr ⟨by omega, h3⟩
theorem cellsP_one (ps : PL) : ∀ u ∈ cellsP ps, u.oneCell' = true := by
  intro u hu
  unfold cellsP at hu
  obtain ⟨p, _, hp⟩ := List.mem_flatMap.1 hu
  simp [pairC] at hp
  rcases hp with rfl | rfl <;> rfl
theorem pair_info : ∃ i z, Try.prog.info? 60 = some i ∧ i.zero = some z ∧ i.size = 2 ∧ i.bytes = 32 ∧ z.cells.size = 2 := by
  have h : (Try.prog.info? 60).map (fun i => (i.zero.map (·.cells.size), i.size, i.bytes)) = some (some 2, 2, 32) := by kernel_rfl
  obtain ⟨i, hi, hh⟩ := Option.map_eq_some_iff.1 h
  simp only [Prod.mk.injEq] at hh
  obtain ⟨z, hz, hc⟩ := Option.map_eq_some_iff.1 hh.1
  exact ⟨i, z, hi, hz, hh.2.1, hh.2.2, hc⟩
theorem node_info : ∃ i z, Try.prog.info? 49 = some i ∧ i.zero = some z ∧ i.size = 2 ∧ i.bytes = 32 ∧ z.cells.size = 2 := by
  have h : (Try.prog.info? 49).map (fun i => (i.zero.map (·.cells.size), i.size, i.bytes)) = some (some 2, 2, 32) := by kernel_rfl
  obtain ⟨i, hi, hh⟩ := Option.map_eq_some_iff.1 h
  simp only [Prod.mk.injEq] at hh
  obtain ⟨z, hz, hc⟩ := Option.map_eq_some_iff.1 hh.1
  exact ⟨i, z, hi, hz, hh.2.1, hh.2.2, hc⟩
theorem run_empty (T E : TypeId) (i : TypeInfo) (hu : Try.prog.underlying T = some (.slice E)) (hi : Try.prog.info? E = some i) (w : World) :
    (Instr.buildSlice T 0 #[]).run Try.prog w = .ok (.slice (some ⟨w.heap.size, 0, none⟩) 0 0) (w.alloc (.cells #[] E)) := by
  simp [Instr.buildSlice, run_underlying hu, sizeOf, typeInfo, hi, Instr.fill, newRow]
  rw [show Array.map (fun _ => (default : Value)) (Array.range 0) = #[] from Array.eq_empty_of_size_eq_zero (by simp)]
/-- pairs appended to a row that is empty -/
theorem append_pairs (w : World) (b off n c : Nat) (ps : PL) (hn : ps.length = n) (h1 : 1 ≤ n) (h2 : n ≤ 1000) (hr : PReads w (some ⟨b, off, none⟩) ps) :
    ∃ g6 cap6 w6, (Builtin.append_ #[47, 47] 47 #[.slice (some ⟨w.heap.size, 0, none⟩) 0 0, .slice (some ⟨b, off, none⟩) n c]).run Try.prog (w.alloc (.cells #[] 60)) = .ok (.slice (some ⟨g6, 0, none⟩) n cap6) w6 ∧
      w6.ownsRow w.heap.size 60 2 (.slice (some ⟨g6, 0, none⟩) n cap6) n (cellsP ps) ∧ Below w.heap.size w w6 := by
  obtain ⟨i, z, hi, hz, hs, hb, hc⟩ := pair_info
  have hnil : (w.alloc (.cells #[] 60)).ownsRow w.heap.size 60 2 (.slice (some ⟨w.heap.size, 0, none⟩) 0 0) 0 [] :=
    ⟨by simp, .inr ⟨w.heap.size, 0, #[], rfl, Nat.le_refl _, heap_alloc_new _ _, Nat.le_refl _, Nat.zero_le _, by simp, by simp⟩⟩
  have hr2 := hr.keep (newer (same w) (.cells #[] 60))
  obtain ⟨b', off', hA, _, hcell⟩ := hr2 (fun e => by rw [e] at hn; simp at hn; omega)
  cases hA
  have hnew : ∀ j u, (cellsP ps)[j]? = some u → (w.alloc (.cells #[] 60)).cell? ((⟨b, off, none⟩ : Addr).add j) = some u := by
    intro j u hj
    rw [Addr.add_mid]
    obtain ⟨i, p, hp, ⟨rfl, rfl⟩ | ⟨rfl, rfl⟩⟩ := cellsP_at ps j u hj
    · exact (hcell i p hp).1
    · rw [← Nat.add_assoc]; exact (hcell i p hp).2
  obtain ⟨v', w6, hrun, hown, hgrow, hnn⟩ := run_append_own (P := Try.prog) (w := w.alloc (.cells #[] 60)) w.heap.size 47 47 60 i z 2 32 Try.underlying47 hi hz hs hb hc (by decide) _ 0 [] hnil ⟨b, off, none⟩ n c (cellsP ps) (by rw [cellsP_len, hn]) hnew (cellsP_one ps) (by unfold maxLen; omega) (by omega) (by simp)
  rw [Nat.zero_add] at hown
  have hb1 : Below w.heap.size w w6 := (newer (same w) (.cells #[] 60)).grown hgrow (by simp) (fun k hk => by cases hk; exact Nat.le_refl _)
  have hform : ∃ g6 cap6, v' = .slice (some ⟨g6, 0, none⟩) n cap6 := by
    obtain ⟨_, ⟨hv, _⟩ | ⟨g6, cap6, cur, rfl, _⟩⟩ := hown
    · have := (hnn.1 hv).1; cases this
    · exact ⟨g6, cap6, rfl⟩
  obtain ⟨g6, cap6, rfl⟩ := hform
  exact ⟨g6, cap6, w6, hrun, hown, hb1⟩
def shutE : Sem Value := Instr.buildSlice 47 0 #[]
theorem e_shut : Instr.buildSlice 47 0 #[] = shutE := rfl
def shutA (ats : Array TypeId) (ty : TypeId) (args : Array Value) : Sem Value := Builtin.append_ ats ty args
theorem a_shut (ats : Array TypeId) (ty : TypeId) (args : Array Value) : Builtin.append_ ats ty args = shutA ats ty args := rfl
attribute [local go_sem ↓] e_shut a_shut
set_option maxRecDepth 100000 in
set_option maxHeartbeats 400000 in
theorem clone_walk (w : World) (b off n c : Nat) (ps : PL) (hn : ps.length = n) (h1 : 1 ≤ n) (h2 : n ≤ 1000) (hr : PReads w (some ⟨b, off, none⟩) ps) :
    Calls Try.prog 64 #[.slice (some ⟨b, off, none⟩) n c] w fun e w' => ∃ g6 cap6, e = .returned (.slice (some ⟨g6, 0, none⟩) n cap6) ∧ w'.ownsRow w.heap.size 60 2 (.slice (some ⟨g6, 0, none⟩) n cap6) n (cellsP ps) ∧ Below w.heap.size w w' := by
  obtain ⟨i, z, hi, hz, hs, hb, hc⟩ := pair_info
  have heq := Lib.run_eql_slice_nil (P := Try.prog) w 47 60 (some ⟨b, off, none⟩) n c 0 0 Try.underlying47
  obtain ⟨g6, cap6, w6, hrun, hown, hb6⟩ := append_pairs w b off n c ps hn h1 h2 hr
  have hemp := run_empty 47 60 i Try.underlying47 hi w
  have HO := Ytobdfocfkomagaa.base.Shut.mk (And.intro hown hb6)
  clear hi hz hs hb hc h1 h2 hown hb6 hn hr
  rw [e_shut] at hemp
  rw [a_shut] at hrun
  go_enter Try.func64, Try.ntmps64
  go_wp2
  go_ret
  exact ⟨_, _, rfl, HO.out.1, HO.out.2⟩
end Go.Proofs.Ytobdfocfkomagaa.node
