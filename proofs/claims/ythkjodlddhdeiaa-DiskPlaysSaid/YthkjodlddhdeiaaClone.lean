/- slices.Clone at the three slice types of this family: the same cells in memory of the call's own; nil stays nil. -/
import Derived.Test.YthkjodlddhdeiaaDiskMid
import Derived.Lib.SliceRun
namespace Go.Proofs.Ythkjodlddhdeiaa.base
open Go.ChangeShapes Go.WideShapes Go.ChangeAt Go.RowKit
open Ythkjodlddhdeiaa.disk

theorem run_empty (T E : TypeId) (i : TypeInfo) (hu : Try.prog.underlying T = some (.slice E)) (hi : Try.prog.info? E = some i) (w : World) :
    (Instr.buildSlice T 0 #[]).run Try.prog w = .ok (.slice (some ⟨w.heap.size, 0, none⟩) 0 0) (w.alloc (.cells #[] E)) := by
  simp [Instr.buildSlice, run_underlying hu, sizeOf, typeInfo, hi, Instr.fill, newRow]
  rw [show Array.map (fun _ => (default : Value)) (Array.range 0) = #[] from Array.eq_empty_of_size_eq_zero (by simp)]
theorem clone_append {W : World} {base n g cap : Nat} {T E : TypeId} {i : TypeInfo} {z : Value} {size bytes : Nat} {xs : List Value} (hu : Try.prog.underlying T = some (.slice E)) (hi : Try.prog.info? E = some i) (hz : i.zero = some z)
    (hs : i.size = size) (hb : i.bytes = bytes) (hc : z.cells.size = size) (hpos : 0 < size) (h : W.ownsRow base E size (.slice (some ⟨g, 0, none⟩) n cap) n xs) (h1 : ∀ u ∈ xs, u.oneCell' = true) (h63 : n ≤ maxLen) (hbytes : n * bytes ≤ 140737488355328) :
    ∃ g6 cap6 w6, (Builtin.append_ #[T, T] T #[.slice (some ⟨W.heap.size, 0, none⟩) 0 0, .slice (some ⟨g, 0, none⟩) n cap]).run Try.prog (W.alloc (.cells #[] E)) = .ok (.slice (some ⟨g6, 0, none⟩) n cap6) w6 ∧
      w6.ownsRow W.heap.size E size (.slice (some ⟨g6, 0, none⟩) n cap6) n xs ∧ Below W.heap.size W w6 := by
  have hnil : (W.alloc (.cells #[] E)).ownsRow W.heap.size E size (.slice (some ⟨W.heap.size, 0, none⟩) 0 0) 0 [] :=
    ⟨by simp, .inr ⟨W.heap.size, 0, #[], rfl, Nat.le_refl _, heap_alloc_new _ _, Nat.le_refl _, Nat.zero_le _, by simp, by simp⟩⟩
  have hnew : ∀ j u, xs[j]? = some u → (W.alloc (.cells #[] E)).cell? ((⟨g, 0, none⟩ : Addr).add j) = some u := by
    intro j u hj
    have hadd : (⟨g, 0, none⟩ : Addr).add j = ⟨g, j, none⟩ := by unfold Addr.add; split <;> simp_all
    have hjn : j < n * size := by have := (List.getElem?_eq_some_iff.1 hj).1; rw [h.1] at this; exact this
    have hcell := h.cellAt j hjn
    rw [hj] at hcell
    rw [hadd, World.cell?_alloc_lt _ _ _ (World.block_lt_of_cell? W _ hcell)]
    exact hcell
  obtain ⟨v', w6, hrun, hown, hgrow, hnn⟩ := run_append_own (P := Try.prog) (w := W.alloc (.cells #[] E)) W.heap.size T T E i z size bytes hu hi hz hs hb hc hpos _ 0 [] hnil ⟨g, 0, none⟩ n cap xs h.1 hnew h1 (by omega) (by rw [Nat.zero_add]; exact hbytes) (by simp)
  rw [Nat.zero_add] at hown
  have hb1 : Below W.heap.size W w6 := (newer (same W) (.cells #[] E)).grown hgrow (by simp) (fun k hk => by cases hk; exact Nat.le_refl _)
  have hform : ∃ g6 cap6, v' = .slice (some ⟨g6, 0, none⟩) n cap6 := by
    obtain ⟨_, ⟨hv, _⟩ | ⟨g6, cap6, cur, rfl, _⟩⟩ := hown
    · have := (hnn.1 hv).1; cases this
    · exact ⟨g6, cap6, rfl⟩
  obtain ⟨g6, cap6, rfl⟩ := hform
  exact ⟨g6, cap6, w6, hrun, hown, hb1⟩
/-- what a clone is -/
def Cloned (E : TypeId) (size n : Nat) (v : Value) (xs : List Value) (w : World) (e : Ending) (w' : World) : Prop :=
  ∃ v', e = .returned v' ∧ w'.ownsRow w.heap.size E size v' n xs ∧ Below w.heap.size w w' ∧ (v = .slice none 0 0 ↔ v' = .slice none 0 0)
theorem Cloned.some {E : TypeId} {size n g cap : Nat} {xs : List Value} {w w' : World} {e : Ending} (h : Cloned E size n (.slice (some ⟨g, 0, none⟩) n cap) xs w e w') :
    ∃ g' cap', e = .returned (.slice (some ⟨g', 0, none⟩) n cap') ∧ w'.ownsRow w.heap.size E size (.slice (some ⟨g', 0, none⟩) n cap') n xs ∧ Below w.heap.size w w' := by
  obtain ⟨v', rfl, ho, hb, hn⟩ := h
  obtain ⟨hl, ⟨hv, _⟩ | ⟨g6, cap6, cur, rfl, r⟩⟩ := ho
  · have := hn.2 hv; cases this
  · exact ⟨g6, cap6, rfl, ⟨hl, .inr ⟨g6, cap6, cur, rfl, r⟩⟩, hb⟩

section
def shutEmpty_blocks : Sem Value := Instr.buildSlice 62 0 #[]
theorem empty_blocks : Instr.buildSlice 62 0 #[] = shutEmpty_blocks := rfl
def shutApp_blocks (args : Array Value) : Sem Value := Builtin.append_ #[62, 62] 62 args
theorem app_blocks (args : Array Value) : Builtin.append_ #[62, 62] 62 args = shutApp_blocks args := rfl
attribute [local go_sem ↓] empty_blocks app_blocks
set_option maxRecDepth 100000 in
set_option maxHeartbeats 400000 in
theorem clone_blocks {w : World} {base n : Nat} {v : Value} {xs : List Value} (h : w.ownsRow base 105 512 v n xs) (h1 : ∀ u ∈ xs, u.oneCell' = true) (h63 : n ≤ 1000000) :
    Calls Try.prog 62 #[v] w (Cloned 105 512 n v xs w) := by
  obtain ⟨i, z, hi, hz, hs, hb, hc0⟩ := zero_block
  have hc : z.cells.size = 512 := by rw [hc0]; simp
  obtain ⟨hl, ⟨rfl, rfl⟩ | ⟨g, cap, cur, rfl, hg1, hg2, hg3, hg4, hg5, hg6⟩⟩ := h
  · have heq := Lib.run_eql_slice_nil (P := Try.prog) w 62 105 none 0 0 0 0 Try.underlying62
    obtain rfl : xs = [] := List.eq_nil_of_length_eq_zero (by simpa using hl)
    clear hi hz hs hb hc hl h1 h63
    go_enter Try.func62, Try.ntmps62
    go_wp2
    go_ret
    exact ⟨_, rfl, World.ownsRow_nil _ _ _ _, same _, Iff.rfl⟩
  · have heq := Lib.run_eql_slice_nil (P := Try.prog) w 62 105 (some ⟨g, 0, none⟩) n cap 0 0 Try.underlying62
    obtain ⟨g6, cap6, w6, hrun, hown, hb6⟩ := clone_append (T := 62) Try.underlying62 hi hz hs hb hc (by decide) (show w.ownsRow base 105 512 _ n xs from ⟨hl, .inr ⟨g, cap, cur, rfl, hg1, hg2, hg3, hg4, hg5, hg6⟩⟩) h1 (by unfold maxLen; omega) (by omega)
    have hemp := run_empty 62 105 i Try.underlying62 hi w
    have HO := Shut.mk (And.intro hown hb6)
    clear hi hz hs hb hc hl h1 h63 hown hb6 hg1 hg2 hg3 hg4 hg5 hg6
    rw [empty_blocks] at hemp
    rw [app_blocks] at hrun
    go_enter Try.func62, Try.ntmps62
    go_wp2
    go_ret
    exact ⟨_, rfl, HO.out.1, HO.out.2, by simp⟩
end

section
def shutEmpty_loose : Sem Value := Instr.buildSlice 63 0 #[]
theorem empty_loose : Instr.buildSlice 63 0 #[] = shutEmpty_loose := rfl
def shutApp_loose (args : Array Value) : Sem Value := Builtin.append_ #[63, 63] 63 args
theorem app_loose (args : Array Value) : Builtin.append_ #[63, 63] 63 args = shutApp_loose args := rfl
attribute [local go_sem ↓] empty_loose app_loose
set_option maxRecDepth 100000 in
set_option maxHeartbeats 400000 in
theorem clone_loose {w : World} {base n : Nat} {v : Value} {xs : List Value} (h : w.ownsRow base 107 513 v n xs) (h1 : ∀ u ∈ xs, u.oneCell' = true) (h63 : n ≤ 1000000) :
    Calls Try.prog 69 #[v] w (Cloned 107 513 n v xs w) := by
  obtain ⟨i, z, hi, hz, hs, hb, hc⟩ := loose_info
  obtain ⟨hl, ⟨rfl, rfl⟩ | ⟨g, cap, cur, rfl, hg1, hg2, hg3, hg4, hg5, hg6⟩⟩ := h
  · have heq := Lib.run_eql_slice_nil (P := Try.prog) w 63 107 none 0 0 0 0 Try.underlying63
    obtain rfl : xs = [] := List.eq_nil_of_length_eq_zero (by simpa using hl)
    clear hi hz hs hb hc hl h1 h63
    go_enter Try.func69, Try.ntmps69
    go_wp2
    go_ret
    exact ⟨_, rfl, World.ownsRow_nil _ _ _ _, same _, Iff.rfl⟩
  · have heq := Lib.run_eql_slice_nil (P := Try.prog) w 63 107 (some ⟨g, 0, none⟩) n cap 0 0 Try.underlying63
    obtain ⟨g6, cap6, w6, hrun, hown, hb6⟩ := clone_append (T := 63) Try.underlying63 hi hz hs hb hc (by decide) (show w.ownsRow base 107 513 _ n xs from ⟨hl, .inr ⟨g, cap, cur, rfl, hg1, hg2, hg3, hg4, hg5, hg6⟩⟩) h1 (by unfold maxLen; omega) (by omega)
    have hemp := run_empty 63 107 i Try.underlying63 hi w
    have HO := Shut.mk (And.intro hown hb6)
    clear hi hz hs hb hc hl h1 h63 hown hb6 hg1 hg2 hg3 hg4 hg5 hg6
    rw [empty_loose] at hemp
    rw [app_loose] at hrun
    go_enter Try.func69, Try.ntmps69
    go_wp2
    go_ret
    exact ⟨_, rfl, HO.out.1, HO.out.2, by simp⟩
end
end Go.Proofs.Ythkjodlddhdeiaa.base
