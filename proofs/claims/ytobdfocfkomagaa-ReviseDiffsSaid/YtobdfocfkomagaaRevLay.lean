/- The walk of revise.lay. UNDER WAY. -/
import Derived.Test.YtobdfocfkomagaaRevLcs
import Derived.Test.YtobdfocfkomagaaRevUndo
import Derived.BigRegion
namespace Go.Proofs.Ytobdfocfkomagaa.rev
open Go.ChangeShapes Go.WideShapes Go.ChangeAt Go.RowKit
open Ytobdfocfkomagaa.base (size_mk chain newer drewn same ba_ext)
open Ytobdfocfkomagaa.row2 (Row CReads own_keep)

attribute [local go_sem] si_one si_cells run_store_si
abbrev zgrid : Array Value := Array.replicate 625 (.int .i64 0)
def shutG : Sem Value := Instr.build 128 #[]
theorem g_shut : Instr.build 128 #[] = shutG := rfl
theorem grid_info : ∃ i, Try.prog.info? 128 = some i ∧ i.zero = some (.agg zgrid) := by
  have h : (Try.prog.info? 128).bind (·.zero) = some (.agg zgrid) := by kernel_rfl
  obtain ⟨i, hi, hz⟩ := Option.bind_eq_some_iff.1 h
  exact ⟨i, hi, hz⟩
theorem row_info : ∃ i, Try.prog.info? 95 = some i ∧ i.size = 25 := by
  have h : (Try.prog.info? 95).map (·.size) = some 25 := by kernel_rfl
  obtain ⟨i, hi, hz⟩ := Option.map_eq_some_iff.1 h
  exact ⟨i, hi, hz⟩
theorem run_grid (w : World) : (Instr.build 128 #[]).run Try.prog w = .ok (.agg zgrid) w := by
  obtain ⟨i, hi, hz⟩ := grid_info
  obtain ⟨j, hj, hs⟩ := row_info
  simp [Instr.build, zeroValue, sizeOf, typeInfo, hi, hz, hj, run_underlying Try.underlying128, Instr.fill]
  rfl

/-- a grid by its places -/
structure Grid (w : World) (g : Nat) (f : Nat → Nat → Nat) : Prop where
  row : ∃ C, Row w g C 128 ∧ C.size = 625 ∧ ∀ i k, i < 25 → k < 25 → C[i * 25 + k]? = some (.int .i64 (f i k : Int))
theorem Grid.new (w : World) : Grid (w.alloc (.cells zgrid 128)) w.heap.size (fun _ _ => 0) :=
  ⟨⟨zgrid, Row.new w _ _, by simp [zgrid], fun i k hi hk => by simp only [zgrid]; rw [Array.getElem?_replicate, if_pos (by omega)]; rfl⟩⟩
theorem Grid.below {w w' : World} {g : Nat} {f : Nat → Nat → Nat} (h : Grid w g f) (hb : Below w.heap.size w w') : Grid w' g f := by
  obtain ⟨C, hr, hs, ha⟩ := h.row
  exact ⟨⟨C, hr.below hb, hs, ha⟩⟩
theorem Grid.at_ {w : World} {g : Nat} {f : Nat → Nat → Nat} (h : Grid w g f) (i k : Nat) (hi : i < 25) (hk : k < 25) : w.cell? ⟨g, i * 25 + k, none⟩ = some (.int .i64 (f i k : Int)) := by
  obtain ⟨C, hr, hs, ha⟩ := h.row
  exact hr.at_ (ha i k hi hk)
theorem Grid.set {w : World} {g : Nat} {f : Nat → Nat → Nat} (h : Grid w g f) (i k v : Nat) (hi : i < 25) (hk : k < 25) : Grid (w.setCell ⟨g, i * 25 + k, none⟩ (.int .i64 (v : Int))) g (fun a b => if a = i ∧ b = k then v else f a b) := by
  obtain ⟨C, hr, hs, ha⟩ := h.row
  refine ⟨⟨_, hr.set (i * 25 + k) _, by simpa using hs, fun a b h1 h2 => ?_⟩⟩
  by_cases e : a = i ∧ b = k
  · obtain ⟨rfl, rfl⟩ := e
    rw [Array.getElem?_setIfInBounds_self, if_pos (by omega), if_pos (And.intro rfl rfl)]
  · rw [Array.getElem?_setIfInBounds_ne (by omega), if_neg e]
    exact ha a b h1 h2

theorem Grid.frozen {w : World} {g : Nat} {f : Nat → Nat → Nat} (h : Grid w g f) (i : Nat) : w.frozen? ⟨g, i, none⟩ = false := by
  obtain ⟨C, hr, hs, ha⟩ := h.row
  exact hr.frozen i
def Lc (rs ss : List RI) (i k : Nat) : Nat := lcsR (rs.drop i) (ss.drop k)
theorem Lc_out1 (rs ss : List RI) (i k : Nat) (h : rs.length ≤ i) : Lc rs ss i k = 0 := by unfold Lc; rw [List.drop_of_length_le h]; simp [lcsR]
theorem Lc_out2 (rs ss : List RI) (i k : Nat) (h : ss.length ≤ k) : Lc rs ss i k = 0 := by unfold Lc; rw [List.drop_of_length_le h]; exact lcsR_nil _
theorem Lc_step {rs ss : List RI} {i k : Nat} {x y : RI} (hx : rs[i]? = some x) (hy : ss[k]? = some y) : Lc rs ss i k = if sameR x y then Lc rs ss (i + 1) (k + 1) + 1 else max (Lc rs ss (i + 1) k) (Lc rs ss i (k + 1)) := by
  obtain ⟨h1, rfl⟩ := List.getElem?_eq_some_iff.1 hx
  obtain ⟨h2, rfl⟩ := List.getElem?_eq_some_iff.1 hy
  unfold Lc
  rw [List.drop_eq_getElem_cons h1, List.drop_eq_getElem_cons h2, lcsR]
def layO (rs ss : List RI) (i a b : Nat) : Nat := if i ≤ a then Lc rs ss a b else 0
def layI (rs ss : List RI) (s k a b : Nat) : Nat := if s < a ∨ a = s ∧ k ≤ b then Lc rs ss a b else 0
theorem layI_start (rs ss : List RI) (s : Nat) : layI rs ss s ss.length = layO rs ss (s + 1) := by
  funext a b
  unfold layI layO
  by_cases h : s < a
  · rw [if_pos (.inl h), if_pos (by omega)]
  · rw [if_neg (show ¬ s + 1 ≤ a by omega)]
    split
    · rename_i h2
      rcases h2 with h2 | ⟨_, h2⟩
      · exact absurd h2 h
      · exact Lc_out2 _ _ _ _ h2
    · rfl
theorem layI_end (rs ss : List RI) (s : Nat) : layI rs ss s 0 = layO rs ss s := by
  funext a b
  unfold layI layO
  by_cases h : s ≤ a
  · rw [if_pos (by omega), if_pos h]
  · rw [if_neg (by omega), if_neg h]
theorem layI_step (rs ss : List RI) (s k : Nat) : (fun a b => if a = s ∧ b = k then Lc rs ss s k else layI rs ss s (k + 1) a b) = layI rs ss s k := by
  funext a b
  unfold layI
  by_cases h : a = s ∧ b = k
  · obtain ⟨rfl, rfl⟩ := h
    rw [if_pos ⟨rfl, rfl⟩, if_pos (by omega)]
  · rw [if_neg h]
    by_cases h2 : s < a ∨ a = s ∧ k + 1 ≤ b
    · rw [if_pos h2, if_pos (by omega)]
    · rw [if_neg h2, if_neg (by omega)]
theorem layO_start (rs ss : List RI) : layO rs ss rs.length = fun _ _ => 0 := by
  funext a b
  unfold layO
  split
  · exact Lc_out1 _ _ _ _ (by assumption)
  · rfl
theorem layO_end (rs ss : List RI) : layO rs ss 0 = Lc rs ss := by
  funext a b
  unfold layO
  rw [if_pos (Nat.zero_le _)]

end Go.Proofs.Ytobdfocfkomagaa.rev
