/- Rows of numbers that grow (for the reference's count of alike rules). -/
import Derived.Test.YtobdfocfkomagaaRevAlikeP
import Derived.Test.YtobdfocfkomagaaRevKeyP
import Derived.Laws.OwnMore
import Derived.Lib.SliceRun
namespace Go.Proofs.Ytobdfocfkomagaa.rev
open Go.ChangeShapes Go.WideShapes Go.ChangeAt Go.RowKit
open Ytobdfocfkomagaa.base (size_mk chain newer drewn same ba_ext)
open Ytobdfocfkomagaa.row2 (Row CReads own_keep)
def intsOf (f : Nat → Nat) (n : Nat) : List Value := (List.range n).map (fun k => Value.int .i64 (f k : Int))
theorem intsOf_len (f : Nat → Nat) (n : Nat) : (intsOf f n).length = n := by simp [intsOf]
theorem intsOf_get (f : Nat → Nat) (n k : Nat) (h : k < n) : (intsOf f n)[k]? = some (.int .i64 (f k : Int)) := by
  unfold intsOf
  rw [List.getElem?_map, List.getElem?_range h]
  rfl
theorem intsOf_succ (f : Nat → Nat) (n : Nat) : intsOf f n ++ [.int .i64 (f n : Int)] = intsOf f (n + 1) := by
  unfold intsOf
  rw [List.range_succ, List.map_append]
  rfl
theorem int_info : ∃ i, Try.prog.info? 3 = some i ∧ i.zero = some (.int .i64 0) ∧ i.size = 1 ∧ i.bytes = 8 := by
  have h : (Try.prog.info? 3).map (fun i => (i.zero, i.size, i.bytes)) = some (some (.int .i64 0), 1, 8) := by kernel_rfl
  obtain ⟨i, hi, hh⟩ := Option.map_eq_some_iff.1 h
  simp only [Prod.mk.injEq] at hh
  exact ⟨i, hi, hh.1, hh.2.1, hh.2.2⟩
/-- one number more -/
theorem int_append (w : World) (base g : Nat) (x : Int) (hx : w.cell? ⟨g, 0, none⟩ = some (.int .i64 x)) (v : Value) (m : Nat) (ys : List Value) (hm : m ≤ 1000) (hown : w.ownsRow base 3 1 v m ys) (hbase : base ≤ w.heap.size) :
    ∃ A' c' w', (Builtin.append_ #[97, 97] 97 #[v, .slice (some ⟨g, 0, none⟩) 1 1]).run Try.prog w = .ok (.slice A' (m + 1) c') w' ∧ w'.ownsRow base 3 1 (.slice A' (m + 1) c') (m + 1) (ys ++ [.int .i64 x]) ∧ w.grownBy w' v.ownBlock := by
  obtain ⟨i, hi, hz, hs, hb⟩ := int_info
  obtain ⟨v', w', hrun, hown', hgrow, _⟩ := run_append_own (P := Try.prog) (w := w) base 97 97 3 i _ 1 i.bytes Try.underlying97 hi hz hs rfl rfl (by decide) v m ys hown ⟨g, 0, none⟩ 1 1 [.int .i64 x] rfl (fun j u hj => by
      cases j with
      | zero => cases (show Value.int .i64 x = u by simpa using hj); simpa [Addr.add] using hx
      | succ j => simp at hj) (fun u hu => by cases (show u = .int .i64 x by simpa using hu); rfl) (by unfold maxLen; omega) (by rw [hb]; omega) hbase
  have hform : ∃ A' c', v' = .slice A' (m + 1) c' := by
    obtain ⟨_, ⟨hv, h0⟩ | ⟨g', cap, cur, hv, _⟩⟩ := hown'
    · exact ⟨none, 0, by rw [hv, h0]⟩
    · exact ⟨_, _, hv⟩
  obtain ⟨A', c', rfl⟩ := hform
  exact ⟨A', c', w', hrun, hown', hgrow⟩
theorem lcsG_comm {α : Type} [DecidableEq α] (s t : List α) : lcsG s t = lcsG t s := by
  apply Nat.le_antisymm
  · obtain ⟨c, h1, h2, h3⟩ := lcsG_sub s t
    rw [← h3]
    exact lcsG_max _ _ c h2 h1
  · obtain ⟨c, h1, h2, h3⟩ := lcsG_sub t s
    rw [← h3]
    exact lcsG_max _ _ c h2 h1
theorem Pf_up {rs ss : List RI} {i k : Nat} {x y : RI} (hx : rs[i]? = some x) (hy : ss[k]? = some y) : Pf rs ss i (k + 1) ≤ Pf rs ss i k + 1 ∧ Pf rs ss (i + 1) k ≤ Pf rs ss i k + 1 := by
  unfold Pf
  rw [take_rev hx, take_rev hy, lcsR_key, lcsR_key, lcsR_key]
  constructor
  · exact lcsG_del _ [] _ (key y)
  · rw [lcsG_comm, lcsG_comm (keys (rs.take i).reverse)]
    exact lcsG_del _ [] _ (key x)
/-- the reference's own way to the next number -/
theorem Pf_way {rs ss : List RI} {i k : Nat} {x y : RI} (hx : rs[i]? = some x) (hy : ss[k]? = some y) : Pf rs ss (i + 1) (k + 1) = if sameR x y then max (max (Pf rs ss (i + 1) k) (Pf rs ss i (k + 1))) (Pf rs ss i k + 1) else max (Pf rs ss (i + 1) k) (Pf rs ss i (k + 1)) := by
  have h := Pf_up hx hy
  rw [Pf_step hx hy]
  split <;> omega
end Go.Proofs.Ytobdfocfkomagaa.rev
