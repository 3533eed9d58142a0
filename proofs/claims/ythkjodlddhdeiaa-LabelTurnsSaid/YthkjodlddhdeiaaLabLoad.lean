/- The walk of label.load. -/
import Derived.Test.YthkjodlddhdeiaaLabParse
namespace Go.Proofs.Ythkjodlddhdeiaa.label
open Go.ChangeShapes Go.WideShapes Go.ChangeAt Go.RowKit
open Ythkjodlddhdeiaa.base Ythkjodlddhdeiaa.disk

abbrev pairC (s0 s1 : ByteArray) : Array Value := #[.string s0, .string s1]
theorem res_pair {fn : Func} {p u : Nat} (hr : fn.results = #[.cell p 126, .tmp u]) (tmps : Array Value) (w : World) (q : Nat) (s0 s1 : ByteArray) (hq : tmps.getD p undef = .pointer (some ⟨q, 0, none⟩)) (h : Row w q (pairC s0 s1) 126) :
    (results fn tmps).run Try.prog w = .ok (.tuple #[.agg (pairC s0 s1), tmps.getD u undef]) w := by
  have c0 : w.cell? ⟨q, 0, none⟩ = some (.string s0) := h.cell 0
  have c1 : w.cell? ⟨q, 1, none⟩ = some (.string s1) := h.cell 1
  have hu := Try.underlying126
  rw [results_cell_tmp hr, hq]
  simp [go_sem, c0, c1]
theorem Row.lay2 {w : World} {q : Nat} {x y : Value} {t : TypeId} (h : Row w q #[x, y] t) (a b : Value) :
    Row ((w.setCell ⟨q, 0, none⟩ a).setCell ⟨q, 1, none⟩ b) q #[a, b] t := by
  have := (h.set 0 a).set 1 b
  simpa using this
theorem lay2_below {w u : World} {q B : Nat} (h : Below B u w) (hq : B ≤ q) (a b : Value) :
    Below B u ((w.setCell ⟨q, 0, none⟩ a).setCell ⟨q, 1, none⟩ b) :=
  (h.setCell (p := ⟨q, 0, none⟩) hq a).setCell (p := ⟨q, 1, none⟩) hq b
/-- what a call of Read tells -/
def Reads (w : World) (v : Value) (i : Int) (s : ByteArray) (E : Int) : Prop :=
  ∀ u, Below w.heap.size w u → Calls Try.prog 25 #[v, .int .i64 i] u fun e u' => e = .returned (.tuple #[.string s, .int .i64 E]) ∧ u = u'

set_option maxRecDepth 100000 in
set_option maxHeartbeats 1600000 in
theorem load_ok (w : World) (v : Value) (s0 s1 : ByteArray) (h0 : Reads w v 0 s0 0) (h1 : Reads w v 1 s1 0) : Calls Try.prog 85 #[v] w fun e w' =>
    e = .returned (.tuple #[.agg (pairC s0 s1), .int .i64 0]) ∧ Below w.heap.size w w' := by
  have HR := Ythkjodlddhdeiaa.base.Shut.mk (And.intro h0 h1)
  clear h0 h1
  go_enter Try.func85, Try.ntmps85
  go_wp2_with fail
  refine wp_loop_rounds 3 ?_
  rw [rounds_succ]
  go_wp2_with fail
  refine (HR.out.1 _ (newer (newer (same w) _) _)).mono ?_
  rintro e w1 ⟨rfl, rfl⟩
  go_wp2
  rw [rounds_succ]
  go_wp2_with fail
  refine (HR.out.2 _ (newer (newer (same w) _) _)).mono ?_
  rintro e w1 ⟨rfl, rfl⟩
  go_wp2
  rw [rounds_succ]
  go_wp2
  exact bodyPost_ret (v := .tuple #[.agg (pairC s0 s1), .int .i64 0]) (res_pair (p := 2) (u := 3) rfl _ _ w.heap.size s0 s1 rfl ((Row.new _ _ _).alloc _)) rfl ⟨rfl, newer (newer (same w) _) _⟩

set_option maxRecDepth 100000 in
set_option maxHeartbeats 1600000 in
theorem load_err (w : World) (v : Value) (s0 : ByteArray) (E : Int) (hE : E ≠ 0) (h0 : Reads w v 0 s0 E) : Calls Try.prog 85 #[v] w fun e w' =>
    e = .returned (.tuple #[.agg (pairC ⟨#[]⟩ ⟨#[]⟩), .int .i64 E]) ∧ Below w.heap.size w w' := by
  have HR := Ythkjodlddhdeiaa.base.Shut.mk h0
  clear h0
  go_enter Try.func85, Try.ntmps85
  go_wp2_with fail
  refine wp_loop_rounds 3 ?_
  rw [rounds_succ]
  go_wp2_with fail
  refine (HR.out _ (newer (newer (same w) _) _)).mono ?_
  rintro e w1 ⟨rfl, rfl⟩
  go_wp2
  exact bodyPost_ret (v := .tuple #[.agg (pairC ⟨#[]⟩ ⟨#[]⟩), .int .i64 E]) (res_pair (p := 2) (u := 3) rfl _ _ w.heap.size ⟨#[]⟩ ⟨#[]⟩ rfl ((Row.new _ _ _).alloc _)) rfl ⟨rfl, newer (newer (same w) _) _⟩
end Go.Proofs.Ythkjodlddhdeiaa.label
