/- The walk of LabelNil; how a label is read out of an argument. -/
import Derived.Test.YthkjodlddhdeiaaLabLives
import Derived.Test.YthkjodlddhdeiaaDiskUn
import Derived.Lib.SmallJoins
namespace Go.Proofs.Ythkjodlddhdeiaa.label
open Go.ChangeShapes Go.WideShapes Go.ChangeAt Go.RowKit Go.Deep
open Ythkjodlddhdeiaa.base Ythkjodlddhdeiaa.disk

set_option maxRecDepth 100000 in
theorem open_label {H : Type} {enc : TypeId × Value → H} {W : World} {b0 : Nat} {v : Value} {d : DataW H} {p : List MemPlace} (hv : Value.okWide Try.prog W .any b0 81 v)
    (h : DataW.Trod enc Try.prog W 0 (fun _ => true) true 81 v d p) : ∃ L : Lb, v = L.v ∧ L.note.size ≤ maxLen ∧ (Lit.int .i64 L.turn).wf = true ∧ (Lit.int .i64 L.tail).wf = true ∧ (Lit.int .i64 L.head).wf = true := by
  have hst : ∃ f0 f1 f2 f3, Try.prog.underlying 81 = some (.struct #[f0, f1, f2, f3]) ∧ oneCellFields Try.prog #[f0, f1, f2, f3] = true ∧ f0.type = 3 ∧ f1.type = 3 ∧ f2.type = 3 ∧ f3.type = 9 :=
    ⟨_, _, _, _, Try.underlying81, by kernel_rfl, rfl, rfl, rfl, rfl⟩
  obtain ⟨f0, f1, f2, f3, hu, hone, t0, t1, t2, t3⟩ := hst
  obtain ⟨v0, v1, v2, v3, y0, y1, y2, y3, n, rfl, _, _, r0, r1, r2, r3⟩ := Go.Joins.open_agg4 hu hone (by kernel_rfl) hv h
  rw [t0] at r0
  rw [t1] at r1
  rw [t2] at r2
  rw [t3] at r3
  obtain ⟨k0, q0, _, wf0⟩ := DataW.trod_int Try.underlying3 r0
  obtain ⟨k1, q1, _, wf1⟩ := DataW.trod_int Try.underlying3 r1
  obtain ⟨k2, q2, _, wf2⟩ := DataW.trod_int Try.underlying3 r2
  obtain ⟨s, q3, _, hs⟩ := DataW.trod_string Try.underlying9 r3
  obtain rfl : v0 = .int .i64 k0 := by simpa using q0
  obtain rfl : v1 = .int .i64 k1 := by simpa using q1
  obtain rfl : v2 = .int .i64 k2 := by simpa using q2
  obtain rfl : v3 = .string s := by simpa using q3
  exact ⟨⟨k0, k1, k2, s⟩, rfl, hs, wf0, wf1, wf2⟩

theorem nil_reads (w : World) (i : Int) : Reads w (.pointer none) i ⟨([] : List UInt8).toArray⟩ 1 := fun _ _ => read_un (.inl rfl) i
set_option maxRecDepth 100000 in
set_option maxHeartbeats 1600000 in
theorem labelNil_walk (l : Lb) (w : World) :
    Calls Try.prog 13 #[l.v] w fun e w' => e = .returned (.bool true) ∧ Below w.heap.size w w' := by
  have hR := fun u : World => read_err u (.pointer none) _ 1 (by decide) (nil_reads u 0)
  have hN := fun u : World => next_err u (.pointer none) _ 1 (by decide) (nil_reads u 0)
  have hW := fun u : World => write_early u (.pointer none) l 1 (by decide) (fun x _ => next_err x (.pointer none) _ 1 (by decide) (nil_reads x 0))
  have HH := Ythkjodlddhdeiaa.base.Shut.mk (And.intro hR (And.intro hN hW))
  obtain ⟨lt, la, lh, ln⟩ := l
  obtain ⟨q, hq⟩ : ∃ q, w.heap.size = q := ⟨_, rfl⟩
  obtain ⟨V, hV⟩ : ∃ V, w.alloc (.cells (Lb.cells ⟨lt, la, lh, ln⟩) 81) = V := ⟨_, rfl⟩
  have hX : Row V q (Lb.cells ⟨lt, la, lh, ln⟩) 81 := by rw [← hV, ← hq]; exact Row.new _ _ _
  have hB : Below w.heap.size w V := by rw [← hV]; exact newer (same w) _
  have HV := Ythkjodlddhdeiaa.base.Shut.mk (And.intro hX hB)
  clear hR hN hW hX hB
  go_enter Try.func13, Try.ntmps13
  go_wp2_with fail
  refine (HH.out.1 _).mono ?_
  rintro e w1 ⟨rfl, hb1⟩
  have H1 := Ythkjodlddhdeiaa.base.Shut.mk (And.intro (HV.out.1.below hb1) (chain HV.out.2 hb1))
  clear hb1 hV
  go_wp2_with fail
  refine (HH.out.2.1 _).mono ?_
  rintro e w2 ⟨rfl, hb2⟩
  have hz := (Row.new w1 Lb.zero.cells 81).below hb2
  have hx := (H1.out.1.alloc (.cells Lb.zero.cells 81)).below hb2
  have z0 : w2.cell? ⟨w1.heap.size, 0, none⟩ = some (.int .i64 0) := hz.cell 0
  have z1 : w2.cell? ⟨w1.heap.size, 1, none⟩ = some (.int .i64 0) := hz.cell 1
  have z2 : w2.cell? ⟨w1.heap.size, 2, none⟩ = some (.int .i64 0) := hz.cell 2
  have z3 : w2.cell? ⟨w1.heap.size, 3, none⟩ = some (.string ⟨#[]⟩) := hz.cell 3
  have x0 : w2.cell? ⟨q, 0, none⟩ = some (.int .i64 lt) := hx.cell 0
  have x1 : w2.cell? ⟨q, 1, none⟩ = some (.int .i64 la) := hx.cell 1
  have x2 : w2.cell? ⟨q, 2, none⟩ = some (.int .i64 lh) := hx.cell 2
  have x3 : w2.cell? ⟨q, 3, none⟩ = some (.string ln) := hx.cell 3
  have H2 := Ythkjodlddhdeiaa.base.Shut.mk (chain (newer H1.out.2 (.cells Lb.zero.cells 81)) hb2)
  clear hb2 hz hx H1 HV
  go_wp2_with fail
  refine (HH.out.2.2 _).mono ?_
  rintro e w3 ⟨rfl, hb3⟩
  have H3 := Ythkjodlddhdeiaa.base.Shut.mk (chain H2.out hb3)
  clear hb3
  go_wp2_with fail
  refine (lives_walk _).mono ?_
  rintro e w4 ⟨rfl, hb4⟩
  have H4 := Ythkjodlddhdeiaa.base.Shut.mk (chain H3.out hb4)
  clear hb4
  go_wp2
  go_ret
  exact ⟨rfl, H4.out⟩
end Go.Proofs.Ythkjodlddhdeiaa.label
