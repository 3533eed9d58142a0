/- The walk of label.Read. -/
import Derived.Test.YthkjodlddhdeiaaLabTop
namespace Go.Proofs.Ythkjodlddhdeiaa.label
open Go.ChangeShapes Go.WideShapes Go.ChangeAt Go.RowKit
open Ythkjodlddhdeiaa.base Ythkjodlddhdeiaa.disk
open Ythkjodlddhdeiaa.seal (takeE takeN takeS)

theorem Reads.mono {w w' : World} {v : Value} {i : Int} {s : ByteArray} {E : Int} (h : Reads w v i s E) (hb : Below w.heap.size w w') : Reads w' v i s E :=
  fun u hu => h u (hb.trans (hu.mono hb.size))

set_option maxRecDepth 100000 in
set_option maxHeartbeats 1600000 in
theorem read_err (w : World) (v : Value) (s0 : ByteArray) (E : Int) (hE : E ≠ 0) (h0 : Reads w v 0 s0 E) :
    Calls Try.prog 49 #[v] w fun e w' => e = .returned (.tuple #[Lb.zero.v, .int .i64 E]) ∧ Below w.heap.size w w' := by
  obtain ⟨V, hV⟩ : ∃ V, w.alloc (.cells #[.int .i64 0, .int .i64 0, .int .i64 0, .string ⟨#[]⟩] 81) = V := ⟨_, rfl⟩
  have hB : Below w.heap.size w V := by rw [← hV]; exact newer (same w) _
  have hX : Row V w.heap.size Lb.zero.cells 81 := by rw [← hV]; exact Row.new _ _ _
  have hl := load_err V v s0 E hE (h0.mono hB)
  have HH := Ythkjodlddhdeiaa.base.Shut.mk (And.intro hl (And.intro hX hB))
  clear hl hX hB h0
  go_enter Try.func49, Try.ntmps49
  go_wp2_with fail
  refine HH.out.1.mono ?_
  rintro e w1 ⟨rfl, hb1⟩
  have hX1 : Row (w1.alloc (.cells #[.string ⟨#[]⟩, .string ⟨#[]⟩] 126)) w.heap.size Lb.zero.cells 81 := (HH.out.2.1.below hb1).alloc _
  have hB1 : Below w.heap.size w (w1.alloc (.cells #[.string ⟨#[]⟩, .string ⟨#[]⟩] 126)) := newer (chain HH.out.2.2 hb1) _
  have y0 : (w1.alloc (.cells #[.string ⟨#[]⟩, .string ⟨#[]⟩] 126)).cell? ⟨w.heap.size, 0, none⟩ = some (.int .i64 0) := hX1.cell 0
  have y1 : (w1.alloc (.cells #[.string ⟨#[]⟩, .string ⟨#[]⟩] 126)).cell? ⟨w.heap.size, 1, none⟩ = some (.int .i64 0) := hX1.cell 1
  have y2 : (w1.alloc (.cells #[.string ⟨#[]⟩, .string ⟨#[]⟩] 126)).cell? ⟨w.heap.size, 2, none⟩ = some (.int .i64 0) := hX1.cell 2
  have y3 : (w1.alloc (.cells #[.string ⟨#[]⟩, .string ⟨#[]⟩] 126)).cell? ⟨w.heap.size, 3, none⟩ = some (.string ⟨#[]⟩) := hX1.cell 3
  have f0 := hX1.frozen 0
  have f1 := hX1.frozen 1
  have f2 := hX1.frozen 2
  have f3 := hX1.frozen 3
  have H1 := Ythkjodlddhdeiaa.base.Shut.mk (And.intro hX1 hB1)
  clear hb1 hX1 hB1 hV
  go_wp2
  exact bodyPost_ret (v := .tuple #[Lb.zero.v, .int .i64 E]) (res_lb (p := 2) (u := 3) rfl _ _ w.heap.size Lb.zero rfl (H1.out.1.lay _ _ _ _ rfl)) rfl ⟨rfl, lay_below H1.out.2 (Nat.le_refl _) _ _ _ _⟩

set_option maxRecDepth 100000 in
set_option maxHeartbeats 1600000 in
theorem read_ok (w : World) (v : Value) (s0 s1 : ByteArray) (h0 : Reads w v 0 s0 0) (h1 : Reads w v 1 s1 0) :
    Calls Try.prog 49 #[v] w fun e w' => e = .returned (.tuple #[(bestP s0 s1).1.v, .int .i64 (stateP s0 s1)]) ∧ Below w.heap.size w w' := by
  obtain ⟨V, hV⟩ : ∃ V, w.alloc (.cells #[.int .i64 0, .int .i64 0, .int .i64 0, .string ⟨#[]⟩] 81) = V := ⟨_, rfl⟩
  have hB : Below w.heap.size w V := by rw [← hV]; exact newer (same w) _
  have hX : Row V w.heap.size Lb.zero.cells 81 := by rw [← hV]; exact Row.new _ _ _
  have hl := load_ok V v s0 s1 (h0.mono hB) (h1.mono hB)
  have t0 := fun u : World => best_walk s0 s1 u
  have t1 := fun u : World => state_walk s0 s1 u
  obtain ⟨B, hBq⟩ : ∃ B, bestP s0 s1 = B := ⟨_, rfl⟩
  obtain ⟨S, hSq⟩ : ∃ S, stateP s0 s1 = S := ⟨_, rfl⟩
  rw [hBq] at t0 ⊢
  rw [hSq] at t1 ⊢
  obtain ⟨⟨bt, ba, bh, bn⟩, bi⟩ := B
  simp only at t0 ⊢
  have HH := Ythkjodlddhdeiaa.base.Shut.mk (And.intro hl (And.intro t0 (And.intro t1 (And.intro hX hB))))
  clear hl hX hB h0 h1 t0 t1 hBq hSq
  go_enter Try.func49, Try.ntmps49
  go_wp2_with fail
  refine HH.out.1.mono ?_
  rintro e w1 ⟨rfl, hb1⟩
  obtain ⟨V1, hV1⟩ : ∃ V1, w1.alloc (.cells #[.string s0, .string s1] 126) = V1 := ⟨_, rfl⟩
  have hbb : Below w1.heap.size w1 V1 := by rw [← hV1]; exact newer (same w1) _
  have hX1 : Row V1 w.heap.size Lb.zero.cells 81 := (HH.out.2.2.2.1.below hb1).below hbb
  have hY1 : Row V1 w1.heap.size (pairC s0 s1) 126 := by rw [← hV1]; exact Row.new _ _ _
  have hB1 : Below w.heap.size w V1 := chain (chain HH.out.2.2.2.2 hb1) hbb
  have p0 : V1.cell? ⟨w1.heap.size, 0, none⟩ = some (.string s0) := hY1.cell 0
  have p1 : V1.cell? ⟨w1.heap.size, 1, none⟩ = some (.string s1) := hY1.cell 1
  have H1 := Ythkjodlddhdeiaa.base.Shut.mk (And.intro hX1 (And.intro hY1 hB1))
  clear hb1 hX1 hY1 hB1 hV hbb
  go_wp2_with fail
  refine (HH.out.2.1 _).mono ?_
  rintro e w2 ⟨rfl, hb2⟩
  obtain ⟨V2, hV2⟩ : ∃ V2, w2.alloc (.cells #[.int .i64 bt, .int .i64 ba, .int .i64 bh, .string bn] 81) = V2 := ⟨_, rfl⟩
  have hbb : Below w2.heap.size w2 V2 := by rw [← hV2]; exact newer (same w2) _
  have hX2 : Row V2 w.heap.size Lb.zero.cells 81 := (H1.out.1.below hb2).below hbb
  have hY2 : Row V2 w1.heap.size (pairC s0 s1) 126 := (H1.out.2.1.below hb2).below hbb
  have hZ2 : Row V2 w2.heap.size (Lb.cells ⟨bt, ba, bh, bn⟩) 81 := by rw [← hV2]; exact Row.new _ _ _
  have hB2 : Below w.heap.size w V2 := chain (chain H1.out.2.2 hb2) hbb
  have p0 : V2.cell? ⟨w1.heap.size, 0, none⟩ = some (.string s0) := hY2.cell 0
  have p1 : V2.cell? ⟨w1.heap.size, 1, none⟩ = some (.string s1) := hY2.cell 1
  have z0 : V2.cell? ⟨w2.heap.size, 0, none⟩ = some (.int .i64 bt) := hZ2.cell 0
  have z1 : V2.cell? ⟨w2.heap.size, 1, none⟩ = some (.int .i64 ba) := hZ2.cell 1
  have z2 : V2.cell? ⟨w2.heap.size, 2, none⟩ = some (.int .i64 bh) := hZ2.cell 2
  have z3 : V2.cell? ⟨w2.heap.size, 3, none⟩ = some (.string bn) := hZ2.cell 3
  have y0 : V2.cell? ⟨w.heap.size, 0, none⟩ = some (.int .i64 0) := hX2.cell 0
  have y1 : V2.cell? ⟨w.heap.size, 1, none⟩ = some (.int .i64 0) := hX2.cell 1
  have y2 : V2.cell? ⟨w.heap.size, 2, none⟩ = some (.int .i64 0) := hX2.cell 2
  have y3 : V2.cell? ⟨w.heap.size, 3, none⟩ = some (.string ⟨#[]⟩) := hX2.cell 3
  have H2 := Ythkjodlddhdeiaa.base.Shut.mk (And.intro hX2 (And.intro hY2 (And.intro hZ2 hB2)))
  clear hb2 hX2 hY2 hZ2 hB2 hV1 hbb
  go_wp2
  go_region_with (go_at_call 87; (with_reducible refine Calls.mono (HH.out.2.2.1 _) ?_); rintro e w3 ⟨rfl, hb3⟩; have r3 : Row w3 w.heap.size Lb.zero.cells 81 := (H2.out.1.below (drewn (same V2))).below hb3; have s3 : Row w3 w2.heap.size (Lb.cells ⟨bt, ba, bh, bn⟩) 81 := (H2.out.2.2.1.below (drewn (same V2))).below hb3; have a0 : w3.cell? ⟨w.heap.size, 0, none⟩ = some (.int .i64 0) := r3.cell 0; have f0 := r3.frozen 0; have a1 : w3.cell? ⟨w.heap.size, 1, none⟩ = some (.int .i64 0) := r3.cell 1; have f1 := r3.frozen 1; have a2 : w3.cell? ⟨w.heap.size, 2, none⟩ = some (.int .i64 0) := r3.cell 2; have f2 := r3.frozen 2; have a3 : w3.cell? ⟨w.heap.size, 3, none⟩ = some (.string ⟨#[]⟩) := r3.cell 3; have f3 := r3.frozen 3; have b0 : w3.cell? ⟨w2.heap.size, 0, none⟩ = some (.int .i64 bt) := s3.cell 0; have b1 : w3.cell? ⟨w2.heap.size, 1, none⟩ = some (.int .i64 ba) := s3.cell 1; have b2 : w3.cell? ⟨w2.heap.size, 2, none⟩ = some (.int .i64 bh) := s3.cell 2; have b3 : w3.cell? ⟨w2.heap.size, 3, none⟩ = some (.string bn) := s3.cell 3; have H3 := Ythkjodlddhdeiaa.base.Shut.mk (And.intro (chain (drewn H2.out.2.2.2) hb3) r3); clear hb3 r3 s3)
  all_goals
    go_wp2
    exact bodyPost_ret (v := .tuple #[Lb.v ⟨bt, ba, bh, bn⟩, .int .i64 S]) (res_lb (p := 2) (u := 3) rfl _ _ w.heap.size ⟨bt, ba, bh, bn⟩ rfl (H3.out.2.lay _ _ _ _ rfl)) rfl ⟨rfl, lay_below H3.out.1 (Nat.le_refl _) _ _ _ _⟩
end Go.Proofs.Ythkjodlddhdeiaa.label
