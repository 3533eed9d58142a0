/- The walks of pair.fresh, pair.state, label.Read. -/
import Derived.Test.YthkjodlddhdeiaaLabBestX
namespace Go.Proofs.Ythkjodlddhdeiaa.label
open Go.ChangeShapes Go.WideShapes Go.ChangeAt Go.RowKit
open Ythkjodlddhdeiaa.base Ythkjodlddhdeiaa.disk
open Ythkjodlddhdeiaa.seal (takeE takeN takeS)

def freshP (s0 s1 : ByteArray) : Bool := decide (takeE s0.data.toList = 6 ∨ takeE s1.data.toList = 6)
def stateP (s0 s1 : ByteArray) : Int := if 0 ≤ (bestP s0 s1).2 then 0 else if freshP s0 s1 = true then 6 else 9

set_option maxRecDepth 100000 in
set_option maxHeartbeats 1600000 in
theorem fresh_walk (s0 s1 : ByteArray) (w : World) :
    Calls Try.prog 107 #[.agg (pairC s0 s1)] w fun e w' => e = .returned (.bool (freshP s0 s1)) ∧ Below w.heap.size w w' := by
  have t0 := fun u : World => Ythkjodlddhdeiaa.seal.take_walk s0 u
  have t1 := fun u : World => Ythkjodlddhdeiaa.seal.take_walk s1 u
  have hP : freshP s0 s1 = decide (takeE s0.data.toList = 6 ∨ takeE s1.data.toList = 6) := rfl
  generalize takeE s0.data.toList = e0 at t0 hP
  generalize takeN s0.data.toList = n0 at t0
  generalize takeS s0.data.toList = b0 at t0
  generalize takeE s1.data.toList = e1 at t1 hP
  generalize takeN s1.data.toList = n1 at t1
  generalize takeS s1.data.toList = b1 at t1
  have i0 := at0 s0 s1
  have i1 := at1 s0 s1
  generalize freshP s0 s1 = r at hP ⊢
  have HT := Ythkjodlddhdeiaa.base.Shut.mk (And.intro t0 t1)
  have HP := Ythkjodlddhdeiaa.base.Shut.mk hP
  have HB := Ythkjodlddhdeiaa.base.Shut.mk (newer (same w) (.cells (pairC s0 s1) 126))
  clear t0 t1 hP
  by_cases h0 : e0 = 6
  · obtain rfl : r = true := by rw [HP.out]; simp [h0]
    go_enter Try.func107, Try.ntmps107
    go_wp2_with fail
    refine wp_loop_rounds 3 ?_
    rw [rounds_succ]
    go_wp2_with fail
    refine (HT.out.1 _).mono ?_
    rintro e w1 ⟨rfl, hb1⟩
    have H1 := Ythkjodlddhdeiaa.base.Shut.mk (chain HB.out hb1)
    clear hb1 HB
    go_wp2
    go_ret
    exact ⟨rfl, H1.out⟩
  · by_cases h1 : e1 = 6
    · obtain rfl : r = true := by rw [HP.out]; simp [h1]
      go_enter Try.func107, Try.ntmps107
      go_wp2_with fail
      refine wp_loop_rounds 3 ?_
      rw [rounds_succ]
      go_wp2_with fail
      refine (HT.out.1 _).mono ?_
      rintro e w1 ⟨rfl, hb1⟩
      have H1 := Ythkjodlddhdeiaa.base.Shut.mk (chain HB.out hb1)
      clear hb1 HB
      go_wp2
      rw [rounds_succ]
      go_wp2_with fail
      refine (HT.out.2 _).mono ?_
      rintro e w2 ⟨rfl, hb2⟩
      have H2 := Ythkjodlddhdeiaa.base.Shut.mk (chain H1.out hb2)
      clear hb2 H1
      go_wp2
      go_ret
      exact ⟨rfl, H2.out⟩
    · obtain rfl : r = false := by rw [HP.out]; simp [h0, h1]
      go_enter Try.func107, Try.ntmps107
      go_wp2_with fail
      refine wp_loop_rounds 3 ?_
      rw [rounds_succ]
      go_wp2_with fail
      refine (HT.out.1 _).mono ?_
      rintro e w1 ⟨rfl, hb1⟩
      have H1 := Ythkjodlddhdeiaa.base.Shut.mk (chain HB.out hb1)
      clear hb1 HB
      go_wp2
      rw [rounds_succ]
      go_wp2_with fail
      refine (HT.out.2 _).mono ?_
      rintro e w2 ⟨rfl, hb2⟩
      have H2 := Ythkjodlddhdeiaa.base.Shut.mk (chain H1.out hb2)
      clear hb2 H1
      go_wp2
      rw [rounds_succ]
      go_wp2
      go_ret
      exact ⟨rfl, H2.out⟩

set_option maxRecDepth 100000 in
set_option maxHeartbeats 1600000 in
theorem state_walk (s0 s1 : ByteArray) (w : World) :
    Calls Try.prog 87 #[.agg (pairC s0 s1)] w fun e w' => e = .returned (.int .i64 (stateP s0 s1)) ∧ Below w.heap.size w w' := by
  have t0 := fun u : World => best_walk s0 s1 u
  have t1 := fun u : World => fresh_walk s0 s1 u
  have hP : stateP s0 s1 = if 0 ≤ (bestP s0 s1).2 then 0 else if freshP s0 s1 = true then 6 else 9 := rfl
  generalize bestP s0 s1 = b at t0 hP
  generalize freshP s0 s1 = r at t1 hP
  generalize stateP s0 s1 = st at hP ⊢
  obtain ⟨⟨bt, ba, bh, bn⟩, bi⟩ := b
  simp only at t0 hP
  have HT := Ythkjodlddhdeiaa.base.Shut.mk (And.intro t0 t1)
  have HP := Ythkjodlddhdeiaa.base.Shut.mk hP
  obtain ⟨V, hV⟩ : ∃ V, w.alloc (.cells #[.string s0, .string s1] 126) = V := ⟨_, rfl⟩
  have hB : Below w.heap.size w V := by rw [← hV]; exact newer (same w) _
  have hX : Row V w.heap.size (pairC s0 s1) 126 := by rw [← hV]; exact Row.new _ _ _
  have x0 : V.cell? ⟨w.heap.size, 0, none⟩ = some (.string s0) := hX.cell 0
  have x1 : V.cell? ⟨w.heap.size, 1, none⟩ = some (.string s1) := hX.cell 1
  have HV := Ythkjodlddhdeiaa.base.Shut.mk (And.intro hB hX)
  clear t0 t1 hP hB hX
  by_cases h0 : 0 ≤ bi
  · obtain rfl : st = 0 := by rw [HP.out, if_pos h0]
    go_enter Try.func87, Try.ntmps87
    go_wp2_with fail
    refine (HT.out.1 _).mono ?_
    rintro e w1 ⟨rfl, hb1⟩
    have H1 := Ythkjodlddhdeiaa.base.Shut.mk (newer (chain HV.out.1 hb1) (.cells #[.int .i64 bt, .int .i64 ba, .int .i64 bh, .string bn] 81))
    clear hb1 hV
    go_wp2
    go_ret
    exact ⟨rfl, H1.out⟩
  · cases r with
    | true =>
      obtain rfl : st = 6 := by rw [HP.out, if_neg h0]; rfl
      go_enter Try.func87, Try.ntmps87
      go_wp2_with fail
      refine (HT.out.1 _).mono ?_
      rintro e w1 ⟨rfl, hb1⟩
      obtain ⟨V1, hV1⟩ : ∃ V1, w1.alloc (.cells #[.int .i64 bt, .int .i64 ba, .int .i64 bh, .string bn] 81) = V1 := ⟨_, rfl⟩
      have hbb : Below w1.heap.size w1 V1 := by rw [← hV1]; exact newer (same w1) _
      have y0 : V1.cell? ⟨w.heap.size, 0, none⟩ = some (.string s0) := ((HV.out.2.below hb1).below hbb).cell 0
      have y1 : V1.cell? ⟨w.heap.size, 1, none⟩ = some (.string s1) := ((HV.out.2.below hb1).below hbb).cell 1
      have H1 := Ythkjodlddhdeiaa.base.Shut.mk (chain (chain HV.out.1 hb1) hbb)
      clear hb1 hV x0 x1 hbb
      go_wp2_with fail
      refine (HT.out.2 _).mono ?_
      rintro e w2 ⟨rfl, hb2⟩
      have H2 := Ythkjodlddhdeiaa.base.Shut.mk (chain H1.out hb2)
      clear hb2
      go_wp2
      go_ret
      exact ⟨rfl, H2.out⟩
    | false =>
      obtain rfl : st = 9 := by rw [HP.out, if_neg h0]; rfl
      go_enter Try.func87, Try.ntmps87
      go_wp2_with fail
      refine (HT.out.1 _).mono ?_
      rintro e w1 ⟨rfl, hb1⟩
      obtain ⟨V1, hV1⟩ : ∃ V1, w1.alloc (.cells #[.int .i64 bt, .int .i64 ba, .int .i64 bh, .string bn] 81) = V1 := ⟨_, rfl⟩
      have hbb : Below w1.heap.size w1 V1 := by rw [← hV1]; exact newer (same w1) _
      have y0 : V1.cell? ⟨w.heap.size, 0, none⟩ = some (.string s0) := ((HV.out.2.below hb1).below hbb).cell 0
      have y1 : V1.cell? ⟨w.heap.size, 1, none⟩ = some (.string s1) := ((HV.out.2.below hb1).below hbb).cell 1
      have H1 := Ythkjodlddhdeiaa.base.Shut.mk (chain (chain HV.out.1 hb1) hbb)
      clear hb1 hV x0 x1 hbb
      go_wp2_with fail
      refine (HT.out.2 _).mono ?_
      rintro e w2 ⟨rfl, hb2⟩
      have H2 := Ythkjodlddhdeiaa.base.Shut.mk (chain H1.out hb2)
      clear hb2
      go_wp2
      go_ret
      exact ⟨rfl, H2.out⟩
end Go.Proofs.Ythkjodlddhdeiaa.label
