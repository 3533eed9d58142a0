/- The walk of label.Next. -/
import Derived.Test.YthkjodlddhdeiaaLabRead
namespace Go.Proofs.Ythkjodlddhdeiaa.label
open Go.ChangeShapes Go.WideShapes Go.ChangeAt Go.RowKit
open Ythkjodlddhdeiaa.base Ythkjodlddhdeiaa.disk
open Ythkjodlddhdeiaa.seal (takeE takeN takeS halvesL)

theorem halves_b (s : ByteArray) (w : World) :
    Calls Try.prog 19 #[.string s] w fun e w' => e = .returned (.tuple #[.int .i64 (halvesL s.data.toList).1, .int .i64 (halvesL s.data.toList).2]) ∧ Below w.heap.size w w' :=
  (Ythkjodlddhdeiaa.seal.halves_walk s w).mono fun _ _ ⟨h, m, hw⟩ => ⟨h, by rw [hw]; exact drewnN (same w) m⟩
def stepM (m n : Int) : Int := if n < 4611686018427387904 then max m n else m
theorem stepM_bd {m n : Int} (h : 0 ≤ m ∧ m < 4611686018427387904) : 0 ≤ stepM m n ∧ stepM m n < 4611686018427387904 := by unfold stepM; split <;> omega
def mostAt (s0 s1 : ByteArray) : Nat → Int
  | 0 => 0
  | 1 => stepM (stepM 0 (halvesL s0.data.toList).1) (halvesL s0.data.toList).2
  | _ => stepM (stepM (stepM (stepM 0 (halvesL s0.data.toList).1) (halvesL s0.data.toList).2) (halvesL s1.data.toList).1) (halvesL s1.data.toList).2
def mostP (s0 s1 : ByteArray) : Int := mostAt s0 s1 2
theorem mostAt_bd (s0 s1 : ByteArray) (k : Nat) : 0 ≤ mostAt s0 s1 k ∧ mostAt s0 s1 k < 4611686018427387904 := by
  match k with
  | 0 => exact ⟨Int.le_refl _, by show (0 : Int) < 4611686018427387904; decide⟩
  | 1 => exact stepM_bd (stepM_bd ⟨by decide, by decide⟩)
  | k + 2 => exact stepM_bd (stepM_bd (stepM_bd (stepM_bd ⟨by decide, by decide⟩)))
def nextT (s0 s1 : ByteArray) : Int × Int × Int := if stateP s0 s1 = 9 then (0, 0, 9) else (if (bestP s0 s1).2 = 0 then 1 else 0, mostP s0 s1 + 1, 0)
def innerAt (m x y : Int) : Nat → Int
  | 0 => m
  | 1 => stepM m x
  | _ => stepM (stepM m x) y

theorem ix0 (x y : Int) (u : World) : (Instr.index 130 (.agg #[.int .i64 x, .int .i64 y]) (.int .i64 0)).run Try.prog u = .ok (.int .i64 x) u := by
  have hu := Try.underlying130
  simp [go_sem, Instr.index]
theorem ix1 (x y : Int) (u : World) : (Instr.index 130 (.agg #[.int .i64 x, .int .i64 y]) (.int .i64 1)).run Try.prog u = .ok (.int .i64 y) u := by
  have hu := Try.underlying130
  simp [go_sem, Instr.index]
theorem inner0 (m x y : Int) : innerAt m x y 0 = m := rfl
theorem inner1 (m x y : Int) : innerAt m x y 1 = if x < 4611686018427387904 then max (innerAt m x y 0) x else innerAt m x y 0 := rfl
theorem inner2 (m x y : Int) : innerAt m x y 2 = if y < 4611686018427387904 then max (innerAt m x y 1) y else innerAt m x y 1 := rfl

set_option maxRecDepth 100000 in
set_option maxHeartbeats 1600000 in
theorem next_err (w : World) (v : Value) (s0 : ByteArray) (E : Int) (hE : E ≠ 0) (h0 : Reads w v 0 s0 E) :
    Calls Try.prog 50 #[v] w fun e w' => e = .returned (.tuple #[.int .i64 0, .int .i64 0, .int .i64 E]) ∧ Below w.heap.size w w' := by
  have HH := Ythkjodlddhdeiaa.base.Shut.mk (load_err w v s0 E hE h0)
  clear h0
  go_enter Try.func50, Try.ntmps50
  go_wp2_with fail
  refine HH.out.mono ?_
  rintro e w1 ⟨rfl, hb1⟩
  have H1 := Ythkjodlddhdeiaa.base.Shut.mk (newer hb1 (.cells (pairC ⟨#[]⟩ ⟨#[]⟩) 126))
  clear hb1
  go_wp2
  go_ret3
  exact ⟨rfl, H1.out⟩

set_option maxRecDepth 100000 in
set_option maxHeartbeats 1600000 in
theorem next_ok (w : World) (v : Value) (s0 s1 : ByteArray) (h0 : Reads w v 0 s0 0) (h1 : Reads w v 1 s1 0) :
    Calls Try.prog 50 #[v] w fun e w' => e = .returned (.tuple #[.int .i64 (nextT s0 s1).1, .int .i64 (nextT s0 s1).2.1, .int .i64 (nextT s0 s1).2.2]) ∧ Below w.heap.size w w' := by
  have hl := load_ok w v s0 s1 h0 h1
  have t0 := fun u : World => best_walk s0 s1 u
  have t1 := fun u : World => state_walk s0 s1 u
  have u0 := fun u : World => halves_b s0 u
  have u1 := fun u : World => halves_b s1 u
  have hm0 : mostAt s0 s1 0 = 0 := rfl
  have hm1 : mostAt s0 s1 1 = innerAt (mostAt s0 s1 0) (halvesL s0.data.toList).1 (halvesL s0.data.toList).2 2 := rfl
  have hm2 : mostAt s0 s1 2 = innerAt (mostAt s0 s1 1) (halvesL s1.data.toList).1 (halvesL s1.data.toList).2 2 := rfl
  have hbd := fun k => mostAt_bd s0 s1 k
  have hP : nextT s0 s1 = if stateP s0 s1 = 9 then (0, 0, 9) else (if (bestP s0 s1).2 = 0 then 1 else 0, mostAt s0 s1 2 + 1, 0) := rfl
  generalize mostAt s0 s1 = most at hm0 hm1 hm2 hbd hP
  generalize halvesL s0.data.toList = H0 at u0 hm1
  generalize halvesL s1.data.toList = H1 at u1 hm2
  generalize bestP s0 s1 = B at t0 hP
  generalize stateP s0 s1 = S at t1 hP
  generalize nextT s0 s1 = T at hP ⊢
  obtain ⟨xx0, yy0⟩ := H0
  obtain ⟨xx1, yy1⟩ := H1
  obtain ⟨⟨bt, ba, bh, bn⟩, bi⟩ := B
  obtain ⟨T1, T2, T3⟩ := T
  simp only at t0 hP u0 u1 hm1 hm2 ⊢
  have i0 := at0 s0 s1
  have i1 := at1 s0 s1
  have HH := Ythkjodlddhdeiaa.base.Shut.mk (And.intro hl (And.intro t0 (And.intro t1 (And.intro u0 u1))))
  have HP := Ythkjodlddhdeiaa.base.Shut.mk hP
  have HM := Ythkjodlddhdeiaa.base.Shut.mk (And.intro hm0 (And.intro hm1 (And.intro hm2 hbd)))
  clear hl h0 h1 t0 t1 u0 u1 hP hm0 hm1 hm2 hbd
  by_cases hS : S = 9
  · obtain ⟨rfl, rfl, rfl⟩ : T1 = 0 ∧ T2 = 0 ∧ T3 = 9 := by have h := HP.out; rw [if_pos hS] at h; exact ⟨congrArg (·.1) h, congrArg (·.2.1) h, congrArg (·.2.2) h⟩
    subst hS
    go_enter Try.func50, Try.ntmps50
    go_wp2_with fail
    refine HH.out.1.mono ?_
    rintro e w1 ⟨rfl, hb1⟩
    have H1 := Ythkjodlddhdeiaa.base.Shut.mk (newer hb1 (.cells (pairC s0 s1) 126))
    clear hb1
    go_wp2_with fail
    refine (HH.out.2.2.1 _).mono ?_
    rintro e w2 ⟨rfl, hb2⟩
    have H2 := Ythkjodlddhdeiaa.base.Shut.mk (chain H1.out hb2)
    clear hb2 H1
    go_wp2
    go_ret3
    exact ⟨rfl, H2.out⟩
  · obtain ⟨rfl, rfl, rfl⟩ : T1 = (if bi = 0 then 1 else 0) ∧ T2 = most 2 + 1 ∧ T3 = 0 := by have h := HP.out; rw [if_neg hS] at h; exact ⟨congrArg (·.1) h, congrArg (·.2.1) h, congrArg (·.2.2) h⟩
    clear HP
    go_enter Try.func50, Try.ntmps50
    go_wp2_with fail
    refine HH.out.1.mono ?_
    rintro e w1 ⟨rfl, hb1⟩
    have hR1 : Row (w1.alloc (.cells (pairC s0 s1) 126)) w1.heap.size (pairC s0 s1) 126 := Row.new _ _ _
    have H1 := Ythkjodlddhdeiaa.base.Shut.mk (And.intro (newer hb1 (.cells (pairC s0 s1) 126)) hR1)
    clear hb1 hR1
    go_wp2_with fail
    refine (HH.out.2.2.1 _).mono ?_
    rintro e w2 ⟨rfl, hb2⟩
    have hR2 := H1.out.2.below hb2
    have y0 : w2.cell? ⟨w1.heap.size, 0, none⟩ = some (.string s0) := hR2.cell 0
    have y1 : w2.cell? ⟨w1.heap.size, 1, none⟩ = some (.string s1) := hR2.cell 1
    have H2 := Ythkjodlddhdeiaa.base.Shut.mk (And.intro (chain H1.out.1 hb2) hR2)
    clear hb2 H1 hR2
    go_wp2
    go_loopw [8, 32] (fun m i wr => ∃ k : Nat, k ≤ 2 ∧ i = .int .i64 k ∧ m = .int .i64 (most k) ∧ Ythkjodlddhdeiaa.base.Shut (Below w2.heap.size w2 wr)) (fun _ i _ => 2 - (intOf i).toNat)
    case atStart => exact ⟨0, by omega, rfl, by rw [HM.out.1], ⟨same _⟩⟩
    case round =>
      obtain ⟨k, hk, rfl, rfl, HW⟩ := hrel
      have hways : k = 0 ∨ k = 1 ∨ k = 2 := by omega
      rcases hways with rfl | rfl | rfl
      · go_wp2_with fail
        refine (HH.out.2.2.2.1 _).mono ?_
        rintro e w3 ⟨rfl, hb3⟩
        have H3 := Ythkjodlddhdeiaa.base.Shut.mk (chain HW.out hb3)
        have hn0 := inner0 (most 0) xx0 yy0
        have hn1 := inner1 (most 0) xx0 yy0
        have hn2 := inner2 (most 0) xx0 yy0
        have ix0' := ix0 xx0 yy0
        have ix1' := ix1 xx0 yy0
        have hfin := HM.out.2.1
        generalize innerAt (most 0) xx0 yy0 = inn at hn0 hn1 hn2 hfin
        have HN := Ythkjodlddhdeiaa.base.Shut.mk (And.intro hn0 (And.intro hn1 (And.intro hn2 hfin)))
        clear hb3 HW hn0 hn1 hn2 hfin
        go_wp2
        go_loop [8, 43] (fun m i => ∃ j : Nat, j ≤ 2 ∧ i = .int .i64 j ∧ m = .int .i64 (inn j)) (fun _ i => 2 - (intOf i).toNat)
        case atStart => exact ⟨0, by omega, rfl, by rw [HN.out.1]⟩
        case round =>
          obtain ⟨j, hj, rfl, rfl⟩ := hrel
          have hways : j = 0 ∨ j = 1 ∨ j = 2 := by omega
          rcases hways with rfl | rfl | rfl
          · by_cases hx : xx0 < 4611686018427387904
            · go_wp2
              go_round
              case rel => exact ⟨1, by omega, by go_num, by rw [HN.out.2.1, if_pos hx]; first | rfl | (congr 1; omega)⟩
              case measure => simp [intOf]
            · go_wp2
              go_round
              case rel => exact ⟨1, by omega, by go_num, by rw [HN.out.2.1, if_neg hx]⟩
              case measure => simp [intOf]
          · by_cases hx : yy0 < 4611686018427387904
            · go_wp2
              go_round
              case rel => exact ⟨2, by omega, by go_num, by rw [HN.out.2.2.1, if_pos hx]; first | rfl | (congr 1; omega)⟩
              case measure => simp [intOf]
            · go_wp2
              go_round
              case rel => exact ⟨2, by omega, by go_num, by rw [HN.out.2.2.1, if_neg hx]⟩
              case measure => simp [intOf]
          · go_wp2
            go_roundw
            case rel => exact ⟨_, _, _, _, _, _, ⟨1, by omega, rfl, rfl⟩, by rw [HN.out.2.2.2], rfl, rfl, rfl, rfl, rfl⟩
            case measure => simp [intOf]
      · go_wp2_with fail
        refine (HH.out.2.2.2.2 _).mono ?_
        rintro e w3 ⟨rfl, hb3⟩
        have H3 := Ythkjodlddhdeiaa.base.Shut.mk (chain HW.out hb3)
        have hn0 := inner0 (most 1) xx1 yy1
        have hn1 := inner1 (most 1) xx1 yy1
        have hn2 := inner2 (most 1) xx1 yy1
        have ix0' := ix0 xx1 yy1
        have ix1' := ix1 xx1 yy1
        have hfin := HM.out.2.2.1
        generalize innerAt (most 1) xx1 yy1 = inn at hn0 hn1 hn2 hfin
        have HN := Ythkjodlddhdeiaa.base.Shut.mk (And.intro hn0 (And.intro hn1 (And.intro hn2 hfin)))
        clear hb3 HW hn0 hn1 hn2 hfin
        go_wp2
        go_loop [8, 43] (fun m i => ∃ j : Nat, j ≤ 2 ∧ i = .int .i64 j ∧ m = .int .i64 (inn j)) (fun _ i => 2 - (intOf i).toNat)
        case atStart => exact ⟨0, by omega, rfl, by rw [HN.out.1]⟩
        case round =>
          obtain ⟨j, hj, rfl, rfl⟩ := hrel
          have hways : j = 0 ∨ j = 1 ∨ j = 2 := by omega
          rcases hways with rfl | rfl | rfl
          · by_cases hx : xx1 < 4611686018427387904
            · go_wp2
              go_round
              case rel => exact ⟨1, by omega, by go_num, by rw [HN.out.2.1, if_pos hx]; first | rfl | (congr 1; omega)⟩
              case measure => simp [intOf]
            · go_wp2
              go_round
              case rel => exact ⟨1, by omega, by go_num, by rw [HN.out.2.1, if_neg hx]⟩
              case measure => simp [intOf]
          · by_cases hx : yy1 < 4611686018427387904
            · go_wp2
              go_round
              case rel => exact ⟨2, by omega, by go_num, by rw [HN.out.2.2.1, if_pos hx]; first | rfl | (congr 1; omega)⟩
              case measure => simp [intOf]
            · go_wp2
              go_round
              case rel => exact ⟨2, by omega, by go_num, by rw [HN.out.2.2.1, if_neg hx]⟩
              case measure => simp [intOf]
          · go_wp2
            go_roundw
            case rel => exact ⟨_, _, _, _, _, _, ⟨2, by omega, rfl, rfl⟩, by rw [HN.out.2.2.2], rfl, rfl, rfl, rfl, rfl⟩
            case measure => simp [intOf]
      · have hb := HM.out.2.2.2 2
        have H3 := Ythkjodlddhdeiaa.base.Shut.mk (chain H2.out.1 HW.out)
        have hR := H2.out.2.below HW.out
        obtain ⟨mo, hmo⟩ : ∃ mo, most 2 = mo := ⟨_, rfl⟩
        rw [hmo] at hb ⊢
        have HMO := Ythkjodlddhdeiaa.base.Shut.mk hmo
        clear hmo
        have y0' : wr.cell? ⟨w1.heap.size, 0, none⟩ = some (.string s0) := hR.cell 0
        have y1' : wr.cell? ⟨w1.heap.size, 1, none⟩ = some (.string s1) := hR.cell 1
        clear HW HM hR y0 y1
        go_wp2_with fail
        refine (HH.out.2.1 _).mono ?_
        rintro e w4 ⟨rfl, hb4⟩
        have H4 := Ythkjodlddhdeiaa.base.Shut.mk (newer (chain H3.out hb4) (.cells #[.int .i64 bt, .int .i64 ba, .int .i64 bh, .string bn] 81))
        clear hb4
        have hw1 : IntKind.i64.wrap (mo + 1) = mo + 1 := IntWalk.i64_in _ (by omega)
        by_cases hbi : bi = 0
        · subst hbi
          go_wp2
          go_ret3
          exact ⟨by rw [HMO.out]; rfl, H4.out⟩
        · go_wp2
          go_ret3
          exact ⟨by rw [HMO.out]; rfl, H4.out⟩
end Go.Proofs.Ythkjodlddhdeiaa.label
