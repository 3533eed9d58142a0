/- The small walks of the reference's disk. -/
import Derived.Test.YthkjodlddhdeiaaRefBase
namespace Go.Proofs.Ythkjodlddhdeiaa.disk
open Go.ChangeShapes Go.WideShapes Go.ChangeAt Go.RowKit
open Ythkjodlddhdeiaa.base

set_option maxRecDepth 100000 in
set_option maxHeartbeats 400000 in
theorem there_walk {w : World} {base r b : Nat} {D : Dk} {z : Int} (h : RAt w base r b D z) (i : Int) :
    Calls Try.prog 92 #[pd r, .int .i64 i] w fun e w' => e = .returned (.bool (decide (0 ≤ i ∧ i < (D.n : Int)))) ∧ w = w' := by
  obtain ⟨cb, lv, c0, -, -, -, -, -, -⟩ := h.cells
  clear h
  have hways : (i < 0 ∧ decide (0 ≤ i ∧ i < (D.n : Int)) = false) ∨ (0 ≤ i ∧ ¬ i < (D.n : Int) ∧ decide (0 ≤ i ∧ i < (D.n : Int)) = false) ∨ (0 ≤ i ∧ i < (D.n : Int) ∧ decide (0 ≤ i ∧ i < (D.n : Int)) = true) := by
    by_cases a : i < 0
    · exact .inl ⟨a, decide_eq_false (by omega)⟩
    · by_cases c : (D.n : Int) ≤ i
      · exact .inr (.inl ⟨by omega, by omega, decide_eq_false (by omega)⟩)
      · exact .inr (.inr ⟨by omega, by omega, decide_eq_true (by omega)⟩)
  generalize decide (0 ≤ i ∧ i < (D.n : Int)) = x at hways
  rcases hways with ⟨a, rfl⟩ | ⟨a, c, rfl⟩ | ⟨a, c, rfl⟩
  all_goals
    go_enter Try.func92, Try.ntmps92
    go_wp2
    go_ret
    exact ⟨rfl, rfl⟩
/-- a state of the reference's disk, and what may have turned -/
def RTo (w : World) (base r : Nat) (D' : Dk) (w' : World) : Prop := (∃ b' z', RAt w' base r b' D' z') ∧ OnlyT base rT w w'
set_option maxRecDepth 100000 in
set_option maxHeartbeats 400000 in
theorem goes_walk {w : World} {base r b : Nat} {D : Dk} {z : Int} (h : RAt w base r b D z) :
    Calls Try.prog 93 #[pd r] w fun e w' => e = .returned (.bool (decide (D.fuse = 0))) ∧ (∃ z', RAt w' base r b (burnD D) z') ∧ OnlyT base rT w w' := by
  obtain ⟨cb, lv, -, -, c2, c3, cf, -, -⟩ := h.cells
  have f2 := cf 2
  have f3 := cf 3
  clear cf
  have hf := h.fuse
  have hz1 := h.zlow
  have hz2 := h.zhigh
  have hD : burnD D = if D.fuse = 0 then { D with gone := true } else { D with fuse := max (D.fuse - 1) (-1) } := rfl
  have H := Shut.mk h
  have HO := Shut.mk (And.intro (fun i v => h.store i v) (OnlyT.refl base rT w))
  clear h
  have hways : (z = 0 ∧ D.fuse = 0) ∨ (z ≠ 0 ∧ 0 < z ∧ D.fuse ≠ 0 ∧ max (D.fuse - 1) (-1) = z - 1) ∨ (z ≠ 0 ∧ z ≤ 0 ∧ D.fuse ≠ 0 ∧ D.fuse = -1) := by omega
  rcases hways with ⟨rfl, e⟩ | ⟨n, p, e, m⟩ | ⟨n, p, e, m⟩
  · have hA := H.out.went true
    have hB : burnD D = { D with gone := true } := by rw [hD, if_pos e]
    have HA := Shut.mk (show RAt (w.setCell ⟨r, 3, none⟩ (.bool true)) base r b (burnD D) 0 from by rw [hB]; exact hA)
    have hdec : decide (D.fuse = 0) = true := decide_eq_true e
    rw [hdec]
    clear hA hB hD e hf hdec
    go_enter Try.func93, Try.ntmps93
    go_wp2
    go_ret
    exact ⟨rfl, ⟨_, HA.out⟩, HO.out.1 3 _⟩
  · have hA := H.out.fused (z - 1) (z - 1) (by omega) (by omega) (by omega)
    have hB : burnD D = { D with fuse := z - 1 } := by rw [hD, if_neg e, m]
    have HA := Shut.mk (show RAt (w.setCell ⟨r, 2, none⟩ (.int .i64 (z - 1))) base r b (burnD D) (z - 1) from by rw [hB]; exact hA)
    have hdec : decide (D.fuse = 0) = false := decide_eq_false e
    rw [hdec]
    clear hA hB hD e hf hdec m
    go_enter Try.func93, Try.ntmps93
    go_wp2
    go_ret
    exact ⟨rfl, ⟨_, HA.out⟩, HO.out.1 2 _⟩
  · have hB : burnD D = D := by rw [hD, if_neg e, m]; exact congrArg (fun f => { D with fuse := f }) (show max (-1 - 1) (-1) = D.fuse by rw [m]; rfl)
    have HA := Shut.mk (show RAt w base r b (burnD D) z from by rw [hB]; exact H.out)
    have hdec : decide (D.fuse = 0) = false := decide_eq_false e
    rw [hdec]
    clear hB hD e hf hdec m
    go_enter Try.func93, Try.ntmps93
    go_wp2
    go_ret
    exact ⟨rfl, ⟨_, HA.out⟩, HO.out.2⟩
set_option maxRecDepth 100000 in
set_option maxHeartbeats 400000 in
theorem rarm_walk {w : World} {base r b : Nat} {D : Dk} {z : Int} (h : RAt w base r b D z) (n : Int) (hn : -9223372036854775808 ≤ n ∧ n ≤ 9223372036854775807) :
    Calls Try.prog 66 #[pd r, .int .i64 n] w fun e w' => e = .returned (.int .i64 (armE D)) ∧ RTo w base r (armD D n) w' := by
  obtain ⟨cb, lv, -, -, c2, c3, cf, -, -⟩ := h.cells
  have f2 := cf 2
  clear cf
  have H := Shut.mk (And.intro h hn)
  cases hg : D.gone with
  | true =>
    have hE : armE D = 7 := by unfold armE; rw [if_pos hg]
    have hD : armD D n = D := by unfold armD; rw [if_pos hg]
    rw [hE, hD]
    rw [hg] at c3
    clear hE hD h hn
    go_enter Try.func66, Try.ntmps66
    go_wp2
    go_ret
    exact ⟨rfl, ⟨_, _, H.out.1⟩, OnlyT.refl _ _ _⟩
  | false =>
    have hE : armE D = 0 := by unfold armE; rw [if_neg (by rw [hg]; decide)]
    have hD : armD D n = { D with fuse := max n (-1) } := by unfold armD; rw [if_neg (by rw [hg]; decide)]
    rw [hE, hD]
    rw [hg] at c3
    clear hE hD h hn
    go_enter Try.func66, Try.ntmps66
    go_wp2
    go_ret
    exact ⟨rfl, ⟨_, _, H.out.1.fused n (max n (-1)) rfl H.out.2.1 H.out.2.2⟩, H.out.1.store 2 _⟩
/-- a row's cell, by its number -/
theorem own_at {w : World} {base n cap size : Nat} {t : TypeId} {o : Option Addr} {xs : List Value} (h : w.ownsRow base t size (.slice o n cap) n xs) (hn : 0 < n) : ∃ g, o = some ⟨g, 0, none⟩ ∧ ∀ j v, xs[j]? = some v → w.cell? ⟨g, j, none⟩ = some v := by
  obtain ⟨g, cap', hv, _, hlt⟩ := h.form hn
  injection hv with hA
  subst hA
  refine ⟨g, rfl, fun j v hj => ?_⟩
  have hx := h.cells (g := g) rfl j v hj
  have hadd : (⟨g, 0, none⟩ : Addr).add j = ⟨g, j, none⟩ := by unfold Addr.add; split <;> simp_all
  rwa [hadd] at hx
end Go.Proofs.Ythkjodlddhdeiaa.disk
