/- The small walks of package disk. -/
import Derived.Test.YthkjodlddhdeiaaDiskBase
import Derived.WalkSpells
namespace Go.Proofs.Ythkjodlddhdeiaa.disk
open Go.ChangeShapes Go.WideShapes Go.ChangeAt Go.RowKit
open Ythkjodlddhdeiaa.base

theorem neq_nil (w : World) (f l c : Nat) : (binOp .neq 62 (.slice (some ⟨f, 0, none⟩) l c) (.slice none 0 0)).run Try.prog w = .ok (.bool true) w := by
  have := run_neq_slice_nil_any (P := Try.prog) w 62 105 (some ⟨f, 0, none⟩) l c 0 0 Try.underlying62
  exact this
abbrev pd (d : Nat) : Value := .pointer (some ⟨d, 0, none⟩)
set_option maxRecDepth 100000 in
set_option maxHeartbeats 400000 in
theorem made_walk {w : World} {base d f s : Nat} {D : Dk} (h : At w base d f s D) :
    Calls Try.prog 60 #[pd d] w fun e w' => e = .returned (.bool true) ∧ w = w' := by
  obtain ⟨fc, cs, lv, h0, h1, h2, h3, h4, hf, _, _, _⟩ := h.cells
  clear h
  have hn := neq_nil w f D.n fc
  go_enter Try.func60, Try.ntmps60
  go_wp2
  go_ret
  exact ⟨rfl, rfl⟩
set_option maxRecDepth 100000 in
set_option maxHeartbeats 400000 in
theorem made_nil (w : World) :
    Calls Try.prog 60 #[.pointer none] w fun e w' => e = .returned (.bool false) ∧ w = w' := by
  go_enter Try.func60, Try.ntmps60
  go_wp2
  go_ret
  exact ⟨rfl, rfl⟩
def mayE (D : Dk) (i : Int) : Int := if D.gone = true then 7 else if 0 ≤ i ∧ i < D.n then 0 else 2
set_option maxRecDepth 100000 in
set_option maxHeartbeats 400000 in
theorem may_walk {w : World} {base d f s : Nat} {D : Dk} (h : At w base d f s D) (i : Int) :
    Calls Try.prog 58 #[pd d, .int .i64 i] w fun e w' => e = .returned (.int .i64 (mayE D i)) ∧ w = w' := by
  have hm := made_walk h
  obtain ⟨fc, cs, lv, h0, h1, h2, h3, h4, hf, _, _, _⟩ := h.cells
  clear h
  have hways : (D.gone = true ∧ mayE D i = 7) ∨ (D.gone = false ∧ i < 0 ∧ mayE D i = 2) ∨ (D.gone = false ∧ 0 ≤ i ∧ (D.n : Int) ≤ i ∧ mayE D i = 2) ∨ (D.gone = false ∧ 0 ≤ i ∧ i < (D.n : Int) ∧ mayE D i = 0) := by
    unfold mayE
    cases hg : D.gone
    · by_cases a : i < 0
      · exact .inr (.inl ⟨rfl, a, by rw [if_neg (by decide), if_neg (by omega)]⟩)
      · by_cases b : (D.n : Int) ≤ i
        · exact .inr (.inr (.inl ⟨rfl, by omega, b, by rw [if_neg (by decide), if_neg (by omega)]⟩))
        · exact .inr (.inr (.inr ⟨rfl, by omega, by omega, by rw [if_neg (by decide), if_pos (by omega)]⟩))
    · exact .inl ⟨rfl, rfl⟩
  generalize mayE D i = r at hways
  generalize D.gone = g at hways h4
  have HM := Shut.mk hm
  clear hm
  rcases hways with ⟨rfl, rfl⟩ | ⟨rfl, a, rfl⟩ | ⟨rfl, a, b, rfl⟩ | ⟨rfl, a, b, rfl⟩
  all_goals
    go_enter Try.func58, Try.ntmps58
    go_wp2_with fail
    refine HM.out.mono ?_
    rintro e w1 ⟨rfl, rfl⟩
    go_wp2
    go_ret
    exact ⟨rfl, rfl⟩
/-- what a burnt fuse leaves -/
def burnE (D : Dk) : Int := if D.fuse = 0 then 7 else 0
def burnD (D : Dk) : Dk := if D.fuse = 0 then { D with gone := true } else { D with fuse := max (D.fuse - 1) (-1) }
set_option maxRecDepth 100000 in
set_option maxHeartbeats 400000 in
theorem burn_walk {w : World} {base d f s : Nat} {D : Dk} (h : At w base d f s D) :
    Calls Try.prog 59 #[pd d] w fun e w' => e = .returned (.int .i64 (burnE D)) ∧ At w' base d f s (burnD D) ∧ Only [d] w w' := by
  obtain ⟨fc, cs, lv, h0, h1, h2, h3, h4, hf, _, _, _⟩ := h.cells
  have H := Shut.mk h
  have hlo := h.wf.low
  have hhi := h.wf.high
  clear h
  by_cases hz : D.fuse = 0
  · have hE : burnE D = 0 + 7 := by unfold burnE; rw [if_pos hz]; rfl
    have hD : burnD D = { D with gone := true } := by unfold burnD; rw [if_pos hz]
    have HE := Shut.mk (And.intro hE hD)
    clear hE hD
    have HA : Shut (At (w.setCell ⟨d, 4, none⟩ (.bool true)) base d f s (burnD D)) := ⟨by
      rw [HE.out.2]
      refine H.out.turned (fun k hk hn => Below.heap_setCell _ _ _ _ hn) D.fuse true hlo hhi (fun a b c hd => ?_)
      exact heap_setCell_same _ _ 4 _ _ _ hd⟩
    go_enter Try.func59, Try.ntmps59
    go_wp2
    go_ret
    exact ⟨by rw [HE.out.1]; rfl, HA.out, Only.cell _ _ _ _⟩
  · have hE : burnE D = 0 := by unfold burnE; rw [if_neg hz]
    have hways : (D.fuse = -1 ∧ burnD D = { D with fuse := -1 }) ∨ (1 ≤ D.fuse ∧ burnD D = { D with fuse := D.fuse - 1 }) := by
      unfold burnD
      rw [if_neg hz]
      by_cases h1 : D.fuse = -1
      · exact .inl ⟨h1, by rw [h1]; rfl⟩
      · exact .inr ⟨by omega, by rw [show max (D.fuse - 1) (-1) = D.fuse - 1 from by omega]⟩
    have HE := Shut.mk hE
    clear hE hz
    rcases hways with ⟨hq, hD⟩ | ⟨hq, hD⟩
    · have HA : Shut (At (w.setCell ⟨d, 3, none⟩ (.int .i64 (-1))) base d f s (burnD D)) := ⟨by
        rw [hD]
        refine H.out.turned (fun k hk hn => Below.heap_setCell _ _ _ _ hn) (-1) D.gone (by omega) (by omega) (fun a b c hd => ?_)
        exact heap_setCell_same _ _ 3 _ _ _ hd⟩
      clear hD
      rw [hq] at h3
      clear hq hlo hhi
      go_enter Try.func59, Try.ntmps59
      go_wp2
      go_ret
      exact ⟨by rw [HE.out]; rfl, HA.out, Only.cell _ _ _ _⟩
    · have HA : Shut (At (w.setCell ⟨d, 3, none⟩ (.int .i64 (D.fuse - 1))) base d f s (burnD D)) := ⟨by
        rw [hD]
        refine H.out.turned (fun k hk hn => Below.heap_setCell _ _ _ _ hn) (D.fuse - 1) D.gone (by omega) (by omega) (fun a b c hd => ?_)
        exact heap_setCell_same _ _ 3 _ _ _ hd⟩
      clear hD
      go_enter Try.func59, Try.ntmps59
      go_wp2
      go_ret
      exact ⟨by rw [HE.out]; rfl, HA.out, Only.cell _ _ _ _⟩

set_option maxRecDepth 100000 in
set_option maxHeartbeats 400000 in
theorem len_walk {w : World} {base d f s : Nat} {D : Dk} (h : At w base d f s D) :
    Calls Try.prog 33 #[pd d] w fun e w' => e = .returned (.int .i64 (D.n : Int)) ∧ w = w' := by
  have HM := Shut.mk (made_walk h)
  obtain ⟨fc, cs, lv, h0, h1, h2, h3, h4, hf, _, _, _⟩ := h.cells
  clear h
  go_enter Try.func33, Try.ntmps33
  go_wp2_with fail
  refine HM.out.mono ?_
  rintro e w1 ⟨rfl, rfl⟩
  go_wp2
  go_ret
  exact ⟨rfl, rfl⟩
theorem row_val {w : World} {base size n : Nat} {e : TypeId} {v : Value} {xs : List Value} (h : w.ownsRow base e size v n xs) : ∃ a c, v = .slice a n c := by
  obtain ⟨_, ⟨rfl, rfl⟩ | ⟨g, cap, cur, rfl, _⟩⟩ := h
  · exact ⟨none, 0, rfl⟩
  · exact ⟨_, cap, rfl⟩
set_option maxRecDepth 100000 in
set_option maxHeartbeats 400000 in
theorem loose_walk {w : World} {base d f s : Nat} {D : Dk} (h : At w base d f s D) :
    Calls Try.prog 29 #[pd d] w fun e w' => e = .returned (.int .i64 (D.W.length : Int)) ∧ w = w' := by
  have HM := Shut.mk (made_walk h)
  obtain ⟨fc, cs, lv, h0, h1, h2, h3, h4, hf, _, hr, _⟩ := h.cells
  obtain ⟨a, c, rfl⟩ := row_val hr
  clear h hr
  go_enter Try.func29, Try.ntmps29
  go_wp2_with fail
  refine HM.out.mono ?_
  rintro e w1 ⟨rfl, rfl⟩
  go_wp2
  go_ret
  exact ⟨rfl, rfl⟩
def armD (D : Dk) (n : Int) : Dk := if D.gone = true then D else { D with fuse := max n (-1) }
def armE (D : Dk) : Int := if D.gone = true then 7 else 0
set_option maxRecDepth 100000 in
set_option maxHeartbeats 400000 in
theorem arm_walk {w : World} {base d f s : Nat} {D : Dk} (h : At w base d f s D) (n : Int) (hn : n ≤ 9223372036854775807) :
    Calls Try.prog 34 #[pd d, .int .i64 n] w fun e w' => e = .returned (.int .i64 (armE D)) ∧ At w' base d f s (armD D n) ∧ Only [d] w w' := by
  have hm := may_walk h 0
  have hn1 := h.wf.n1
  have H := Shut.mk h
  cases hg : D.gone
  · have hmE : mayE D 0 = 0 := by unfold mayE; rw [if_neg (by rw [hg]; decide), if_pos (by omega)]
    have hE : armE D = 0 := by unfold armE; rw [if_neg (by rw [hg]; decide)]
    have hD : armD D n = { D with fuse := max n (-1) } := by unfold armD; rw [if_neg (by rw [hg]; decide)]
    rw [hmE] at hm
    have HM := Shut.mk hm
    have HE := Shut.mk hE
    clear hm hmE hE hg
    have key : ∀ x : Int, max n (-1) = x → -1 ≤ x → x ≤ 9223372036854775807 → Shut (At (w.setCell ⟨d, 3, none⟩ (.int .i64 x)) base d f s (armD D n)) := by
      intro x hx h1 h2
      constructor
      rw [hD, hx]
      refine H.out.turned (fun k hk hn => Below.heap_setCell _ _ _ _ hn) x D.gone h1 h2 (fun a b c hd => ?_)
      exact heap_setCell_same _ _ 3 _ _ _ hd
    obtain ⟨fc, cs, lv, h0, h1, h2, h3, h4, hf, _, _, _⟩ := h.cells
    clear h hD
    have hways : (n < -1 ∧ max n (-1) = -1) ∨ (-1 ≤ n ∧ max n (-1) = n) := by omega
    rcases hways with ⟨a, b⟩ | ⟨a, b⟩
    · have HA := key (-1) b (by omega) (by omega)
      clear key b hn
      go_enter Try.func34, Try.ntmps34
      go_wp2_with fail
      refine HM.out.mono ?_
      rintro e w1 ⟨rfl, rfl⟩
      go_wp2
      go_ret
      exact ⟨by rw [HE.out]; rfl, HA.out, Only.cell _ _ _ _⟩
    · have HA := key n b a hn
      clear key b hn
      go_enter Try.func34, Try.ntmps34
      go_wp2_with fail
      refine HM.out.mono ?_
      rintro e w1 ⟨rfl, rfl⟩
      go_wp2
      go_ret
      exact ⟨by rw [HE.out]; rfl, HA.out, Only.cell _ _ _ _⟩
  · have hmE : mayE D 0 = 7 := by unfold mayE; rw [if_pos hg]
    have hE : armE D = 7 := by unfold armE; rw [if_pos hg]
    have hD : armD D n = D := by unfold armD; rw [if_pos hg]
    rw [hmE] at hm
    have HM := Shut.mk hm
    have HE := Shut.mk (And.intro hE hD)
    clear hm hmE hE hD hg h hn
    go_enter Try.func34, Try.ntmps34
    go_wp2_with fail
    refine HM.out.mono ?_
    rintro e w1 ⟨rfl, rfl⟩
    go_wp2
    go_ret
    exact ⟨by rw [HE.out.1]; rfl, by rw [HE.out.2]; exact H.out, Only.refl _ _⟩
end Go.Proofs.Ythkjodlddhdeiaa.disk
