/- Tables without rules: whether two are the same (dtable.Same). -/
import Derived.Test.YtobdfocfkomagaaRevCols
namespace Go.Proofs.Ytobdfocfkomagaa.rev
open Go.ChangeShapes Go.WideShapes Go.ChangeAt Go.RowKit
open Ytobdfocfkomagaa.base (size_mk chain newer drewn same ba_ext)
open Ytobdfocfkomagaa.oct (ne_str)
open Ytobdfocfkomagaa.row2 (Row CReads)

theorem fi_one (s : FI) : s.v.oneCell' = true := rfl
theorem fi_cells (s : FI) : s.v.cells = #[s.v] := rfl
theorem run_store_fi {P : Program} {w : World} {a : Addr} {m : Mode} (s : FI) : (store a s.v m).run P w = stored P w a s.v m := run_store P w a _ m rfl
attribute [local go_sem] fi_one fi_cells run_store_fi
/-- a table's frame -/
structure TI where
  nm : ByteArray
  ins : FI
  outs : FI
  po : Int
  ag : Int
def TI.cells (t : TI) (r : Value) : Array Value := #[.string t.nm, t.ins.v, t.outs.v, .int .i64 t.po, .int .i64 t.ag, r]
structure TOk (w : World) (t : TI) : Prop where
  ins : FOk w t.ins
  outs : FOk w t.outs
theorem TOk.keep {w w' : World} {t : TI} (h : TOk w t) (hb : Below w.heap.size w w') : TOk w' t := ⟨h.ins.keep hb, h.outs.keep hb⟩
/-- two frames say the same -/
def sameFr (t u : TI) : Bool := decide (t.nm = u.nm) && decide (t.po = u.po) && decide (t.ag = u.ag) && sameF t.ins.l u.ins.l && sameF t.outs.l u.outs.l
set_option maxRecDepth 100000 in
theorem equalRules_nil (f : Value) (w : World) :
    Calls Try.prog 95 #[.slice none 0 0, .slice none 0 0, f] w fun e w' => e = .returned (.bool true) ∧ w' = w := by
  go_enter Try.func95, Try.ntmps95
  go_wp2
  refine wp_loop_once ?_
  go_wp2
  go_ret
  exact ⟨rfl, rfl⟩
set_option maxRecDepth 100000 in
set_option maxHeartbeats 1600000 in
theorem dsame_walk (t u : TI) (w : World) (ht : TOk w t) (hu : TOk w u) :
    Calls Try.prog 80 #[.agg (t.cells (.slice none 0 0)), .agg (u.cells (.slice none 0 0))] w fun e w' => e = .returned (.bool (sameFr t u)) ∧ Below w.heap.size w w' := by
  have h1 := newer (same w) (.cells (t.cells (.slice none 0 0)) 27)
  have h2 := newer h1 (.cells (u.cells (.slice none 0 0)) 27)
  have rA := (Row.new w (t.cells (.slice none 0 0)) 27).below (newer (same (w.alloc (.cells (t.cells (.slice none 0 0)) 27))) (.cells (u.cells (.slice none 0 0)) 27))
  have rB := Row.new (w.alloc (.cells (t.cells (.slice none 0 0)) 27)) (u.cells (.slice none 0 0)) 27
  rw [World.size_alloc] at rB
  obtain ⟨V, hV⟩ : ∃ V, (w.alloc (.cells (t.cells (.slice none 0 0)) 27)).alloc (.cells (u.cells (.slice none 0 0)) 27) = V := ⟨_, rfl⟩
  rw [hV] at h2 rA rB
  obtain ⟨q, hq⟩ : ∃ q, w.heap.size = q := ⟨_, rfl⟩
  rw [hq] at rA rB
  have hdef : sameFr t u = (decide (t.nm = u.nm) && decide (t.po = u.po) && decide (t.ag = u.ag) && sameF t.ins.l u.ins.l && sameF t.outs.l u.outs.l) := rfl
  have e1 := equalCols_walk t.ins u.ins V (ht.keep h2).ins (hu.keep h2).ins
  have H := Ytobdfocfkomagaa.base.Shut.mk (And.intro e1 (And.intro h2 (And.intro hdef (And.intro rA (And.intro rB (And.intro (ht.keep h2).outs (hu.keep h2).outs))))))
  obtain ⟨tn, ti, to_, tp, ta⟩ := t
  obtain ⟨un, ui, uo, up, ua⟩ := u
  have x0 := rA.cell 0
  have x1 := rA.cell 1
  have x2 := rA.cell 2
  have x3 := rA.cell 3
  have x4 := rA.cell 4
  have x5 := rA.cell 5
  have y0 := rB.cell 0
  have y1 := rB.cell 1
  have y2 := rB.cell 2
  have y3 := rB.cell 3
  have y4 := rB.cell 4
  have y5 := rB.cell 5
  clear h1 h2 rA rB e1 ht hu hdef
  simp only [TI.cells] at x0 x1 x2 x3 x4 x5 y0 y1 y2 y3 y4 y5 hV
  simp only at H
  show Calls Try.prog 80 #[.agg #[.string tn, ti.v, to_.v, .int .i64 tp, .int .i64 ta, .slice none 0 0], .agg #[.string un, ui.v, uo.v, .int .i64 up, .int .i64 ua, .slice none 0 0]] w _
  by_cases c1 : tn = un
  · subst c1
    by_cases c2 : tp = up
    · subst c2
      by_cases c3 : ta = ua
      · subst c3
        go_enter Try.func80, Try.ntmps80
        go_wp2_with fail
        refine H.out.1.mono ?_
        rintro e w1 ⟨rfl, hb1⟩
        cases hS : sameF ti.l ui.l with
        | false =>
          have HF := Ytobdfocfkomagaa.base.Shut.mk (And.intro hS (chain H.out.2.1 hb1))
          clear hS hb1
          go_wp2
          go_ret
          exact ⟨by rw [H.out.2.2.1, HF.out.1]; simp, HF.out.2⟩
        | true =>
          have rA1 := H.out.2.2.2.1.below hb1
          have rB1 := H.out.2.2.2.2.1.below hb1
          have a2 := rA1.cell 2
          have b2 := rB1.cell 2
          have e2 := equalCols_walk to_ uo w1 (H.out.2.2.2.2.2.1.keep hb1) (H.out.2.2.2.2.2.2.keep hb1)
          simp only [TI.cells] at a2 b2
          have HF := Ytobdfocfkomagaa.base.Shut.mk (And.intro hS (And.intro (chain H.out.2.1 hb1) (And.intro e2 (And.intro rA1 rB1))))
          clear hS hb1 rA1 rB1 e2
          go_wp2_with fail
          refine HF.out.2.2.1.mono ?_
          rintro e w2 ⟨rfl, hb2⟩
          cases hS : sameF to_.l uo.l with
          | false =>
            have HG := Ytobdfocfkomagaa.base.Shut.mk (And.intro hS (chain HF.out.2.1 hb2))
            clear hS hb2
            go_wp2
            go_ret
            exact ⟨by rw [H.out.2.2.1, HG.out.1]; simp, HG.out.2⟩
          | true =>
            have a5 := (HF.out.2.2.2.1.below hb2).cell 5
            have b5 := (HF.out.2.2.2.2.below hb2).cell 5
            simp only [TI.cells] at a5 b5
            have HG := Ytobdfocfkomagaa.base.Shut.mk (And.intro hS (chain HF.out.2.1 hb2))
            clear hS hb2
            go_wp2_with fail
            refine (equalRules_nil _ _).mono ?_
            rintro e w3 ⟨rfl, rfl⟩
            go_wp2
            go_ret
            exact ⟨by rw [H.out.2.2.1, HF.out.1, HG.out.1]; simp, HG.out.2⟩
      · have d3 := beq_int_false c3
        have C3 := Ytobdfocfkomagaa.base.Shut.mk c3
        clear c3
        go_enter Try.func80, Try.ntmps80
        go_wp2
        go_ret
        exact ⟨by rw [H.out.2.2.1, decide_eq_false C3.out]; simp, by first | exact H.out.2.1 | (rw [← hq]; exact H.out.2.1)⟩
    · have d2 := beq_int_false c2
      have C2 := Ytobdfocfkomagaa.base.Shut.mk c2
      clear c2
      go_enter Try.func80, Try.ntmps80
      go_wp2
      go_ret
      exact ⟨by rw [H.out.2.2.1, decide_eq_false C2.out]; simp, by first | exact H.out.2.1 | (rw [← hq]; exact H.out.2.1)⟩
  · have d1 := ne_str c1
    have C1 := Ytobdfocfkomagaa.base.Shut.mk c1
    clear c1
    go_enter Try.func80, Try.ntmps80
    go_wp2
    go_ret
    exact ⟨by rw [H.out.2.2.1, decide_eq_false C1.out]; simp, by first | exact H.out.2.1 | (rw [← hq]; exact H.out.2.1)⟩

set_option maxRecDepth 100000 in
set_option maxHeartbeats 1600000 in
theorem framed_walk (t u : TI) (A B : Option Addr) (n c m d : Nat) (w : World) (ht : TOk w t) (hu : TOk w u) :
    Calls Try.prog 56 #[.agg (t.cells (.slice A n c)), .agg (u.cells (.slice B m d))] w fun e w' => e = .returned (.bool (sameFr t u)) ∧ Below w.heap.size w w' := by
  have h1 := newer (same w) (.cells (t.cells (.slice A n c)) 27)
  have h2 := newer h1 (.cells (u.cells (.slice B m d)) 27)
  have rA := (Row.new w (t.cells (.slice A n c)) 27).below (newer (same (w.alloc (.cells (t.cells (.slice A n c)) 27))) (.cells (u.cells (.slice B m d)) 27))
  have rB := Row.new (w.alloc (.cells (t.cells (.slice A n c)) 27)) (u.cells (.slice B m d)) 27
  rw [World.size_alloc] at rB
  obtain ⟨V, hV⟩ : ∃ V, (w.alloc (.cells (t.cells (.slice A n c)) 27)).alloc (.cells (u.cells (.slice B m d)) 27) = V := ⟨_, rfl⟩
  rw [hV] at h2 rA rB
  have b2 := (h2.setCell (p := ⟨w.heap.size, 5, none⟩) (Nat.le_refl _) (.slice none 0 0)).setCell (p := ⟨w.heap.size + 1, 5, none⟩) (Nat.le_succ _) (.slice none 0 0)
  have e1 := dsame_walk t u _ (ht.keep b2) (hu.keep b2)
  obtain ⟨q, hq⟩ : ∃ q, w.heap.size = q := ⟨_, rfl⟩
  rw [hq] at rA rB e1
  have H := Ytobdfocfkomagaa.base.Shut.mk (And.intro e1 b2)
  obtain ⟨tn, ti, to_, tp, ta⟩ := t
  obtain ⟨un, ui, uo, up, ua⟩ := u
  have x0 := rA.cell 0
  have x1 := rA.cell 1
  have x2 := rA.cell 2
  have x3 := rA.cell 3
  have x4 := rA.cell 4
  have x5 := rA.cell 5
  have y0 := rB.cell 0
  have y1 := rB.cell 1
  have y2 := rB.cell 2
  have y3 := rB.cell 3
  have y4 := rB.cell 4
  have y5 := rB.cell 5
  have f5 := rA.frozen 5
  have g5 := rB.frozen 5
  clear h1 h2 rA rB e1 ht hu b2
  simp only [TI.cells] at x0 x1 x2 x3 x4 x5 y0 y1 y2 y3 y4 y5 hV
  simp only [TI.cells] at H
  show Calls Try.prog 56 #[.agg #[.string tn, ti.v, to_.v, .int .i64 tp, .int .i64 ta, .slice A n c], .agg #[.string un, ui.v, uo.v, .int .i64 up, .int .i64 ua, .slice B m d]] w _
  go_enter Try.func56, Try.ntmps56
  go_wp2_with fail
  refine H.out.1.mono ?_
  rintro e w1 ⟨rfl, hb1⟩
  have H1 := Ytobdfocfkomagaa.base.Shut.mk hb1
  clear hb1
  go_wp2
  go_ret
  refine ⟨rfl, chain (by rw [← hq]; exact H.out.2) H1.out⟩
end Go.Proofs.Ytobdfocfkomagaa.rev
