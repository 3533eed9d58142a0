/- The reference's Framed. -/
import Derived.Test.YtobdfocfkomagaaRevTSame
namespace Go.Proofs.Ytobdfocfkomagaa.rev
open Go.ChangeShapes Go.WideShapes Go.ChangeAt Go.RowKit
open Ytobdfocfkomagaa.base (size_mk chain newer drewn same ba_ext)
open Ytobdfocfkomagaa.oct (ne_str)
open Ytobdfocfkomagaa.row2 (Row CReads)

attribute [local go_sem] fi_one fi_cells run_store_fi
set_option maxRecDepth 100000 in
set_option maxHeartbeats 1600000 in
theorem rframed_walk (t u : TI) (A B : Option Addr) (n c m d : Nat) (w : World) (ht : TOk w t) (hu : TOk w u) :
    Calls Try.prog 59 #[.agg (t.cells (.slice A n c)), .agg (u.cells (.slice B m d))] w fun e w' => e = .returned (.bool (sameFr t u)) ∧ Below w.heap.size w w' := by
  have h1 := newer (same w) (.cells (t.cells (.slice A n c)) 27)
  have h2 := newer h1 (.cells (u.cells (.slice B m d)) 27)
  have rA := (Row.new w (t.cells (.slice A n c)) 27).below (newer (same (w.alloc (.cells (t.cells (.slice A n c)) 27))) (.cells (u.cells (.slice B m d)) 27))
  have rB := Row.new (w.alloc (.cells (t.cells (.slice A n c)) 27)) (u.cells (.slice B m d)) 27
  rw [World.size_alloc] at rB
  obtain ⟨V, hV⟩ : ∃ V, (w.alloc (.cells (t.cells (.slice A n c)) 27)).alloc (.cells (u.cells (.slice B m d)) 27) = V := ⟨_, rfl⟩
  rw [hV] at h2 rA rB
  have b2 := (h2.setCell (p := ⟨w.heap.size, 5, none⟩) (Nat.le_refl _) (.slice none 0 0)).setCell (p := ⟨w.heap.size + 1, 5, none⟩) (Nat.le_succ _) (.slice none 0 0)
  have e1 := tsame_walk t u none none 0 0 0 [] [] rfl (by decide) ⟨rfl, fun i x y h => by simp at h⟩ _ (ht.keep b2) (hu.keep b2) ⟨fun h => absurd rfl h, fun r hr => by cases hr⟩ ⟨fun h => absurd rfl h, fun r hr => by cases hr⟩
  obtain ⟨q, hq⟩ : ∃ q, w.heap.size = q := ⟨_, rfl⟩
  rw [hq] at rA rB e1
  have H := Ytobdfocfkomagaa.base.Shut.mk (And.intro e1 b2)
  obtain ⟨tn, ti, to_, tp, ta⟩ := t
  obtain ⟨un, ui, uo, up, ua⟩ := u
  have x0 := rA.cell 0
  have x1 := rA.cell 1
  have x2 := rA.cell 2
  have x3 := rA.cell 3
  have x4 := rA.cell 4
  have x5 := rA.cell 5
  have y0 := rB.cell 0
  have y1 := rB.cell 1
  have y2 := rB.cell 2
  have y3 := rB.cell 3
  have y4 := rB.cell 4
  have y5 := rB.cell 5
  have f5 := rA.frozen 5
  have g5 := rB.frozen 5
  clear h1 h2 rA rB e1 ht hu b2
  simp only [TI.cells] at x0 x1 x2 x3 x4 x5 y0 y1 y2 y3 y4 y5 hV
  simp only [TI.cells] at H
  show Calls Try.prog 59 #[.agg #[.string tn, ti.v, to_.v, .int .i64 tp, .int .i64 ta, .slice A n c], .agg #[.string un, ui.v, uo.v, .int .i64 up, .int .i64 ua, .slice B m d]] w _
  go_enter Try.func59, Try.ntmps59
  go_wp2_with fail
  refine H.out.1.mono ?_
  rintro e w1 ⟨rfl, hb1⟩
  have H1 := Ytobdfocfkomagaa.base.Shut.mk hb1
  clear hb1
  go_wp2
  go_ret
  refine ⟨rfl, chain (by rw [← hq]; exact H.out.2) H1.out⟩
end Go.Proofs.Ytobdfocfkomagaa.rev
