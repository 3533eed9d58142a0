/- T.Small: true gives few rules. -/
import Derived.Test.YtobdfocfkomagaaRevSmall
import Derived.Test.YtobdfocfkomagaaRevTSame
namespace Go.Proofs.Ytobdfocfkomagaa.rev
open Go.ChangeShapes Go.WideShapes Go.ChangeAt Go.RowKit
open Ytobdfocfkomagaa.base (size_mk chain newer drewn same ba_ext)
open Ytobdfocfkomagaa.row2 (Row CReads)

/-- a yes or no; yes gives a bound -/
def SmallEnd (n m : Nat) (e : Ending) : Prop := ∃ v : Bool, e = .returned (.bool v) ∧ (v = true → n ≤ m)
theorem SmallEnd.no {n m : Nat} : SmallEnd n m (.returned (.bool false)) := ⟨false, rfl, fun h => by cases h⟩
theorem SmallEnd.yes {n m : Nat} (h : n ≤ m) (v : Bool) : SmallEnd n m (.returned (.bool v)) := ⟨v, rfl, fun _ => h⟩
attribute [local go_sem] fi_one fi_cells run_store_fi
set_option maxRecDepth 100000 in
set_option maxHeartbeats 3200000 in
theorem small_walk (t : TI) (A : Option Addr) (n c : Nat) (rs : List RI) (hn : rs.length = n) (hn2 : n ≤ maxLen) (w : World) (ht : TOk w t) (hr : RL w A rs) :
    Calls Try.prog 12 #[.agg (t.cells (.slice A n c))] w fun e w' => SmallEnd n 26 e ∧ Below w.heap.size w w' := by
  have h1 := newer (same w) (.cells (t.cells (.slice A n c)) 29)
  have rA := Row.new w (t.cells (.slice A n c)) 29
  obtain ⟨V, hV⟩ : ∃ V, w.alloc (.cells (t.cells (.slice A n c)) 29) = V := ⟨_, rfl⟩
  rw [hV] at h1 rA
  obtain ⟨q, hq⟩ : ∃ q, w.heap.size = q := ⟨_, rfl⟩
  rw [hq] at rA
  have e1 := order_walk t.ins V (ht.keep h1).ins
  have HR0 := Ytobdfocfkomagaa.base.Shut.mk hr
  have H := Ytobdfocfkomagaa.base.Shut.mk (And.intro h1 (And.intro e1 (And.intro rA (And.intro (ht.keep h1) (And.intro (hr.keep h1) hn)))))
  obtain ⟨tn, ti, to_, tp, ta⟩ := t
  have x0 := rA.cell 0
  have x1 := rA.cell 1
  have x5 := rA.cell 5
  have hs63 : n ≤ 9223372036854775807 := by unfold maxLen at hn2; omega
  clear h1 rA ht hr hn e1 hn2
  simp only [TI.cells] at x0 x1 x5 hV
  simp only at H
  show Calls Try.prog 12 #[.agg #[.string tn, ti.v, to_.v, .int .i64 tp, .int .i64 ta, .slice A n c]] w _
  by_cases g1 : (300 : Int) < tn.size
  · go_enter Try.func12, Try.ntmps12
    go_wp2
    go_ret
    exact ⟨SmallEnd.no, by first | exact H.out.1 | (rw [← hq]; exact H.out.1)⟩
  · by_cases g2 : (26 : Int) < n
    · go_enter Try.func12, Try.ntmps12
      go_wp2
      go_ret
      exact ⟨SmallEnd.no, by first | exact H.out.1 | (rw [← hq]; exact H.out.1)⟩
    · go_enter Try.func12, Try.ntmps12
      go_wp2_with fail
      refine H.out.2.1.mono ?_
      rintro e w1 ⟨⟨v, rfl⟩, hb1⟩
      have g3 : n ≤ 26 := by omega
      have H1 := Ytobdfocfkomagaa.base.Shut.mk (And.intro (chain H.out.1 hb1) (And.intro (H.out.2.2.1.below hb1) g3))
      cases v with
      | false =>
        clear hb1
        go_wp2
        go_ret
        exact ⟨SmallEnd.no, H1.out.1⟩
      | true =>
        have y2 := H1.out.2.1.cell 2
        simp only [TI.cells] at y2
        have e2 := order_walk to_ w1 (H.out.2.2.2.1.keep hb1).outs
        have H2 := Ytobdfocfkomagaa.base.Shut.mk e2
        clear hb1 e2 x0 x1 x5
        go_wp2_with fail
        refine H2.out.mono ?_
        rintro e w2 ⟨⟨v, rfl⟩, hb2⟩
        have H3 := Ytobdfocfkomagaa.base.Shut.mk (And.intro (chain H1.out.1 hb2) (H1.out.2.1.below hb2))
        clear hb2 y2
        cases v with
        | false =>
          go_wp2
          go_ret
          exact ⟨SmallEnd.no, H3.out.1⟩
        | true =>
          go_wp2
          go_loopw [3] (fun i wr => ∃ k : Nat, i = .int .i64 k ∧ k ≤ n ∧ Ytobdfocfkomagaa.base.Shut (Below w.heap.size w wr ∧ Row wr q (TI.cells ⟨tn, ti, to_, tp, ta⟩ (.slice A n c)) 29)) (fun i _ => n - (intOf i).toNat)
          case atStart => exact ⟨0, rfl, Nat.zero_le _, ⟨H3.out.1, H3.out.2⟩⟩
          case round =>
            obtain ⟨k, rfl, hk, HI⟩ := hrel
            have a5 := HI.out.2.cell 5
            simp only [TI.cells] at a5
            by_cases hlt : k < n
            · obtain ⟨R, hR⟩ : ∃ R, rs[k]? = some R := ⟨_, List.getElem?_eq_getElem (by rw [H.out.2.2.2.2.2]; exact hlt)⟩
              obtain ⟨b, off, hA, hb0, m0, m1, hok⟩ := (HR0.out.keep HI.out.1).at_ hR
              subst hA
              have hlt' : (k : Int) < n := by omega
              have e1 := texts_walk R.x wr hok.x
              have HE := Ytobdfocfkomagaa.base.Shut.mk (And.intro e1 hok)
              clear e1 hok hb0 hR
              go_wp2_with fail
              refine HE.out.1.mono ?_
              rintro e w5 ⟨⟨v, rfl⟩, hb5⟩
              have H5 := Ytobdfocfkomagaa.base.Shut.mk (And.intro (chain HI.out.1 hb5) (HI.out.2.below hb5))
              cases v with
              | false =>
                clear hb5
                go_wp2
                go_ret
                exact ⟨SmallEnd.no, H5.out.1⟩
              | true =>
                have d5 := H5.out.2.cell 5
                simp only [TI.cells] at d5
                have n1 := (hb5.cell (World.block_lt_of_cell? wr _ m1)).trans m1
                have H6 := Ytobdfocfkomagaa.base.Shut.mk (texts_walk R.y w5 (HE.out.2.y.keep hb5))
                clear hb5 m0 m1 a5
                go_wp2_with fail
                refine H6.out.mono ?_
                rintro e w6 ⟨⟨v, rfl⟩, hb6⟩
                have H7 := Ytobdfocfkomagaa.base.Shut.mk (And.intro (chain H5.out.1 hb6) (H5.out.2.below hb6))
                clear hb6 n1 d5
                cases v with
                | false =>
                  go_wp2
                  go_ret
                  exact ⟨SmallEnd.no, H7.out.1⟩
                | true =>
                  go_wp2
                  go_roundw
                  case rel => exact ⟨k + 1, by go_num, by omega, H7⟩
                  case measure => simp [intOf]; omega
            · obtain rfl : k = n := by omega
              go_wp2
              go_ret
              exact ⟨SmallEnd.yes H1.out.2.2 true, HI.out.1⟩
end Go.Proofs.Ytobdfocfkomagaa.rev
