/- The reference's Same of tables, at tables whose rules are alike; its Framed. -/
import Derived.Test.YtobdfocfkomagaaRevRCols
import Derived.Test.YtobdfocfkomagaaRevMay
namespace Go.Proofs.Ytobdfocfkomagaa.rev
open Go.ChangeShapes Go.WideShapes Go.ChangeAt Go.RowKit
open Ytobdfocfkomagaa.base (size_mk chain newer drewn same ba_ext)
open Ytobdfocfkomagaa.oct (ne_str)
open Ytobdfocfkomagaa.row2 (Row CReads)

attribute [local go_sem] fi_one fi_cells run_store_fi
/-- two lists of rules say the same -/
def likeR (rs ss : List RI) : Prop := rs.length = ss.length ∧ ∀ (i : Nat) (x y : RI), rs[i]? = some x → ss[i]? = some y → sameR x y = true
set_option maxRecDepth 100000 in
set_option maxHeartbeats 3200000 in
theorem tsame_walk (t u : TI) (A B : Option Addr) (n c d : Nat) (rs ss : List RI) (hn : rs.length = n) (hn2 : n ≤ 100) (hl : likeR rs ss) (w : World) (ht : TOk w t) (hu : TOk w u) (hr : RL w A rs) (hs : RL w B ss) :
    Calls Try.prog 19 #[.agg (t.cells (.slice A n c)), .agg (u.cells (.slice B n d))] w fun e w' => e = .returned (.bool (sameFr t u)) ∧ Below w.heap.size w w' := by
  have h1 := newer (same w) (.cells (t.cells (.slice A n c)) 27)
  have h2 := newer h1 (.cells (u.cells (.slice B n d)) 27)
  have rA := (Row.new w (t.cells (.slice A n c)) 27).below (newer (same (w.alloc (.cells (t.cells (.slice A n c)) 27))) (.cells (u.cells (.slice B n d)) 27))
  have rB := Row.new (w.alloc (.cells (t.cells (.slice A n c)) 27)) (u.cells (.slice B n d)) 27
  rw [World.size_alloc] at rB
  obtain ⟨V, hV⟩ : ∃ V, (w.alloc (.cells (t.cells (.slice A n c)) 27)).alloc (.cells (u.cells (.slice B n d)) 27) = V := ⟨_, rfl⟩
  rw [hV] at h2 rA rB
  obtain ⟨q, hq⟩ : ∃ q, w.heap.size = q := ⟨_, rfl⟩
  rw [hq] at rA rB
  have hdef : sameFr t u = (decide (t.nm = u.nm) && decide (t.po = u.po) && decide (t.ag = u.ag) && sameF t.ins.l u.ins.l && sameF t.outs.l u.outs.l) := rfl
  have H := Ytobdfocfkomagaa.base.Shut.mk (And.intro (And.intro hn hl) (And.intro h2 (And.intro hdef (And.intro rA (And.intro rB (And.intro (And.intro (ht.keep h2) (hu.keep h2)) (And.intro (hr.keep h2) (hs.keep h2))))))))
  obtain ⟨tn, ti, to_, tp, ta⟩ := t
  obtain ⟨un, ui, uo, up, ua⟩ := u
  have x0 := rA.cell 0
  have x3 := rA.cell 3
  have x4 := rA.cell 4
  have x5 := rA.cell 5
  have y0 := rB.cell 0
  have y3 := rB.cell 3
  have y4 := rB.cell 4
  have y5 := rB.cell 5
  clear h1 h2 rA rB ht hu hdef hr hs hn hl
  simp only [TI.cells] at x0 x3 x4 x5 y0 y3 y4 y5 hV
  simp only at H
  show Calls Try.prog 19 #[.agg #[.string tn, ti.v, to_.v, .int .i64 tp, .int .i64 ta, .slice A n c], .agg #[.string un, ui.v, uo.v, .int .i64 up, .int .i64 ua, .slice B n d]] w _
  by_cases c1 : tn = un
  · subst c1
    by_cases c2 : tp = up
    · subst c2
      by_cases c3 : ta = ua
      · subst c3
        go_enter Try.func19, Try.ntmps19
        go_wp2
        clear x0 x3 x4 x5 y0 y3 y4 y5
        go_loopw [5] (fun i wr => ∃ k : Nat, i = .int .i64 k ∧ k ≤ n ∧ Ytobdfocfkomagaa.base.Shut (Below V.heap.size V wr)) (fun i _ => n - (intOf i).toNat)
        case atStart => exact ⟨0, rfl, Nat.zero_le _, ⟨same V⟩⟩
        case round =>
          obtain ⟨k, rfl, hk, HI⟩ := hrel
          have rA1 := H.out.2.2.2.1.below HI.out
          have rB1 := H.out.2.2.2.2.1.below HI.out
          have a5 := rA1.cell 5
          have b5 := rB1.cell 5
          simp only [TI.cells] at a5 b5
          by_cases hlt : k < n
          · have hk1 : k < rs.length := by rw [H.out.1.1]; exact hlt
            have hk2 : k < ss.length := by rw [← H.out.1.2.1]; exact hk1
            obtain ⟨R, hR⟩ : ∃ R, rs[k]? = some R := ⟨_, List.getElem?_eq_getElem hk1⟩
            obtain ⟨S, hS⟩ : ∃ S, ss[k]? = some S := ⟨_, List.getElem?_eq_getElem hk2⟩
            have hsm := H.out.1.2.2 k R S hR hS
            obtain ⟨b, off, rfl, hb0, m0, m1, hokR⟩ := (H.out.2.2.2.2.2.2.1.keep HI.out).at_ hR
            obtain ⟨b', off', rfl, hb0', n0, n1, hokS⟩ := (H.out.2.2.2.2.2.2.2.keep HI.out).at_ hS
            have hlt' : (k : Int) < n := by omega
            have h1 : decide (R.x.l = S.x.l) = true ∧ decide (R.y.l = S.y.l) = true := by
              unfold sameR at hsm
              rw [Bool.and_eq_true] at hsm
              exact hsm
            have s1 : ∀ v : World, Below wr.heap.size wr v → Calls Try.prog 53 #[R.x.v, S.x.v] v fun e w' => e = .returned (.bool true) ∧ Below v.heap.size v w' := by
              intro v hv
              have := requal_walk R.x S.x v (hokR.x.keep hv) (hokS.x.keep hv)
              rw [h1.1] at this
              exact this
            have s2 : ∀ v : World, Below wr.heap.size wr v → Calls Try.prog 53 #[R.y.v, S.y.v] v fun e w' => e = .returned (.bool true) ∧ Below v.heap.size v w' := by
              intro v hv
              have := requal_walk R.y S.y v (hokR.y.keep hv) (hokS.y.keep hv)
              rw [h1.2] at this
              exact this
            have HS := Ytobdfocfkomagaa.base.Shut.mk (And.intro (s1 _ (drewn (same wr))) s2)
            clear s1 s2 h1 hsm hR hS hokR hokS hb0 hb0' rA1 rB1 hk1 hk2
            generalize R.x.v = y1 at m0 HS
            generalize R.y.v = y2 at m1 HS
            generalize S.x.v = y3 at n0 HS
            generalize S.y.v = y4 at n1 HS
            go_wp2
            go_region_held3 (fun w' => w'.cell? ⟨b, off + k * 2, none⟩ = some y1 ∧ w'.cell? ⟨b, off + k * 2 + 1, none⟩ = some y2 ∧ w'.cell? ⟨b', off' + k * 2, none⟩ = some y3 ∧ w'.cell? ⟨b', off' + k * 2 + 1, none⟩ = some y4 ∧ w'.cell? ⟨q, 5, none⟩ = some (.slice (some ⟨b, off, none⟩) n c) ∧ w'.cell? ⟨q + 1, 5, none⟩ = some (.slice (some ⟨b', off', none⟩) n d))
              (first | assumption | go_keep)
              (first
                | (go_at_call 53; (with_reducible refine Calls.mono HS.out.1 ?_); rintro e w5 ⟨rfl, hb5⟩; have H5 := Ytobdfocfkomagaa.base.Shut.mk (chain (drewn (same wr)) hb5); have hk5 := six_kept H5.out (And.intro m0 (And.intro m1 (And.intro n0 (And.intro n1 (And.intro a5 b5))))); clear hb5)
                | (go_at_call 53; (with_reducible refine Calls.mono (HS.out.2 _ H5.out) ?_); rintro e w6 ⟨rfl, hb6⟩; have H6 := Ytobdfocfkomagaa.base.Shut.mk (chain H5.out hb6); have hk6 := six_kept hb6 hk5; clear hb6))
            go_wp2
            go_roundw
            case rel => exact ⟨k + 1, by go_num, by omega, ⟨chain HI.out H6.out⟩⟩
            case measure => simp [intOf]; omega
          · obtain rfl : k = n := by omega
            have a1 := rA1.cell 1
            have a2 := rA1.cell 2
            have b1 := rB1.cell 1
            have b2 := rB1.cell 2
            simp only [TI.cells] at a1 a2 b1 b2
            have e1 := rsameCols_walk ti ui wr (H.out.2.2.2.2.2.1.1.ins.keep HI.out) (H.out.2.2.2.2.2.1.2.ins.keep HI.out)
            have HR := Ytobdfocfkomagaa.base.Shut.mk (And.intro rA1 (And.intro rB1 e1))
            clear rA1 rB1 e1
            go_wp2_with fail
            refine HR.out.2.2.mono ?_
            rintro e w1 ⟨rfl, hb1⟩
            cases hS : sameF ti.l ui.l with
            | false =>
              have HF := Ytobdfocfkomagaa.base.Shut.mk (And.intro hS (chain (chain H.out.2.1 HI.out) hb1))
              clear hS hb1
              go_wp2
              go_ret
              exact ⟨by rw [H.out.2.2.1, HF.out.1]; simp, HF.out.2⟩
            | true =>
              have p2 := (HR.out.1.below hb1).cell 2
              have q2 := (HR.out.2.1.below hb1).cell 2
              simp only [TI.cells] at p2 q2
              have e2 := rsameCols_walk to_ uo w1 ((H.out.2.2.2.2.2.1.1.outs.keep HI.out).keep hb1) ((H.out.2.2.2.2.2.1.2.outs.keep HI.out).keep hb1)
              have HF := Ytobdfocfkomagaa.base.Shut.mk (And.intro hS (And.intro (chain (chain H.out.2.1 HI.out) hb1) e2))
              clear hS hb1 e2
              go_wp2_with fail
              refine HF.out.2.2.mono ?_
              rintro e w2 ⟨rfl, hb2⟩
              have HG := Ytobdfocfkomagaa.base.Shut.mk (chain HF.out.2.1 hb2)
              clear hb2
              go_wp2
              go_ret
              exact ⟨by rw [H.out.2.2.1, HF.out.1]; simp, HG.out⟩
      · have d3 := beq_int_false c3
        have C3 := Ytobdfocfkomagaa.base.Shut.mk c3
        have e3 : (ta != ua) = true := by simpa using c3
        go_enter Try.func19, Try.ntmps19
        go_wp2
        go_ret
        exact ⟨by rw [H.out.2.2.1, decide_eq_false C3.out]; simp, by first | exact H.out.2.1 | (rw [← hq]; exact H.out.2.1)⟩
    · have d2 := beq_int_false c2
      have C2 := Ytobdfocfkomagaa.base.Shut.mk c2
      have e2 : (tp != up) = true := by simpa using c2
      go_enter Try.func19, Try.ntmps19
      go_wp2
      go_ret
      exact ⟨by rw [H.out.2.2.1, decide_eq_false C2.out]; simp, by first | exact H.out.2.1 | (rw [← hq]; exact H.out.2.1)⟩
  · have d1 := ne_str c1
    have C1 := Ytobdfocfkomagaa.base.Shut.mk c1
    have e1 : (tn.toList != un.toList) = true := by rw [bne, d1]; rfl
    clear c1
    go_enter Try.func19, Try.ntmps19
    go_wp2
    go_ret
    exact ⟨by rw [H.out.2.2.1, decide_eq_false C1.out]; simp, by first | exact H.out.2.1 | (rw [← hq]; exact H.out.2.1)⟩
end Go.Proofs.Ytobdfocfkomagaa.rev
