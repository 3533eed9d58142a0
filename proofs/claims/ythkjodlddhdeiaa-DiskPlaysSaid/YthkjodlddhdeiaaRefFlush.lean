/- The reference's Flush. -/
import Derived.Test.YthkjodlddhdeiaaRefRead
import Derived.BigRegion
namespace Go.Proofs.Ythkjodlddhdeiaa.disk
open Go.ChangeShapes Go.WideShapes Go.ChangeAt Go.RowKit
open Ythkjodlddhdeiaa.base

theorem RAt.drew {w : World} {base r b : Nat} {D : Dk} {z : Int} (h : RAt w base r b D z) : RAt w.drew base r b D z := h.below (drewn (same _))
theorem OnlyT.drew {base : Nat} {ts : List TypeId} {w w' : World} (h : OnlyT base ts w w') : OnlyT base ts w w'.drew := ⟨h.os, h.tape, h.output, h.size, h.block⟩
/-- a cell of the blocks' row may be stored -/
theorem RAt.spot {w : World} {base r b : Nat} {D : Dk} {z : Int} (h : RAt w base r b D z) (i : Nat) (hi : i < D.n) : w.cell? ⟨b, i, none⟩ = some (txt (blk D.F i)) ∧ w.frozen? ⟨b, i, none⟩ = false := by
  obtain ⟨cb, lv, -, g2, -⟩ := h.fields
  obtain ⟨_, hg0, hcell⟩ := own_at g2 (by omega)
  cases hg0
  refine ⟨hcell i _ (blks_get D.F D.n i hi), ?_⟩
  obtain ⟨_, cur, hc⟩ := row_type g2 b rfl
  unfold World.frozen?; simp only [hc]; simp
/-- its loose writes' cells -/
theorem RAt.loose {w : World} {base r b : Nat} {D : Dk} {z : Int} (h : RAt w base r b D z) : ∃ a cap, w.cell? ⟨r, 1, none⟩ = some (.slice a D.W.length cap) ∧ D.W.length ≤ cap ∧
    ∀ k (hk : k < D.W.length), ∃ g, a = some ⟨g, 0, none⟩ ∧ w.cell? ⟨g, k * 2, none⟩ = some (.int .i64 (D.W[k].1 : Int)) ∧ w.cell? ⟨g, k * 2 + 1, none⟩ = some (.string ⟨(D.W[k].2).toArray⟩) := by
  obtain ⟨cb, lv, -, c1, -, -, -, -, hL⟩ := h.cells
  obtain ⟨a, cap, rfl, hcap, -⟩ := own_slice hL
  refine ⟨a, cap, c1, hcap, fun k hk => ?_⟩
  obtain ⟨g, e, hc⟩ := own_at hL (by omega)
  exact ⟨g, e, hc _ _ (looseS_get D.W k hk).1, hc _ _ (looseS_get D.W k hk).2⟩
set_option maxRecDepth 100000 in
set_option maxHeartbeats 1600000 in
theorem rflush_walk {w : World} {base r b : Nat} {D : Dk} {z : Int} (h : RAt w base r b D z) (hWl : D.W.length ≤ 100000) :
    Calls Try.prog 65 #[pd r] w fun e w' => e = .returned (.int .i64 (flushE D)) ∧ RTo w base r (flushD D) w' := by
  have hgo := goes_walk h
  obtain ⟨cb, lv, -, -, -, c3, -, -, -⟩ := h.cells
  have H := Ythkjodlddhdeiaa.base.Shut.mk h
  clear h
  cases hg : D.gone with
  | true =>
    have hE : flushE D = 7 := by unfold flushE; rw [if_pos hg]
    have hD : flushD D = D := by unfold flushD; rw [if_pos hg]
    rw [hE, hD]
    rw [hg] at c3
    clear hE hD hgo hg
    go_enter Try.func65, Try.ntmps65
    go_wp2
    go_ret
    exact ⟨rfl, ⟨_, _, H.out⟩, OnlyT.refl _ _ _⟩
  | false =>
    rw [hg] at c3
    by_cases hz : D.fuse = 0
    · have hE : flushE D = 7 := by unfold flushE burnE; rw [if_neg (by rw [hg]; decide), if_pos hz]
      have hD : flushD D = burnD D := by unfold flushD; rw [if_neg (by rw [hg]; decide), if_pos hz]
      rw [hE, hD]
      rw [decide_eq_true hz] at hgo
      have HT := Ythkjodlddhdeiaa.base.Shut.mk hgo
      clear hE hD hgo hg hz
      go_enter Try.func65, Try.ntmps65
      go_wp2_with fail
      refine HT.out.mono ?_
      rintro e w2 ⟨rfl, ⟨z', hA⟩, hO⟩
      have H2 := Ythkjodlddhdeiaa.base.Shut.mk (And.intro hA hO)
      clear hA hO
      go_wp2
      go_ret
      exact ⟨rfl, ⟨_, _, H2.out.1⟩, H2.out.2⟩
    · have hE : flushE D = 0 := by unfold flushE burnE; rw [if_neg (by rw [hg]; decide), if_neg hz]
      have hD : flushD D = { burnD D with F := applyW (burnD D).F (burnD D).W, W := [] } := by unfold flushD; rw [if_neg (by rw [hg]; decide), if_neg hz, burnD_F, burnD_W]
      rw [hE, hD]
      rw [decide_eq_false hz] at hgo
      have hW1 : (burnD D).W.length ≤ 100000 := by rw [burnD_W]; exact hWl
      have HT := Ythkjodlddhdeiaa.base.Shut.mk hgo
      clear hE hD hgo hg hz hWl H
      generalize burnD D = D1 at HT hW1 ⊢
      go_enter Try.func65, Try.ntmps65
      go_wp2_with fail
      refine HT.out.mono ?_
      rintro e w2 ⟨rfl, ⟨z', hA⟩, hO⟩
      have HS := Ythkjodlddhdeiaa.base.Shut.mk (And.intro hA hO)
      have HW := Ythkjodlddhdeiaa.base.Shut.mk (And.intro hA.wf.W hA.wf.F)
      clear hA hO
      go_wp2
      go_loopw [3] (fun i wr => ∃ k : Nat, k ≤ D1.W.length ∧ i = .int .i64 k ∧ Ythkjodlddhdeiaa.base.Shut (RAt wr base r b { D1 with F := applyW D1.F (D1.W.take k) } z' ∧ OnlyT base rT w wr)) (fun i _ => D1.W.length - (intOf i).toNat)
      case atStart => exact ⟨0, Nat.zero_le _, rfl, ⟨HS.out⟩⟩
      case round =>
        obtain ⟨k, hk, rfl, HR⟩ := hrel
        obtain ⟨cb, lv, x0, -⟩ := HR.out.1.cells
        obtain ⟨a, cap, x1, hcap, hWc⟩ := HR.out.1.loose
        by_cases hlt : k < D1.W.length
        · obtain ⟨g, rfl, y1, y2⟩ := hWc k hlt
          have hp := HW.out.1 D1.W[k] (List.getElem_mem hlt)
          have hin : (D1.W[k].1 : Int) < (D1.n : Int) := by omega
          have hsp := HR.out.1.spot D1.W[k].1 hp.1
          obtain ⟨sp1, sp2⟩ := hsp
          have hlaid := HR.out.1.laid D1.W[k].1 hp.1 D1.W[k].2 hp.2
          have e : setBlk (applyW D1.F (D1.W.take k)) D1.W[k].1 D1.W[k].2 = applyW D1.F (D1.W.take (k + 1)) := (applyW_snoc _ _ _ hlt).symm
          have HN : Ythkjodlddhdeiaa.base.Shut (RAt (wr.setCell ⟨b, D1.W[k].1, none⟩ (.string ⟨(D1.W[k].2).toArray⟩)).drew base r b { D1 with F := applyW D1.F (D1.W.take (k + 1)) } z' ∧ OnlyT base rT w (wr.setCell ⟨b, D1.W[k].1, none⟩ (.string ⟨(D1.W[k].2).toArray⟩)).drew) := ⟨by rw [← e]; exact hlaid.1.drew, (HR.out.2.trans hlaid.2).drew⟩
          clear hlaid e hp hWc hcap HR
          simp only at x0 x1 y1 y2 sp1
          generalize D1.W[k].1 = ix at hin y1 sp1 sp2 HN
          generalize D1.W[k].2 = tx at y2 HN
          go_wp2
          go_big_region
          go_wp2
          go_roundw
          case rel => exact ⟨k + 1, by omega, by go_num, HN⟩
          case measure => simp [intOf]; omega
        · obtain rfl : k = D1.W.length := by omega
          have hfr := (HR.out.1.cells).choose_spec.choose_spec.2.2.2.2.1 1
          have hend := HR.out.1.loosed (.slice none 0 0) [] D1.S HR.out.1.wf.S (fun p hp => by cases hp) (World.ownsRow_nil _ _ _ _)
          rw [List.take_of_length_le (Nat.le_refl _)] at hend
          have HN := Ythkjodlddhdeiaa.base.Shut.mk (And.intro hend (HR.out.2.trans (HR.out.1.store 1 (.slice none 0 0))))
          clear hend HR hWc
          simp only at x0 x1
          go_wp2
          go_ret
          exact ⟨rfl, ⟨_, _, HN.out.1⟩, HN.out.2⟩
end Go.Proofs.Ythkjodlddhdeiaa.disk
