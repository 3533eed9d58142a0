/- The walk of the reference's Same of changes, at lists that are alike. -/
import Derived.Test.YtobdfocfkomagaaRevRApply
import Derived.Deep.RegionHeld3
namespace Go.Proofs.Ytobdfocfkomagaa.rev
open Go.ChangeShapes Go.WideShapes Go.ChangeAt Go.RowKit
open Ytobdfocfkomagaa.base (size_mk chain newer drewn same ba_ext)
open Ytobdfocfkomagaa.row2 (Row CReads own_keep)

attribute [local go_sem] si_one si_cells run_store_si
/-- two changes say the same -/
def likeC (c d : CI) : Prop := c.put = d.put ∧ c.at_ = d.at_ ∧ sameR c.r d.r = true
theorem likeC.refl (c : CI) : likeC c c := ⟨rfl, rfl, by unfold sameR; simp⟩
theorem eight_keep {p0 p1 p2 p3 p4 p5 p6 p7 : Addr} {v0 v1 v2 v3 v4 v5 v6 v7 : Value} {u w' : World} (hb : Below u.heap.size u w') (h : u.cell? p0 = some v0 ∧ u.cell? p1 = some v1 ∧ u.cell? p2 = some v2 ∧ u.cell? p3 = some v3 ∧ u.cell? p4 = some v4 ∧ u.cell? p5 = some v5 ∧ u.cell? p6 = some v6 ∧ u.cell? p7 = some v7) :
    w'.cell? p0 = some v0 ∧ w'.cell? p1 = some v1 ∧ w'.cell? p2 = some v2 ∧ w'.cell? p3 = some v3 ∧ w'.cell? p4 = some v4 ∧ w'.cell? p5 = some v5 ∧ w'.cell? p6 = some v6 ∧ w'.cell? p7 = some v7 :=
  have k := fun {p : Addr} {v : Value} (h : u.cell? p = some v) => (hb.cell (World.block_lt_of_cell? u p h)).trans h
  ⟨k h.1, k h.2.1, k h.2.2.1, k h.2.2.2.1, k h.2.2.2.2.1, k h.2.2.2.2.2.1, k h.2.2.2.2.2.2.1, k h.2.2.2.2.2.2.2⟩
set_option maxRecDepth 100000 in
set_option maxHeartbeats 3200000 in
theorem rsameC_walk (A B : Option Addr) (m c d : Nat) (cs ds : List CI) (hm : cs.length = m) (hm' : ds.length = m) (hm2 : m ≤ 100) (w : World) (hC : CL w A cs) (hD : CL w B ds)
    (hl : ∀ (i : Nat) (x y : CI), cs[i]? = some x → ds[i]? = some y → likeC x y) :
    Calls Try.prog 20 #[.slice A m c, .slice B m d] w fun e w' => e = .returned (.bool true) ∧ Below w.heap.size w w' := by
  have H := Ytobdfocfkomagaa.base.Shut.mk (And.intro hm (And.intro hm' (And.intro hC (And.intro hD hl))))
  clear hm hm' hC hD hl
  go_enter Try.func20, Try.ntmps20
  go_wp2
  go_loopw [5] (fun i wr => ∃ k : Nat, k ≤ m ∧ i = .int .i64 k ∧ Ytobdfocfkomagaa.base.Shut (Below w.heap.size w wr)) (fun i _ => m - (intOf i).toNat)
  case atStart => exact ⟨0, Nat.zero_le _, rfl, ⟨same w⟩⟩
  case round =>
    obtain ⟨k, hk, rfl, HR⟩ := hrel
    by_cases hlt : k < m
    · have hlt' : (k : Int) < m := by omega
      obtain ⟨C, hC⟩ : ∃ C, cs[k]? = some C := ⟨_, List.getElem?_eq_getElem (by rw [H.out.1]; exact hlt)⟩
      obtain ⟨D, hD⟩ : ∃ D, ds[k]? = some D := ⟨_, List.getElem?_eq_getElem (by rw [H.out.2.1]; exact hlt)⟩
      obtain ⟨b, off, rfl, hblt, e0, e1, e2, e3, hok⟩ := (H.out.2.2.1.keep HR.out).at_ hC
      obtain ⟨b2, off2, rfl, hblt2, d0, d1, d2, d3, hok2⟩ := (H.out.2.2.2.1.keep HR.out).at_ hD
      obtain ⟨hp, ha, hs⟩ := H.out.2.2.2.2 k C D hC hD
      have hsm := rsame_walk C.r D.r wr.drew (hok.keep (drewn (same wr))).r (hok2.keep (drewn (same wr))).r
      rw [hs] at hsm
      rw [← hp] at d0
      rw [← ha] at d1
      have HS : Ytobdfocfkomagaa.base.Shut (Calls Try.prog 55 #[.agg #[C.r.x.v, C.r.y.v], .agg #[D.r.x.v, D.r.y.v]] wr.drew fun e w' => e = .returned (.bool true) ∧ Below wr.drew.heap.size wr.drew w') := ⟨hsm⟩
      clear hsm hs hp ha hok hok2 hblt hblt2 hC hD
      generalize C.put = p at e0 d0
      generalize C.at_ = a at e1 d1
      generalize C.r.x.v = y1 at e2 HS
      generalize C.r.y.v = y2 at e3 HS
      generalize D.r.x.v = y3 at d2 HS
      generalize D.r.y.v = y4 at d3 HS
      go_wp2
      go_region_held3 (fun w' => w'.cell? ⟨b, off + k * 4, none⟩ = some (.bool p) ∧ w'.cell? ⟨b, off + k * 4 + 1, none⟩ = some (.int .i64 a) ∧ w'.cell? ⟨b, off + k * 4 + 2, none⟩ = some y1 ∧ w'.cell? ⟨b, off + k * 4 + 3, none⟩ = some y2 ∧ w'.cell? ⟨b2, off2 + k * 4, none⟩ = some (.bool p) ∧ w'.cell? ⟨b2, off2 + k * 4 + 1, none⟩ = some (.int .i64 a) ∧ w'.cell? ⟨b2, off2 + k * 4 + 2, none⟩ = some y3 ∧ w'.cell? ⟨b2, off2 + k * 4 + 3, none⟩ = some y4)
        (first | assumption | go_keep)
        (first | (go_at_call 55; (with_reducible refine Calls.mono HS.out ?_); rintro e w5 ⟨rfl, hb5⟩; have H5 := Ytobdfocfkomagaa.base.Shut.mk (chain (drewn (same wr)) hb5); have hk5 := eight_keep H5.out (And.intro e0 (And.intro e1 (And.intro e2 (And.intro e3 (And.intro d0 (And.intro d1 (And.intro d2 d3))))))); clear hb5))
      go_wp2
      go_roundw
      case rel => exact ⟨k + 1, by omega, by go_num, ⟨chain HR.out H5.out⟩⟩
      case measure => simp [intOf]; omega
    · obtain rfl : k = m := by omega
      go_wp2
      refine bodyPost_ret (results_tmp rfl _ _ _) rfl ?_
      exact ⟨rfl, HR.out⟩
end Go.Proofs.Ytobdfocfkomagaa.rev
