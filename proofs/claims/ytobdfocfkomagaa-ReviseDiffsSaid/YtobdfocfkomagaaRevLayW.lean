/- The walk of revise.lay. -/
import Derived.Test.YtobdfocfkomagaaRevLay
import Derived.Deep.RegionHeld3
namespace Go.Proofs.Ytobdfocfkomagaa.rev
open Go.ChangeShapes Go.WideShapes Go.ChangeAt Go.RowKit
open Ytobdfocfkomagaa.base (size_mk chain newer drewn same ba_ext)
open Ytobdfocfkomagaa.row2 (Row CReads own_keep)

attribute [local go_sem] si_one si_cells run_store_si
attribute [local go_sem ↓] g_shut
set_option maxRecDepth 100000 in
set_option maxHeartbeats 3200000 in
theorem lay_walk (A B : Option Addr) (n m c d : Nat) (rs ss : List RI) (hn : rs.length = n) (hm : ss.length = m) (hn2 : n ≤ 24) (hm2 : m ≤ 24) (w : World) (hr : RL w A rs) (hs : RL w B ss) :
    Calls Try.prog 57 #[.slice A n c, .slice B m d] w fun e w' => ∃ g, e = .returned (.pointer (some ⟨g, 0, none⟩)) ∧ Grid w' g (Lc rs ss) ∧ w.heap.size ≤ g ∧ Below w.heap.size w w' := by
  have hz : Try.zeroCells128 = zgrid := by kernel_rfl
  have hg0 : Grid (w.alloc (.cells Try.zeroCells128 128)) w.heap.size (layO rs ss n) := by
    rw [hz, ← hn, layO_start]
    exact Grid.new w
  have hb0 := newer (same w) (.cells Try.zeroCells128 128)
  have H := Ytobdfocfkomagaa.base.Shut.mk (And.intro hr (And.intro hs (And.intro hn (And.intro hm (And.intro hg0 hb0)))))
  clear hr hs hn hm hz hg0 hb0
  obtain ⟨g, hgq⟩ : ∃ g, w.heap.size = g := ⟨_, rfl⟩
  go_enter Try.func57, Try.ntmps57
  go_wp2
  go_loopw [6] (fun i wr => ∃ k : Nat, k ≤ n ∧ i = .int .i64 ((k : Int) - 1) ∧ Ytobdfocfkomagaa.base.Shut (Grid wr g (layO rs ss k) ∧ Below w.heap.size w wr)) (fun i _ => (intOf i + 1).toNat)
  case atStart => exact ⟨n, Nat.le_refl _, rfl, ⟨by rw [← hgq]; exact H.out.2.2.2.2.1, H.out.2.2.2.2.2⟩⟩
  case round =>
    obtain ⟨k, hk, rfl, HI⟩ := hrel
    by_cases hpos : 0 < k
    · obtain ⟨s, rfl⟩ : ∃ s, k = s + 1 := ⟨k - 1, by omega⟩
      rw [show (((s + 1 : Nat) : Int) - 1) = (s : Int) by omega]
      have hs0 : (0 : Int) ≤ s := by omega
      go_wp2
      go_loopw [7] (fun i wr => ∃ k : Nat, k ≤ m ∧ i = .int .i64 ((k : Int) - 1) ∧ Ytobdfocfkomagaa.base.Shut (Grid wr g (layI rs ss s k) ∧ Below w.heap.size w wr)) (fun i _ => (intOf i + 1).toNat)
      case atStart => exact ⟨m, Nat.le_refl _, rfl, ⟨by rw [← H.out.2.2.2.1, layI_start]; exact HI.out.1, HI.out.2⟩⟩
      case round =>
        obtain ⟨k, hkm, rfl, HJ⟩ := hrel
        by_cases hkp : 0 < k
        · obtain ⟨t, rfl⟩ : ∃ t, k = t + 1 := ⟨k - 1, by omega⟩
          rw [show (((t + 1 : Nat) : Int) - 1) = (t : Int) by omega]
          have ht0 : (0 : Int) ≤ t := by omega
          have hsn : (s : Int) < n := by omega
          have htm : (t : Int) < m := by omega
          obtain ⟨x, hx⟩ : ∃ x, rs[s]? = some x := ⟨_, List.getElem?_eq_getElem (by rw [H.out.2.2.1]; omega)⟩
          obtain ⟨y, hy⟩ : ∃ y, ss[t]? = some y := ⟨_, List.getElem?_eq_getElem (by rw [H.out.2.2.2.1]; omega)⟩
          obtain ⟨b, off, rfl, hb0, m0, m1, hok⟩ := (H.out.1.keep HJ.out.2).at_ hx
          obtain ⟨b', off', rfl, hb0', n0, n1, hok'⟩ := (H.out.2.1.keep HJ.out.2).at_ hy
          have hst := Lc_step hx hy
          have HS : Ytobdfocfkomagaa.base.Shut (Calls Try.prog 58 #[.agg #[x.x.v, x.y.v], .agg #[y.x.v, y.y.v]] wr.drew fun e w' => e = .returned (.bool (sameR x y)) ∧ Below wr.drew.heap.size wr.drew w') := ⟨same_walk x y wr.drew (hok.keep (drewn (same wr))) (hok'.keep (drewn (same wr)))⟩
          have HT := Ytobdfocfkomagaa.base.Shut.mk hst
          obtain ⟨sm, hsm⟩ : ∃ sm, sameR x y = sm := ⟨_, rfl⟩
          rw [hsm] at HS HT
          clear hst hok hok' hx hy hb0 hb0' hsm
          generalize x.x.v = y1 at m0 HS
          generalize x.y.v = y2 at m1 HS
          generalize y.x.v = y3 at n0 HS
          generalize y.y.v = y4 at n1 HS
          go_wp2
          go_region_held3 (fun w' => w'.cell? ⟨b, off + s * 2, none⟩ = some y1 ∧ w'.cell? ⟨b, off + s * 2 + 1, none⟩ = some y2 ∧ w'.cell? ⟨b', off' + t * 2, none⟩ = some y3 ∧ w'.cell? ⟨b', off' + t * 2 + 1, none⟩ = some y4)
            (first | assumption | go_keep)
            (first | (go_at_call 58; (with_reducible refine Calls.mono HS.out ?_); rintro e w5 ⟨rfl, hb5⟩; have H5 := Ytobdfocfkomagaa.base.Shut.mk (chain (drewn (same wr)) hb5); have hk5 := (show w5.cell? ⟨b, off + s * 2, none⟩ = some y1 ∧ w5.cell? ⟨b, off + s * 2 + 1, none⟩ = some y2 ∧ w5.cell? ⟨b', off' + t * 2, none⟩ = some y3 ∧ w5.cell? ⟨b', off' + t * 2 + 1, none⟩ = some y4 from ⟨(H5.out.cell (World.block_lt_of_cell? wr _ m0)).trans m0, (H5.out.cell (World.block_lt_of_cell? wr _ m1)).trans m1, (H5.out.cell (World.block_lt_of_cell? wr _ n0)).trans n0, (H5.out.cell (World.block_lt_of_cell? wr _ n1)).trans n1⟩); clear hb5))
          have hG := HJ.out.1.below H5.out
          have hle : ∀ a b, Lc rs ss a b ≤ 24 := fun a b => by have := (lcsR_le (rs.drop a) (ss.drop b)).1; rw [List.length_drop] at this; unfold Lc; have := H.out.2.2.1; omega
          have hs1 : (s : Int) + 1 < 25 := by omega
          have ht1 : (t : Int) + 1 < 25 := by omega
          cases sm
          · have h1 := hG.at_ (s + 1) t (by omega) (by omega)
            have h2 := hG.at_ s (t + 1) (by omega) (by omega)
            have h3 := hG.at_ s t (by omega) (by omega)
            rw [show layI rs ss s (t + 1) (s + 1) t = Lc rs ss (s + 1) t from if_pos (.inl (by omega))] at h1
            rw [show layI rs ss s (t + 1) s (t + 1) = Lc rs ss s (t + 1) from if_pos (.inr ⟨rfl, Nat.le_refl _⟩)] at h2
            have l1 := hle (s + 1) t
            have l2 := hle s (t + 1)
            have hfz : w5.frozen? ⟨g, s * 25 + t, none⟩ = false := hG.frozen _
            go_wp2
            go_big_region
            go_wp2
            go_roundw
            case rel =>
              refine ⟨t, by omega, by go_num, ⟨?_, ?_⟩⟩
              · rw [← layI_step, HT.out, if_neg Bool.false_ne_true]
                have h4 := hG.set s t (max (Lc rs ss (s + 1) t) (Lc rs ss s (t + 1))) (by omega) (by omega)
                rw [show ((max (Lc rs ss (s + 1) t) (Lc rs ss s (t + 1)) : Nat) : Int) = (if Lc rs ss (s + 1) t < Lc rs ss s (t + 1) then (Lc rs ss s (t + 1) : Int) else (Lc rs ss (s + 1) t : Int)) by split <;> omega] at h4
                exact h4.below (drewn (same _))
              · exact drewn ((chain HJ.out.2 H5.out).setCell (p := ⟨g, s * 25 + t, none⟩) (by show w.heap.size ≤ g; omega) _)
            case measure => simp [intOf]
          · have h1 := hG.at_ (s + 1) (t + 1) (by omega) (by omega)
            have h3 := hG.at_ s t (by omega) (by omega)
            rw [show layI rs ss s (t + 1) (s + 1) (t + 1) = Lc rs ss (s + 1) (t + 1) from if_pos (.inl (by omega))] at h1
            have l1 := hle (s + 1) (t + 1)
            have hfz : w5.frozen? ⟨g, s * 25 + t, none⟩ = false := hG.frozen _
            go_wp2
            go_big_region
            go_wp2
            go_roundw
            case rel =>
              refine ⟨t, by omega, by go_num, ⟨?_, ?_⟩⟩
              · rw [← layI_step, HT.out, if_pos True.intro]
                exact (hG.set s t (Lc rs ss (s + 1) (t + 1) + 1) (by omega) (by omega)).below (drewn (same _))
              · exact drewn ((chain HJ.out.2 H5.out).setCell (p := ⟨g, s * 25 + t, none⟩) (by show w.heap.size ≤ g; omega) _)
            case measure => simp [intOf]
        · obtain rfl : k = 0 := by omega
          rw [show (((0 : Nat) : Int) - 1) = -1 from rfl]
          go_wp2
          go_roundw
          case rel => exact ⟨s, by omega, by go_num, ⟨by rw [← layI_end]; exact HJ.out.1, HJ.out.2⟩⟩
          case measure => simp [intOf]
    · obtain rfl : k = 0 := by omega
      rw [show (((0 : Nat) : Int) - 1) = -1 from rfl]
      go_wp2
      refine bodyPost_ret (results_tmp rfl _ _ _) rfl ?_
      refine ⟨g, rfl, ?_, by omega, HI.out.2⟩
      rw [← layO_end]
      exact HI.out.1
end Go.Proofs.Ytobdfocfkomagaa.rev
