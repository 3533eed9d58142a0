/- The walk of ReviseFew. -/
import Derived.Test.YtobdfocfkomagaaRevApplies
import Derived.Test.YtobdfocfkomagaaRevKeyP
import Derived.Test.YtobdfocfkomagaaRevAlike
import Derived.Deep.RegionHeld3
namespace Go.Proofs.Ytobdfocfkomagaa.rev
open Go.ChangeShapes Go.WideShapes Go.ChangeAt Go.RowKit
open Ytobdfocfkomagaa.base (size_mk chain newer drewn same ba_ext)
open Ytobdfocfkomagaa.row2 (Row CReads own_keep)

attribute [local go_sem] si_one si_cells run_store_si fi_one fi_cells run_store_fi
theorem cl_diff {w : World} {A B : Option Addr} {rs ss : List RI} (hr : RL w A rs) (hs : RL w B ss) (hl : ss.length ≤ 100) {C : Option Addr} {n c base : Nat} (hown : w.ownsRow base 79 4 (.slice C n c) n (cellsC (diffL rs ss 0))) : CL w C (diffL rs ss 0) :=
  ⟨CReads.of_own hown, fun x hx => by
    obtain ⟨h1, h2, h3⟩ := diffL_mem rs ss 0 x hx
    exact ⟨h1.elim (hr.ok _) (hs.ok _), by omega, by omega⟩⟩
theorem alike_val (rs ss : List RI) : Pf rs ss rs.length ss.length = lcsR rs ss := by rw [Pf_end, lcsR_rev]
set_option maxRecDepth 100000 in
set_option maxHeartbeats 3200000 in
theorem few_walk (t : TI) (A : Option Addr) (n c : Nat) (rs : List RI) (B : Option Addr) (m d : Nat) (cs : List CI) (hn : rs.length = n) (hm : cs.length = m) (hn2 : n ≤ maxLen) (hm2 : m ≤ maxLen) (w : World) (ha : Args w t A c rs B d cs) :
    Calls Try.prog 5 #[.agg (t.cells (.slice A n c)), .slice B m d] w fun e w' => e = .returned (.bool true) ∧ Below w.heap.size w w' := by
  have hb := newer (same w) (.cells (t.cells (.slice A n c)) 27)
  have hx := Row.new w (t.cells (.slice A n c)) 27
  obtain ⟨q, hq⟩ : ∃ q, w.heap.size = q := ⟨_, rfl⟩
  obtain ⟨V, hV⟩ : ∃ V, w.alloc (.cells (t.cells (.slice A n c)) 27) = V := ⟨_, rfl⟩
  rw [hV] at hb hx
  rw [hq] at hx
  have hsm := small_walk t A n c rs hn hn2 V (ha.t.keep hb) (ha.r.keep hb)
  have haV := ha.keep hb
  have hap := fun (u : World) (hu : Below V.heap.size V u) (h1 : n ≤ 100) (h2 : m ≤ 100) => applyU t A n c rs B m d cs hn h1 (by rw [← hn]; exact ha.rn) hm h2 u (haV.keep hu).r (haV.keep hu).c
  have hdf := fun (us : List RI) (A3 : Option Addr) (c3 : Nat) (u : World) (hu : Below V.heap.size V u) (hus : RL u A3 us) (h1 : n ≤ 100) (h2 : us.length ≤ 100) => diff_walk t t A A3 n c us.length c3 rs us hn rfl h1 h2 u (haV.keep hu).t (haV.keep hu).t (haV.keep hu).r hus
  have hds := fun (us : List RI) (A3 : Option Addr) (c3 : Nat) (u : World) (hu : Below V.heap.size V u) (hus : RL u A3 us) (h2 : us.length ≤ 100) => diff_walk t t A3 A3 us.length c3 us.length c3 us us rfl rfl h2 h2 u (haV.keep hu).t (haV.keep hu).t hus hus
  have hal := fun (us : List RI) (A3 : Option Addr) (c3 : Nat) (u : World) (hus : RL u A3 us) (h2 : us.length ≤ 100) => alike_walk t t A3 A3 us.length c3 us.length c3 us us rfl rfl h2 h2 u hus hus
  have hfr := fun (us : List RI) (h1 : n ≤ 24) (h2 : us.length ≤ 24) => (show diffO t t rs us = (diffL rs us 0, 0) by unfold diffO; rw [sameFr_refl, if_pos rfl, if_neg (by omega)])
  have hfs := fun (us : List RI) (h2 : us.length ≤ 24) => (show diffO t t us us = ([], 0) by unfold diffO; rw [sameFr_refl, if_pos rfl, if_neg (by omega), diffL_self])
  have H := Ytobdfocfkomagaa.base.Shut.mk (And.intro hsm (And.intro hb (And.intro haV (And.intro hx (And.intro hn hm)))))
  have HC := Ytobdfocfkomagaa.base.Shut.mk (And.intro hap (And.intro hdf (And.intro hds (And.intro hal (And.intro hfr hfs)))))
  clear hap hdf hds hal hfr hfs
  obtain ⟨tn, ti, to_, tp, ta⟩ := t
  have t0 := (hx).cell 0
  have t1 := (hx).cell 1
  have t2 := (hx).cell 2
  have t3 := (hx).cell 3
  have t4 := (hx).cell 4
  have t5 := (hx).cell 5
  simp only [TI.cells] at t0 t1 t2 t3 t4 t5
  clear hsm hb hx ha haV hn hm
  simp only [TI.cells] at hV
  simp only [TI.cells] at HC
  show Calls Try.prog 5 #[.agg #[.string tn, ti.v, to_.v, .int .i64 tp, .int .i64 ta, .slice A n c], .slice B m d] w _
  go_enter Try.func5, Try.ntmps5
  go_wp2_with fail
  refine H.out.1.mono ?_
  rintro e w1 ⟨⟨v1, rfl, hv1⟩, hb1⟩
  have H1 := Ytobdfocfkomagaa.base.Shut.mk (And.intro hv1 hb1)
  clear hb1 hv1
  cases v1
  · go_wp2_with fail
    refine (lives_walk w1).mono ?_
    rintro e w2 ⟨rfl, hb2⟩
    go_wp2
    go_ret
    exact ⟨rfl, chain H.out.2.1 (chain H1.out.2 hb2)⟩
  have hn26 := H1.out.1 rfl
  go_wp2_with fail
  refine (cfew_walk B m d cs H.out.2.2.2.2.2 hm2 w1 (H.out.2.2.1.keep H1.out.2).c).mono ?_
  rintro e w2 ⟨⟨v2, rfl, hv2⟩, hb2⟩
  have H2 := Ytobdfocfkomagaa.base.Shut.mk (And.intro hv2 (chain H1.out.2 hb2))
  clear hb2 hv2
  cases v2
  · go_wp2_with fail
    refine (lives_walk w2).mono ?_
    rintro e w3 ⟨rfl, hb3⟩
    go_wp2
    go_ret
    exact ⟨rfl, chain H.out.2.1 (chain H2.out.2 hb3)⟩
  have hm60 := H2.out.1 rfl
  have u0 := (H.out.2.2.2.1.below H2.out.2).cell 0
  have u1 := (H.out.2.2.2.1.below H2.out.2).cell 1
  have u2 := (H.out.2.2.2.1.below H2.out.2).cell 2
  have u3 := (H.out.2.2.2.1.below H2.out.2).cell 3
  have u4 := (H.out.2.2.2.1.below H2.out.2).cell 4
  have u5 := (H.out.2.2.2.1.below H2.out.2).cell 5
  simp only [TI.cells] at u0 u1 u2 u3 u4 u5
  by_cases h24 : 24 < n
  · have h24' : (24 : Int) < n := by omega
    go_wp2_with fail
    refine (lives_walk w2).mono ?_
    rintro e w3 ⟨rfl, hb3⟩
    go_wp2
    go_ret
    exact ⟨rfl, chain H.out.2.1 (chain H2.out.2 hb3)⟩
  have h24' : ¬ (24 : Int) < n := by omega
  go_wp2_with fail
  refine (HC.out.1 w2 H2.out.2 (by omega) (by omega)).mono ?_
  rintro e w3 hw3
  cases hS : applyR rs cs with
  | none =>
    rw [hS] at hw3
    obtain ⟨hb3, A3, c3, he, hr3, hn3, hl3⟩ := hw3
    obtain rfl : e = .returned (.tuple #[.agg #[.string ⟨#[]⟩, .slice none 0 0, .slice none 0 0, .int .i64 0, .int .i64 0, .slice A3 0 c3], .int .i64 2]) := he
    have H3 := Ytobdfocfkomagaa.base.Shut.mk (chain H2.out.2 hb3)
    clear hb3 hr3 hn3 hl3 hS
    go_wp2_with fail
    refine (lives_walk _).mono ?_
    rintro e w4 ⟨rfl, hb4⟩
    have hb4' := chain (newer (same w3) _) hb4
    go_wp2
    go_ret
    exact ⟨rfl, chain H.out.2.1 (chain H3.out hb4')⟩
  | some us =>
    have hfew := few hS
    rw [hS] at hw3
    obtain ⟨hb3, A3, c3, he, hr3, hn3, hl3⟩ := hw3
    obtain rfl : e = .returned (.tuple #[.agg #[.string tn, ti.v, to_.v, .int .i64 tp, .int .i64 ta, .slice A3 us.length c3], .int .i64 0]) := he
    replace hr3 : RL w3 A3 us := hr3
    replace hl3 : us.length ≤ 100 := hl3
    obtain ⟨q3, hq3⟩ : ∃ q3, w3.heap.size = q3 := ⟨_, rfl⟩
    obtain ⟨W3, hW3⟩ : ∃ W3, w3.alloc (.cells #[.string tn, ti.v, to_.v, .int .i64 tp, .int .i64 ta, .slice A3 us.length c3] 27) = W3 := ⟨_, rfl⟩
    have hx3 := Row.new w3 #[.string tn, ti.v, to_.v, .int .i64 tp, .int .i64 ta, .slice A3 us.length c3] 27
    have hbn := newer (same w3) (.cells #[.string tn, ti.v, to_.v, .int .i64 tp, .int .i64 ta, .slice A3 us.length c3] 27)
    rw [hW3] at hx3 hbn
    rw [hq3] at hx3
    have H3 := Ytobdfocfkomagaa.base.Shut.mk (And.intro (chain H2.out.2 (chain hb3 hbn)) (And.intro (hr3.keep hbn) (And.intro hx3 hfew)))
    clear hx3 hbn hb3 hr3 hn3 hfew hS
    have x0 := (H3.out.2.2.1).cell 0
    have x1 := (H3.out.2.2.1).cell 1
    have x2 := (H3.out.2.2.1).cell 2
    have x3 := (H3.out.2.2.1).cell 3
    have x4 := (H3.out.2.2.1).cell 4
    have x5 := (H3.out.2.2.1).cell 5
    have y0 := (H.out.2.2.2.1.below H3.out.1).cell 0
    have y1 := (H.out.2.2.2.1.below H3.out.1).cell 1
    have y2 := (H.out.2.2.2.1.below H3.out.1).cell 2
    have y3 := (H.out.2.2.2.1.below H3.out.1).cell 3
    have y4 := (H.out.2.2.2.1.below H3.out.1).cell 4
    have y5 := (H.out.2.2.2.1.below H3.out.1).cell 5
    simp only [TI.cells] at y0 y1 y2 y3 y4 y5
    by_cases h25 : 24 < us.length
    · have h25' : (24 : Int) < us.length := by omega
      go_wp2_with fail
      clear hW3
      refine (lives_walk W3).mono ?_
      rintro e w4 ⟨rfl, hb4⟩
      go_wp2
      go_ret
      exact ⟨rfl, chain H.out.2.1 (chain H3.out.1 hb4)⟩
    have h25' : ¬ (24 : Int) < us.length := by omega
    go_wp2_with fail
    clear hW3
    refine (HC.out.2.1 us A3 c3 W3 H3.out.1 H3.out.2.1 (by omega) (by omega)).mono ?_
    rintro e w5 ⟨hb5, A5, c5, he, -⟩
    rw [HC.out.2.2.2.2.1 us (by omega) (by omega)] at he
    replace he : e = .returned (.tuple #[.slice A5 (diffL rs us 0).length c5, .int .i64 0]) := he
    have hkl : (diffL rs us 0).length ≤ m := by have := H3.out.2.2.2; have := H.out.2.2.2.2.2; omega
    generalize (diffL rs us 0).length = kl at he hkl
    obtain rfl := he
    have hkl' : (kl : Int) ≤ m := by omega
    have H5 := Ytobdfocfkomagaa.base.Shut.mk (And.intro (chain H3.out.1 hb5) (And.intro (H3.out.2.1.keep hb5) (H3.out.2.2.1.below hb5)))
    clear hb5
    have a0 := (H5.out.2.2).cell 0
    have a1 := (H5.out.2.2).cell 1
    have a2 := (H5.out.2.2).cell 2
    have a3 := (H5.out.2.2).cell 3
    have a4 := (H5.out.2.2).cell 4
    have a5 := (H5.out.2.2).cell 5
    go_wp2_with fail
    refine (HC.out.2.2.1 us A3 c3 w5 H5.out.1 H5.out.2.1 (by omega)).mono ?_
    rintro e w6 ⟨hb6, A6, c6, he, -⟩
    rw [HC.out.2.2.2.2.2 us (by omega)] at he
    obtain rfl : e = .returned (.tuple #[.slice A6 0 c6, .int .i64 0]) := he
    have H6 := Ytobdfocfkomagaa.base.Shut.mk (And.intro (chain H5.out.1 hb6) (And.intro (H5.out.2.1.keep hb6) (H5.out.2.2.below hb6)))
    clear hb6
    have b0 : w6.cell? ⟨q3, 0, none⟩ = some (.string tn) := H6.out.2.2.cell 0
    have b1 : w6.cell? ⟨q3, 1, none⟩ = some ti.v := H6.out.2.2.cell 1
    have b2 : w6.cell? ⟨q3, 2, none⟩ = some to_.v := H6.out.2.2.cell 2
    have b3 : w6.cell? ⟨q3, 3, none⟩ = some (.int .i64 tp) := H6.out.2.2.cell 3
    have b4 : w6.cell? ⟨q3, 4, none⟩ = some (.int .i64 ta) := H6.out.2.2.cell 4
    have b5 : w6.cell? ⟨q3, 5, none⟩ = some (.slice A3 us.length c3) := H6.out.2.2.cell 5
    go_wp2
    have HL : Ytobdfocfkomagaa.base.Shut (Calls Try.prog 23 #[.agg #[.string tn, ti.v, to_.v, .int .i64 tp, .int .i64 ta, .slice A3 us.length c3], .agg #[.string tn, ti.v, to_.v, .int .i64 tp, .int .i64 ta, .slice A3 us.length c3]] w6.drew fun e w' => e = .returned (.int .i64 (us.length : Int)) ∧ Below w6.drew.heap.size w6.drew w') := ⟨by
      have h := HC.out.2.2.2.1 us A3 c3 w6.drew (H6.out.2.1.keep (drewn (same w6))) (by omega)
      rw [alike_val, lcsR_self] at h
      exact h⟩
    have HK := Ytobdfocfkomagaa.base.Shut.mk (fun (V : World) (hb : Below w6.heap.size w6 V) => (show V.cell? ⟨q3, 0, none⟩ = some (.string tn) ∧ V.cell? ⟨q3, 1, none⟩ = some ti.v ∧ V.cell? ⟨q3, 2, none⟩ = some to_.v ∧ V.cell? ⟨q3, 3, none⟩ = some (.int .i64 tp) ∧ V.cell? ⟨q3, 4, none⟩ = some (.int .i64 ta) ∧ V.cell? ⟨q3, 5, none⟩ = some (.slice A3 us.length c3) from
      ⟨(hb.cell (World.block_lt_of_cell? w6 _ b0)).trans b0, (hb.cell (World.block_lt_of_cell? w6 _ b1)).trans b1, (hb.cell (World.block_lt_of_cell? w6 _ b2)).trans b2, (hb.cell (World.block_lt_of_cell? w6 _ b3)).trans b3, (hb.cell (World.block_lt_of_cell? w6 _ b4)).trans b4, (hb.cell (World.block_lt_of_cell? w6 _ b5)).trans b5⟩))
    obtain ⟨y1, hy1⟩ : ∃ v, ti.v = v := ⟨_, rfl⟩
    obtain ⟨y2, hy2⟩ : ∃ v, to_.v = v := ⟨_, rfl⟩
    rw [hy1, hy2] at HL HK
    rw [hy1] at b1
    rw [hy2] at b2
    go_region_held3 (fun w' => w'.cell? ⟨q3, 0, none⟩ = some (.string tn) ∧ w'.cell? ⟨q3, 1, none⟩ = some y1 ∧ w'.cell? ⟨q3, 2, none⟩ = some y2 ∧ w'.cell? ⟨q3, 3, none⟩ = some (.int .i64 tp) ∧ w'.cell? ⟨q3, 4, none⟩ = some (.int .i64 ta) ∧ w'.cell? ⟨q3, 5, none⟩ = some (.slice A3 us.length c3))
      (first | assumption | (refine HK.out _ ?_; repeat (first | exact same _ | refine drewn ?_)))
      (first
        | (go_at_call 23; (with_reducible refine Calls.mono HL.out ?_); rintro e w7 ⟨rfl, hb7⟩; have H7 := Ytobdfocfkomagaa.base.Shut.mk (chain (drewn (same w6)) hb7); have hk7 := HK.out w7 H7.out; clear hb7)
        | (go_at_call 14; (with_reducible refine Calls.mono (lives_walk _) ?_); rintro e w8 ⟨rfl, hb8⟩; have H8 := Ytobdfocfkomagaa.base.Shut.mk (chain H7.out hb8); have hk8 := HK.out w8 H8.out; clear hb8))
    all_goals go_wp2
    all_goals (go_ret; exact ⟨rfl, chain H.out.2.1 (chain H6.out.1 H8.out)⟩)
theorem few_law (t : TI) (A : Option Addr) (c : Nat) (rs : List RI) (B : Option Addr) (d : Nat) (cs : List CI) (W : World) (h0 : OpenT W t A c rs) (h1 : OpenC W B d cs) :
    Calls Try.prog 5 #[.agg (t.cells (.slice A rs.length c)), .slice B cs.length d] W fun e w' => e = .returned (.bool true) ∧ Below W.heap.size W w' :=
  few_walk t A _ c rs B _ d cs rfl rfl (Nat.le_trans h0.2.2.1 h0.2.2.2.1) (Nat.le_trans h1.2.1 h1.2.2.1) W ⟨h0.1, h0.2.1, h0.2.2.1, h0.2.2.2.2.1, h0.2.2.2.2.2, h1.1, h1.2.2.2⟩
end Go.Proofs.Ytobdfocfkomagaa.rev
