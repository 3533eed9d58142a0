/- The walk of ReviseDiffs. -/
import Derived.Test.YtobdfocfkomagaaRevBackLaw
import Derived.Test.YtobdfocfkomagaaRevRDiff
namespace Go.Proofs.Ytobdfocfkomagaa.rev
open Go.ChangeShapes Go.WideShapes Go.ChangeAt Go.RowKit
open Ytobdfocfkomagaa.base (size_mk chain newer drewn same ba_ext)
open Ytobdfocfkomagaa.row2 (Row CReads own_keep)

attribute [local go_sem] si_one si_cells run_store_si fi_one fi_cells run_store_fi
set_option maxRecDepth 100000 in
set_option maxHeartbeats 1600000 in
theorem ralikeT_walk (t u : TI) (A B : Option Addr) (n c m d : Nat) (rs ss : List RI) (hn : rs.length = n) (hm : ss.length = m) (hn2 : n ≤ 100) (hm2 : m ≤ 100) (w : World) (hr : RL w A rs) (hs : RL w B ss) :
    Calls Try.prog 24 #[.agg (t.cells (.slice A n c)), .agg (u.cells (.slice B m d))] w fun e w' => e = .returned (.int .i64 (Pf rs ss n m : Int)) ∧ Below w.heap.size w w' := by
  have h1 := newer (same w) (.cells (t.cells (.slice A n c)) 27)
  have h2 := newer h1 (.cells (u.cells (.slice B m d)) 27)
  have rA := (Row.new w (t.cells (.slice A n c)) 27).below (newer (same (w.alloc (.cells (t.cells (.slice A n c)) 27))) (.cells (u.cells (.slice B m d)) 27))
  have rB := Row.new (w.alloc (.cells (t.cells (.slice A n c)) 27)) (u.cells (.slice B m d)) 27
  rw [World.size_alloc] at rB
  obtain ⟨V, hV⟩ : ∃ V, (w.alloc (.cells (t.cells (.slice A n c)) 27)).alloc (.cells (u.cells (.slice B m d)) 27) = V := ⟨_, rfl⟩
  rw [hV] at h2 rA rB
  obtain ⟨q, hq⟩ : ∃ q, w.heap.size = q := ⟨_, rfl⟩
  rw [hq] at rA rB
  have H := Ytobdfocfkomagaa.base.Shut.mk (And.intro (ralike_walk A B n c m d rs ss hn hm hn2 hm2 V (hr.keep h2) (hs.keep h2)) h2)
  obtain ⟨tn, ti, to_, tp, ta⟩ := t
  obtain ⟨un, ui, uo, up, ua⟩ := u
  have x5 := rA.cell 5
  have y5 := rB.cell 5
  clear h1 h2 rA rB hr hs hn hm
  simp only [TI.cells] at x5 y5 hV
  show Calls Try.prog 24 #[.agg #[.string tn, ti.v, to_.v, .int .i64 tp, .int .i64 ta, .slice A n c], .agg #[.string un, ui.v, uo.v, .int .i64 up, .int .i64 ua, .slice B m d]] w _
  go_enter Try.func24, Try.ntmps24
  go_wp2_with fail
  refine H.out.1.mono ?_
  rintro e w1 ⟨rfl, hb1⟩
  have H1 := Ytobdfocfkomagaa.base.Shut.mk hb1
  clear hb1
  go_wp2
  go_ret
  exact ⟨rfl, chain H.out.2 H1.out⟩
theorem diffO_cl {w w' : World} {t u : TI} {A B : Option Addr} {rs ss : List RI} {e : Ending} (hr : RL w A rs) (hs : RL w B ss) (hl : ss.length ≤ 100) (h : Diffed w (diffO t u rs ss) e w') : Below w.heap.size w w' ∧ ∃ A' c', e = .returned (.tuple #[.slice A' (diffO t u rs ss).1.length c', .int .i64 (diffO t u rs ss).2]) ∧ CL w' A' (diffO t u rs ss).1 := by
  obtain ⟨hb, A', c', he, hown⟩ := h
  refine ⟨hb, A', c', he, ?_⟩
  have hor : (diffO t u rs ss).1 = [] ∨ (diffO t u rs ss).1 = diffL rs ss 0 := by
    unfold diffO
    split
    · split
      · exact .inl rfl
      · exact .inr rfl
    · exact .inl rfl
  rcases hor with h0 | h0
  · rw [h0]; exact cl_nil _ _
  · rw [h0] at hown ⊢
    exact cl_diff (hr.keep hb) (hs.keep hb) hl hown
theorem diffO_len (t u : TI) (rs ss : List RI) (h1 : rs.length ≤ 26) (h2 : ss.length ≤ 26) : (diffO t u rs ss).1.length ≤ 100 := by
  unfold diffO
  split
  · split
    · exact Nat.zero_le _
    · have := diffL_len rs ss 0
      show (diffL rs ss 0).length ≤ 100
      omega
  · exact Nat.zero_le _
set_option maxRecDepth 100000 in
set_option maxHeartbeats 3200000 in
theorem diffs_walk (t u : TI) (A : Option Addr) (n c : Nat) (rs : List RI) (B : Option Addr) (m d : Nat) (ss : List RI) (hn : rs.length = n) (hm : ss.length = m) (hn2 : n ≤ maxLen) (hm2 : m ≤ maxLen) (w : World) (ha : ArgT w t A c rs) (hb : ArgT w u B d ss) :
    Calls Try.prog 4 #[.agg (t.cells (.slice A n c)), .agg (u.cells (.slice B m d))] w fun e w' => e = .returned (.bool true) ∧ Below w.heap.size w w' := by
  have h1 := newer (same w) (.cells (t.cells (.slice A n c)) 27)
  have h2 := newer h1 (.cells (u.cells (.slice B m d)) 27)
  have rA := (Row.new w (t.cells (.slice A n c)) 27).below (newer (same (w.alloc (.cells (t.cells (.slice A n c)) 27))) (.cells (u.cells (.slice B m d)) 27))
  have rB := Row.new (w.alloc (.cells (t.cells (.slice A n c)) 27)) (u.cells (.slice B m d)) 27
  rw [World.size_alloc] at rB
  obtain ⟨V, hV⟩ : ∃ V, (w.alloc (.cells (t.cells (.slice A n c)) 27)).alloc (.cells (u.cells (.slice B m d)) 27) = V := ⟨_, rfl⟩
  rw [hV] at h2 rA rB
  obtain ⟨q, hq⟩ : ∃ q, w.heap.size = q := ⟨_, rfl⟩
  rw [hq] at rA rB
  have haV := ha.keep h2
  have hbV := hb.keep h2
  have c1 := small_walk t A n c rs hn hn2 V haV.t haV.r
  have c2 := fun (x : World) (hx : Below V.heap.size V x) => small_walk u B m d ss hm hm2 x (hbV.keep hx).t (hbV.keep hx).r
  have c3 := fun (x : World) (hx : Below V.heap.size V x) (k1 : n ≤ 100) (k2 : m ≤ 100) => (diff_walk t u A B n c m d rs ss hn hm k1 k2 x (haV.keep hx).t (hbV.keep hx).t (haV.keep hx).r (hbV.keep hx).r).mono fun _ _ h => diffO_cl (haV.keep hx).r (hbV.keep hx).r (by omega) h
  have c4 := fun (x : World) (hx : Below V.heap.size V x) (k1 : n ≤ 100) (k2 : m ≤ 100) => (rdiff_walk t u A B n c m d rs ss hn hm k1 k2 (by rw [← hn]; exact ha.rc) (by rw [← hm]; exact hb.rc) x (haV.keep hx).t (hbV.keep hx).t (haV.keep hx).r (hbV.keep hx).r).mono fun _ _ h => diffO_cl (haV.keep hx).r (hbV.keep hx).r (by omega) h
  have c5 := fun (x : World) (hx : Below V.heap.size V x) (k1 : n ≤ 100) (k2 : m ≤ 100) => alike_walk t u A B n c m d rs ss hn hm k1 k2 x (haV.keep hx).r (hbV.keep hx).r
  have c6 := fun (x : World) (hx : Below V.heap.size V x) (k1 : n ≤ 100) (k2 : m ≤ 100) => ralikeT_walk t u A B n c m d rs ss hn hm k1 k2 x (haV.keep hx).r (hbV.keep hx).r
  have c7 := fun (k1 : n ≤ 26) (k2 : m ≤ 26) => diffO_len t u rs ss (by omega) (by omega)
  generalize diffO t u rs ss = po at c3 c4 c7
  obtain ⟨l, code⟩ := po
  simp only at c7
  obtain ⟨kl, hkl⟩ : ∃ kl, l.length = kl := ⟨_, rfl⟩
  simp only [hkl] at c3 c4 c7
  have H := Ytobdfocfkomagaa.base.Shut.mk (And.intro h2 (And.intro rA (And.intro rB (And.intro hn (And.intro hm (And.intro hkl (And.intro haV hbV)))))))
  have HC := Ytobdfocfkomagaa.base.Shut.mk (And.intro c1 (And.intro c2 (And.intro c3 (And.intro c4 (And.intro c5 (And.intro c6 c7))))))
  clear c1 c2 c3 c4 c5 c6 c7 h1 h2 haV hbV ha hb hn hm hkl
  generalize Pf rs ss n m = al at HC
  obtain ⟨tn, ti, to_, tp, ta⟩ := t
  obtain ⟨un, ui, uo, up, ua⟩ := u
  have x0 := (rA).cell 0
  have x1 := (rA).cell 1
  have x2 := (rA).cell 2
  have x3 := (rA).cell 3
  have x4 := (rA).cell 4
  have x5 := (rA).cell 5
  simp only [TI.cells] at x0 x1 x2 x3 x4 x5
  have y0 := (rB).cell 0
  have y1 := (rB).cell 1
  have y2 := (rB).cell 2
  have y3 := (rB).cell 3
  have y4 := (rB).cell 4
  have y5 := (rB).cell 5
  simp only [TI.cells] at y0 y1 y2 y3 y4 y5
  clear rA rB
  simp only [TI.cells] at hV
  simp only [TI.cells] at HC
  show Calls Try.prog 4 #[.agg #[.string tn, ti.v, to_.v, .int .i64 tp, .int .i64 ta, .slice A n c], .agg #[.string un, ui.v, uo.v, .int .i64 up, .int .i64 ua, .slice B m d]] w _
  go_enter Try.func4, Try.ntmps4
  go_wp2_with fail
  refine HC.out.1.mono ?_
  rintro e w1 ⟨⟨v1, rfl, hv1⟩, hb1⟩
  have H1 := Ytobdfocfkomagaa.base.Shut.mk (And.intro hv1 hb1)
  clear hb1 hv1
  cases v1
  · go_wp2_with fail
    refine (lives_walk w1).mono ?_
    rintro e w2 ⟨rfl, hb2⟩
    go_wp2
    go_ret
    exact ⟨rfl, chain H.out.1 (chain H1.out.2 hb2)⟩
  have hn26 := H1.out.1 rfl
  have a0 := (H.out.2.2.1.below H1.out.2).cell 0
  have a1 := (H.out.2.2.1.below H1.out.2).cell 1
  have a2 := (H.out.2.2.1.below H1.out.2).cell 2
  have a3 := (H.out.2.2.1.below H1.out.2).cell 3
  have a4 := (H.out.2.2.1.below H1.out.2).cell 4
  have a5 := (H.out.2.2.1.below H1.out.2).cell 5
  simp only [TI.cells] at a0 a1 a2 a3 a4 a5
  go_wp2_with fail
  refine (HC.out.2.1 w1 H1.out.2).mono ?_
  rintro e w2 ⟨⟨v2, rfl, hv2⟩, hb2⟩
  have H2 := Ytobdfocfkomagaa.base.Shut.mk (And.intro hv2 (chain H1.out.2 hb2))
  clear hb2 hv2 a0 a1 a2 a3 a4 a5
  cases v2
  · go_wp2_with fail
    refine (lives_walk w2).mono ?_
    rintro e w3 ⟨rfl, hb3⟩
    go_wp2
    go_ret
    exact ⟨rfl, chain H.out.1 (chain H2.out.2 hb3)⟩
  have hm26 := H2.out.1 rfl
  have hkl100 := HC.out.2.2.2.2.2.2 (by omega) (by omega)
  have a0 := (H.out.2.1.below H2.out.2).cell 0
  have a1 := (H.out.2.1.below H2.out.2).cell 1
  have a2 := (H.out.2.1.below H2.out.2).cell 2
  have a3 := (H.out.2.1.below H2.out.2).cell 3
  have a4 := (H.out.2.1.below H2.out.2).cell 4
  have a5 := (H.out.2.1.below H2.out.2).cell 5
  simp only [TI.cells] at a0 a1 a2 a3 a4 a5
  have b0 := (H.out.2.2.1.below H2.out.2).cell 0
  have b1 := (H.out.2.2.1.below H2.out.2).cell 1
  have b2 := (H.out.2.2.1.below H2.out.2).cell 2
  have b3 := (H.out.2.2.1.below H2.out.2).cell 3
  have b4 := (H.out.2.2.1.below H2.out.2).cell 4
  have b5 := (H.out.2.2.1.below H2.out.2).cell 5
  simp only [TI.cells] at b0 b1 b2 b3 b4 b5
  go_wp2_with fail
  refine (HC.out.2.2.1 w2 H2.out.2 (by omega) (by omega)).mono ?_
  rintro e w3 ⟨hb3, A3, c3, rfl, hc3⟩
  have H3 := Ytobdfocfkomagaa.base.Shut.mk (And.intro (chain H2.out.2 hb3) hc3)
  clear hb3 hc3 a0 a1 a2 a3 a4 a5 b0 b1 b2 b3 b4 b5
  have a0 := (H.out.2.1.below H3.out.1).cell 0
  have a1 := (H.out.2.1.below H3.out.1).cell 1
  have a2 := (H.out.2.1.below H3.out.1).cell 2
  have a3 := (H.out.2.1.below H3.out.1).cell 3
  have a4 := (H.out.2.1.below H3.out.1).cell 4
  have a5 := (H.out.2.1.below H3.out.1).cell 5
  simp only [TI.cells] at a0 a1 a2 a3 a4 a5
  have b0 := (H.out.2.2.1.below H3.out.1).cell 0
  have b1 := (H.out.2.2.1.below H3.out.1).cell 1
  have b2 := (H.out.2.2.1.below H3.out.1).cell 2
  have b3 := (H.out.2.2.1.below H3.out.1).cell 3
  have b4 := (H.out.2.2.1.below H3.out.1).cell 4
  have b5 := (H.out.2.2.1.below H3.out.1).cell 5
  simp only [TI.cells] at b0 b1 b2 b3 b4 b5
  go_wp2_with fail
  refine (HC.out.2.2.2.1 w3 H3.out.1 (by omega) (by omega)).mono ?_
  rintro e w4 ⟨hb4, A4, c4, rfl, hc4⟩
  have H4 := Ytobdfocfkomagaa.base.Shut.mk (And.intro (chain H3.out.1 hb4) (And.intro hc4 (H3.out.2.keep hb4)))
  clear hb4 hc4 a0 a1 a2 a3 a4 a5 b0 b1 b2 b3 b4 b5
  have a0 := (H.out.2.1.below H4.out.1).cell 0
  have a1 := (H.out.2.1.below H4.out.1).cell 1
  have a2 := (H.out.2.1.below H4.out.1).cell 2
  have a3 := (H.out.2.1.below H4.out.1).cell 3
  have a4 := (H.out.2.1.below H4.out.1).cell 4
  have a5 := (H.out.2.1.below H4.out.1).cell 5
  simp only [TI.cells] at a0 a1 a2 a3 a4 a5
  have b0 := (H.out.2.2.1.below H4.out.1).cell 0
  have b1 := (H.out.2.2.1.below H4.out.1).cell 1
  have b2 := (H.out.2.2.1.below H4.out.1).cell 2
  have b3 := (H.out.2.2.1.below H4.out.1).cell 3
  have b4 := (H.out.2.2.1.below H4.out.1).cell 4
  have b5 := (H.out.2.2.1.below H4.out.1).cell 5
  simp only [TI.cells] at b0 b1 b2 b3 b4 b5
  go_wp2
  obtain ⟨z1, hz1⟩ : ∃ v, ti.v = v := ⟨_, rfl⟩
  obtain ⟨z2, hz2⟩ : ∃ v, to_.v = v := ⟨_, rfl⟩
  obtain ⟨z3, hz3⟩ : ∃ v, ui.v = v := ⟨_, rfl⟩
  obtain ⟨z4, hz4⟩ : ∃ v, uo.v = v := ⟨_, rfl⟩
  have HS : Ytobdfocfkomagaa.base.Shut (Calls Try.prog 20 #[.slice A3 kl c3, .slice A4 kl c4] w4.drew fun e w' => e = .returned (.bool true) ∧ Below w4.drew.heap.size w4.drew w') := ⟨rsameC_walk A3 A4 kl c3 c4 l l H.out.2.2.2.2.2.1 H.out.2.2.2.2.2.1 hkl100 w4.drew (H4.out.2.2.keep (drewn (same w4))) (H4.out.2.1.keep (drewn (same w4))) (fun i x y hx hy => by rw [hx] at hy; cases hy; exact likeC.refl x)⟩
  have HL1 := Ytobdfocfkomagaa.base.Shut.mk (fun (V' : World) (hb : Below w4.heap.size w4 V') => HC.out.2.2.2.2.1 V' (chain H4.out.1 hb) (by omega) (by omega))
  have HL2 := Ytobdfocfkomagaa.base.Shut.mk (fun (V' : World) (hb : Below w4.heap.size w4 V') => HC.out.2.2.2.2.2.1 V' (chain H4.out.1 hb) (by omega) (by omega))
  have HK := Ytobdfocfkomagaa.base.Shut.mk (fun (V' : World) (hb : Below w4.heap.size w4 V') => (show V'.cell? ⟨q, 0, none⟩ = some (.string tn) ∧ V'.cell? ⟨q, 1, none⟩ = some ti.v ∧ V'.cell? ⟨q, 2, none⟩ = some to_.v ∧ V'.cell? ⟨q, 3, none⟩ = some (.int .i64 tp) ∧ V'.cell? ⟨q, 4, none⟩ = some (.int .i64 ta) ∧ V'.cell? ⟨q, 5, none⟩ = some (.slice A n c) ∧ V'.cell? ⟨q + 1, 0, none⟩ = some (.string un) ∧ V'.cell? ⟨q + 1, 1, none⟩ = some ui.v ∧ V'.cell? ⟨q + 1, 2, none⟩ = some uo.v ∧ V'.cell? ⟨q + 1, 3, none⟩ = some (.int .i64 up) ∧ V'.cell? ⟨q + 1, 4, none⟩ = some (.int .i64 ua) ∧ V'.cell? ⟨q + 1, 5, none⟩ = some (.slice B m d) from
    ⟨(hb.cell (World.block_lt_of_cell? w4 _ a0)).trans a0, (hb.cell (World.block_lt_of_cell? w4 _ a1)).trans a1, (hb.cell (World.block_lt_of_cell? w4 _ a2)).trans a2, (hb.cell (World.block_lt_of_cell? w4 _ a3)).trans a3, (hb.cell (World.block_lt_of_cell? w4 _ a4)).trans a4, (hb.cell (World.block_lt_of_cell? w4 _ a5)).trans a5, (hb.cell (World.block_lt_of_cell? w4 _ b0)).trans b0, (hb.cell (World.block_lt_of_cell? w4 _ b1)).trans b1, (hb.cell (World.block_lt_of_cell? w4 _ b2)).trans b2, (hb.cell (World.block_lt_of_cell? w4 _ b3)).trans b3, (hb.cell (World.block_lt_of_cell? w4 _ b4)).trans b4, (hb.cell (World.block_lt_of_cell? w4 _ b5)).trans b5⟩))
  rw [hz1, hz2, hz3, hz4] at HL1 HL2 HK
  rw [hz1] at a1
  rw [hz2] at a2
  rw [hz3] at b1
  rw [hz4] at b2
  go_region_held3 (fun w' => w'.cell? ⟨q, 0, none⟩ = some (.string tn) ∧ w'.cell? ⟨q, 1, none⟩ = some (z1) ∧ w'.cell? ⟨q, 2, none⟩ = some (z2) ∧ w'.cell? ⟨q, 3, none⟩ = some (.int .i64 tp) ∧ w'.cell? ⟨q, 4, none⟩ = some (.int .i64 ta) ∧ w'.cell? ⟨q, 5, none⟩ = some (.slice A n c) ∧ w'.cell? ⟨q + 1, 0, none⟩ = some (.string un) ∧ w'.cell? ⟨q + 1, 1, none⟩ = some (z3) ∧ w'.cell? ⟨q + 1, 2, none⟩ = some (z4) ∧ w'.cell? ⟨q + 1, 3, none⟩ = some (.int .i64 up) ∧ w'.cell? ⟨q + 1, 4, none⟩ = some (.int .i64 ua) ∧ w'.cell? ⟨q + 1, 5, none⟩ = some (.slice B m d))
    (first | assumption | (refine HK.out _ ?_; repeat (first | exact same _ | refine drewn ?_)))
    (first
      | (go_at_call 20; (with_reducible refine Calls.mono HS.out ?_); rintro e w5 ⟨rfl, hb5⟩; have H5 := Ytobdfocfkomagaa.base.Shut.mk (chain (drewn (same w4)) hb5); have hk5 := HK.out w5 H5.out; clear hb5)
      | (go_at_call 23; (with_reducible refine Calls.mono (HL1.out _ H5.out) ?_); rintro e w6 ⟨rfl, hb6⟩; have H6 := Ytobdfocfkomagaa.base.Shut.mk (chain H5.out hb6); have hk6 := HK.out w6 H6.out; clear hb6)
      | (go_at_call 24; (with_reducible refine Calls.mono (HL2.out _ H6.out) ?_); rintro e w7 ⟨rfl, hb7⟩; have H7 := Ytobdfocfkomagaa.base.Shut.mk (chain H6.out hb7); have hk7 := HK.out w7 H7.out; clear hb7)
      | (go_at_call 14; (with_reducible refine Calls.mono (lives_walk _) ?_); rintro e w8 ⟨rfl, hb8⟩; have H8 := Ytobdfocfkomagaa.base.Shut.mk (chain H7.out hb8); have hk8 := HK.out w8 H8.out; clear hb8))
  all_goals go_wp2
  all_goals (go_ret; exact ⟨rfl, chain H.out.1 (chain H4.out.1 H8.out)⟩)
theorem diffs_law (t : TI) (A : Option Addr) (c : Nat) (rs : List RI) (u : TI) (B : Option Addr) (d : Nat) (ss : List RI) (W : World) (h0 : OpenT W t A c rs) (h1 : OpenT W u B d ss) :
    Calls Try.prog 4 #[.agg (t.cells (.slice A rs.length c)), .agg (u.cells (.slice B ss.length d))] W fun e w' => e = .returned (.bool true) ∧ Below W.heap.size W w' :=
  diffs_walk t u A _ c rs B _ d ss rfl rfl (Nat.le_trans h0.2.2.1 h0.2.2.2.1) (Nat.le_trans h1.2.2.1 h1.2.2.2.1) W ⟨h0.1, h0.2.1, h0.2.2.1, h0.2.2.2.2.1, h0.2.2.2.2.2⟩ ⟨h1.1, h1.2.1, h1.2.2.1, h1.2.2.2.2.1, h1.2.2.2.2.2⟩
end Go.Proofs.Ytobdfocfkomagaa.rev
