/- The walk of ReviseBack. -/
import Derived.Test.YtobdfocfkomagaaRevFew
namespace Go.Proofs.Ytobdfocfkomagaa.rev
open Go.ChangeShapes Go.WideShapes Go.ChangeAt Go.RowKit
open Ytobdfocfkomagaa.base (size_mk chain newer drewn same ba_ext)
open Ytobdfocfkomagaa.row2 (Row CReads own_keep)

attribute [local go_sem] si_one si_cells run_store_si fi_one fi_cells run_store_fi
/-- a table that the law has read -/
structure ArgT (w : World) (t : TI) (A : Option Addr) (c : Nat) (rs : List RI) : Prop where
  t : TOk w t
  r : RL w A rs
  rc : rs.length ≤ c
  rn : A = none → rs.length = 0 ∧ c = 0
  rs' : ∀ a, A = some a → a.spot = none
theorem ArgT.keep {w w' : World} {t : TI} {A : Option Addr} {c : Nat} {rs : List RI} (h : ArgT w t A c rs) (hb : Below w.heap.size w w') : ArgT w' t A c rs :=
  ⟨h.t.keep hb, h.r.keep hb, h.rc, h.rn, h.rs'⟩
theorem keys_like {rs ss : List RI} (h : keys rs = keys ss) : likeR rs ss := like_keys h
theorem diffed_cl {w w' : World} {t u : TI} {A B : Option Addr} {rs ss : List RI} {e : Ending} (hr : RL w A rs) (hs : RL w B ss) (hl : ss.length ≤ 100) (h : Diffed w (diffL rs ss 0, 0) e w') : Below w.heap.size w w' ∧ ∃ A' c', e = .returned (.tuple #[.slice A' (diffL rs ss 0).length c', .int .i64 0]) ∧ CL w' A' (diffL rs ss 0) ∧ (A' = none → (diffL rs ss 0).length = 0 ∧ c' = 0) := by
  obtain ⟨hb, A', c', he, hown⟩ := h
  exact ⟨hb, A', c', he, cl_diff (hr.keep hb) (hs.keep hb) hl hown, own_nil hown⟩
set_option maxRecDepth 100000 in
set_option maxHeartbeats 3200000 in
theorem back_walk (t u : TI) (A : Option Addr) (n c : Nat) (rs : List RI) (B : Option Addr) (m d : Nat) (ss : List RI) (hn : rs.length = n) (hm : ss.length = m) (hn2 : n ≤ maxLen) (hm2 : m ≤ maxLen) (w : World) (ha : ArgT w t A c rs) (hb : ArgT w u B d ss) :
    Calls Try.prog 9 #[.agg (t.cells (.slice A n c)), .agg (u.cells (.slice B m d))] w fun e w' => e = .returned (.bool true) ∧ Below w.heap.size w w' := by
  have h1 := newer (same w) (.cells (t.cells (.slice A n c)) 27)
  have h2 := newer h1 (.cells (u.cells (.slice B m d)) 27)
  have rA := (Row.new w (t.cells (.slice A n c)) 27).below (newer (same (w.alloc (.cells (t.cells (.slice A n c)) 27))) (.cells (u.cells (.slice B m d)) 27))
  have rB := Row.new (w.alloc (.cells (t.cells (.slice A n c)) 27)) (u.cells (.slice B m d)) 27
  rw [World.size_alloc] at rB
  obtain ⟨V, hV⟩ : ∃ V, (w.alloc (.cells (t.cells (.slice A n c)) 27)).alloc (.cells (u.cells (.slice B m d)) 27) = V := ⟨_, rfl⟩
  rw [hV] at h2 rA rB
  obtain ⟨q, hq⟩ : ∃ q, w.heap.size = q := ⟨_, rfl⟩
  rw [hq] at rA rB
  have haV := ha.keep h2
  have hbV := hb.keep h2
  have c1 := small_walk t A n c rs hn hn2 V haV.t haV.r
  have c2 := fun (x : World) (hx : Below V.heap.size V x) => small_walk u B m d ss hm hm2 x (hbV.keep hx).t (hbV.keep hx).r
  have c3 := fun (x : World) (hx : Below V.heap.size V x) (k1 : n ≤ 100) (k2 : m ≤ 100) => diff_walk t u A B n c m d rs ss hn hm k1 k2 x (haV.keep hx).t (hbV.keep hx).t (haV.keep hx).r (hbV.keep hx).r
  have c4 := fun (C : Option Addr) (k e : Nat) (cs : List CI) (hk : cs.length = k) (x : World) (hx : Below V.heap.size V x) (k1 : n ≤ 100) (k2 : k ≤ 100) (hC : CL x C cs) => applyU t A n c rs C k e cs hn k1 (by rw [← hn]; exact haV.rn) hk k2 x (haV.keep hx).r hC
  have c5 := fun (C : Option Addr) (k e : Nat) (cs : List CI) (hk : cs.length = k) (hnl : C = none → k = 0 ∧ e = 0) (x : World) (hx : Below V.heap.size V x) (k1 : n ≤ 100) (k2 : k ≤ 100) (hC : CL x C cs) => undoU t A n c rs C k e cs hn k1 (by rw [← hn]; exact haV.rn) hk k2 hnl x (haV.keep hx).r hC
  have c6 := fun (D : Option Addr) (f : Nat) (us : List RI) (C : Option Addr) (k e : Nat) (cs : List CI) (hus : us.length = m) (hnl : D = none → m = 0 ∧ f = 0) (hk : cs.length = k) (x : World) (k1 : m ≤ 100) (k2 : k ≤ 100) (hr : RL x D us) (hC : CL x C cs) => applyU t D m f us C k e cs hus k1 hnl hk k2 x hr hC
  have c7 := fun (x : World) (hx : Below V.heap.size V x) (k1 : n ≤ 100) (k2 : m ≤ 100) => alike_walk t u A B n c m d rs ss hn hm k1 k2 x (haV.keep hx).r (hbV.keep hx).r
  have c8 := fun (D : Option Addr) (f : Nat) (us : List RI) (hus : us.length = m) (hl : likeR us ss) (x : World) (hx : Below V.heap.size V x) (k1 : m ≤ 100) (hr : RL x D us) => tsame_walk t u D B m f d us ss hus k1 hl x (haV.keep hx).t (hbV.keep hx).t hr (hbV.keep hx).r
  have c9 := fun (D : Option Addr) (f : Nat) (us : List RI) (hus : us.length = n) (hl : likeR us rs) (x : World) (hx : Below V.heap.size V x) (k1 : n ≤ 100) (hr : RL x D us) => tsame_walk t t D A n f c us rs hus k1 hl x (haV.keep hx).t (haV.keep hx).t hr (haV.keep hx).r
  have H := Ytobdfocfkomagaa.base.Shut.mk (And.intro h2 (And.intro rA (And.intro rB (And.intro hn (And.intro hm (And.intro haV hbV))))))
  have HC := Ytobdfocfkomagaa.base.Shut.mk (And.intro c1 (And.intro c2 (And.intro c3 (And.intro c4 (And.intro c5 (And.intro c6 (And.intro c7 (And.intro c8 c9))))))))
  have HO := Ytobdfocfkomagaa.base.Shut.mk (show diffO t u rs ss = if sameFr t u then if 24 < n ∨ 24 < m then ([], 24) else (diffL rs ss 0, 0) else ([], 2) by subst hn hm; rfl)
  clear c1 c2 c3 c4 c5 c6 c7 c8 c9 h1 h2 haV hbV ha hb hn hm
  have hst := sameFr_refl t
  obtain ⟨tn, ti, to_, tp, ta⟩ := t
  obtain ⟨un, ui, uo, up, ua⟩ := u
  have x0 := (rA).cell 0
  have x1 := (rA).cell 1
  have x2 := (rA).cell 2
  have x3 := (rA).cell 3
  have x4 := (rA).cell 4
  have x5 := (rA).cell 5
  simp only [TI.cells] at x0 x1 x2 x3 x4 x5
  have y0 := (rB).cell 0
  have y1 := (rB).cell 1
  have y2 := (rB).cell 2
  have y3 := (rB).cell 3
  have y4 := (rB).cell 4
  have y5 := (rB).cell 5
  simp only [TI.cells] at y0 y1 y2 y3 y4 y5
  clear rA rB
  rw [hst] at HC
  generalize sameFr ⟨tn, ti, to_, tp, ta⟩ ⟨un, ui, uo, up, ua⟩ = fr at HC HO
  simp only [TI.cells] at hV
  simp only [TI.cells] at HC
  show Calls Try.prog 9 #[.agg #[.string tn, ti.v, to_.v, .int .i64 tp, .int .i64 ta, .slice A n c], .agg #[.string un, ui.v, uo.v, .int .i64 up, .int .i64 ua, .slice B m d]] w _
  go_enter Try.func9, Try.ntmps9
  go_wp2_with fail
  refine HC.out.1.mono ?_
  rintro e w1 ⟨⟨v1, rfl, hv1⟩, hb1⟩
  have H1 := Ytobdfocfkomagaa.base.Shut.mk (And.intro hv1 hb1)
  clear hb1 hv1
  cases v1
  · go_wp2_with fail
    refine (lives_walk w1).mono ?_
    rintro e w2 ⟨rfl, hb2⟩
    go_wp2
    go_ret
    exact ⟨rfl, chain H.out.1 (chain H1.out.2 hb2)⟩
  have hn26 := H1.out.1 rfl
  have a0 := (H.out.2.2.1.below H1.out.2).cell 0
  have a1 := (H.out.2.2.1.below H1.out.2).cell 1
  have a2 := (H.out.2.2.1.below H1.out.2).cell 2
  have a3 := (H.out.2.2.1.below H1.out.2).cell 3
  have a4 := (H.out.2.2.1.below H1.out.2).cell 4
  have a5 := (H.out.2.2.1.below H1.out.2).cell 5
  simp only [TI.cells] at a0 a1 a2 a3 a4 a5
  go_wp2_with fail
  refine (HC.out.2.1 w1 H1.out.2).mono ?_
  rintro e w2 ⟨⟨v2, rfl, hv2⟩, hb2⟩
  have H2 := Ytobdfocfkomagaa.base.Shut.mk (And.intro hv2 (chain H1.out.2 hb2))
  clear hb2 hv2 a0 a1 a2 a3 a4 a5
  cases v2
  · go_wp2_with fail
    refine (lives_walk w2).mono ?_
    rintro e w3 ⟨rfl, hb3⟩
    go_wp2
    go_ret
    exact ⟨rfl, chain H.out.1 (chain H2.out.2 hb3)⟩
  have hm26 := H2.out.1 rfl
  have a0 := (H.out.2.1.below H2.out.2).cell 0
  have a1 := (H.out.2.1.below H2.out.2).cell 1
  have a2 := (H.out.2.1.below H2.out.2).cell 2
  have a3 := (H.out.2.1.below H2.out.2).cell 3
  have a4 := (H.out.2.1.below H2.out.2).cell 4
  have a5 := (H.out.2.1.below H2.out.2).cell 5
  simp only [TI.cells] at a0 a1 a2 a3 a4 a5
  have b0 := (H.out.2.2.1.below H2.out.2).cell 0
  have b1 := (H.out.2.2.1.below H2.out.2).cell 1
  have b2 := (H.out.2.2.1.below H2.out.2).cell 2
  have b3 := (H.out.2.2.1.below H2.out.2).cell 3
  have b4 := (H.out.2.2.1.below H2.out.2).cell 4
  have b5 := (H.out.2.2.1.below H2.out.2).cell 5
  simp only [TI.cells] at b0 b1 b2 b3 b4 b5
  go_wp2_with fail
  refine (HC.out.2.2.1 w2 H2.out.2 (by omega) (by omega)).mono ?_
  rintro e w3 hw3
  clear a0 a1 a2 a3 a4 a5 b0 b1 b2 b3 b4 b5
  by_cases hok : fr = true ∧ n ≤ 24 ∧ m ≤ 24
  · obtain ⟨rfl, hn24, hm24⟩ := hok
    rw [HO.out, if_pos rfl, if_neg (by omega)] at hw3
    obtain ⟨hb3, A3, c3, rfl, hcl3, hnil3⟩ := diffed_cl (t := ⟨tn, ti, to_, tp, ta⟩) (u := ⟨tn, ti, to_, tp, ta⟩) (H.out.2.2.2.2.2.1.keep H2.out.2).r (H.out.2.2.2.2.2.2.keep H2.out.2).r (by have := H.out.2.2.2.2.1; omega) hw3
    clear hw3
    obtain ⟨us, hus, hku, vs, hvs, hkv⟩ := there_and_back (rs := rs) (ss := ss) (by have := H.out.2.2.2.1; omega) (by have := H.out.2.2.2.2.1; omega)
    have hcount := diffL_count rs ss 0
    rw [H.out.2.2.2.1, H.out.2.2.2.2.1] at hcount
    have hal := lcsR_le rs ss
    rw [H.out.2.2.2.1] at hal
    have halv : Pf rs ss n m = lcsR rs ss := by have := alike_val rs ss; rw [H.out.2.2.2.1, H.out.2.2.2.2.1] at this; exact this
    have hul : us.length = m := by have := (like_keys hku).1; rw [H.out.2.2.2.2.1] at this; exact this
    have hvl : vs.length = n := by have := (like_keys hkv).1; rw [H.out.2.2.2.1] at this; exact this
    generalize hcs : diffL rs ss 0 = cs at hcl3 hnil3 hus hvs hcount ⊢
    generalize lcsR rs ss = al at hcount hal halv
    obtain ⟨kl, hkl⟩ : ∃ kl, cs.length = kl := ⟨_, rfl⟩
    rw [hkl] at hcount hnil3 ⊢
    have H3 := Ytobdfocfkomagaa.base.Shut.mk (And.intro (chain H2.out.2 hb3) (And.intro hcl3 (And.intro hnil3 (And.intro hkl (And.intro hus (And.intro hvs (And.intro hku (And.intro hkv (And.intro hul hvl)))))))))
    clear hb3 hcl3 hnil3 hkl hus hvs hku hkv hul hvl hcs
    have a0 := (H.out.2.1.below H3.out.1).cell 0
    have a1 := (H.out.2.1.below H3.out.1).cell 1
    have a2 := (H.out.2.1.below H3.out.1).cell 2
    have a3 := (H.out.2.1.below H3.out.1).cell 3
    have a4 := (H.out.2.1.below H3.out.1).cell 4
    have a5 := (H.out.2.1.below H3.out.1).cell 5
    simp only [TI.cells] at a0 a1 a2 a3 a4 a5
    go_wp2_with fail
    refine (HC.out.2.2.2.1 A3 kl c3 cs H3.out.2.2.2.1 w3 H3.out.1 (by omega) (by omega) H3.out.2.1).mono ?_
    rintro e w4 hw4
    rw [H3.out.2.2.2.2.1] at hw4
    obtain ⟨hb4, A4, c4, he, hr4, hn4, -⟩ := hw4
    replace he : e = .returned (.tuple #[.agg #[.string tn, ti.v, to_.v, .int .i64 tp, .int .i64 ta, .slice A4 us.length c4], .int .i64 0]) := he
    replace hr4 : RL w4 A4 us := hr4
    replace hn4 : A4 = none → us.length = 0 ∧ c4 = 0 := hn4
    rw [H3.out.2.2.2.2.2.2.2.2.1] at he hn4
    subst he
    clear a0 a1 a2 a3 a4 a5
    obtain ⟨q4, hq4⟩ : ∃ q4, w4.heap.size = q4 := ⟨_, rfl⟩
    obtain ⟨W4, hW4⟩ : ∃ W4, w4.alloc (.cells #[.string tn, ti.v, to_.v, .int .i64 tp, .int .i64 ta, .slice A4 m c4] 27) = W4 := ⟨_, rfl⟩
    have hx4 := Row.new w4 #[.string tn, ti.v, to_.v, .int .i64 tp, .int .i64 ta, .slice A4 m c4] 27
    have hbn := newer (same w4) (.cells #[.string tn, ti.v, to_.v, .int .i64 tp, .int .i64 ta, .slice A4 m c4] 27)
    rw [hW4] at hx4 hbn
    rw [hq4] at hx4
    have H4 := Ytobdfocfkomagaa.base.Shut.mk (And.intro (chain H3.out.1 (chain hb4 hbn)) (And.intro (hr4.keep hbn) (And.intro hn4 (And.intro hx4 (H3.out.2.1.keep (chain hb4 hbn))))))
    clear hb4 hbn hr4 hn4 hx4
    have a0 := (H.out.2.1.below H4.out.1).cell 0
    have a1 := (H.out.2.1.below H4.out.1).cell 1
    have a2 := (H.out.2.1.below H4.out.1).cell 2
    have a3 := (H.out.2.1.below H4.out.1).cell 3
    have a4 := (H.out.2.1.below H4.out.1).cell 4
    have a5 := (H.out.2.1.below H4.out.1).cell 5
    simp only [TI.cells] at a0 a1 a2 a3 a4 a5
    go_wp2_with fail
    clear hW4
    refine (HC.out.2.2.2.2.1 A3 kl c3 cs H3.out.2.2.2.1 H3.out.2.2.1 W4 H4.out.1 (by omega) (by omega) H4.out.2.2.2.2).mono ?_
    rintro e w5 hw5
    rw [H3.out.2.2.2.2.1] at hw5
    obtain ⟨hb5, A5, c5, he, hc5⟩ := hw5
    replace he : e = .returned (.tuple #[.slice A5 (undoC cs).length c5, .int .i64 0]) := he
    replace hc5 : CL w5 A5 (undoC cs) := hc5
    rw [undoC_len, H3.out.2.2.2.1] at he
    subst he
    have H5 := Ytobdfocfkomagaa.base.Shut.mk (And.intro (chain H4.out.1 hb5) (And.intro (H4.out.2.1.keep hb5) (And.intro hc5 (H4.out.2.2.2.1.below hb5))))
    clear hb5 hc5 a0 a1 a2 a3 a4 a5
    have a0 := (H5.out.2.2.2).cell 0
    have a1 := (H5.out.2.2.2).cell 1
    have a2 := (H5.out.2.2.2).cell 2
    have a3 := (H5.out.2.2.2).cell 3
    have a4 := (H5.out.2.2.2).cell 4
    have a5 := (H5.out.2.2.2).cell 5
    go_wp2_with fail
    refine (HC.out.2.2.2.2.2.1 A4 c4 us A5 kl c5 (undoC cs) H3.out.2.2.2.2.2.2.2.2.1 H4.out.2.2.1 (by rw [undoC_len]; exact H3.out.2.2.2.1) w5 (by omega) (by omega) H5.out.2.1 H5.out.2.2.1).mono ?_
    rintro e w6 hw6
    rw [H3.out.2.2.2.2.2.1] at hw6
    obtain ⟨hb6, A6, c6, he, hr6, -, -⟩ := hw6
    replace he : e = .returned (.tuple #[.agg #[.string tn, ti.v, to_.v, .int .i64 tp, .int .i64 ta, .slice A6 vs.length c6], .int .i64 0]) := he
    replace hr6 : RL w6 A6 vs := hr6
    rw [H3.out.2.2.2.2.2.2.2.2.2] at he
    subst he
    clear a0 a1 a2 a3 a4 a5
    obtain ⟨q6, hq6⟩ : ∃ q6, w6.heap.size = q6 := ⟨_, rfl⟩
    obtain ⟨W6, hW6⟩ : ∃ W6, w6.alloc (.cells #[.string tn, ti.v, to_.v, .int .i64 tp, .int .i64 ta, .slice A6 n c6] 27) = W6 := ⟨_, rfl⟩
    have hx6 := Row.new w6 #[.string tn, ti.v, to_.v, .int .i64 tp, .int .i64 ta, .slice A6 n c6] 27
    have hbn := newer (same w6) (.cells #[.string tn, ti.v, to_.v, .int .i64 tp, .int .i64 ta, .slice A6 n c6] 27)
    rw [hW6] at hx6 hbn
    rw [hq6] at hx6
    have hb7 := chain hb6 hbn
    have H6 := Ytobdfocfkomagaa.base.Shut.mk (And.intro (chain H5.out.1 hb7) (And.intro (H5.out.2.1.keep hb7) (And.intro (hr6.keep hbn) (And.intro (H5.out.2.2.2.below hb7) hx6))))
    clear hb6 hbn hr6 hx6 hb7
    have a0 := (H.out.2.1.below H6.out.1).cell 0
    have a1 := (H.out.2.1.below H6.out.1).cell 1
    have a2 := (H.out.2.1.below H6.out.1).cell 2
    have a3 := (H.out.2.1.below H6.out.1).cell 3
    have a4 := (H.out.2.1.below H6.out.1).cell 4
    have a5 := (H.out.2.1.below H6.out.1).cell 5
    simp only [TI.cells] at a0 a1 a2 a3 a4 a5
    have b0 := (H.out.2.2.1.below H6.out.1).cell 0
    have b1 := (H.out.2.2.1.below H6.out.1).cell 1
    have b2 := (H.out.2.2.1.below H6.out.1).cell 2
    have b3 := (H.out.2.2.1.below H6.out.1).cell 3
    have b4 := (H.out.2.2.1.below H6.out.1).cell 4
    have b5 := (H.out.2.2.1.below H6.out.1).cell 5
    simp only [TI.cells] at b0 b1 b2 b3 b4 b5
    go_wp2_with fail
    clear hW6
    refine (HC.out.2.2.2.2.2.2.1 W6 H6.out.1 (by omega) (by omega)).mono ?_
    rintro e w7 ⟨rfl, hb7⟩
    rw [halv]
    have H7 := Ytobdfocfkomagaa.base.Shut.mk (And.intro (chain H6.out.1 hb7) (And.intro (H6.out.2.1.keep hb7) (And.intro (H6.out.2.2.1.keep hb7) (And.intro (H6.out.2.2.2.1.below hb7) (H6.out.2.2.2.2.below hb7)))))
    clear hb7 a0 a1 a2 a3 a4 a5 b0 b1 b2 b3 b4 b5
    have a0 := (H7.out.2.2.2.1).cell 0
    have a1 := (H7.out.2.2.2.1).cell 1
    have a2 := (H7.out.2.2.2.1).cell 2
    have a3 := (H7.out.2.2.2.1).cell 3
    have a4 := (H7.out.2.2.2.1).cell 4
    have a5 := (H7.out.2.2.2.1).cell 5
    have b0 := (H.out.2.2.1.below H7.out.1).cell 0
    have b1 := (H.out.2.2.1.below H7.out.1).cell 1
    have b2 := (H.out.2.2.1.below H7.out.1).cell 2
    have b3 := (H.out.2.2.1.below H7.out.1).cell 3
    have b4 := (H.out.2.2.1.below H7.out.1).cell 4
    have b5 := (H.out.2.2.1.below H7.out.1).cell 5
    simp only [TI.cells] at b0 b1 b2 b3 b4 b5
    go_wp2_with fail
    refine (HC.out.2.2.2.2.2.2.2.1 A4 c4 us H3.out.2.2.2.2.2.2.2.2.1 (keys_like H3.out.2.2.2.2.2.2.1) w7 H7.out.1 (by omega) H7.out.2.1).mono ?_
    rintro e w8 ⟨rfl, hb8⟩
    have H8 := Ytobdfocfkomagaa.base.Shut.mk (And.intro (chain H7.out.1 hb8) (And.intro (H7.out.2.2.1.keep hb8) (H7.out.2.2.2.2.below hb8)))
    clear hb8 a0 a1 a2 a3 a4 a5 b0 b1 b2 b3 b4 b5
    have a0 := (H.out.2.1.below H8.out.1).cell 0
    have a1 := (H.out.2.1.below H8.out.1).cell 1
    have a2 := (H.out.2.1.below H8.out.1).cell 2
    have a3 := (H.out.2.1.below H8.out.1).cell 3
    have a4 := (H.out.2.1.below H8.out.1).cell 4
    have a5 := (H.out.2.1.below H8.out.1).cell 5
    simp only [TI.cells] at a0 a1 a2 a3 a4 a5
    have b0 := (H.out.2.2.1.below H8.out.1).cell 0
    have b1 := (H.out.2.2.1.below H8.out.1).cell 1
    have b2 := (H.out.2.2.1.below H8.out.1).cell 2
    have b3 := (H.out.2.2.1.below H8.out.1).cell 3
    have b4 := (H.out.2.2.1.below H8.out.1).cell 4
    have b5 := (H.out.2.2.1.below H8.out.1).cell 5
    simp only [TI.cells] at b0 b1 b2 b3 b4 b5
    have z0 := (H8.out.2.2).cell 0
    have z1 := (H8.out.2.2).cell 1
    have z2 := (H8.out.2.2).cell 2
    have z3 := (H8.out.2.2).cell 3
    have z4 := (H8.out.2.2).cell 4
    have z5 := (H8.out.2.2).cell 5
    have hne : ((kl : Int) != (n : Int) + (m : Int) - 2 * (al : Int)) = false := by
      rw [show (n : Int) + (m : Int) - 2 * (al : Int) = (kl : Int) by omega]
      simp
    go_wp2_with fail
    refine (HC.out.2.2.2.2.2.2.2.2 A6 c6 vs H3.out.2.2.2.2.2.2.2.2.2 (keys_like H3.out.2.2.2.2.2.2.2.1) w8 H8.out.1 (by omega) H8.out.2.1).mono ?_
    rintro e w9 ⟨rfl, hb9⟩
    have H9 := Ytobdfocfkomagaa.base.Shut.mk (chain H8.out.1 hb9)
    clear hb9
    go_wp2_with fail
    refine (lives_walk w9).mono ?_
    rintro e w10 ⟨rfl, hb10⟩
    go_wp2
    go_ret
    exact ⟨rfl, chain H.out.1 (chain H9.out hb10)⟩
  · obtain ⟨code, hcode, hd⟩ : ∃ code : Int, (code = 24 ∨ code = 2) ∧ diffO ⟨tn, ti, to_, tp, ta⟩ ⟨un, ui, uo, up, ua⟩ rs ss = ([], code) := by
      rw [HO.out]
      cases fr
      · exact ⟨2, .inr rfl, rfl⟩
      · exact ⟨24, .inl rfl, by rw [if_pos rfl, if_pos (by simp at hok; omega)]⟩
    rw [hd] at hw3
    obtain ⟨hb3, A3, c3, he, -⟩ := hw3
    obtain rfl : e = .returned (.tuple #[.slice A3 0 c3, .int .i64 code]) := he
    have H3 := Ytobdfocfkomagaa.base.Shut.mk (chain H2.out.2 hb3)
    clear hb3 hd
    rcases hcode with rfl | rfl
    all_goals go_wp2_with fail
    all_goals refine (lives_walk w3).mono ?_
    all_goals rintro e w4 ⟨rfl, hb4⟩
    all_goals go_wp2
    all_goals go_ret
    all_goals exact ⟨rfl, chain H.out.1 (chain H3.out hb4)⟩
theorem back_law (t : TI) (A : Option Addr) (c : Nat) (rs : List RI) (u : TI) (B : Option Addr) (d : Nat) (ss : List RI) (W : World) (h0 : OpenT W t A c rs) (h1 : OpenT W u B d ss) :
    Calls Try.prog 9 #[.agg (t.cells (.slice A rs.length c)), .agg (u.cells (.slice B ss.length d))] W fun e w' => e = .returned (.bool true) ∧ Below W.heap.size W w' :=
  back_walk t u A _ c rs B _ d ss rfl rfl (Nat.le_trans h0.2.2.1 h0.2.2.2.1) (Nat.le_trans h1.2.2.1 h1.2.2.2.1) W ⟨h0.1, h0.2.1, h0.2.2.1, h0.2.2.2.2.1, h0.2.2.2.2.2⟩ ⟨h1.1, h1.2.1, h1.2.2.1, h1.2.2.2.2.1, h1.2.2.2.2.2⟩
end Go.Proofs.Ytobdfocfkomagaa.rev
