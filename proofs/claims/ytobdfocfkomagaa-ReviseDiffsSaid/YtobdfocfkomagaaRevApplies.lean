/- The walk of ReviseApplies. -/
import Derived.Test.YtobdfocfkomagaaRevAppliesU
namespace Go.Proofs.Ytobdfocfkomagaa.rev
open Go.ChangeShapes Go.WideShapes Go.ChangeAt Go.RowKit
open Ytobdfocfkomagaa.base (size_mk chain newer drewn same ba_ext)
open Ytobdfocfkomagaa.row2 (Row CReads own_keep)

attribute [local go_sem] si_one si_cells run_store_si fi_one fi_cells run_store_fi
/-- what the law holds when it has read its arguments -/
structure Args (w : World) (t : TI) (A : Option Addr) (c : Nat) (rs : List RI) (B : Option Addr) (d : Nat) (cs : List CI) : Prop where
  t : TOk w t
  r : RL w A rs
  rc : rs.length ≤ c
  rn : A = none → rs.length = 0 ∧ c = 0
  rs' : ∀ a, A = some a → a.spot = none
  c : CL w B cs
  cn : B = none → cs.length = 0 ∧ d = 0
theorem Args.keep {w w' : World} {t : TI} {A : Option Addr} {c : Nat} {rs : List RI} {B : Option Addr} {d : Nat} {cs : List CI} (h : Args w t A c rs B d cs) (hb : Below w.heap.size w w') : Args w' t A c rs B d cs :=
  ⟨h.t.keep hb, h.r.keep hb, h.rc, h.rn, h.rs', h.c.keep hb, h.cn⟩
theorem Args.v {w : World} {t : TI} {A : Option Addr} {c : Nat} {rs : List RI} {B : Option Addr} {d : Nat} {cs : List CI} (h : Args w t A c rs B d cs) (hl : rs.length ≤ 100) : RV w A c rs := ⟨h.r, h.rc, h.rn, h.rs', hl⟩
set_option maxRecDepth 100000 in
set_option maxHeartbeats 3200000 in
theorem applies_walk (t : TI) (A : Option Addr) (n c : Nat) (rs : List RI) (B : Option Addr) (m d : Nat) (cs : List CI) (hn : rs.length = n) (hm : cs.length = m) (hn2 : n ≤ maxLen) (hm2 : m ≤ maxLen) (w : World) (ha : Args w t A c rs B d cs) :
    Calls Try.prog 3 #[.agg (t.cells (.slice A n c)), .slice B m d] w fun e w' => e = .returned (.bool true) ∧ Below w.heap.size w w' := by
  have hb := newer (same w) (.cells (t.cells (.slice A n c)) 27)
  have hx := Row.new w (t.cells (.slice A n c)) 27
  obtain ⟨q, hq⟩ : ∃ q, w.heap.size = q := ⟨_, rfl⟩
  obtain ⟨V, hV⟩ : ∃ V, w.alloc (.cells (t.cells (.slice A n c)) 27) = V := ⟨_, rfl⟩
  rw [hV] at hb hx
  rw [hq] at hx
  have hsm := small_walk t A n c rs hn hn2 V (ha.t.keep hb) (ha.r.keep hb)
  have haV := ha.keep hb
  have hap := fun (u : World) (hu : Below V.heap.size V u) (h1 : n ≤ 100) (h2 : m ≤ 100) => applyU t A n c rs B m d cs hn h1 (by rw [← hn]; exact ha.rn) hm h2 u (haV.keep hu).r (haV.keep hu).c
  have hrap := fun (u : World) (hu : Below V.heap.size V u) (h1 : n ≤ 100) (h2 : m ≤ 100) => rapplyU t A n c rs B m d cs hn hm h2 u ((haV.keep hu).v (by omega)) (haV.keep hu).c
  have hun := fun (u : World) (hu : Below V.heap.size V u) (h1 : n ≤ 100) (h2 : m ≤ 100) => undoU t A n c rs B m d cs hn h1 (by rw [← hn]; exact ha.rn) hm h2 (by rw [← hm]; exact ha.cn) u (haV.keep hu).r (haV.keep hu).c
  have hrun := fun (u : World) (hu : Below V.heap.size V u) (h1 : n ≤ 100) (h2 : m ≤ 100) => rundoU t A n c rs B m d cs hn hm h2 u ((haV.keep hu).v (by omega)) (haV.keep hu).c
  have hto : TOk V (outA t (applyR rs cs)).1 := outA_ok haV.t _
  have hul : (outU cs (applyR rs cs)).1.length ≤ m := by
    cases applyR rs cs with
    | none => exact Nat.zero_le _
    | some x => show (undoC cs).length ≤ m; rw [undoC_len, hm]; exact Nat.le_refl _
  generalize outA t (applyR rs cs) = po at hap hrap hto
  generalize outU cs (applyR rs cs) = pu at hun hrun hul
  obtain ⟨tr, rr, code⟩ := po
  obtain ⟨uu, ucode⟩ := pu
  simp only at hto hul
  have H := Ytobdfocfkomagaa.base.Shut.mk (And.intro hsm (And.intro hb (And.intro haV (And.intro hx (And.intro hn hm)))))
  have HC := Ytobdfocfkomagaa.base.Shut.mk (And.intro hap (And.intro hrap (And.intro hun (And.intro hrun (And.intro hto hul)))))
  clear hap hrap hun hrun hto
  obtain ⟨tn, ti, to_, tp, ta⟩ := t
  obtain ⟨rn, ri, ro_, rp, ra⟩ := tr
  have t0 := (hx).cell 0
  have t1 := (hx).cell 1
  have t2 := (hx).cell 2
  have t3 := (hx).cell 3
  have t4 := (hx).cell 4
  have t5 := (hx).cell 5
  simp only [TI.cells] at t0 t1 t2 t3 t4 t5
  clear hsm hb hx ha haV hn hm
  simp only [TI.cells] at hV
  show Calls Try.prog 3 #[.agg #[.string tn, ti.v, to_.v, .int .i64 tp, .int .i64 ta, .slice A n c], .slice B m d] w _
  go_enter Try.func3, Try.ntmps3
  go_wp2_with fail
  refine H.out.1.mono ?_
  rintro e w1 ⟨⟨v1, rfl, hv1⟩, hb1⟩
  have H1 := Ytobdfocfkomagaa.base.Shut.mk (And.intro hv1 hb1)
  clear hb1 hv1
  cases v1
  · go_wp2_with fail
    refine (lives_walk w1).mono ?_
    rintro e w2 ⟨rfl, hb2⟩
    go_wp2
    go_ret
    exact ⟨rfl, chain H.out.2.1 (chain H1.out.2 hb2)⟩
  have hn26 := H1.out.1 rfl
  go_wp2_with fail
  refine (cfew_walk B m d cs H.out.2.2.2.2.2 hm2 w1 (H.out.2.2.1.keep H1.out.2).c).mono ?_
  rintro e w2 ⟨⟨v2, rfl, hv2⟩, hb2⟩
  have H2 := Ytobdfocfkomagaa.base.Shut.mk (And.intro hv2 (chain H1.out.2 hb2))
  clear hb2 hv2
  cases v2
  · go_wp2_with fail
    refine (lives_walk w2).mono ?_
    rintro e w3 ⟨rfl, hb3⟩
    go_wp2
    go_ret
    exact ⟨rfl, chain H.out.2.1 (chain H2.out.2 hb3)⟩
  have hm60 := H2.out.1 rfl
  have u0 := (H.out.2.2.2.1.below H2.out.2).cell 0
  have u1 := (H.out.2.2.2.1.below H2.out.2).cell 1
  have u2 := (H.out.2.2.2.1.below H2.out.2).cell 2
  have u3 := (H.out.2.2.2.1.below H2.out.2).cell 3
  have u4 := (H.out.2.2.2.1.below H2.out.2).cell 4
  have u5 := (H.out.2.2.2.1.below H2.out.2).cell 5
  simp only [TI.cells] at u0 u1 u2 u3 u4 u5
  go_wp2_with fail
  refine (HC.out.1 w2 H2.out.2 (by omega) (by omega)).mono ?_
  rintro e w3 ⟨hb3, A3, c3, rfl, hr3, hn3, hl3⟩
  have H3 := Ytobdfocfkomagaa.base.Shut.mk (And.intro (chain H2.out.2 hb3) (And.intro hr3 hl3))
  clear hb3 hr3 hn3 hl3
  obtain ⟨q3, hq3⟩ : ∃ q3, w3.heap.size = q3 := ⟨_, rfl⟩
  obtain ⟨W3, hW3⟩ : ∃ W3, w3.alloc (.cells #[.string rn, ri.v, ro_.v, .int .i64 rp, .int .i64 ra, .slice A3 rr.length c3] 27) = W3 := ⟨_, rfl⟩
  have hx3 := Row.new w3 #[.string rn, ri.v, ro_.v, .int .i64 rp, .int .i64 ra, .slice A3 rr.length c3] 27
  have hb3 := newer (same w3) (.cells #[.string rn, ri.v, ro_.v, .int .i64 rp, .int .i64 ra, .slice A3 rr.length c3] 27)
  rw [hW3] at hx3 hb3
  rw [hq3] at hx3
  have H4 := Ytobdfocfkomagaa.base.Shut.mk (And.intro (chain H3.out.1 hb3) (And.intro (H3.out.2.1.keep hb3) hx3))
  clear hx3 hb3
  have x0 := (H.out.2.2.2.1.below H4.out.1).cell 0
  have x1 := (H.out.2.2.2.1.below H4.out.1).cell 1
  have x2 := (H.out.2.2.2.1.below H4.out.1).cell 2
  have x3 := (H.out.2.2.2.1.below H4.out.1).cell 3
  have x4 := (H.out.2.2.2.1.below H4.out.1).cell 4
  have x5 := (H.out.2.2.2.1.below H4.out.1).cell 5
  simp only [TI.cells] at x0 x1 x2 x3 x4 x5
  simp only [TI.cells]
  go_wp2_with fail
  clear hW3
  refine (HC.out.2.1 W3 H4.out.1 (by omega) (by omega)).mono ?_
  rintro e w5 ⟨hb5, A5, c5, rfl, hr5, hn5, hl5⟩
  have H5 := Ytobdfocfkomagaa.base.Shut.mk (And.intro (chain H4.out.1 hb5) (And.intro hr5 (And.intro (H4.out.2.1.keep hb5) (H4.out.2.2.below hb5))))
  clear hb5 hr5 hn5 hl5
  obtain ⟨q5, hq5⟩ : ∃ q5, w5.heap.size = q5 := ⟨_, rfl⟩
  obtain ⟨W5, hW5⟩ : ∃ W5, w5.alloc (.cells #[.string rn, ri.v, ro_.v, .int .i64 rp, .int .i64 ra, .slice A5 rr.length c5] 27) = W5 := ⟨_, rfl⟩
  have hx5 := Row.new w5 #[.string rn, ri.v, ro_.v, .int .i64 rp, .int .i64 ra, .slice A5 rr.length c5] 27
  have hb5 := newer (same w5) (.cells #[.string rn, ri.v, ro_.v, .int .i64 rp, .int .i64 ra, .slice A5 rr.length c5] 27)
  rw [hW5] at hx5 hb5
  rw [hq5] at hx5
  have H6 := Ytobdfocfkomagaa.base.Shut.mk (And.intro (chain H5.out.1 hb5) (And.intro (H5.out.2.1.keep hb5) (And.intro hx5 (And.intro (H5.out.2.2.1.keep hb5) (H5.out.2.2.2.below hb5)))))
  clear hx5 hb5
  have y0 := (H.out.2.2.2.1.below H6.out.1).cell 0
  have y1 := (H.out.2.2.2.1.below H6.out.1).cell 1
  have y2 := (H.out.2.2.2.1.below H6.out.1).cell 2
  have y3 := (H.out.2.2.2.1.below H6.out.1).cell 3
  have y4 := (H.out.2.2.2.1.below H6.out.1).cell 4
  have y5 := (H.out.2.2.2.1.below H6.out.1).cell 5
  simp only [TI.cells] at y0 y1 y2 y3 y4 y5
  simp only [TI.cells]
  go_wp2_with fail
  clear hW5
  refine (HC.out.2.2.1 W5 H6.out.1 (by omega) (by omega)).mono ?_
  rintro e w7 ⟨hb7, A7, c7, rfl, hc7⟩
  have H7 := Ytobdfocfkomagaa.base.Shut.mk (And.intro hb7 hc7)
  clear hb7 hc7
  have z0 := (H.out.2.2.2.1.below (chain H6.out.1 H7.out.1)).cell 0
  have z1 := (H.out.2.2.2.1.below (chain H6.out.1 H7.out.1)).cell 1
  have z2 := (H.out.2.2.2.1.below (chain H6.out.1 H7.out.1)).cell 2
  have z3 := (H.out.2.2.2.1.below (chain H6.out.1 H7.out.1)).cell 3
  have z4 := (H.out.2.2.2.1.below (chain H6.out.1 H7.out.1)).cell 4
  have z5 := (H.out.2.2.2.1.below (chain H6.out.1 H7.out.1)).cell 5
  simp only [TI.cells] at z0 z1 z2 z3 z4 z5
  go_wp2_with fail
  refine (HC.out.2.2.2.1 w7 (chain H6.out.1 H7.out.1) (by omega) (by omega)).mono ?_
  rintro e w8 ⟨hb8, A8, c8, rfl, hc8⟩
  have hb9 := chain H7.out.1 hb8
  have H8 := Ytobdfocfkomagaa.base.Shut.mk (And.intro hb9 (And.intro hc8 (H7.out.2.keep hb8)))
  have hsame := tsame_walk ⟨rn, ri, ro_, rp, ra⟩ ⟨rn, ri, ro_, rp, ra⟩ A3 A5 rr.length c3 c5 rr rr rfl (by have := H3.out.2.2; simpa using this) (likeR_refl rr) w8 (HC.out.2.2.2.2.1.keep (chain H6.out.1 hb9)) (HC.out.2.2.2.2.1.keep (chain H6.out.1 hb9)) (H6.out.2.2.2.1.keep hb9) (H6.out.2.1.keep hb9)
  rw [sameFr_refl] at hsame
  have HS := Ytobdfocfkomagaa.base.Shut.mk hsame
  clear hb8 hc8 hb9 hsame
  have a0 := (H6.out.2.2.2.2.below H8.out.1).cell 0
  have a1 := (H6.out.2.2.2.2.below H8.out.1).cell 1
  have a2 := (H6.out.2.2.2.2.below H8.out.1).cell 2
  have a3 := (H6.out.2.2.2.2.below H8.out.1).cell 3
  have a4 := (H6.out.2.2.2.2.below H8.out.1).cell 4
  have a5 := (H6.out.2.2.2.2.below H8.out.1).cell 5
  have b0 := (H6.out.2.2.1.below H8.out.1).cell 0
  have b1 := (H6.out.2.2.1.below H8.out.1).cell 1
  have b2 := (H6.out.2.2.1.below H8.out.1).cell 2
  have b3 := (H6.out.2.2.1.below H8.out.1).cell 3
  have b4 := (H6.out.2.2.1.below H8.out.1).cell 4
  have b5 := (H6.out.2.2.1.below H8.out.1).cell 5
  go_wp2_with fail
  refine HS.out.mono ?_
  rintro e w9 ⟨rfl, hb9⟩
  have hrs := rsameC_walk A7 A8 uu.length c7 c8 uu uu rfl rfl (by omega) w9 (H8.out.2.2.keep hb9) (H8.out.2.1.keep hb9) (fun i x y hx hy => by rw [hx] at hy; cases hy; exact likeC.refl x)
  have H9 := Ytobdfocfkomagaa.base.Shut.mk (And.intro hrs (chain H6.out.1 (chain H8.out.1 hb9)))
  clear hb9 hrs
  go_wp2_with fail
  refine H9.out.1.mono ?_
  rintro e w10 ⟨rfl, hb10⟩
  have H10 := Ytobdfocfkomagaa.base.Shut.mk (chain H9.out.2 hb10)
  clear hb10
  go_wp2_with fail
  refine (lives_walk w10).mono ?_
  rintro e w11 ⟨rfl, hb11⟩
  have H11 := Ytobdfocfkomagaa.base.Shut.mk (chain H10.out hb11)
  clear hb11
  go_wp2
  go_ret
  exact ⟨rfl, chain H.out.2.1 H11.out⟩
/-- what an opened table gives -/
abbrev OpenT (W : World) (t : TI) (A : Option Addr) (c : Nat) (rs : List RI) : Prop := TOk W t ∧ RL W A rs ∧ rs.length ≤ c ∧ c ≤ maxLen ∧ (A = none → rs.length = 0 ∧ c = 0) ∧ ∀ a, A = some a → a.spot = none
/-- what opened changes give -/
abbrev OpenC (W : World) (A : Option Addr) (c : Nat) (l : List CI) : Prop := CL W A l ∧ l.length ≤ c ∧ c ≤ maxLen ∧ (A = none → l.length = 0 ∧ c = 0)
theorem applies_law (t : TI) (A : Option Addr) (c : Nat) (rs : List RI) (B : Option Addr) (d : Nat) (cs : List CI) (W : World) (h0 : OpenT W t A c rs) (h1 : OpenC W B d cs) :
    Calls Try.prog 3 #[.agg (t.cells (.slice A rs.length c)), .slice B cs.length d] W fun e w' => e = .returned (.bool true) ∧ Below W.heap.size W w' :=
  applies_walk t A _ c rs B _ d cs rfl rfl (Nat.le_trans h0.2.2.1 h0.2.2.2.1) (Nat.le_trans h1.2.1 h1.2.2.1) W ⟨h0.1, h0.2.1, h0.2.2.1, h0.2.2.2.2.1, h0.2.2.2.2.2, h1.1, h1.2.2.2⟩
end Go.Proofs.Ytobdfocfkomagaa.rev
