/- The walk of the reference's Diff. -/
import Derived.Test.YtobdfocfkomagaaRevRAlike
import Derived.Test.YtobdfocfkomagaaRevRFramed
import Derived.Test.YtobdfocfkomagaaRevDiff
namespace Go.Proofs.Ytobdfocfkomagaa.rev
open Go.ChangeShapes Go.WideShapes Go.ChangeAt Go.RowKit
open Ytobdfocfkomagaa.base (size_mk chain newer drewn same ba_ext)
open Ytobdfocfkomagaa.row2 (Row CReads own_keep)

attribute [local go_sem] si_one si_cells run_store_si fi_one fi_cells run_store_fi
attribute [local go_sem ↓] df_shut
def shutSL (t : TypeId) (v : Value) (a b c : Option Value) : Sem Value := Instr.slice t v a b c
theorem sl_shut (t : TypeId) (v : Value) (a b c : Option Value) : Instr.slice t v a b c = shutSL t v a b c := rfl
theorem rule_info : ∃ i, Try.prog.info? 77 = some i ∧ i.size = 2 := by
  have h : (Try.prog.info? 77).map (·.size) = some 2 := by kernel_rfl
  obtain ⟨i, hi, hz⟩ := Option.map_eq_some_iff.1 h
  exact ⟨i, hi, hz⟩
theorem pf_val (rs ss : List RI) : Pf rs ss rs.length ss.length = lcsR rs ss := by rw [Pf_end, lcsR_rev]
def lenV : Value → Nat
  | .slice _ n _ => n
  | _ => 0
/-- the rules behind the first one -/
theorem slice_tail {w : World} {A : Option Addr} {c : Nat} {x : RI} {s : List RI} (h : RL w A (x :: s)) (hc : s.length + 1 ≤ c) :
    ∃ A', (∀ u, (shutSL 25 (.slice A (s.length + 1) c) (some (.int .i64 1)) none none).run Try.prog u = .ok (.slice A' s.length (c - 1)) u) ∧ RL w A' s ∧ s.length ≤ c - 1 := by
  obtain ⟨b, off, rfl, hlt, hcell⟩ := h.cells (by simp [cellsR, cellR])
  obtain ⟨i, hi, hs⟩ := rule_info
  refine ⟨if c = 1 then some ⟨b, off, none⟩ else some ⟨b, off + 2, none⟩, fun u => ?_, ⟨?_, fun r hr => h.ok r (List.mem_cons_of_mem _ hr)⟩, by omega⟩
  · unfold shutSL
    have hu := Try.underlying25
    have hsb : (Instr.sliceBound (.int .i64 1) (s.length + 1) BoundsCode.sliceB).run Try.prog u = .ok 1 u := run_sliceBound _ .i64 1 (s.length + 1) _ (by decide) (by omega)
    simp [Instr.slice, run_underlying hu, Instr.sliceBounds, hsb, sizeOf, typeInfo, hi, hs]
    split <;> simp_all [Addr.add]
  · intro hne
    have hs1 : 0 < s.length := by
      rcases s with _ | ⟨y, s⟩
      · exact absurd rfl hne
      · simp
    rw [if_neg (by omega)]
    refine ⟨b, off + 2, rfl, hlt, fun j v hj => ?_⟩
    rw [Nat.add_assoc]
    exact hcell (2 + j) v (by
      have e : cellsR (x :: s) = x.x.v :: x.y.v :: cellsR s := rfl
      rw [e, show 2 + j = j + 1 + 1 by omega]
      exact hj)
theorem head_cells {w : World} {A : Option Addr} {x : RI} {s : List RI} (h : RL w A (x :: s)) : ∃ b off, A = some ⟨b, off, none⟩ ∧ w.cell? ⟨b, off, none⟩ = some x.x.v ∧ w.cell? ⟨b, off + 1, none⟩ = some x.y.v ∧ ROk w x := by
  obtain ⟨b, off, hA, _, h0, h1, hok⟩ := h.at_ (i := 0) (r := x) rfl
  rw [Nat.zero_mul, Nat.add_zero] at h0 h1
  exact ⟨b, off, hA, h0, h1, hok⟩
/-- the changes told so far, and the two rests -/
structure DiffG (W wr : World) (A : Option Addr) (c : Nat) (xs ys : List RI) (a : Nat) (out total : List CI) : Prop where
  own : wr.ownsRow W.heap.size 79 4 (.slice A out.length c) out.length (cellsC out)
  below : Below W.heap.size W wr
  rest : out ++ diffL xs ys a = total
  few : out.length + xs.length + ys.length ≤ 100
  at_ : a + ys.length ≤ 200
theorem DiffG.go {W wr w' : World} {A : Option Addr} {c a : Nat} {x y : RI} {s t : List RI} {out total : List CI} (h : DiffG W wr A c (x :: s) (y :: t) a out total) (hs : sameR x y = true) (hb : Below wr.heap.size wr w') : DiffG W w' A c s t (a + 1) out total := by
  have h1 := h.few
  have h2 := h.at_
  simp only [List.length_cons] at h1 h2
  refine ⟨own_keep h.own (fun g _ hg => hb.block g hg), chain h.below hb, ?_, by omega, by omega⟩
  have h3 := h.rest
  rw [diffL, if_pos hs] at h3
  exact h3
/-- one change more -/
theorem DiffG.more {W wr w1 : World} {A : Option Addr} {c a : Nat} {xs ys : List RI} {out total : List CI} (h : DiffG W wr A c xs ys a out total) (hb : Below wr.heap.size wr w1) (C : CI) (xs' ys' : List RI) (a' : Nat) (hl : 1 + xs'.length + ys'.length ≤ xs.length + ys.length) (ha : a' + ys'.length ≤ a + ys.length) (hd : diffL xs ys a = C :: diffL xs' ys' a')
    (ats : Array TypeId) (ty : TypeId) (hats : ats = #[28, 28]) (hty : ty = 28) :
    ∃ A4 c4 w4, (shutDF ats ty #[.slice A out.length c, .slice (some ⟨w1.heap.size, 0, none⟩) 1 1]).run Try.prog (w1.alloc (.cells #[.bool C.put, .int .i64 C.at_, C.r.x.v, C.r.y.v] 79)) = .ok (.slice A4 (out.length + 1) c4) w4 ∧ DiffG W w4 A4 c4 xs' ys' a' (out ++ [C]) total := by
  have hnw := chain hb (newer (same w1) (.cells #[.bool C.put, .int .i64 C.at_, C.r.x.v, C.r.y.v] 79))
  have hown1 := own_keep h.own (fun g _ hg => hnw.block g hg)
  have hone : CReads (w1.alloc (.cells #[.bool C.put, .int .i64 C.at_, C.r.x.v, C.r.y.v] 79)) (some ⟨w1.heap.size, 0, none⟩) (cellsC [C]) := fun _ => ⟨w1.heap.size, 0, rfl, by rw [World.size_alloc]; exact Nat.lt_succ_self _, fun j v hj => by
    have hr1 := Row.new w1 #[.bool C.put, .int .i64 C.at_, C.r.x.v, C.r.y.v] 79
    rw [Nat.zero_add]
    refine hr1.at_ ?_
    simpa [cellsC, CI.cells] using hj⟩
  have hsz : W.heap.size ≤ (w1.alloc (.cells #[.bool C.put, .int .i64 C.at_, C.r.x.v, C.r.y.v] 79)).heap.size := (chain h.below hnw).size
  have hf := h.few
  have hat := h.at_
  obtain ⟨A4, c4, w4, hrun, hown4, hgr⟩ := cloneChange.append_new (w1.alloc (.cells #[.bool C.put, .int .i64 C.at_, C.r.x.v, C.r.y.v] 79)) W.heap.size (some ⟨w1.heap.size, 0, none⟩) 1 1 (cellsC [C]) rfl (by decide) (cellsC_one _) hone (fun h => by cases h) (.slice A out.length c) out.length _ (by omega) hown1 hsz
  rw [← cellsC_app] at hown4
  have hB4 : Below W.heap.size W w4 := (chain h.below hnw).grown hgr hsz (fun g hg => (own_block hown1 g hg).1)
  subst hats hty
  refine ⟨A4, c4, w4, hrun, ⟨by rw [List.length_append]; exact hown4, hB4, by rw [List.append_assoc]; show out ++ (C :: diffL xs' ys' a') = _; rw [← hd]; exact h.rest, ?_, by omega⟩⟩
  rw [List.length_append]
  simp only [List.length_singleton]
  omega
attribute [local go_sem ↓] sl_shut
set_option maxRecDepth 100000 in
set_option maxHeartbeats 6400000 in
theorem rdiff_walk (t u : TI) (A B : Option Addr) (n c m d : Nat) (rs ss : List RI) (hn : rs.length = n) (hm : ss.length = m) (hn2 : n ≤ 100) (hm2 : m ≤ 100) (hnc : n ≤ c) (hmd : m ≤ d) (w : World) (ht : TOk w t) (hu : TOk w u) (hr : RL w A rs) (hs : RL w B ss) :
    Calls Try.prog 22 #[.agg (t.cells (.slice A n c)), .agg (u.cells (.slice B m d))] w (Diffed w (diffO t u rs ss)) := by
  have h1 := newer (same w) (.cells (t.cells (.slice A n c)) 27)
  have h2 := newer h1 (.cells (u.cells (.slice B m d)) 27)
  have rA := (Row.new w (t.cells (.slice A n c)) 27).below (newer (same (w.alloc (.cells (t.cells (.slice A n c)) 27))) (.cells (u.cells (.slice B m d)) 27))
  have rB := Row.new (w.alloc (.cells (t.cells (.slice A n c)) 27)) (u.cells (.slice B m d)) 27
  rw [World.size_alloc] at rB
  obtain ⟨V, hV⟩ : ∃ V, (w.alloc (.cells (t.cells (.slice A n c)) 27)).alloc (.cells (u.cells (.slice B m d)) 27) = V := ⟨_, rfl⟩
  rw [hV] at h2 rA rB
  have e1 := rframed_walk t u A B n c m d V (ht.keep h2) (hu.keep h2)
  obtain ⟨q, hq⟩ : ∃ q, w.heap.size = q := ⟨_, rfl⟩
  rw [hq] at rA rB
  have H := Ytobdfocfkomagaa.base.Shut.mk (And.intro e1 (And.intro h2 (And.intro (hr.keep h2) (And.intro (hs.keep h2) (And.intro hn (And.intro hm (And.intro rA rB)))))))
  have HO := Ytobdfocfkomagaa.base.Shut.mk (show diffO t u rs ss = if sameFr t u then if 24 < n ∨ 24 < m then ([], 24) else (diffL rs ss 0, 0) else ([], 2) by subst hn hm; rfl)
  generalize sameFr t u = fr at H HO
  obtain ⟨tn, ti, to_, tp, ta⟩ := t
  obtain ⟨un, ui, uo, up, ua⟩ := u
  have x0 := (rA).cell 0
  have x1 := (rA).cell 1
  have x2 := (rA).cell 2
  have x3 := (rA).cell 3
  have x4 := (rA).cell 4
  have x5 := (rA).cell 5
  simp only [TI.cells] at x0 x1 x2 x3 x4 x5
  have y0 := (rB).cell 0
  have y1 := (rB).cell 1
  have y2 := (rB).cell 2
  have y3 := (rB).cell 3
  have y4 := (rB).cell 4
  have y5 := (rB).cell 5
  simp only [TI.cells] at y0 y1 y2 y3 y4 y5
  clear h1 h2 rA rB e1 ht hu hr hs hn hm
  simp only [TI.cells] at hV
  simp only [TI.cells] at H
  show Calls Try.prog 22 #[.agg #[.string tn, ti.v, to_.v, .int .i64 tp, .int .i64 ta, .slice A n c], .agg #[.string un, ui.v, uo.v, .int .i64 up, .int .i64 ua, .slice B m d]] w _
  go_enter Try.func22, Try.ntmps22
  go_wp2_with fail
  refine H.out.1.mono ?_
  rintro e w1 ⟨rfl, hb1⟩
  have H1 := Ytobdfocfkomagaa.base.Shut.mk (chain H.out.2.1 hb1)
  have HR := Ytobdfocfkomagaa.base.Shut.mk (And.intro (H.out.2.2.1.keep hb1) (H.out.2.2.2.1.keep hb1))
  have z5 := (H.out.2.2.2.2.2.2.1.below hb1).cell 5
  have v5 := (H.out.2.2.2.2.2.2.2.below hb1).cell 5
  clear hb1
  cases fr
  · go_wp2
    refine bodyPost_ret (results_tmp2 rfl _ _ _) rfl ?_
    rw [HO.out]
    exact Diffed.err H1.out
  · rw [if_pos rfl] at HO
    by_cases hbn : 24 < n
    · have hbn' : (24 : Int) < n := by omega
      go_wp2
      refine bodyPost_ret (results_tmp2 rfl _ _ _) rfl ?_
      rw [HO.out, if_pos (.inl hbn)]
      exact Diffed.err H1.out
    · have hbn' : ¬ (24 : Int) < n := by omega
      by_cases hbm : 24 < m
      · have hbm' : (24 : Int) < m := by omega
        go_wp2
        refine bodyPost_ret (results_tmp2 rfl _ _ _) rfl ?_
        rw [HO.out, if_pos (.inr hbm)]
        exact Diffed.err H1.out
      · have hbm' : ¬ (24 : Int) < m := by omega
        rw [if_neg (by omega)] at HO
        go_wp2
        go_big_region
        go_wp2
        have hbW := drewn (same w1)
        have HG : Ytobdfocfkomagaa.base.Shut (DiffG w1.drew w1.drew none 0 rs ss 0 [] (diffL rs ss 0) ∧ RL w1.drew A rs ∧ RL w1.drew B ss ∧ Below w.heap.size w w1.drew) := ⟨⟨World.ownsRow_nil _ _ _ _, same _, rfl, by have := H.out.2.2.2.2.1; have := H.out.2.2.2.2.2.1; simp only [List.length_nil]; omega, by have := H.out.2.2.2.2.2.1; omega⟩, HR.out.1.keep hbW, HR.out.2.keep hbW, chain H1.out hbW⟩
        generalize w1.drew = W at HG ⊢
        go_loopw [6, 7, 8, 9] (fun l x y a wr => ∃ (A3 : Option Addr) (c3 : Nat) (out : List CI) (xs ys : List RI) (A1 : Option Addr) (p c1 : Nat) (B1 : Option Addr) (r d1 a' : Nat), l = .slice A3 out.length c3 ∧ x = .slice A1 p c1 ∧ y = .slice B1 r d1 ∧ a = .int .i64 (a' : Int) ∧ xs.length = p ∧ ys.length = r ∧ p ≤ c1 ∧ r ≤ d1 ∧ Ytobdfocfkomagaa.base.Shut (DiffG W wr A3 c3 xs ys a' out (diffL rs ss 0) ∧ RL W A1 xs ∧ RL W B1 ys)) (fun _ x y _ _ => lenV x + lenV y)
        case atStart => exact ⟨none, 0, [], rs, ss, A, n, c, B, m, d, 0, rfl, rfl, rfl, rfl, H.out.2.2.2.2.1, H.out.2.2.2.2.2.1, hnc, hmd, ⟨HG.out.1, HG.out.2.1, HG.out.2.2.1⟩⟩
        case round =>
          obtain ⟨A3, c3, out, xs, ys, A1, p, c1, B1, r, d1, a, rfl, rfl, rfl, rfl, hp, hr, hpc, hrd, HA⟩ := hrel
          have hbound := HA.out.1.few
          have hbound2 := HA.out.1.at_
          cases xs with
          | nil =>
            obtain rfl : p = 0 := hp.symm
            cases ys with
            | nil =>
              obtain rfl : r = 0 := hr.symm
              go_wp2
              refine bodyPost_ret (results_tmp2 rfl _ _ _) rfl ?_
              have hrest := HA.out.1.rest
              rw [diffL, List.append_nil] at hrest
              rw [HO.out]
              subst hrest
              exact ⟨chain HG.out.2.2.2 HA.out.1.below, A3, c3, rfl, own_weak HA.out.1.own HG.out.2.2.2.size⟩
            | cons y t =>
              obtain ⟨j, hj⟩ : ∃ j, t.length = j := ⟨_, rfl⟩
              obtain rfl : r = j + 1 := by rw [← hr, ← hj]; rfl
              obtain ⟨B7, hsl2, hrl8, hcap8⟩ := slice_tail (c := d1) HA.out.2.2 (by omega)
              rw [hj] at hsl2 hcap8
              obtain ⟨b', off', rfl, n0, n1, hok'⟩ := head_cells (HA.out.2.2.keep HA.out.1.below)
              have HT1 := Ytobdfocfkomagaa.base.Shut.mk (And.intro hrl8 hok')
              have hpos2 : (0 : Int) < (j : Int) + 1 := by omega
              have hne : (((j : Int) + 1) == 0) = false := by rw [beq_eq_false_iff_ne]; omega
              clear hrl8 hok'
              simp only [List.length_cons, List.length_nil] at hbound hbound2
              go_wp2
              go_big_region
              go_wp2
              go_big_region
              have hb6 := drewn (drewn (same wr))
              have hk6 : wr.drew.drew.cell? ⟨b', off', none⟩ = some y.x.v ∧ wr.drew.drew.cell? ⟨b', off' + 1, none⟩ = some y.y.v := ⟨n0, n1⟩
              generalize wr.drew.drew = w6 at hb6 hk6 ⊢
              obtain ⟨hc1, hc2⟩ := hk6
              obtain ⟨A4, c4, w4, hrun, hA4⟩ := HA.out.1.more hb6 ⟨true, (a : Nat), y⟩ [] t (a + 1) (by simp only [List.length_cons]; omega) (by simp only [List.length_cons]; omega) (by rw [diffL]) _ _ rfl rfl
              simp only at hrun
              have HA4 := Ytobdfocfkomagaa.base.Shut.mk (And.intro hA4 (And.intro HA.out.2.1 HT1.out.1))
              clear hA4
              go_wp2
              go_roundw
              case rel => exact ⟨A4, c4, _, [], t, A1, 0, c1, B7, j, d1 - 1, a + 1, by rw [List.length_append]; rfl, rfl, rfl, by go_num, rfl, hj, hpc, hcap8, HA4⟩
              case measure => simp [lenV]
          | cons x s =>
            cases ys with
            | nil =>
              obtain rfl : r = 0 := hr.symm
              obtain ⟨k, hk⟩ : ∃ k, s.length = k := ⟨_, rfl⟩
              obtain rfl : p = k + 1 := by rw [← hp, ← hk]; rfl
              obtain ⟨A7, hsl, hrl7, hcap7⟩ := slice_tail (c := c1) HA.out.2.1 (by omega)
              rw [hk] at hsl hcap7
              obtain ⟨b, off, rfl, m0, m1, hok⟩ := head_cells (HA.out.2.1.keep HA.out.1.below)
              have HS1 := Ytobdfocfkomagaa.base.Shut.mk (And.intro hrl7 hok)
              have hpos : (0 : Int) < (k : Int) + 1 := by omega
              clear hrl7 hok
              simp only [List.length_cons, List.length_nil] at hbound hbound2
              go_wp2
              go_big_region
              go_wp2
              go_big_region
              have hb6 := drewn (drewn (same wr))
              have hk6 : wr.drew.drew.cell? ⟨b, off, none⟩ = some x.x.v ∧ wr.drew.drew.cell? ⟨b, off + 1, none⟩ = some x.y.v := ⟨m0, m1⟩
              generalize wr.drew.drew = w6 at hb6 hk6 ⊢
              obtain ⟨hc1, hc2⟩ := hk6
              obtain ⟨A4, c4, w4, hrun, hA4⟩ := HA.out.1.more hb6 ⟨false, (a : Nat), x⟩ s [] a (by simp only [List.length_cons]; omega) (Nat.le_refl _) (by rw [diffL]) _ _ rfl rfl
              simp only at hrun
              have HA4 := Ytobdfocfkomagaa.base.Shut.mk (And.intro hA4 (And.intro HS1.out.1 HA.out.2.2))
              clear hA4
              go_wp2
              go_roundw
              case rel => exact ⟨A4, c4, _, s, [], A7, k, c1 - 1, B1, 0, d1, a, by rw [List.length_append]; rfl, rfl, rfl, rfl, hk, rfl, hcap7, hrd, HA4⟩
              case measure => simp [lenV]
            | cons y t =>
              obtain ⟨k, hk⟩ : ∃ k, s.length = k := ⟨_, rfl⟩
              obtain rfl : p = k + 1 := by rw [← hp, ← hk]; rfl
              obtain ⟨A7, hsl, hrl7, hcap7⟩ := slice_tail (c := c1) HA.out.2.1 (by omega)
              rw [hk] at hsl hcap7
              obtain ⟨b, off, rfl, m0, m1, hok⟩ := head_cells (HA.out.2.1.keep HA.out.1.below)
              have HS1 := Ytobdfocfkomagaa.base.Shut.mk (And.intro hrl7 hok)
              have hpos : (0 : Int) < (k : Int) + 1 := by omega
              clear hrl7 hok
              obtain ⟨j, hj⟩ : ∃ j, t.length = j := ⟨_, rfl⟩
              obtain rfl : r = j + 1 := by rw [← hr, ← hj]; rfl
              obtain ⟨B7, hsl2, hrl8, hcap8⟩ := slice_tail (c := d1) HA.out.2.2 (by omega)
              rw [hj] at hsl2 hcap8
              obtain ⟨b', off', rfl, n0, n1, hok'⟩ := head_cells (HA.out.2.2.keep HA.out.1.below)
              have HT1 := Ytobdfocfkomagaa.base.Shut.mk (And.intro hrl8 hok')
              have hpos2 : (0 : Int) < (j : Int) + 1 := by omega
              have hne : (((j : Int) + 1) == 0) = false := by rw [beq_eq_false_iff_ne]; omega
              clear hrl8 hok'
              have HL1 := Ytobdfocfkomagaa.base.Shut.mk (fun (V : World) (hV : Below wr.heap.size wr V) => (show Calls Try.prog 60 #[.slice A7 k (c1 - 1), .slice (some ⟨b', off', none⟩) (j + 1) d1] V fun e w' => e = .returned (.int .i64 (lcsR s (y :: t) : Int)) ∧ Below V.heap.size V w' from by
                have h := ralike_walk A7 (some ⟨b', off', none⟩) k (c1 - 1) (j + 1) d1 s (y :: t) hk (by rw [List.length_cons, hj]) (by simp only [List.length_cons] at hbound; omega) (by simp only [List.length_cons] at hbound; omega) V (HS1.out.1.keep (chain HA.out.1.below hV)) (HA.out.2.2.keep (chain HA.out.1.below hV))
                rw [show Pf s (y :: t) k (j + 1) = lcsR s (y :: t) from by rw [← pf_val, hk, List.length_cons, hj]] at h
                exact h))
              have HL2 := Ytobdfocfkomagaa.base.Shut.mk (fun (V : World) (hV : Below wr.heap.size wr V) => (show Calls Try.prog 60 #[.slice (some ⟨b, off, none⟩) (k + 1) c1, .slice B7 j (d1 - 1)] V fun e w' => e = .returned (.int .i64 (lcsR (x :: s) t : Int)) ∧ Below V.heap.size V w' from by
                have h := ralike_walk (some ⟨b, off, none⟩) B7 (k + 1) c1 j (d1 - 1) (x :: s) t (by rw [List.length_cons, hk]) hj (by simp only [List.length_cons] at hbound; omega) (by simp only [List.length_cons] at hbound; omega) V (HA.out.2.1.keep (chain HA.out.1.below hV)) (HT1.out.1.keep (chain HA.out.1.below hV))
                rw [show Pf (x :: s) t (k + 1) j = lcsR (x :: s) t from by rw [← pf_val, hj, List.length_cons, hk]] at h
                exact h))
              have HS : Ytobdfocfkomagaa.base.Shut (Calls Try.prog 55 #[.agg #[x.x.v, x.y.v], .agg #[y.x.v, y.y.v]] wr.drew fun e w' => e = .returned (.bool (sameR x y)) ∧ Below wr.drew.heap.size wr.drew w') := ⟨rsame_walk x y wr.drew (HS1.out.2.keep (drewn (same wr))) (HT1.out.2.keep (drewn (same wr)))⟩
              obtain ⟨sm, hsm⟩ : ∃ sm, sameR x y = sm := ⟨_, rfl⟩
              rw [hsm] at HS
              obtain ⟨y1, hy1⟩ : ∃ v, x.x.v = v := ⟨_, rfl⟩
              obtain ⟨y2, hy2⟩ : ∃ v, x.y.v = v := ⟨_, rfl⟩
              obtain ⟨y3, hy3⟩ : ∃ v, y.x.v = v := ⟨_, rfl⟩
              obtain ⟨y4, hy4⟩ : ∃ v, y.y.v = v := ⟨_, rfl⟩
              have HV := Ytobdfocfkomagaa.base.Shut.mk (And.intro hy1 (And.intro hy2 (And.intro hy3 (And.intro hy4 hsm))))
              rw [hy1] at m0 HS
              rw [hy2] at m1 HS
              rw [hy3] at n0 HS
              rw [hy4] at n1 HS
              clear hy1 hy2 hy3 hy4 hsm
              simp only [List.length_cons] at hbound hbound2
              have HK := Ytobdfocfkomagaa.base.Shut.mk (fun (V : World) (hb : Below wr.heap.size wr V) => (show V.cell? ⟨b, off, none⟩ = some y1 ∧ V.cell? ⟨b, off + 1, none⟩ = some y2 ∧ V.cell? ⟨b', off', none⟩ = some y3 ∧ V.cell? ⟨b', off' + 1, none⟩ = some y4 from
                ⟨(hb.cell (World.block_lt_of_cell? wr _ m0)).trans m0, (hb.cell (World.block_lt_of_cell? wr _ m1)).trans m1, (hb.cell (World.block_lt_of_cell? wr _ n0)).trans n0, (hb.cell (World.block_lt_of_cell? wr _ n1)).trans n1⟩))
              have hsum : (0 : Int) < (k : Int) + 1 + ((j : Int) + 1) := by omega
              go_wp2
              go_region_held3 (fun w' => w'.cell? ⟨b, off, none⟩ = some y1 ∧ w'.cell? ⟨b, off + 1, none⟩ = some y2 ∧ w'.cell? ⟨b', off', none⟩ = some y3 ∧ w'.cell? ⟨b', off' + 1, none⟩ = some y4)
                (first | assumption | (exact HK.out _ (drewn (same wr))))
                (first | (go_at_call 55; (with_reducible refine Calls.mono HS.out ?_); rintro e w5 ⟨rfl, hb5⟩; have H5 := Ytobdfocfkomagaa.base.Shut.mk (chain (drewn (same wr)) hb5); have hk5 := HK.out w5 H5.out; clear hb5))
              cases sm
              · by_cases hle : lcsR (x :: s) t ≤ lcsR s (y :: t)
                · have hle' : ((lcsR (x :: s) t : Nat) : Int) ≤ ((lcsR s (y :: t) : Nat) : Int) := by omega
                  have HLE := Ytobdfocfkomagaa.base.Shut.mk hle
                  clear hle
                  go_wp2
                  go_region_held3 (fun _ => True) (exact trivial)
                    (first
                      | (go_at_call 60; (with_reducible refine Calls.mono (HL1.out _ (drewn H5.out)) ?_); rintro e w6 ⟨rfl, hb6⟩; have H6 := Ytobdfocfkomagaa.base.Shut.mk (chain (drewn H5.out) hb6); clear hb6)
                      | (go_at_call 60; (with_reducible refine Calls.mono (HL2.out _ H6.out) ?_); rintro e w7 ⟨rfl, hb7⟩; have H7 := Ytobdfocfkomagaa.base.Shut.mk (chain H6.out hb7); clear hb7))
                  have hb6 := H7.out
                  obtain ⟨hc1, hc2, hc3, hc4⟩ := HK.out w7 H7.out
                  obtain ⟨A4, c4, w4, hrun, hA4⟩ := HA.out.1.more hb6 ⟨false, (a : Nat), x⟩ s (y :: t) a (by simp only [List.length_cons]; omega) (Nat.le_refl _) (by rw [diffL, if_neg (by rw [HV.out.2.2.2.2]; exact Bool.false_ne_true), if_pos HLE.out]) _ _ rfl rfl
                  simp only [HV.out.1, HV.out.2.1] at hrun
                  have HA4 := Ytobdfocfkomagaa.base.Shut.mk (And.intro hA4 (And.intro HS1.out.1 HA.out.2.2))
                  clear hA4
                  go_wp2
                  go_roundw
                  case rel => exact ⟨A4, c4, _, s, (y :: t), A7, k, c1 - 1, _, j + 1, d1, a, by rw [List.length_append]; rfl, rfl, rfl, rfl, hk, by rw [List.length_cons, hj], hcap7, hrd, HA4⟩
                  case measure => simp [lenV]
                · have hle' : ¬ ((lcsR (x :: s) t : Nat) : Int) ≤ ((lcsR s (y :: t) : Nat) : Int) := by omega
                  have HLE := Ytobdfocfkomagaa.base.Shut.mk hle
                  clear hle
                  go_wp2
                  go_region_held3 (fun _ => True) (exact trivial)
                    (first
                      | (go_at_call 60; (with_reducible refine Calls.mono (HL1.out _ (drewn H5.out)) ?_); rintro e w6 ⟨rfl, hb6⟩; have H6 := Ytobdfocfkomagaa.base.Shut.mk (chain (drewn H5.out) hb6); clear hb6)
                      | (go_at_call 60; (with_reducible refine Calls.mono (HL2.out _ H6.out) ?_); rintro e w7 ⟨rfl, hb7⟩; have H7 := Ytobdfocfkomagaa.base.Shut.mk (chain H6.out hb7); clear hb7))
                  have hb6 := H7.out
                  obtain ⟨hc1, hc2, hc3, hc4⟩ := HK.out w7 H7.out
                  obtain ⟨A4, c4, w4, hrun, hA4⟩ := HA.out.1.more hb6 ⟨true, (a : Nat), y⟩ (x :: s) t (a + 1) (by simp only [List.length_cons]; omega) (by simp only [List.length_cons]; omega) (by rw [diffL, if_neg (by rw [HV.out.2.2.2.2]; exact Bool.false_ne_true), if_neg HLE.out]) _ _ rfl rfl
                  simp only [HV.out.2.2.1, HV.out.2.2.2.1] at hrun
                  have HA4 := Ytobdfocfkomagaa.base.Shut.mk (And.intro hA4 (And.intro HA.out.2.1 HT1.out.1))
                  clear hA4
                  go_wp2
                  go_roundw
                  case rel => exact ⟨A4, c4, _, (x :: s), t, _, k + 1, c1, B7, j, d1 - 1, a + 1, by rw [List.length_append]; rfl, rfl, rfl, by go_num, by rw [List.length_cons, hk], hj, hpc, hcap8, HA4⟩
                  case measure => simp [lenV]
              · go_wp2
                go_big_region
                go_wp2
                go_roundw
                case rel => exact ⟨A3, c3, out, s, t, A7, k, c1 - 1, B7, j, d1 - 1, a + 1, rfl, rfl, rfl, by go_num, hk, hj, hcap7, hcap8, ⟨HA.out.1.go HV.out.2.2.2.2 (drewn H5.out), HS1.out.1, HT1.out.1⟩⟩
                case measure => simp [lenV]; omega
end Go.Proofs.Ytobdfocfkomagaa.rev
