/- The walk of LabelTurns. -/
import Derived.Test.YthkjodlddhdeiaaLabKeep
import Derived.BigRegion
namespace Go.Proofs.Ythkjodlddhdeiaa.label
open Go.ChangeShapes Go.WideShapes Go.ChangeAt Go.RowKit
open Ythkjodlddhdeiaa.base Ythkjodlddhdeiaa.disk

/-- how it stands between two tries -/
structure Turn (w w1 wr : World) (d : Nat) (k : Nat) (F : List UInt8) : Prop where
  inv : Inv k F
  st : St w wr d (keyD F)
  was : Row wr w1.heap.size (labelD (keyD F)).1.cells 81
  now : Row wr (w1.heap.size + 1) (labelD (keyD F)).1.cells 81
theorem Turn.drew {w w1 wr : World} {d k : Nat} {F : List UInt8} (h : Turn w w1 wr d k F) : Turn w w1 wr.drew d k F := ⟨h.inv, h.st.mono (drewn (same _)), h.was.below (drewn (same _)), h.now.below (drewn (same _))⟩
theorem label_new : (labelD (keyD (List.replicate (2 * 512) 0))).1 = Lb.zero := by
  have hl : (List.replicate (2 * 512) (0 : UInt8)).length = 2 * 512 := List.length_replicate
  have b0 : Blank (blk (List.replicate (2 * 512) (0 : UInt8)) 0) := ⟨blk_len hl (by decide), blk_zero _ _⟩
  have b1 : Blank (blk (List.replicate (2 * 512) (0 : UInt8)) 1) := ⟨blk_len hl (by decide), blk_zero _ _⟩
  rcases ways inv_new with ⟨e, _, _, _, _⟩ | ⟨M, hM, _, h0, _, _, _⟩ | ⟨M, hM, _, h1, _, _, _⟩
  · rw [e]
  · exact absurd h0 (blank_not hM b0)
  · exact absurd h1 (blank_not hM b1)
/-- what is read: its number is less than the next, and it is a label where there is no error -/
theorem label_ways {k : Int} {F : List UInt8} (h : Inv k F) (hk : 0 ≤ k) (hk2 : k ≤ 1000) (N : Int) (hN : (nextD (keyD F)).2.1 = N) : (labelD (keyD F) = (Lb.zero, 6)) ∨ (∃ M, labelD (keyD F) = (M, 0) ∧ 1 ≤ M.turn ∧ M.turn < N) := by
  have hm := most_bd h hk hk2
  obtain ⟨I', N', e, _, _, _, hh⟩ := next_bds h hk hk2
  have hNN : N' = N := by rw [← hN, e]
  subst hNN
  rcases ways h with ⟨e, _, _, _, _⟩ | ⟨M, hM, _, h0, e, _, _⟩ | ⟨M, hM, _, h1, e, _, _⟩
  · exact .inl e
  · have := (hh 0 (by decide)).1
    rw [h0, (labB_facts M hM).2.2.1] at this
    exact .inr ⟨M, e, ((right_iff M).1 hM).1, this⟩
  · have := (hh 1 (by decide)).1
    rw [h1, (labB_facts M hM).2.2.1] at this
    exact .inr ⟨M, e, ((right_iff M).1 hM).1, this⟩

theorem inv_up {k : Int} {F : List UInt8} (h : Inv k F) : Inv (k + 1) F := ⟨h.len, h.zero.mono (by omega), by
  rcases h.one with h | h | h
  · exact .inl h
  · exact .inr (.inl (h.mono (by omega)))
  · exact .inr (.inr ⟨h.1.mono (by omega), h.2.mono (by omega)⟩)⟩
theorem turn_torn {k : Int} {F : List UInt8} (h : Inv k F) (hk : 0 ≤ k) (hk2 : k ≤ 1000) {I N : Int} (hN : nextD (keyD F) = (I, N, 0)) (L : Lb) (hL : rightL L = true) (ht : L.turn = N) (fate : Int) :
    torn (blk F I.toNat) (labB L) fate = blk F I.toNat ∨ torn (blk F I.toNat) (labB L) fate = labB L ∨ Torn (k + 1) (torn (blk F I.toNat) (labB L) fate) := by
  obtain ⟨I', N', e, hI, _, hN2, hh⟩ := next_bds h hk hk2
  rw [hN] at e
  obtain ⟨e1, e2⟩ := Prod.mk.inj e
  obtain ⟨e3, _⟩ := Prod.mk.inj e2
  subst e1 e3
  have ha : Any k (blk F I.toNat) := by
    rcases hI with rfl | rfl
    · exact h.zero
    · rcases h.one with h | h | h
      · exact .inl h
      · exact .inr (.inl h)
      · exact .inr (.inr h.1)
  have hb := hh I.toNat (by omega)
  exact torn_any hk ha hL _ _ rfl (by rw [ht]; exact hb.1) (by rw [ht]; exact hb.2) (by omega) fate

set_option maxRecDepth 100000 in
set_option maxHeartbeats 4000000 in
theorem labelTurns_walk (a : Option Addr) (c : Nat) (L : List TryV) (hlen : L.length ≤ 9223372036854775807) (w : World) (hL : Trys w w (.slice a L.length c) L) :
    Calls Try.prog 14 #[.slice a L.length c] w fun e w' => e = .returned (.bool true) ∧ Below w.heap.size w w' := by
  by_cases hn : 15 < L.length
  · have hn' : (15 : Int) < L.length := by omega
    go_enter Try.func14, Try.ntmps14
    go_wp2_with fail
    refine (lives_walk _).mono ?_
    rintro e w1 ⟨rfl, hb1⟩
    have H1 := Ythkjodlddhdeiaa.base.Shut.mk hb1
    clear hb1
    go_wp2
    go_ret
    exact ⟨rfl, H1.out⟩
  · have hn' : ¬ (15 : Int) < L.length := by omega
    have HL := Ythkjodlddhdeiaa.base.Shut.mk hL
    clear hL
    generalize hm : L.length = m at *
    go_enter Try.func14, Try.ntmps14
    go_wp2_with fail
    refine (new_st 2 (by decide) (by decide) w _ (same w)).mono ?_
    rintro e w1 ⟨d, rfl, hs1, _⟩
    have HQ := Ythkjodlddhdeiaa.base.Shut.mk hs1.below.size
    have HS := Ythkjodlddhdeiaa.base.Shut.mk (hs1.mono (newer (newer (same w1) (.cells Lb.zero.cells 81)) (.cells Lb.zero.cells 81)))
    clear hs1
    go_wp2
    go_loopw [7] (fun i wr => ∃ k : Nat, k ≤ m ∧ i = .int .i64 k ∧ Ythkjodlddhdeiaa.base.Shut (∃ F, Turn w w1 wr d k F)) (fun i _ => m - (intOf i).toNat)
    case atStart =>
      refine ⟨0, Nat.zero_le _, rfl, ⟨List.replicate (2 * 512) 0, inv_new, HS.out, ?_, ?_⟩⟩
      · rw [label_new]; exact (Row.new w1 _ _).alloc _
      · rw [label_new]
        have h := Row.new (w1.alloc (.cells Lb.zero.cells 81)) Lb.zero.cells 81
        rwa [World.size_alloc] at h
    case round =>
      obtain ⟨k, hk, rfl, HW⟩ := hrel
      by_cases hlt : k < m
      · obtain ⟨F, hinv, hst, hwas, hnow⟩ := HW.out
        have hx : L[k]? = some (L[k]'(by omega)) := List.getElem?_eq_getElem (by omega)
        generalize L[k]'(by omega) = x at hx
        have hT := HL.out.later hst.below
        rcases hT with ⟨rfl, _⟩ | ⟨g, o, c2, hv, hc⟩
        · simp at hm; omega
        obtain rfl : a = some ⟨g, o, none⟩ := by cases hv; rfl
        obtain ⟨fv, q0, q1, q2, q3, q4, hf, ⟨hfu, hno⟩, fa, fc, hfv⟩ := hc k x hx
        obtain ⟨I, N, hN, hI, hN1, hN2, hNh⟩ := next_bds hinv (by omega) (by omega)
        obtain ⟨xt, xh, xf, xn, xs⟩ := x
        simp only at q0 q1 q2 q3 hf hfu hno hfv
        have HC := Ythkjodlddhdeiaa.base.Shut.mk (And.intro hinv (And.intro hst (And.intro hwas (And.intro hnow (And.intro hf (And.intro hc (And.intro hN (And.intro hI (And.intro hN1 hN2)))))))))
        clear hinv hst hwas hnow hf hc hN hI hN1 hN2 hNh hv HW q2 q4
        have hz := newer (same wr) (.cells #[.int .i64 0, .int .i64 0, .int .i64 0, .string ⟨#[]⟩] 81)
        have z0 := (hz.cell (p := ⟨g, o + k * 5, none⟩) (World.block_lt_of_cell? wr _ q0)).trans q0
        have z1 := (hz.cell (p := ⟨g, o + k * 5 + 1, none⟩) (World.block_lt_of_cell? wr _ q1)).trans q1
        have z3 := (hz.cell (p := ⟨g, o + k * 5 + 3, none⟩) (World.block_lt_of_cell? wr _ q3)).trans q3
        clear hz
        go_wp2
        go_big_region
        obtain ⟨hinv, hst, hwas, hnow, hf, hc, hN, hI, hN1, hN2⟩ := HC.out
        have hV : Below wr.heap.size wr (wr.alloc (.cells #[.int .i64 0, .int .i64 xt, .int .i64 xh, .string xn] 81)).drew := drewn (newer (same wr) _)
        have hX : Row (wr.alloc (.cells #[.int .i64 0, .int .i64 xt, .int .i64 xh, .string xn] 81)).drew wr.heap.size #[.int .i64 0, .int .i64 xt, .int .i64 xh, .string xn] 81 := (Row.new wr _ _).below (drewn (same _))
        have hnx := next_st (hst.mono hV) (Nat.le_refl 2)
        rw [hN] at hnx
        have HX := Ythkjodlddhdeiaa.base.Shut.mk (And.intro hnx (And.intro hV hX))
        clear hinv hst hwas hnow hf hc hN hI hN1 hN2 hV hX hnx z0 z1 z3 q0 q1 q3
        go_wp2_with fail
        refine HX.out.1.mono ?_
        rintro e w2 ⟨rfl, hb2⟩
        have hr2 := HX.out.2.2.below hb2
        have hB2 := chain HX.out.2.1 hb2
        have x0 : w2.cell? ⟨wr.heap.size, 0, none⟩ = some (.int .i64 0) := hr2.cell 0
        have x3 : w2.cell? ⟨wr.heap.size, 3, none⟩ = some (.string xn) := hr2.cell 3
        have f0 := hr2.frozen 0
        have H2 := Ythkjodlddhdeiaa.base.Shut.mk (And.intro hB2 hr2)
        have hno' : xn.size ≤ 2 ^ 63 - 1 := hno
        clear hb2 hr2 hB2 HX
        by_cases hbig : 1000 < xn.size
        · have hbig' : (1000 : Int) < xn.size := by omega
          go_wp2_with fail
          refine (lives_walk _).mono ?_
          rintro e w3 ⟨rfl, hb3⟩
          have H3 := Ythkjodlddhdeiaa.base.Shut.mk (chain (HC.out.2.1.mono H2.out.1).below hb3)
          clear hb3
          go_wp2
          go_ret
          exact ⟨rfl, H3.out⟩
        · have hbig' : ¬ (1000 : Int) < xn.size := by omega
          obtain ⟨hinv, hst, hwas, hnow, hf, hc, hN, hI, hN1, hN2⟩ := HC.out
          obtain ⟨V2, hV2⟩ : ∃ V2, w2.setCell ⟨wr.heap.size, 0, none⟩ (.int .i64 N) = V2 := ⟨_, rfl⟩
          have hl1 := hwas.lt
          have hl2 := hnow.lt
          have HSZ := Ythkjodlddhdeiaa.base.Shut.mk hl2
          have hx2 : Row V2 wr.heap.size (Lb.cells ⟨N, xt, xh, xn⟩) 81 := by rw [← hV2]; exact H2.out.2.set 0 _
          have hst2 : St w V2 d (keyD F) := by rw [← hV2]; exact st_own (hst.mono H2.out.1) H2.out.2 hst.below.size 0 _
          have hw2 : Row V2 w1.heap.size (labelD (keyD F)).1.cells 81 := by rw [← hV2]; exact (hwas.below H2.out.1).other _ _ _ (by omega)
          have hn2 : Row V2 (w1.heap.size + 1) (labelD (keyD F)).1.cells 81 := by rw [← hV2]; exact (hnow.below H2.out.1).other _ _ _ (by omega)
          have hby := bytes_walk ⟨N, xt, xh, xn⟩ hno V2
          have a0 : V2.cell? ⟨wr.heap.size, 0, none⟩ = some (.int .i64 N) := hx2.cell 0
          have a1 : V2.cell? ⟨wr.heap.size, 1, none⟩ = some (.int .i64 xt) := hx2.cell 1
          have a2 : V2.cell? ⟨wr.heap.size, 2, none⟩ = some (.int .i64 xh) := hx2.cell 2
          have a3 : V2.cell? ⟨wr.heap.size, 3, none⟩ = some (.string xn) := hx2.cell 3
          have HV := Ythkjodlddhdeiaa.base.Shut.mk (And.intro hby (And.intro hx2 (And.intro hst2 (And.intro hw2 hn2))))
          clear hinv hst hwas hnow hf hc hN hI hN1 hN2 hl1 hl2 hx2 hst2 hw2 hn2 hby
          go_wp2_with fail
          refine HV.out.1.mono ?_
          rintro e w3 ⟨rfl, hb3⟩
          have hst3 := HV.out.2.2.1.mono hb3
          obtain ⟨fv3, q0, q1, q2, q3, q4, hf3, _, fa3, fc3, hfv3⟩ := (HL.out.later hst3.below).elim (fun h => absurd h.1 (by intro e; rw [e] at hm; simp at hm; omega)) (fun h => by
            obtain ⟨g', o', c', hv, hc⟩ := h
            cases hv
            exact hc k _ hx)
          simp only at q2
          have harm := arm_keep hst3 xf hfu.2
          have H3 := Ythkjodlddhdeiaa.base.Shut.mk (And.intro harm (And.intro (HV.out.2.1.below hb3) (And.intro (HV.out.2.2.2.1.below hb3) (HV.out.2.2.2.2.below hb3))))
          clear hb3 hst3 q0 q1 q3 q4 hf3 hfv3 harm
          go_wp2_with fail
          refine H3.out.1.mono ?_
          rintro e w4 ⟨rfl, hs4, hk4⟩
          obtain ⟨hinv, hst, hwas, hnow, hf, hc, hN, hI, hN1, hN2⟩ := HC.out
          have hx4 := hk4 _ _ H3.out.2.1
          have hw4 := hk4 _ _ H3.out.2.2.1
          have hn4 := hk4 _ _ H3.out.2.2.2
          have hT := turn_disk hN hI xf ⟨N, xt, xh, xn⟩ xs hinv.len
          have hlw := label_ways hinv (by omega) (by omega) N (by rw [hN])
          have hnn : (armD (keyD F) xf).n = 2 := by unfold armD; split <;> rfl
          have hWW : (armD (keyD F) xf).W = [] := by unfold armD; split <;> rfl
          have hlw2 := labW_keep hs4 (by omega) ⟨N, xt, xh, xn⟩ hno (by rw [hWW]; decide)
          have hbe : bytesE ⟨N, xt, xh, xn⟩ = if rightL ⟨N, xt, xh, xn⟩ = true then 0 else 2 := rfl
          have haft := fun (hr : rightL ⟨N, xt, xh, xn⟩ = true) (Q : List UInt8) hQ => after hinv (by omega) (by omega) hN ⟨N, xt, xh, xn⟩ hr rfl Q hQ
          have htorn := fun (hr : rightL ⟨N, xt, xh, xn⟩ = true) (fate : Int) => turn_torn hinv (by omega) (by omega) hN ⟨N, xt, xh, xn⟩ hr rfl fate
          have hup := inv_up hinv
          generalize labD (armD (keyD F) xf) ⟨N, xt, xh, xn⟩ = D5 at hT hlw2
          generalize labE (armD (keyD F) xf) ⟨N, xt, xh, xn⟩ = E5 at hT hlw2
          generalize bytesE ⟨N, xt, xh, xn⟩ = be at hbe ⊢
          generalize rightL ⟨N, xt, xh, xn⟩ = r at hT hbe haft htorn
          have hcase : ∃ F', Inv ((k : Int) + 1) F' ∧ crashD D5 xs = keyD F' ∧ ((r = false ∧ E5 = 2 ∧ be = 2 ∧ labelD (keyD F') = labelD (keyD F)) ∨ (r = true ∧ E5 = 0 ∧ be = 0 ∧ labelD (keyD F') = (⟨N, xt, xh, xn⟩, 0)) ∨ (r = true ∧ E5 = 7 ∧ be = 0 ∧ labelD (keyD F') = labelD (keyD F)) ∨ (r = true ∧ E5 = 7 ∧ be = 0 ∧ labelD (keyD F') = (⟨N, xt, xh, xn⟩, 0))) := by
            cases r with
            | false =>
              obtain ⟨e1, e2⟩ := hT.2.1 rfl
              exact ⟨F, hup, e2, .inl ⟨rfl, e1, hbe, rfl⟩⟩
            | true =>
              obtain ⟨he, Q, hQ, hc, h0⟩ := hT.2.2 rfl
              have hQ' : Q = blk F I.toNat ∨ Q = labB ⟨N, xt, xh, xn⟩ ∨ Torn ((k : Int) + 1) Q := by
                rcases hQ with hQ | hQ | ⟨ft, hQ⟩
                · exact .inl hQ
                · exact .inr (.inl hQ)
                · rw [hQ]; exact htorn rfl ft
              obtain ⟨a1, a2, a3⟩ := haft rfl Q hQ'
              refine ⟨_, a1, hc, ?_⟩
              rcases he with he | he
              · exact .inr (.inl ⟨rfl, he, hbe, a3 (h0 he)⟩)
              · rcases a2 with a2 | a2
                · exact .inr (.inr (.inl ⟨rfl, he, hbe, a2⟩))
                · exact .inr (.inr (.inr ⟨rfl, he, hbe, a2⟩))
          have HK := Ythkjodlddhdeiaa.base.Shut.mk (And.intro hlw2 (And.intro hx4 (And.intro hw4 (And.intro hn4 hT.1))))
          have HX := Ythkjodlddhdeiaa.base.Shut.mk hcase
          generalize labelD (keyD F) = Y at hlw HK HX
          clear hT haft htorn hup hbe hcase hlw2 hnn hWW hinv hst hwas hnow hf hc hN hI hs4 hk4 hx4 hw4 hn4 H3 HC
          obtain ⟨F', hinv', hcr, hcs⟩ := HX.out
          clear HX
          rcases hcs with ⟨hr, rfl, rfl, hy⟩ | ⟨hr, rfl, rfl, hy⟩ | ⟨hr, rfl, rfl, hy⟩ | ⟨hr, rfl, rfl, hy⟩
          · rcases hlw with rfl | ⟨⟨yt, ya, yh, yn⟩, rfl, hyt, hyN⟩
            · have hN0 : ¬ N = 0 := by omega
              have hqq := HQ.out
              have hsz := HSZ.out
              have x0 : w4.cell? ⟨wr.heap.size, 0, none⟩ = some (.int .i64 N) := HK.out.2.1.cell 0
              have x1 : w4.cell? ⟨wr.heap.size, 1, none⟩ = some (.int .i64 xt) := HK.out.2.1.cell 1
              have x2 : w4.cell? ⟨wr.heap.size, 2, none⟩ = some (.int .i64 xh) := HK.out.2.1.cell 2
              have x3 : w4.cell? ⟨wr.heap.size, 3, none⟩ = some (.string xn) := HK.out.2.1.cell 3
              go_wp2_with fail
              refine HK.out.1.mono ?_
              rintro e w5 ⟨rfl, hs5, hk5⟩
              have hx5 := hk5 _ _ HK.out.2.1
              have hw5 := hk5 _ _ HK.out.2.2.1
              have hn5 := hk5 _ _ HK.out.2.2.2.1
              clear x0 x1 x2 x3
              have x0 : w5.cell? ⟨wr.heap.size, 0, none⟩ = some (.int .i64 N) := hx5.cell 0
              have x1 : w5.cell? ⟨wr.heap.size, 1, none⟩ = some (.int .i64 xt) := hx5.cell 1
              have x2 : w5.cell? ⟨wr.heap.size, 2, none⟩ = some (.int .i64 xh) := hx5.cell 2
              have x3 : w5.cell? ⟨wr.heap.size, 3, none⟩ = some (.string xn) := hx5.cell 3
              obtain ⟨fv5, q0, q1, q2, q3, q4, hf5, _, fa5, fc5, hfv5⟩ := (HL.out.later hs5.below).elim (fun h => absurd h.1 (by intro e; rw [e] at hm; simp at hm; omega)) (fun h => by
                obtain ⟨g', o', c', hv, hc⟩ := h
                cases hv
                exact hc k _ hx)
              simp only at q4 hfv5 hf5
              subst hfv5
              have hcrash := crash_keep hs5 (.slice fa5 xs.length fc5) xs ⟨hf5.1, fun g o n c hv hn => .inl (hf5.2.1 g o n c hv hn), hf5.2.2⟩ (by have := HK.out.2.2.2.2; omega)
              rw [hcr] at hcrash
              have H5 := Ythkjodlddhdeiaa.base.Shut.mk (And.intro hcrash (And.intro hw5 hn5))
              clear q0 q1 q2 q3 hf5 hcrash hcr hqq hsz hs5 hk5
              clear hx5 hw5 hn5
              go_wp2_with fail
              refine H5.out.1.mono ?_
              rintro e w6 ⟨rfl, hs6, hk6⟩
              have hw6 := hk6 _ _ H5.out.2.1
              have hn6 := hk6 _ _ H5.out.2.2
              have hread := label_st hs6 (Nat.le_refl 2)
              rw [hy] at hread
              have H6 := Ythkjodlddhdeiaa.base.Shut.mk (And.intro hread (And.intro hs6 (And.intro hw6 hn6)))
              clear hs6 hk6 hw6 hn6 hread q4
              clear x0 x1 x2 x3
              go_wp2_with fail
              refine H6.out.1.mono ?_
              rintro e w7 ⟨rfl, hb7⟩
              have HS7 := Ythkjodlddhdeiaa.base.Shut.mk (H6.out.2.2.2.below hb7).lt
              have hw7 := (H6.out.2.2.1.below hb7).alloc (.cells #[.int .i64 0, .int .i64 0, .int .i64 0, .string ⟨#[]⟩] 81)
              have hn7 := (H6.out.2.2.2.below hb7).alloc (.cells #[.int .i64 0, .int .i64 0, .int .i64 0, .string ⟨#[]⟩] 81)
              have hs7 := H6.out.2.1.mono (newer hb7 (.cells #[.int .i64 0, .int .i64 0, .int .i64 0, .string ⟨#[]⟩] 81))
              have hy7 := Row.new w7 #[.int .i64 0, .int .i64 0, .int .i64 0, .string ⟨#[]⟩] 81
              have e0 : (w7.alloc (.cells #[.int .i64 0, .int .i64 0, .int .i64 0, .string ⟨#[]⟩] 81)).cell? ⟨w1.heap.size, 0, none⟩ = some (.int .i64 0) := hw7.cell 0
              have e1 : (w7.alloc (.cells #[.int .i64 0, .int .i64 0, .int .i64 0, .string ⟨#[]⟩] 81)).cell? ⟨w1.heap.size, 1, none⟩ = some (.int .i64 0) := hw7.cell 1
              have e2 : (w7.alloc (.cells #[.int .i64 0, .int .i64 0, .int .i64 0, .string ⟨#[]⟩] 81)).cell? ⟨w1.heap.size, 2, none⟩ = some (.int .i64 0) := hw7.cell 2
              have e3 : (w7.alloc (.cells #[.int .i64 0, .int .i64 0, .int .i64 0, .string ⟨#[]⟩] 81)).cell? ⟨w1.heap.size, 3, none⟩ = some (.string ⟨#[]⟩) := hw7.cell 3
              have n0 : (w7.alloc (.cells #[.int .i64 0, .int .i64 0, .int .i64 0, .string ⟨#[]⟩] 81)).cell? ⟨w1.heap.size + 1, 0, none⟩ = some (.int .i64 0) := hn7.cell 0
              have n1 : (w7.alloc (.cells #[.int .i64 0, .int .i64 0, .int .i64 0, .string ⟨#[]⟩] 81)).cell? ⟨w1.heap.size + 1, 1, none⟩ = some (.int .i64 0) := hn7.cell 1
              have n2 : (w7.alloc (.cells #[.int .i64 0, .int .i64 0, .int .i64 0, .string ⟨#[]⟩] 81)).cell? ⟨w1.heap.size + 1, 2, none⟩ = some (.int .i64 0) := hn7.cell 2
              have n3 : (w7.alloc (.cells #[.int .i64 0, .int .i64 0, .int .i64 0, .string ⟨#[]⟩] 81)).cell? ⟨w1.heap.size + 1, 3, none⟩ = some (.string ⟨#[]⟩) := hn7.cell 3
              have H7 := Ythkjodlddhdeiaa.base.Shut.mk (And.intro hw7 (And.intro hn7 (And.intro hs7 hy7)))
              clear hb7 hw7 hn7 hs7 hy7
              go_wp2
              obtain ⟨hw7, hn7, hs7, hy7⟩ := H7.out
              have hqq := HQ.out
              have hsz := HSZ.out
              have hl8 := HS7.out
              clear H7 e0 e1 e2 e3 n0 n1 n2 n3
              have Cc0 : (w7.alloc (.cells #[.int .i64 0, .int .i64 0, .int .i64 0, .string ⟨#[]⟩] 81)).cell? ⟨w1.heap.size, 0, none⟩ = some (.int .i64 0) := hw7.cell 0
              have Cf0 := hw7.frozen 0
              obtain ⟨C1, hC1⟩ : ∃ V, (w7.alloc (.cells #[.int .i64 0, .int .i64 0, .int .i64 0, .string ⟨#[]⟩] 81)).setCell ⟨w1.heap.size, 0, none⟩ (.int .i64 0) = V := ⟨_, rfl⟩
              have rC1 : Row C1 (w1.heap.size) #[.int .i64 0, .int .i64 0, .int .i64 0, .string ⟨#[]⟩] 81 := by rw [← hC1]; exact hw7.set 0 _
              have sC1 : St w C1 d (keyD F') := by rw [← hC1]; exact st_own hs7 hw7 (by omega) 0 _
              have tC1_n := hn7.other (w1.heap.size) 0 (.int .i64 0) (by omega)
              rw [hC1] at tC1_n
              have tC1_y := hy7.other (w1.heap.size) 0 (.int .i64 0) (by omega)
              rw [hC1] at tC1_y
              have Cc1 : C1.cell? ⟨w1.heap.size, 1, none⟩ = some (.int .i64 0) := rC1.cell 1
              have Cf1 := rC1.frozen 1
              obtain ⟨C2, hC2⟩ : ∃ V, C1.setCell ⟨w1.heap.size, 1, none⟩ (.int .i64 0) = V := ⟨_, rfl⟩
              have rC2 : Row C2 (w1.heap.size) #[.int .i64 0, .int .i64 0, .int .i64 0, .string ⟨#[]⟩] 81 := by rw [← hC2]; exact rC1.set 1 _
              have sC2 : St w C2 d (keyD F') := by rw [← hC2]; exact st_own sC1 rC1 (by omega) 1 _
              have tC2_n := tC1_n.other (w1.heap.size) 1 (.int .i64 0) (by omega)
              rw [hC2] at tC2_n
              have tC2_y := tC1_y.other (w1.heap.size) 1 (.int .i64 0) (by omega)
              rw [hC2] at tC2_y
              have Cc2 : C2.cell? ⟨w1.heap.size, 2, none⟩ = some (.int .i64 0) := rC2.cell 2
              have Cf2 := rC2.frozen 2
              obtain ⟨C3, hC3⟩ : ∃ V, C2.setCell ⟨w1.heap.size, 2, none⟩ (.int .i64 0) = V := ⟨_, rfl⟩
              have rC3 : Row C3 (w1.heap.size) #[.int .i64 0, .int .i64 0, .int .i64 0, .string ⟨#[]⟩] 81 := by rw [← hC3]; exact rC2.set 2 _
              have sC3 : St w C3 d (keyD F') := by rw [← hC3]; exact st_own sC2 rC2 (by omega) 2 _
              have tC3_n := tC2_n.other (w1.heap.size) 2 (.int .i64 0) (by omega)
              rw [hC3] at tC3_n
              have tC3_y := tC2_y.other (w1.heap.size) 2 (.int .i64 0) (by omega)
              rw [hC3] at tC3_y
              have Cc3 : C3.cell? ⟨w1.heap.size, 3, none⟩ = some (.string ⟨#[]⟩) := rC3.cell 3
              have Cf3 := rC3.frozen 3
              obtain ⟨C4, hC4⟩ : ∃ V, C3.setCell ⟨w1.heap.size, 3, none⟩ (.string ⟨#[]⟩) = V := ⟨_, rfl⟩
              have rC4 : Row C4 (w1.heap.size) #[.int .i64 0, .int .i64 0, .int .i64 0, .string ⟨#[]⟩] 81 := by rw [← hC4]; exact rC3.set 3 _
              have sC4 : St w C4 d (keyD F') := by rw [← hC4]; exact st_own sC3 rC3 (by omega) 3 _
              have tC4_n := tC3_n.other (w1.heap.size) 3 (.string ⟨#[]⟩) (by omega)
              rw [hC4] at tC4_n
              have tC4_y := tC3_y.other (w1.heap.size) 3 (.string ⟨#[]⟩) (by omega)
              rw [hC4] at tC4_y
              have y0 : C4.cell? ⟨w7.heap.size, 0, none⟩ = some (.int .i64 0) := tC4_y.cell 0
              have y1 : C4.cell? ⟨w7.heap.size, 1, none⟩ = some (.int .i64 0) := tC4_y.cell 1
              have y2 : C4.cell? ⟨w7.heap.size, 2, none⟩ = some (.int .i64 0) := tC4_y.cell 2
              have y3 : C4.cell? ⟨w7.heap.size, 3, none⟩ = some (.string ⟨#[]⟩) := tC4_y.cell 3
              have Ec0 : C4.cell? ⟨w1.heap.size + 1, 0, none⟩ = some (.int .i64 0) := tC4_n.cell 0
              have Ef0 := tC4_n.frozen 0
              obtain ⟨E1, hE1⟩ : ∃ V, C4.setCell ⟨w1.heap.size + 1, 0, none⟩ (.int .i64 0) = V := ⟨_, rfl⟩
              have rE1 : Row E1 (w1.heap.size + 1) #[.int .i64 0, .int .i64 0, .int .i64 0, .string ⟨#[]⟩] 81 := by rw [← hE1]; exact tC4_n.set 0 _
              have sE1 : St w E1 d (keyD F') := by rw [← hE1]; exact st_own sC4 tC4_n (by omega) 0 _
              have tE1_w := rC4.other (w1.heap.size + 1) 0 (.int .i64 0) (by omega)
              rw [hE1] at tE1_w
              have tE1_y := tC4_y.other (w1.heap.size + 1) 0 (.int .i64 0) (by omega)
              rw [hE1] at tE1_y
              have Ec1 : E1.cell? ⟨w1.heap.size + 1, 1, none⟩ = some (.int .i64 0) := rE1.cell 1
              have Ef1 := rE1.frozen 1
              obtain ⟨E2, hE2⟩ : ∃ V, E1.setCell ⟨w1.heap.size + 1, 1, none⟩ (.int .i64 0) = V := ⟨_, rfl⟩
              have rE2 : Row E2 (w1.heap.size + 1) #[.int .i64 0, .int .i64 0, .int .i64 0, .string ⟨#[]⟩] 81 := by rw [← hE2]; exact rE1.set 1 _
              have sE2 : St w E2 d (keyD F') := by rw [← hE2]; exact st_own sE1 rE1 (by omega) 1 _
              have tE2_w := tE1_w.other (w1.heap.size + 1) 1 (.int .i64 0) (by omega)
              rw [hE2] at tE2_w
              have tE2_y := tE1_y.other (w1.heap.size + 1) 1 (.int .i64 0) (by omega)
              rw [hE2] at tE2_y
              have Ec2 : E2.cell? ⟨w1.heap.size + 1, 2, none⟩ = some (.int .i64 0) := rE2.cell 2
              have Ef2 := rE2.frozen 2
              obtain ⟨E3, hE3⟩ : ∃ V, E2.setCell ⟨w1.heap.size + 1, 2, none⟩ (.int .i64 0) = V := ⟨_, rfl⟩
              have rE3 : Row E3 (w1.heap.size + 1) #[.int .i64 0, .int .i64 0, .int .i64 0, .string ⟨#[]⟩] 81 := by rw [← hE3]; exact rE2.set 2 _
              have sE3 : St w E3 d (keyD F') := by rw [← hE3]; exact st_own sE2 rE2 (by omega) 2 _
              have tE3_w := tE2_w.other (w1.heap.size + 1) 2 (.int .i64 0) (by omega)
              rw [hE3] at tE3_w
              have tE3_y := tE2_y.other (w1.heap.size + 1) 2 (.int .i64 0) (by omega)
              rw [hE3] at tE3_y
              have Ec3 : E3.cell? ⟨w1.heap.size + 1, 3, none⟩ = some (.string ⟨#[]⟩) := rE3.cell 3
              have Ef3 := rE3.frozen 3
              obtain ⟨E4, hE4⟩ : ∃ V, E3.setCell ⟨w1.heap.size + 1, 3, none⟩ (.string ⟨#[]⟩) = V := ⟨_, rfl⟩
              have rE4 : Row E4 (w1.heap.size + 1) #[.int .i64 0, .int .i64 0, .int .i64 0, .string ⟨#[]⟩] 81 := by rw [← hE4]; exact rE3.set 3 _
              have sE4 : St w E4 d (keyD F') := by rw [← hE4]; exact st_own sE3 rE3 (by omega) 3 _
              have tE4_w := tE3_w.other (w1.heap.size + 1) 3 (.string ⟨#[]⟩) (by omega)
              rw [hE4] at tE4_w
              have tE4_y := tE3_y.other (w1.heap.size + 1) 3 (.string ⟨#[]⟩) (by omega)
              rw [hE4] at tE4_y
              have hfin : Ythkjodlddhdeiaa.base.Shut (Turn w w1 E4 d (k + 1) F') := ⟨by rw [Int.natCast_succ]; exact hinv', sE4, by rw [hy]; exact tE4_w, by rw [hy]; exact rE4⟩
              clear rC1 rC2 rC3 rC4 rE1 rE2 rE3 rE4 sC1 sC2 sC3 sC4 sE1 sE2 sE3 sE4 tC1_n tC1_y tC2_n tC2_y tC3_n tC3_y tC4_n tC4_y tE1_w tE1_y tE2_w tE2_y tE3_w tE3_y tE4_w tE4_y hw7 hn7 hs7 hy7
              go_big_region
              clear Cc0 Cc1 Cc2 Cc3 Cf0 Cf1 Cf2 Cf3 Ec0 Ec1 Ec2 Ec3 Ef0 Ef1 Ef2 Ef3 hC1 hC2 hC3 hC4 hE1 hE2 hE3 hE4 y0 y1 y2 y3 hqq hsz hl8
              go_wp2
              go_roundw
              case rel => exact ⟨k + 1, by omega, by go_num, ⟨⟨F', hfin.out.drew⟩⟩⟩
              case measure => simp [intOf]; omega

            · have hN0 : ¬ N = 0 := by omega
              have hy0 : ¬ yt = 0 := by simp only at hyt; omega
              have hNy : ¬ N = yt := by simp only at hyN; omega
              have hyNe : ¬ yt = N := by simp only at hyN; omega
              have hqq := HQ.out
              have hsz := HSZ.out
              have x0 : w4.cell? ⟨wr.heap.size, 0, none⟩ = some (.int .i64 N) := HK.out.2.1.cell 0
              have x1 : w4.cell? ⟨wr.heap.size, 1, none⟩ = some (.int .i64 xt) := HK.out.2.1.cell 1
              have x2 : w4.cell? ⟨wr.heap.size, 2, none⟩ = some (.int .i64 xh) := HK.out.2.1.cell 2
              have x3 : w4.cell? ⟨wr.heap.size, 3, none⟩ = some (.string xn) := HK.out.2.1.cell 3
              go_wp2_with fail
              refine HK.out.1.mono ?_
              rintro e w5 ⟨rfl, hs5, hk5⟩
              have hx5 := hk5 _ _ HK.out.2.1
              have hw5 := hk5 _ _ HK.out.2.2.1
              have hn5 := hk5 _ _ HK.out.2.2.2.1
              clear x0 x1 x2 x3
              have x0 : w5.cell? ⟨wr.heap.size, 0, none⟩ = some (.int .i64 N) := hx5.cell 0
              have x1 : w5.cell? ⟨wr.heap.size, 1, none⟩ = some (.int .i64 xt) := hx5.cell 1
              have x2 : w5.cell? ⟨wr.heap.size, 2, none⟩ = some (.int .i64 xh) := hx5.cell 2
              have x3 : w5.cell? ⟨wr.heap.size, 3, none⟩ = some (.string xn) := hx5.cell 3
              obtain ⟨fv5, q0, q1, q2, q3, q4, hf5, _, fa5, fc5, hfv5⟩ := (HL.out.later hs5.below).elim (fun h => absurd h.1 (by intro e; rw [e] at hm; simp at hm; omega)) (fun h => by
                obtain ⟨g', o', c', hv, hc⟩ := h
                cases hv
                exact hc k _ hx)
              simp only at q4 hfv5 hf5
              subst hfv5
              have hcrash := crash_keep hs5 (.slice fa5 xs.length fc5) xs ⟨hf5.1, fun g o n c hv hn => .inl (hf5.2.1 g o n c hv hn), hf5.2.2⟩ (by have := HK.out.2.2.2.2; omega)
              rw [hcr] at hcrash
              have H5 := Ythkjodlddhdeiaa.base.Shut.mk (And.intro hcrash (And.intro hw5 hn5))
              clear q0 q1 q2 q3 hf5 hcrash hcr hqq hsz hs5 hk5
              clear hx5 hw5 hn5
              go_wp2_with fail
              refine H5.out.1.mono ?_
              rintro e w6 ⟨rfl, hs6, hk6⟩
              have hw6 := hk6 _ _ H5.out.2.1
              have hn6 := hk6 _ _ H5.out.2.2
              have hread := label_st hs6 (Nat.le_refl 2)
              rw [hy] at hread
              have H6 := Ythkjodlddhdeiaa.base.Shut.mk (And.intro hread (And.intro hs6 (And.intro hw6 hn6)))
              clear hs6 hk6 hw6 hn6 hread q4
              clear x0 x1 x2 x3
              go_wp2_with fail
              refine H6.out.1.mono ?_
              rintro e w7 ⟨rfl, hb7⟩
              have HS7 := Ythkjodlddhdeiaa.base.Shut.mk (H6.out.2.2.2.below hb7).lt
              have hw7 := (H6.out.2.2.1.below hb7).alloc (.cells #[.int .i64 yt, .int .i64 ya, .int .i64 yh, .string yn] 81)
              have hn7 := (H6.out.2.2.2.below hb7).alloc (.cells #[.int .i64 yt, .int .i64 ya, .int .i64 yh, .string yn] 81)
              have hs7 := H6.out.2.1.mono (newer hb7 (.cells #[.int .i64 yt, .int .i64 ya, .int .i64 yh, .string yn] 81))
              have hy7 := Row.new w7 #[.int .i64 yt, .int .i64 ya, .int .i64 yh, .string yn] 81
              have e0 : (w7.alloc (.cells #[.int .i64 yt, .int .i64 ya, .int .i64 yh, .string yn] 81)).cell? ⟨w1.heap.size, 0, none⟩ = some (.int .i64 yt) := hw7.cell 0
              have e1 : (w7.alloc (.cells #[.int .i64 yt, .int .i64 ya, .int .i64 yh, .string yn] 81)).cell? ⟨w1.heap.size, 1, none⟩ = some (.int .i64 ya) := hw7.cell 1
              have e2 : (w7.alloc (.cells #[.int .i64 yt, .int .i64 ya, .int .i64 yh, .string yn] 81)).cell? ⟨w1.heap.size, 2, none⟩ = some (.int .i64 yh) := hw7.cell 2
              have e3 : (w7.alloc (.cells #[.int .i64 yt, .int .i64 ya, .int .i64 yh, .string yn] 81)).cell? ⟨w1.heap.size, 3, none⟩ = some (.string yn) := hw7.cell 3
              have n0 : (w7.alloc (.cells #[.int .i64 yt, .int .i64 ya, .int .i64 yh, .string yn] 81)).cell? ⟨w1.heap.size + 1, 0, none⟩ = some (.int .i64 yt) := hn7.cell 0
              have n1 : (w7.alloc (.cells #[.int .i64 yt, .int .i64 ya, .int .i64 yh, .string yn] 81)).cell? ⟨w1.heap.size + 1, 1, none⟩ = some (.int .i64 ya) := hn7.cell 1
              have n2 : (w7.alloc (.cells #[.int .i64 yt, .int .i64 ya, .int .i64 yh, .string yn] 81)).cell? ⟨w1.heap.size + 1, 2, none⟩ = some (.int .i64 yh) := hn7.cell 2
              have n3 : (w7.alloc (.cells #[.int .i64 yt, .int .i64 ya, .int .i64 yh, .string yn] 81)).cell? ⟨w1.heap.size + 1, 3, none⟩ = some (.string yn) := hn7.cell 3
              have H7 := Ythkjodlddhdeiaa.base.Shut.mk (And.intro hw7 (And.intro hn7 (And.intro hs7 hy7)))
              clear hb7 hw7 hn7 hs7 hy7
              go_wp2
              obtain ⟨hw7, hn7, hs7, hy7⟩ := H7.out
              have hqq := HQ.out
              have hsz := HSZ.out
              have hl8 := HS7.out
              clear H7 e0 e1 e2 e3 n0 n1 n2 n3
              have Cc0 : (w7.alloc (.cells #[.int .i64 yt, .int .i64 ya, .int .i64 yh, .string yn] 81)).cell? ⟨w1.heap.size, 0, none⟩ = some (.int .i64 yt) := hw7.cell 0
              have Cf0 := hw7.frozen 0
              obtain ⟨C1, hC1⟩ : ∃ V, (w7.alloc (.cells #[.int .i64 yt, .int .i64 ya, .int .i64 yh, .string yn] 81)).setCell ⟨w1.heap.size, 0, none⟩ (.int .i64 yt) = V := ⟨_, rfl⟩
              have rC1 : Row C1 (w1.heap.size) #[.int .i64 yt, .int .i64 ya, .int .i64 yh, .string yn] 81 := by rw [← hC1]; exact hw7.set 0 _
              have sC1 : St w C1 d (keyD F') := by rw [← hC1]; exact st_own hs7 hw7 (by omega) 0 _
              have tC1_n := hn7.other (w1.heap.size) 0 (.int .i64 yt) (by omega)
              rw [hC1] at tC1_n
              have tC1_y := hy7.other (w1.heap.size) 0 (.int .i64 yt) (by omega)
              rw [hC1] at tC1_y
              have Cc1 : C1.cell? ⟨w1.heap.size, 1, none⟩ = some (.int .i64 ya) := rC1.cell 1
              have Cf1 := rC1.frozen 1
              obtain ⟨C2, hC2⟩ : ∃ V, C1.setCell ⟨w1.heap.size, 1, none⟩ (.int .i64 ya) = V := ⟨_, rfl⟩
              have rC2 : Row C2 (w1.heap.size) #[.int .i64 yt, .int .i64 ya, .int .i64 yh, .string yn] 81 := by rw [← hC2]; exact rC1.set 1 _
              have sC2 : St w C2 d (keyD F') := by rw [← hC2]; exact st_own sC1 rC1 (by omega) 1 _
              have tC2_n := tC1_n.other (w1.heap.size) 1 (.int .i64 ya) (by omega)
              rw [hC2] at tC2_n
              have tC2_y := tC1_y.other (w1.heap.size) 1 (.int .i64 ya) (by omega)
              rw [hC2] at tC2_y
              have Cc2 : C2.cell? ⟨w1.heap.size, 2, none⟩ = some (.int .i64 yh) := rC2.cell 2
              have Cf2 := rC2.frozen 2
              obtain ⟨C3, hC3⟩ : ∃ V, C2.setCell ⟨w1.heap.size, 2, none⟩ (.int .i64 yh) = V := ⟨_, rfl⟩
              have rC3 : Row C3 (w1.heap.size) #[.int .i64 yt, .int .i64 ya, .int .i64 yh, .string yn] 81 := by rw [← hC3]; exact rC2.set 2 _
              have sC3 : St w C3 d (keyD F') := by rw [← hC3]; exact st_own sC2 rC2 (by omega) 2 _
              have tC3_n := tC2_n.other (w1.heap.size) 2 (.int .i64 yh) (by omega)
              rw [hC3] at tC3_n
              have tC3_y := tC2_y.other (w1.heap.size) 2 (.int .i64 yh) (by omega)
              rw [hC3] at tC3_y
              have Cc3 : C3.cell? ⟨w1.heap.size, 3, none⟩ = some (.string yn) := rC3.cell 3
              have Cf3 := rC3.frozen 3
              obtain ⟨C4, hC4⟩ : ∃ V, C3.setCell ⟨w1.heap.size, 3, none⟩ (.string yn) = V := ⟨_, rfl⟩
              have rC4 : Row C4 (w1.heap.size) #[.int .i64 yt, .int .i64 ya, .int .i64 yh, .string yn] 81 := by rw [← hC4]; exact rC3.set 3 _
              have sC4 : St w C4 d (keyD F') := by rw [← hC4]; exact st_own sC3 rC3 (by omega) 3 _
              have tC4_n := tC3_n.other (w1.heap.size) 3 (.string yn) (by omega)
              rw [hC4] at tC4_n
              have tC4_y := tC3_y.other (w1.heap.size) 3 (.string yn) (by omega)
              rw [hC4] at tC4_y
              have y0 : C4.cell? ⟨w7.heap.size, 0, none⟩ = some (.int .i64 yt) := tC4_y.cell 0
              have y1 : C4.cell? ⟨w7.heap.size, 1, none⟩ = some (.int .i64 ya) := tC4_y.cell 1
              have y2 : C4.cell? ⟨w7.heap.size, 2, none⟩ = some (.int .i64 yh) := tC4_y.cell 2
              have y3 : C4.cell? ⟨w7.heap.size, 3, none⟩ = some (.string yn) := tC4_y.cell 3
              have Ec0 : C4.cell? ⟨w1.heap.size + 1, 0, none⟩ = some (.int .i64 yt) := tC4_n.cell 0
              have Ef0 := tC4_n.frozen 0
              obtain ⟨E1, hE1⟩ : ∃ V, C4.setCell ⟨w1.heap.size + 1, 0, none⟩ (.int .i64 yt) = V := ⟨_, rfl⟩
              have rE1 : Row E1 (w1.heap.size + 1) #[.int .i64 yt, .int .i64 ya, .int .i64 yh, .string yn] 81 := by rw [← hE1]; exact tC4_n.set 0 _
              have sE1 : St w E1 d (keyD F') := by rw [← hE1]; exact st_own sC4 tC4_n (by omega) 0 _
              have tE1_w := rC4.other (w1.heap.size + 1) 0 (.int .i64 yt) (by omega)
              rw [hE1] at tE1_w
              have tE1_y := tC4_y.other (w1.heap.size + 1) 0 (.int .i64 yt) (by omega)
              rw [hE1] at tE1_y
              have Ec1 : E1.cell? ⟨w1.heap.size + 1, 1, none⟩ = some (.int .i64 ya) := rE1.cell 1
              have Ef1 := rE1.frozen 1
              obtain ⟨E2, hE2⟩ : ∃ V, E1.setCell ⟨w1.heap.size + 1, 1, none⟩ (.int .i64 ya) = V := ⟨_, rfl⟩
              have rE2 : Row E2 (w1.heap.size + 1) #[.int .i64 yt, .int .i64 ya, .int .i64 yh, .string yn] 81 := by rw [← hE2]; exact rE1.set 1 _
              have sE2 : St w E2 d (keyD F') := by rw [← hE2]; exact st_own sE1 rE1 (by omega) 1 _
              have tE2_w := tE1_w.other (w1.heap.size + 1) 1 (.int .i64 ya) (by omega)
              rw [hE2] at tE2_w
              have tE2_y := tE1_y.other (w1.heap.size + 1) 1 (.int .i64 ya) (by omega)
              rw [hE2] at tE2_y
              have Ec2 : E2.cell? ⟨w1.heap.size + 1, 2, none⟩ = some (.int .i64 yh) := rE2.cell 2
              have Ef2 := rE2.frozen 2
              obtain ⟨E3, hE3⟩ : ∃ V, E2.setCell ⟨w1.heap.size + 1, 2, none⟩ (.int .i64 yh) = V := ⟨_, rfl⟩
              have rE3 : Row E3 (w1.heap.size + 1) #[.int .i64 yt, .int .i64 ya, .int .i64 yh, .string yn] 81 := by rw [← hE3]; exact rE2.set 2 _
              have sE3 : St w E3 d (keyD F') := by rw [← hE3]; exact st_own sE2 rE2 (by omega) 2 _
              have tE3_w := tE2_w.other (w1.heap.size + 1) 2 (.int .i64 yh) (by omega)
              rw [hE3] at tE3_w
              have tE3_y := tE2_y.other (w1.heap.size + 1) 2 (.int .i64 yh) (by omega)
              rw [hE3] at tE3_y
              have Ec3 : E3.cell? ⟨w1.heap.size + 1, 3, none⟩ = some (.string yn) := rE3.cell 3
              have Ef3 := rE3.frozen 3
              obtain ⟨E4, hE4⟩ : ∃ V, E3.setCell ⟨w1.heap.size + 1, 3, none⟩ (.string yn) = V := ⟨_, rfl⟩
              have rE4 : Row E4 (w1.heap.size + 1) #[.int .i64 yt, .int .i64 ya, .int .i64 yh, .string yn] 81 := by rw [← hE4]; exact rE3.set 3 _
              have sE4 : St w E4 d (keyD F') := by rw [← hE4]; exact st_own sE3 rE3 (by omega) 3 _
              have tE4_w := tE3_w.other (w1.heap.size + 1) 3 (.string yn) (by omega)
              rw [hE4] at tE4_w
              have tE4_y := tE3_y.other (w1.heap.size + 1) 3 (.string yn) (by omega)
              rw [hE4] at tE4_y
              have hfin : Ythkjodlddhdeiaa.base.Shut (Turn w w1 E4 d (k + 1) F') := ⟨by rw [Int.natCast_succ]; exact hinv', sE4, by rw [hy]; exact tE4_w, by rw [hy]; exact rE4⟩
              clear rC1 rC2 rC3 rC4 rE1 rE2 rE3 rE4 sC1 sC2 sC3 sC4 sE1 sE2 sE3 sE4 tC1_n tC1_y tC2_n tC2_y tC3_n tC3_y tC4_n tC4_y tE1_w tE1_y tE2_w tE2_y tE3_w tE3_y tE4_w tE4_y hw7 hn7 hs7 hy7
              go_big_region
              clear Cc0 Cc1 Cc2 Cc3 Cf0 Cf1 Cf2 Cf3 Ec0 Ec1 Ec2 Ec3 Ef0 Ef1 Ef2 Ef3 hC1 hC2 hC3 hC4 hE1 hE2 hE3 hE4 y0 y1 y2 y3 hqq hsz hl8
              go_wp2
              go_roundw
              case rel => exact ⟨k + 1, by omega, by go_num, ⟨⟨F', hfin.out.drew⟩⟩⟩
              case measure => simp [intOf]; omega

          · obtain ⟨⟨yt, ya, yh, yn⟩, ke⟩ := Y
            clear hlw
            have hqq := HQ.out
            have hsz := HSZ.out
            have x0 : w4.cell? ⟨wr.heap.size, 0, none⟩ = some (.int .i64 N) := HK.out.2.1.cell 0
            have x1 : w4.cell? ⟨wr.heap.size, 1, none⟩ = some (.int .i64 xt) := HK.out.2.1.cell 1
            have x2 : w4.cell? ⟨wr.heap.size, 2, none⟩ = some (.int .i64 xh) := HK.out.2.1.cell 2
            have x3 : w4.cell? ⟨wr.heap.size, 3, none⟩ = some (.string xn) := HK.out.2.1.cell 3
            go_wp2_with fail
            refine HK.out.1.mono ?_
            rintro e w5 ⟨rfl, hs5, hk5⟩
            have hx5 := hk5 _ _ HK.out.2.1
            have hw5 := hk5 _ _ HK.out.2.2.1
            have hn5 := hk5 _ _ HK.out.2.2.2.1
            clear x0 x1 x2 x3
            have x0 : w5.cell? ⟨wr.heap.size, 0, none⟩ = some (.int .i64 N) := hx5.cell 0
            have x1 : w5.cell? ⟨wr.heap.size, 1, none⟩ = some (.int .i64 xt) := hx5.cell 1
            have x2 : w5.cell? ⟨wr.heap.size, 2, none⟩ = some (.int .i64 xh) := hx5.cell 2
            have x3 : w5.cell? ⟨wr.heap.size, 3, none⟩ = some (.string xn) := hx5.cell 3
            have Ac0 : w5.cell? ⟨w1.heap.size + 1, 0, none⟩ = some (.int .i64 yt) := hn5.cell 0
            have Af0 := hn5.frozen 0
            obtain ⟨A1, hA1⟩ : ∃ V, w5.setCell ⟨w1.heap.size + 1, 0, none⟩ (.int .i64 N) = V := ⟨_, rfl⟩
            have rA1 : Row A1 (w1.heap.size + 1) #[.int .i64 N, .int .i64 ya, .int .i64 yh, .string yn] 81 := by rw [← hA1]; exact hn5.set 0 _
            have sA1 : St w A1 d D5 := by rw [← hA1]; exact st_own hs5 hn5 (by omega) 0 _
            have tA1_x := hx5.other (w1.heap.size + 1) 0 (.int .i64 N) (by omega)
            rw [hA1] at tA1_x
            have tA1_w := hw5.other (w1.heap.size + 1) 0 (.int .i64 N) (by omega)
            rw [hA1] at tA1_w
            have Ac1 : A1.cell? ⟨w1.heap.size + 1, 1, none⟩ = some (.int .i64 ya) := rA1.cell 1
            have Af1 := rA1.frozen 1
            obtain ⟨A2, hA2⟩ : ∃ V, A1.setCell ⟨w1.heap.size + 1, 1, none⟩ (.int .i64 xt) = V := ⟨_, rfl⟩
            have rA2 : Row A2 (w1.heap.size + 1) #[.int .i64 N, .int .i64 xt, .int .i64 yh, .string yn] 81 := by rw [← hA2]; exact rA1.set 1 _
            have sA2 : St w A2 d D5 := by rw [← hA2]; exact st_own sA1 rA1 (by omega) 1 _
            have tA2_x := tA1_x.other (w1.heap.size + 1) 1 (.int .i64 xt) (by omega)
            rw [hA2] at tA2_x
            have tA2_w := tA1_w.other (w1.heap.size + 1) 1 (.int .i64 xt) (by omega)
            rw [hA2] at tA2_w
            have Ac2 : A2.cell? ⟨w1.heap.size + 1, 2, none⟩ = some (.int .i64 yh) := rA2.cell 2
            have Af2 := rA2.frozen 2
            obtain ⟨A3, hA3⟩ : ∃ V, A2.setCell ⟨w1.heap.size + 1, 2, none⟩ (.int .i64 xh) = V := ⟨_, rfl⟩
            have rA3 : Row A3 (w1.heap.size + 1) #[.int .i64 N, .int .i64 xt, .int .i64 xh, .string yn] 81 := by rw [← hA3]; exact rA2.set 2 _
            have sA3 : St w A3 d D5 := by rw [← hA3]; exact st_own sA2 rA2 (by omega) 2 _
            have tA3_x := tA2_x.other (w1.heap.size + 1) 2 (.int .i64 xh) (by omega)
            rw [hA3] at tA3_x
            have tA3_w := tA2_w.other (w1.heap.size + 1) 2 (.int .i64 xh) (by omega)
            rw [hA3] at tA3_w
            have Ac3 : A3.cell? ⟨w1.heap.size + 1, 3, none⟩ = some (.string yn) := rA3.cell 3
            have Af3 := rA3.frozen 3
            obtain ⟨A4, hA4⟩ : ∃ V, A3.setCell ⟨w1.heap.size + 1, 3, none⟩ (.string xn) = V := ⟨_, rfl⟩
            have rA4 : Row A4 (w1.heap.size + 1) #[.int .i64 N, .int .i64 xt, .int .i64 xh, .string xn] 81 := by rw [← hA4]; exact rA3.set 3 _
            have sA4 : St w A4 d D5 := by rw [← hA4]; exact st_own sA3 rA3 (by omega) 3 _
            have tA4_x := tA3_x.other (w1.heap.size + 1) 3 (.string xn) (by omega)
            rw [hA4] at tA4_x
            have tA4_w := tA3_w.other (w1.heap.size + 1) 3 (.string xn) (by omega)
            rw [hA4] at tA4_w
            have u0 : A4.cell? ⟨wr.heap.size, 0, none⟩ = some (.int .i64 N) := tA4_x.cell 0
            have u1 : A4.cell? ⟨wr.heap.size, 1, none⟩ = some (.int .i64 xt) := tA4_x.cell 1
            have u2 : A4.cell? ⟨wr.heap.size, 2, none⟩ = some (.int .i64 xh) := tA4_x.cell 2
            have u3 : A4.cell? ⟨wr.heap.size, 3, none⟩ = some (.string xn) := tA4_x.cell 3
            have Bc0 : A4.cell? ⟨w1.heap.size, 0, none⟩ = some (.int .i64 yt) := tA4_w.cell 0
            have Bf0 := tA4_w.frozen 0
            obtain ⟨B1, hB1⟩ : ∃ V, A4.setCell ⟨w1.heap.size, 0, none⟩ (.int .i64 N) = V := ⟨_, rfl⟩
            have rB1 : Row B1 (w1.heap.size) #[.int .i64 N, .int .i64 ya, .int .i64 yh, .string yn] 81 := by rw [← hB1]; exact tA4_w.set 0 _
            have sB1 : St w B1 d D5 := by rw [← hB1]; exact st_own sA4 tA4_w (by omega) 0 _
            have tB1_x := tA4_x.other (w1.heap.size) 0 (.int .i64 N) (by omega)
            rw [hB1] at tB1_x
            have tB1_n := rA4.other (w1.heap.size) 0 (.int .i64 N) (by omega)
            rw [hB1] at tB1_n
            have Bc1 : B1.cell? ⟨w1.heap.size, 1, none⟩ = some (.int .i64 ya) := rB1.cell 1
            have Bf1 := rB1.frozen 1
            obtain ⟨B2, hB2⟩ : ∃ V, B1.setCell ⟨w1.heap.size, 1, none⟩ (.int .i64 xt) = V := ⟨_, rfl⟩
            have rB2 : Row B2 (w1.heap.size) #[.int .i64 N, .int .i64 xt, .int .i64 yh, .string yn] 81 := by rw [← hB2]; exact rB1.set 1 _
            have sB2 : St w B2 d D5 := by rw [← hB2]; exact st_own sB1 rB1 (by omega) 1 _
            have tB2_x := tB1_x.other (w1.heap.size) 1 (.int .i64 xt) (by omega)
            rw [hB2] at tB2_x
            have tB2_n := tB1_n.other (w1.heap.size) 1 (.int .i64 xt) (by omega)
            rw [hB2] at tB2_n
            have Bc2 : B2.cell? ⟨w1.heap.size, 2, none⟩ = some (.int .i64 yh) := rB2.cell 2
            have Bf2 := rB2.frozen 2
            obtain ⟨B3, hB3⟩ : ∃ V, B2.setCell ⟨w1.heap.size, 2, none⟩ (.int .i64 xh) = V := ⟨_, rfl⟩
            have rB3 : Row B3 (w1.heap.size) #[.int .i64 N, .int .i64 xt, .int .i64 xh, .string yn] 81 := by rw [← hB3]; exact rB2.set 2 _
            have sB3 : St w B3 d D5 := by rw [← hB3]; exact st_own sB2 rB2 (by omega) 2 _
            have tB3_x := tB2_x.other (w1.heap.size) 2 (.int .i64 xh) (by omega)
            rw [hB3] at tB3_x
            have tB3_n := tB2_n.other (w1.heap.size) 2 (.int .i64 xh) (by omega)
            rw [hB3] at tB3_n
            have Bc3 : B3.cell? ⟨w1.heap.size, 3, none⟩ = some (.string yn) := rB3.cell 3
            have Bf3 := rB3.frozen 3
            obtain ⟨B4, hB4⟩ : ∃ V, B3.setCell ⟨w1.heap.size, 3, none⟩ (.string xn) = V := ⟨_, rfl⟩
            have rB4 : Row B4 (w1.heap.size) #[.int .i64 N, .int .i64 xt, .int .i64 xh, .string xn] 81 := by rw [← hB4]; exact rB3.set 3 _
            have sB4 : St w B4 d D5 := by rw [← hB4]; exact st_own sB3 rB3 (by omega) 3 _
            have tB4_x := tB3_x.other (w1.heap.size) 3 (.string xn) (by omega)
            rw [hB4] at tB4_x
            have tB4_n := tB3_n.other (w1.heap.size) 3 (.string xn) (by omega)
            rw [hB4] at tB4_n
            obtain ⟨fv5, q0, q1, q2, q3, q4, hf5, _, fa5, fc5, hfv5⟩ := (HL.out.later sB4.below).elim (fun h => absurd h.1 (by intro e; rw [e] at hm; simp at hm; omega)) (fun h => by
              obtain ⟨g', o', c', hv, hc⟩ := h
              cases hv
              exact hc k _ hx)
            simp only at q4 hfv5 hf5
            subst hfv5
            have hcrash := crash_keep sB4 (.slice fa5 xs.length fc5) xs ⟨hf5.1, fun g o n c hv hn => .inl (hf5.2.1 g o n c hv hn), hf5.2.2⟩ (by have := HK.out.2.2.2.2; omega)
            rw [hcr] at hcrash
            have H5 := Ythkjodlddhdeiaa.base.Shut.mk (And.intro hcrash (And.intro rB4 tB4_n))
            clear q0 q1 q2 q3 hf5 hcrash hcr hqq hsz hs5 hk5
            clear rA1 rA2 rA3 rA4 rB1 rB2 rB3 rB4 sA1 sA2 sA3 sA4 sB1 sB2 sB3 sB4 tA1_w tA1_x tA2_w tA2_x tA3_w tA3_x tA4_w tA4_x tB1_n tB1_x tB2_n tB2_x tB3_n tB3_x tB4_n tB4_x hx5 hw5 hn5
            go_wp2_with fail
            refine H5.out.1.mono ?_
            rintro e w6 ⟨rfl, hs6, hk6⟩
            have hw6 := hk6 _ _ H5.out.2.1
            have hn6 := hk6 _ _ H5.out.2.2
            have hread := label_st hs6 (Nat.le_refl 2)
            rw [hy] at hread
            have H6 := Ythkjodlddhdeiaa.base.Shut.mk (And.intro hread (And.intro hs6 (And.intro hw6 hn6)))
            clear hs6 hk6 hw6 hn6 hread q4
            clear Ac0 Ac1 Ac2 Ac3 Af0 Af1 Af2 Af3 Bc0 Bc1 Bc2 Bc3 Bf0 Bf1 Bf2 Bf3 x0 x1 x2 x3 u0 u1 u2 u3 hA1 hA2 hA3 hA4 hB1 hB2 hB3 hB4
            go_wp2_with fail
            refine H6.out.1.mono ?_
            rintro e w7 ⟨rfl, hb7⟩
            have HS7 := Ythkjodlddhdeiaa.base.Shut.mk (H6.out.2.2.2.below hb7).lt
            have hw7 := (H6.out.2.2.1.below hb7).alloc (.cells #[.int .i64 N, .int .i64 xt, .int .i64 xh, .string xn] 81)
            have hn7 := (H6.out.2.2.2.below hb7).alloc (.cells #[.int .i64 N, .int .i64 xt, .int .i64 xh, .string xn] 81)
            have hs7 := H6.out.2.1.mono (newer hb7 (.cells #[.int .i64 N, .int .i64 xt, .int .i64 xh, .string xn] 81))
            have hy7 := Row.new w7 #[.int .i64 N, .int .i64 xt, .int .i64 xh, .string xn] 81
            have e0 : (w7.alloc (.cells #[.int .i64 N, .int .i64 xt, .int .i64 xh, .string xn] 81)).cell? ⟨w1.heap.size, 0, none⟩ = some (.int .i64 N) := hw7.cell 0
            have e1 : (w7.alloc (.cells #[.int .i64 N, .int .i64 xt, .int .i64 xh, .string xn] 81)).cell? ⟨w1.heap.size, 1, none⟩ = some (.int .i64 xt) := hw7.cell 1
            have e2 : (w7.alloc (.cells #[.int .i64 N, .int .i64 xt, .int .i64 xh, .string xn] 81)).cell? ⟨w1.heap.size, 2, none⟩ = some (.int .i64 xh) := hw7.cell 2
            have e3 : (w7.alloc (.cells #[.int .i64 N, .int .i64 xt, .int .i64 xh, .string xn] 81)).cell? ⟨w1.heap.size, 3, none⟩ = some (.string xn) := hw7.cell 3
            have n0 : (w7.alloc (.cells #[.int .i64 N, .int .i64 xt, .int .i64 xh, .string xn] 81)).cell? ⟨w1.heap.size + 1, 0, none⟩ = some (.int .i64 N) := hn7.cell 0
            have n1 : (w7.alloc (.cells #[.int .i64 N, .int .i64 xt, .int .i64 xh, .string xn] 81)).cell? ⟨w1.heap.size + 1, 1, none⟩ = some (.int .i64 xt) := hn7.cell 1
            have n2 : (w7.alloc (.cells #[.int .i64 N, .int .i64 xt, .int .i64 xh, .string xn] 81)).cell? ⟨w1.heap.size + 1, 2, none⟩ = some (.int .i64 xh) := hn7.cell 2
            have n3 : (w7.alloc (.cells #[.int .i64 N, .int .i64 xt, .int .i64 xh, .string xn] 81)).cell? ⟨w1.heap.size + 1, 3, none⟩ = some (.string xn) := hn7.cell 3
            have H7 := Ythkjodlddhdeiaa.base.Shut.mk (And.intro hw7 (And.intro hn7 (And.intro hs7 hy7)))
            clear hb7 hw7 hn7 hs7 hy7
            go_wp2
            obtain ⟨hw7, hn7, hs7, hy7⟩ := H7.out
            have hqq := HQ.out
            have hsz := HSZ.out
            have hl8 := HS7.out
            clear H7 e0 e1 e2 e3 n0 n1 n2 n3
            have Cc0 : (w7.alloc (.cells #[.int .i64 N, .int .i64 xt, .int .i64 xh, .string xn] 81)).cell? ⟨w1.heap.size, 0, none⟩ = some (.int .i64 N) := hw7.cell 0
            have Cf0 := hw7.frozen 0
            obtain ⟨C1, hC1⟩ : ∃ V, (w7.alloc (.cells #[.int .i64 N, .int .i64 xt, .int .i64 xh, .string xn] 81)).setCell ⟨w1.heap.size, 0, none⟩ (.int .i64 N) = V := ⟨_, rfl⟩
            have rC1 : Row C1 (w1.heap.size) #[.int .i64 N, .int .i64 xt, .int .i64 xh, .string xn] 81 := by rw [← hC1]; exact hw7.set 0 _
            have sC1 : St w C1 d (keyD F') := by rw [← hC1]; exact st_own hs7 hw7 (by omega) 0 _
            have tC1_n := hn7.other (w1.heap.size) 0 (.int .i64 N) (by omega)
            rw [hC1] at tC1_n
            have tC1_y := hy7.other (w1.heap.size) 0 (.int .i64 N) (by omega)
            rw [hC1] at tC1_y
            have Cc1 : C1.cell? ⟨w1.heap.size, 1, none⟩ = some (.int .i64 xt) := rC1.cell 1
            have Cf1 := rC1.frozen 1
            obtain ⟨C2, hC2⟩ : ∃ V, C1.setCell ⟨w1.heap.size, 1, none⟩ (.int .i64 xt) = V := ⟨_, rfl⟩
            have rC2 : Row C2 (w1.heap.size) #[.int .i64 N, .int .i64 xt, .int .i64 xh, .string xn] 81 := by rw [← hC2]; exact rC1.set 1 _
            have sC2 : St w C2 d (keyD F') := by rw [← hC2]; exact st_own sC1 rC1 (by omega) 1 _
            have tC2_n := tC1_n.other (w1.heap.size) 1 (.int .i64 xt) (by omega)
            rw [hC2] at tC2_n
            have tC2_y := tC1_y.other (w1.heap.size) 1 (.int .i64 xt) (by omega)
            rw [hC2] at tC2_y
            have Cc2 : C2.cell? ⟨w1.heap.size, 2, none⟩ = some (.int .i64 xh) := rC2.cell 2
            have Cf2 := rC2.frozen 2
            obtain ⟨C3, hC3⟩ : ∃ V, C2.setCell ⟨w1.heap.size, 2, none⟩ (.int .i64 xh) = V := ⟨_, rfl⟩
            have rC3 : Row C3 (w1.heap.size) #[.int .i64 N, .int .i64 xt, .int .i64 xh, .string xn] 81 := by rw [← hC3]; exact rC2.set 2 _
            have sC3 : St w C3 d (keyD F') := by rw [← hC3]; exact st_own sC2 rC2 (by omega) 2 _
            have tC3_n := tC2_n.other (w1.heap.size) 2 (.int .i64 xh) (by omega)
            rw [hC3] at tC3_n
            have tC3_y := tC2_y.other (w1.heap.size) 2 (.int .i64 xh) (by omega)
            rw [hC3] at tC3_y
            have Cc3 : C3.cell? ⟨w1.heap.size, 3, none⟩ = some (.string xn) := rC3.cell 3
            have Cf3 := rC3.frozen 3
            obtain ⟨C4, hC4⟩ : ∃ V, C3.setCell ⟨w1.heap.size, 3, none⟩ (.string xn) = V := ⟨_, rfl⟩
            have rC4 : Row C4 (w1.heap.size) #[.int .i64 N, .int .i64 xt, .int .i64 xh, .string xn] 81 := by rw [← hC4]; exact rC3.set 3 _
            have sC4 : St w C4 d (keyD F') := by rw [← hC4]; exact st_own sC3 rC3 (by omega) 3 _
            have tC4_n := tC3_n.other (w1.heap.size) 3 (.string xn) (by omega)
            rw [hC4] at tC4_n
            have tC4_y := tC3_y.other (w1.heap.size) 3 (.string xn) (by omega)
            rw [hC4] at tC4_y
            have y0 : C4.cell? ⟨w7.heap.size, 0, none⟩ = some (.int .i64 N) := tC4_y.cell 0
            have y1 : C4.cell? ⟨w7.heap.size, 1, none⟩ = some (.int .i64 xt) := tC4_y.cell 1
            have y2 : C4.cell? ⟨w7.heap.size, 2, none⟩ = some (.int .i64 xh) := tC4_y.cell 2
            have y3 : C4.cell? ⟨w7.heap.size, 3, none⟩ = some (.string xn) := tC4_y.cell 3
            have Ec0 : C4.cell? ⟨w1.heap.size + 1, 0, none⟩ = some (.int .i64 N) := tC4_n.cell 0
            have Ef0 := tC4_n.frozen 0
            obtain ⟨E1, hE1⟩ : ∃ V, C4.setCell ⟨w1.heap.size + 1, 0, none⟩ (.int .i64 N) = V := ⟨_, rfl⟩
            have rE1 : Row E1 (w1.heap.size + 1) #[.int .i64 N, .int .i64 xt, .int .i64 xh, .string xn] 81 := by rw [← hE1]; exact tC4_n.set 0 _
            have sE1 : St w E1 d (keyD F') := by rw [← hE1]; exact st_own sC4 tC4_n (by omega) 0 _
            have tE1_w := rC4.other (w1.heap.size + 1) 0 (.int .i64 N) (by omega)
            rw [hE1] at tE1_w
            have tE1_y := tC4_y.other (w1.heap.size + 1) 0 (.int .i64 N) (by omega)
            rw [hE1] at tE1_y
            have Ec1 : E1.cell? ⟨w1.heap.size + 1, 1, none⟩ = some (.int .i64 xt) := rE1.cell 1
            have Ef1 := rE1.frozen 1
            obtain ⟨E2, hE2⟩ : ∃ V, E1.setCell ⟨w1.heap.size + 1, 1, none⟩ (.int .i64 xt) = V := ⟨_, rfl⟩
            have rE2 : Row E2 (w1.heap.size + 1) #[.int .i64 N, .int .i64 xt, .int .i64 xh, .string xn] 81 := by rw [← hE2]; exact rE1.set 1 _
            have sE2 : St w E2 d (keyD F') := by rw [← hE2]; exact st_own sE1 rE1 (by omega) 1 _
            have tE2_w := tE1_w.other (w1.heap.size + 1) 1 (.int .i64 xt) (by omega)
            rw [hE2] at tE2_w
            have tE2_y := tE1_y.other (w1.heap.size + 1) 1 (.int .i64 xt) (by omega)
            rw [hE2] at tE2_y
            have Ec2 : E2.cell? ⟨w1.heap.size + 1, 2, none⟩ = some (.int .i64 xh) := rE2.cell 2
            have Ef2 := rE2.frozen 2
            obtain ⟨E3, hE3⟩ : ∃ V, E2.setCell ⟨w1.heap.size + 1, 2, none⟩ (.int .i64 xh) = V := ⟨_, rfl⟩
            have rE3 : Row E3 (w1.heap.size + 1) #[.int .i64 N, .int .i64 xt, .int .i64 xh, .string xn] 81 := by rw [← hE3]; exact rE2.set 2 _
            have sE3 : St w E3 d (keyD F') := by rw [← hE3]; exact st_own sE2 rE2 (by omega) 2 _
            have tE3_w := tE2_w.other (w1.heap.size + 1) 2 (.int .i64 xh) (by omega)
            rw [hE3] at tE3_w
            have tE3_y := tE2_y.other (w1.heap.size + 1) 2 (.int .i64 xh) (by omega)
            rw [hE3] at tE3_y
            have Ec3 : E3.cell? ⟨w1.heap.size + 1, 3, none⟩ = some (.string xn) := rE3.cell 3
            have Ef3 := rE3.frozen 3
            obtain ⟨E4, hE4⟩ : ∃ V, E3.setCell ⟨w1.heap.size + 1, 3, none⟩ (.string xn) = V := ⟨_, rfl⟩
            have rE4 : Row E4 (w1.heap.size + 1) #[.int .i64 N, .int .i64 xt, .int .i64 xh, .string xn] 81 := by rw [← hE4]; exact rE3.set 3 _
            have sE4 : St w E4 d (keyD F') := by rw [← hE4]; exact st_own sE3 rE3 (by omega) 3 _
            have tE4_w := tE3_w.other (w1.heap.size + 1) 3 (.string xn) (by omega)
            rw [hE4] at tE4_w
            have tE4_y := tE3_y.other (w1.heap.size + 1) 3 (.string xn) (by omega)
            rw [hE4] at tE4_y
            have hfin : Ythkjodlddhdeiaa.base.Shut (Turn w w1 E4 d (k + 1) F') := ⟨by rw [Int.natCast_succ]; exact hinv', sE4, by rw [hy]; exact tE4_w, by rw [hy]; exact rE4⟩
            clear rC1 rC2 rC3 rC4 rE1 rE2 rE3 rE4 sC1 sC2 sC3 sC4 sE1 sE2 sE3 sE4 tC1_n tC1_y tC2_n tC2_y tC3_n tC3_y tC4_n tC4_y tE1_w tE1_y tE2_w tE2_y tE3_w tE3_y tE4_w tE4_y hw7 hn7 hs7 hy7
            go_big_region
            clear Cc0 Cc1 Cc2 Cc3 Cf0 Cf1 Cf2 Cf3 Ec0 Ec1 Ec2 Ec3 Ef0 Ef1 Ef2 Ef3 hC1 hC2 hC3 hC4 hE1 hE2 hE3 hE4 y0 y1 y2 y3 hqq hsz hl8
            go_wp2
            go_roundw
            case rel => exact ⟨k + 1, by omega, by go_num, ⟨⟨F', hfin.out.drew⟩⟩⟩
            case measure => simp [intOf]; omega

          · rcases hlw with rfl | ⟨⟨yt, ya, yh, yn⟩, rfl, hyt, hyN⟩
            · have hN0 : ¬ N = 0 := by omega
              have hqq := HQ.out
              have hsz := HSZ.out
              have x0 : w4.cell? ⟨wr.heap.size, 0, none⟩ = some (.int .i64 N) := HK.out.2.1.cell 0
              have x1 : w4.cell? ⟨wr.heap.size, 1, none⟩ = some (.int .i64 xt) := HK.out.2.1.cell 1
              have x2 : w4.cell? ⟨wr.heap.size, 2, none⟩ = some (.int .i64 xh) := HK.out.2.1.cell 2
              have x3 : w4.cell? ⟨wr.heap.size, 3, none⟩ = some (.string xn) := HK.out.2.1.cell 3
              go_wp2_with fail
              refine HK.out.1.mono ?_
              rintro e w5 ⟨rfl, hs5, hk5⟩
              have hx5 := hk5 _ _ HK.out.2.1
              have hw5 := hk5 _ _ HK.out.2.2.1
              have hn5 := hk5 _ _ HK.out.2.2.2.1
              clear x0 x1 x2 x3
              have x0 : w5.cell? ⟨wr.heap.size, 0, none⟩ = some (.int .i64 N) := hx5.cell 0
              have x1 : w5.cell? ⟨wr.heap.size, 1, none⟩ = some (.int .i64 xt) := hx5.cell 1
              have x2 : w5.cell? ⟨wr.heap.size, 2, none⟩ = some (.int .i64 xh) := hx5.cell 2
              have x3 : w5.cell? ⟨wr.heap.size, 3, none⟩ = some (.string xn) := hx5.cell 3
              have Ac0 : w5.cell? ⟨w1.heap.size + 1, 0, none⟩ = some (.int .i64 0) := hn5.cell 0
              have Af0 := hn5.frozen 0
              obtain ⟨A1, hA1⟩ : ∃ V, w5.setCell ⟨w1.heap.size + 1, 0, none⟩ (.int .i64 N) = V := ⟨_, rfl⟩
              have rA1 : Row A1 (w1.heap.size + 1) #[.int .i64 N, .int .i64 0, .int .i64 0, .string ⟨#[]⟩] 81 := by rw [← hA1]; exact hn5.set 0 _
              have sA1 : St w A1 d D5 := by rw [← hA1]; exact st_own hs5 hn5 (by omega) 0 _
              have tA1_x := hx5.other (w1.heap.size + 1) 0 (.int .i64 N) (by omega)
              rw [hA1] at tA1_x
              have tA1_w := hw5.other (w1.heap.size + 1) 0 (.int .i64 N) (by omega)
              rw [hA1] at tA1_w
              have Ac1 : A1.cell? ⟨w1.heap.size + 1, 1, none⟩ = some (.int .i64 0) := rA1.cell 1
              have Af1 := rA1.frozen 1
              obtain ⟨A2, hA2⟩ : ∃ V, A1.setCell ⟨w1.heap.size + 1, 1, none⟩ (.int .i64 xt) = V := ⟨_, rfl⟩
              have rA2 : Row A2 (w1.heap.size + 1) #[.int .i64 N, .int .i64 xt, .int .i64 0, .string ⟨#[]⟩] 81 := by rw [← hA2]; exact rA1.set 1 _
              have sA2 : St w A2 d D5 := by rw [← hA2]; exact st_own sA1 rA1 (by omega) 1 _
              have tA2_x := tA1_x.other (w1.heap.size + 1) 1 (.int .i64 xt) (by omega)
              rw [hA2] at tA2_x
              have tA2_w := tA1_w.other (w1.heap.size + 1) 1 (.int .i64 xt) (by omega)
              rw [hA2] at tA2_w
              have Ac2 : A2.cell? ⟨w1.heap.size + 1, 2, none⟩ = some (.int .i64 0) := rA2.cell 2
              have Af2 := rA2.frozen 2
              obtain ⟨A3, hA3⟩ : ∃ V, A2.setCell ⟨w1.heap.size + 1, 2, none⟩ (.int .i64 xh) = V := ⟨_, rfl⟩
              have rA3 : Row A3 (w1.heap.size + 1) #[.int .i64 N, .int .i64 xt, .int .i64 xh, .string ⟨#[]⟩] 81 := by rw [← hA3]; exact rA2.set 2 _
              have sA3 : St w A3 d D5 := by rw [← hA3]; exact st_own sA2 rA2 (by omega) 2 _
              have tA3_x := tA2_x.other (w1.heap.size + 1) 2 (.int .i64 xh) (by omega)
              rw [hA3] at tA3_x
              have tA3_w := tA2_w.other (w1.heap.size + 1) 2 (.int .i64 xh) (by omega)
              rw [hA3] at tA3_w
              have Ac3 : A3.cell? ⟨w1.heap.size + 1, 3, none⟩ = some (.string ⟨#[]⟩) := rA3.cell 3
              have Af3 := rA3.frozen 3
              obtain ⟨A4, hA4⟩ : ∃ V, A3.setCell ⟨w1.heap.size + 1, 3, none⟩ (.string xn) = V := ⟨_, rfl⟩
              have rA4 : Row A4 (w1.heap.size + 1) #[.int .i64 N, .int .i64 xt, .int .i64 xh, .string xn] 81 := by rw [← hA4]; exact rA3.set 3 _
              have sA4 : St w A4 d D5 := by rw [← hA4]; exact st_own sA3 rA3 (by omega) 3 _
              have tA4_x := tA3_x.other (w1.heap.size + 1) 3 (.string xn) (by omega)
              rw [hA4] at tA4_x
              have tA4_w := tA3_w.other (w1.heap.size + 1) 3 (.string xn) (by omega)
              rw [hA4] at tA4_w
              obtain ⟨fv5, q0, q1, q2, q3, q4, hf5, _, fa5, fc5, hfv5⟩ := (HL.out.later sA4.below).elim (fun h => absurd h.1 (by intro e; rw [e] at hm; simp at hm; omega)) (fun h => by
                obtain ⟨g', o', c', hv, hc⟩ := h
                cases hv
                exact hc k _ hx)
              simp only at q4 hfv5 hf5
              subst hfv5
              have hcrash := crash_keep sA4 (.slice fa5 xs.length fc5) xs ⟨hf5.1, fun g o n c hv hn => .inl (hf5.2.1 g o n c hv hn), hf5.2.2⟩ (by have := HK.out.2.2.2.2; omega)
              rw [hcr] at hcrash
              have H5 := Ythkjodlddhdeiaa.base.Shut.mk (And.intro hcrash (And.intro tA4_w rA4))
              clear q0 q1 q2 q3 hf5 hcrash hcr hqq hsz hs5 hk5
              clear rA1 rA2 rA3 rA4 sA1 sA2 sA3 sA4 tA1_w tA1_x tA2_w tA2_x tA3_w tA3_x tA4_w tA4_x hx5 hw5 hn5
              go_wp2_with fail
              refine H5.out.1.mono ?_
              rintro e w6 ⟨rfl, hs6, hk6⟩
              have hw6 := hk6 _ _ H5.out.2.1
              have hn6 := hk6 _ _ H5.out.2.2
              have hread := label_st hs6 (Nat.le_refl 2)
              rw [hy] at hread
              have H6 := Ythkjodlddhdeiaa.base.Shut.mk (And.intro hread (And.intro hs6 (And.intro hw6 hn6)))
              clear hs6 hk6 hw6 hn6 hread q4
              clear Ac0 Ac1 Ac2 Ac3 Af0 Af1 Af2 Af3 x0 x1 x2 x3 hA1 hA2 hA3 hA4
              go_wp2_with fail
              refine H6.out.1.mono ?_
              rintro e w7 ⟨rfl, hb7⟩
              have HS7 := Ythkjodlddhdeiaa.base.Shut.mk (H6.out.2.2.2.below hb7).lt
              have hw7 := (H6.out.2.2.1.below hb7).alloc (.cells #[.int .i64 0, .int .i64 0, .int .i64 0, .string ⟨#[]⟩] 81)
              have hn7 := (H6.out.2.2.2.below hb7).alloc (.cells #[.int .i64 0, .int .i64 0, .int .i64 0, .string ⟨#[]⟩] 81)
              have hs7 := H6.out.2.1.mono (newer hb7 (.cells #[.int .i64 0, .int .i64 0, .int .i64 0, .string ⟨#[]⟩] 81))
              have hy7 := Row.new w7 #[.int .i64 0, .int .i64 0, .int .i64 0, .string ⟨#[]⟩] 81
              have e0 : (w7.alloc (.cells #[.int .i64 0, .int .i64 0, .int .i64 0, .string ⟨#[]⟩] 81)).cell? ⟨w1.heap.size, 0, none⟩ = some (.int .i64 0) := hw7.cell 0
              have e1 : (w7.alloc (.cells #[.int .i64 0, .int .i64 0, .int .i64 0, .string ⟨#[]⟩] 81)).cell? ⟨w1.heap.size, 1, none⟩ = some (.int .i64 0) := hw7.cell 1
              have e2 : (w7.alloc (.cells #[.int .i64 0, .int .i64 0, .int .i64 0, .string ⟨#[]⟩] 81)).cell? ⟨w1.heap.size, 2, none⟩ = some (.int .i64 0) := hw7.cell 2
              have e3 : (w7.alloc (.cells #[.int .i64 0, .int .i64 0, .int .i64 0, .string ⟨#[]⟩] 81)).cell? ⟨w1.heap.size, 3, none⟩ = some (.string ⟨#[]⟩) := hw7.cell 3
              have n0 : (w7.alloc (.cells #[.int .i64 0, .int .i64 0, .int .i64 0, .string ⟨#[]⟩] 81)).cell? ⟨w1.heap.size + 1, 0, none⟩ = some (.int .i64 N) := hn7.cell 0
              have n1 : (w7.alloc (.cells #[.int .i64 0, .int .i64 0, .int .i64 0, .string ⟨#[]⟩] 81)).cell? ⟨w1.heap.size + 1, 1, none⟩ = some (.int .i64 xt) := hn7.cell 1
              have n2 : (w7.alloc (.cells #[.int .i64 0, .int .i64 0, .int .i64 0, .string ⟨#[]⟩] 81)).cell? ⟨w1.heap.size + 1, 2, none⟩ = some (.int .i64 xh) := hn7.cell 2
              have n3 : (w7.alloc (.cells #[.int .i64 0, .int .i64 0, .int .i64 0, .string ⟨#[]⟩] 81)).cell? ⟨w1.heap.size + 1, 3, none⟩ = some (.string xn) := hn7.cell 3
              have H7 := Ythkjodlddhdeiaa.base.Shut.mk (And.intro hw7 (And.intro hn7 (And.intro hs7 hy7)))
              clear hb7 hw7 hn7 hs7 hy7
              go_wp2
              obtain ⟨hw7, hn7, hs7, hy7⟩ := H7.out
              have hqq := HQ.out
              have hsz := HSZ.out
              have hl8 := HS7.out
              clear H7 e0 e1 e2 e3 n0 n1 n2 n3
              have Cc0 : (w7.alloc (.cells #[.int .i64 0, .int .i64 0, .int .i64 0, .string ⟨#[]⟩] 81)).cell? ⟨w1.heap.size, 0, none⟩ = some (.int .i64 0) := hw7.cell 0
              have Cf0 := hw7.frozen 0
              obtain ⟨C1, hC1⟩ : ∃ V, (w7.alloc (.cells #[.int .i64 0, .int .i64 0, .int .i64 0, .string ⟨#[]⟩] 81)).setCell ⟨w1.heap.size, 0, none⟩ (.int .i64 0) = V := ⟨_, rfl⟩
              have rC1 : Row C1 (w1.heap.size) #[.int .i64 0, .int .i64 0, .int .i64 0, .string ⟨#[]⟩] 81 := by rw [← hC1]; exact hw7.set 0 _
              have sC1 : St w C1 d (keyD F') := by rw [← hC1]; exact st_own hs7 hw7 (by omega) 0 _
              have tC1_n := hn7.other (w1.heap.size) 0 (.int .i64 0) (by omega)
              rw [hC1] at tC1_n
              have tC1_y := hy7.other (w1.heap.size) 0 (.int .i64 0) (by omega)
              rw [hC1] at tC1_y
              have Cc1 : C1.cell? ⟨w1.heap.size, 1, none⟩ = some (.int .i64 0) := rC1.cell 1
              have Cf1 := rC1.frozen 1
              obtain ⟨C2, hC2⟩ : ∃ V, C1.setCell ⟨w1.heap.size, 1, none⟩ (.int .i64 0) = V := ⟨_, rfl⟩
              have rC2 : Row C2 (w1.heap.size) #[.int .i64 0, .int .i64 0, .int .i64 0, .string ⟨#[]⟩] 81 := by rw [← hC2]; exact rC1.set 1 _
              have sC2 : St w C2 d (keyD F') := by rw [← hC2]; exact st_own sC1 rC1 (by omega) 1 _
              have tC2_n := tC1_n.other (w1.heap.size) 1 (.int .i64 0) (by omega)
              rw [hC2] at tC2_n
              have tC2_y := tC1_y.other (w1.heap.size) 1 (.int .i64 0) (by omega)
              rw [hC2] at tC2_y
              have Cc2 : C2.cell? ⟨w1.heap.size, 2, none⟩ = some (.int .i64 0) := rC2.cell 2
              have Cf2 := rC2.frozen 2
              obtain ⟨C3, hC3⟩ : ∃ V, C2.setCell ⟨w1.heap.size, 2, none⟩ (.int .i64 0) = V := ⟨_, rfl⟩
              have rC3 : Row C3 (w1.heap.size) #[.int .i64 0, .int .i64 0, .int .i64 0, .string ⟨#[]⟩] 81 := by rw [← hC3]; exact rC2.set 2 _
              have sC3 : St w C3 d (keyD F') := by rw [← hC3]; exact st_own sC2 rC2 (by omega) 2 _
              have tC3_n := tC2_n.other (w1.heap.size) 2 (.int .i64 0) (by omega)
              rw [hC3] at tC3_n
              have tC3_y := tC2_y.other (w1.heap.size) 2 (.int .i64 0) (by omega)
              rw [hC3] at tC3_y
              have Cc3 : C3.cell? ⟨w1.heap.size, 3, none⟩ = some (.string ⟨#[]⟩) := rC3.cell 3
              have Cf3 := rC3.frozen 3
              obtain ⟨C4, hC4⟩ : ∃ V, C3.setCell ⟨w1.heap.size, 3, none⟩ (.string ⟨#[]⟩) = V := ⟨_, rfl⟩
              have rC4 : Row C4 (w1.heap.size) #[.int .i64 0, .int .i64 0, .int .i64 0, .string ⟨#[]⟩] 81 := by rw [← hC4]; exact rC3.set 3 _
              have sC4 : St w C4 d (keyD F') := by rw [← hC4]; exact st_own sC3 rC3 (by omega) 3 _
              have tC4_n := tC3_n.other (w1.heap.size) 3 (.string ⟨#[]⟩) (by omega)
              rw [hC4] at tC4_n
              have tC4_y := tC3_y.other (w1.heap.size) 3 (.string ⟨#[]⟩) (by omega)
              rw [hC4] at tC4_y
              have y0 : C4.cell? ⟨w7.heap.size, 0, none⟩ = some (.int .i64 0) := tC4_y.cell 0
              have y1 : C4.cell? ⟨w7.heap.size, 1, none⟩ = some (.int .i64 0) := tC4_y.cell 1
              have y2 : C4.cell? ⟨w7.heap.size, 2, none⟩ = some (.int .i64 0) := tC4_y.cell 2
              have y3 : C4.cell? ⟨w7.heap.size, 3, none⟩ = some (.string ⟨#[]⟩) := tC4_y.cell 3
              have Ec0 : C4.cell? ⟨w1.heap.size + 1, 0, none⟩ = some (.int .i64 N) := tC4_n.cell 0
              have Ef0 := tC4_n.frozen 0
              obtain ⟨E1, hE1⟩ : ∃ V, C4.setCell ⟨w1.heap.size + 1, 0, none⟩ (.int .i64 0) = V := ⟨_, rfl⟩
              have rE1 : Row E1 (w1.heap.size + 1) #[.int .i64 0, .int .i64 xt, .int .i64 xh, .string xn] 81 := by rw [← hE1]; exact tC4_n.set 0 _
              have sE1 : St w E1 d (keyD F') := by rw [← hE1]; exact st_own sC4 tC4_n (by omega) 0 _
              have tE1_w := rC4.other (w1.heap.size + 1) 0 (.int .i64 0) (by omega)
              rw [hE1] at tE1_w
              have tE1_y := tC4_y.other (w1.heap.size + 1) 0 (.int .i64 0) (by omega)
              rw [hE1] at tE1_y
              have Ec1 : E1.cell? ⟨w1.heap.size + 1, 1, none⟩ = some (.int .i64 xt) := rE1.cell 1
              have Ef1 := rE1.frozen 1
              obtain ⟨E2, hE2⟩ : ∃ V, E1.setCell ⟨w1.heap.size + 1, 1, none⟩ (.int .i64 0) = V := ⟨_, rfl⟩
              have rE2 : Row E2 (w1.heap.size + 1) #[.int .i64 0, .int .i64 0, .int .i64 xh, .string xn] 81 := by rw [← hE2]; exact rE1.set 1 _
              have sE2 : St w E2 d (keyD F') := by rw [← hE2]; exact st_own sE1 rE1 (by omega) 1 _
              have tE2_w := tE1_w.other (w1.heap.size + 1) 1 (.int .i64 0) (by omega)
              rw [hE2] at tE2_w
              have tE2_y := tE1_y.other (w1.heap.size + 1) 1 (.int .i64 0) (by omega)
              rw [hE2] at tE2_y
              have Ec2 : E2.cell? ⟨w1.heap.size + 1, 2, none⟩ = some (.int .i64 xh) := rE2.cell 2
              have Ef2 := rE2.frozen 2
              obtain ⟨E3, hE3⟩ : ∃ V, E2.setCell ⟨w1.heap.size + 1, 2, none⟩ (.int .i64 0) = V := ⟨_, rfl⟩
              have rE3 : Row E3 (w1.heap.size + 1) #[.int .i64 0, .int .i64 0, .int .i64 0, .string xn] 81 := by rw [← hE3]; exact rE2.set 2 _
              have sE3 : St w E3 d (keyD F') := by rw [← hE3]; exact st_own sE2 rE2 (by omega) 2 _
              have tE3_w := tE2_w.other (w1.heap.size + 1) 2 (.int .i64 0) (by omega)
              rw [hE3] at tE3_w
              have tE3_y := tE2_y.other (w1.heap.size + 1) 2 (.int .i64 0) (by omega)
              rw [hE3] at tE3_y
              have Ec3 : E3.cell? ⟨w1.heap.size + 1, 3, none⟩ = some (.string xn) := rE3.cell 3
              have Ef3 := rE3.frozen 3
              obtain ⟨E4, hE4⟩ : ∃ V, E3.setCell ⟨w1.heap.size + 1, 3, none⟩ (.string ⟨#[]⟩) = V := ⟨_, rfl⟩
              have rE4 : Row E4 (w1.heap.size + 1) #[.int .i64 0, .int .i64 0, .int .i64 0, .string ⟨#[]⟩] 81 := by rw [← hE4]; exact rE3.set 3 _
              have sE4 : St w E4 d (keyD F') := by rw [← hE4]; exact st_own sE3 rE3 (by omega) 3 _
              have tE4_w := tE3_w.other (w1.heap.size + 1) 3 (.string ⟨#[]⟩) (by omega)
              rw [hE4] at tE4_w
              have tE4_y := tE3_y.other (w1.heap.size + 1) 3 (.string ⟨#[]⟩) (by omega)
              rw [hE4] at tE4_y
              have hfin : Ythkjodlddhdeiaa.base.Shut (Turn w w1 E4 d (k + 1) F') := ⟨by rw [Int.natCast_succ]; exact hinv', sE4, by rw [hy]; exact tE4_w, by rw [hy]; exact rE4⟩
              clear rC1 rC2 rC3 rC4 rE1 rE2 rE3 rE4 sC1 sC2 sC3 sC4 sE1 sE2 sE3 sE4 tC1_n tC1_y tC2_n tC2_y tC3_n tC3_y tC4_n tC4_y tE1_w tE1_y tE2_w tE2_y tE3_w tE3_y tE4_w tE4_y hw7 hn7 hs7 hy7
              go_big_region
              clear Cc0 Cc1 Cc2 Cc3 Cf0 Cf1 Cf2 Cf3 Ec0 Ec1 Ec2 Ec3 Ef0 Ef1 Ef2 Ef3 hC1 hC2 hC3 hC4 hE1 hE2 hE3 hE4 y0 y1 y2 y3 hqq hsz hl8
              go_wp2
              go_roundw
              case rel => exact ⟨k + 1, by omega, by go_num, ⟨⟨F', hfin.out.drew⟩⟩⟩
              case measure => simp [intOf]; omega

            · have hN0 : ¬ N = 0 := by omega
              have hy0 : ¬ yt = 0 := by simp only at hyt; omega
              have hNy : ¬ N = yt := by simp only at hyN; omega
              have hyNe : ¬ yt = N := by simp only at hyN; omega
              have hqq := HQ.out
              have hsz := HSZ.out
              have x0 : w4.cell? ⟨wr.heap.size, 0, none⟩ = some (.int .i64 N) := HK.out.2.1.cell 0
              have x1 : w4.cell? ⟨wr.heap.size, 1, none⟩ = some (.int .i64 xt) := HK.out.2.1.cell 1
              have x2 : w4.cell? ⟨wr.heap.size, 2, none⟩ = some (.int .i64 xh) := HK.out.2.1.cell 2
              have x3 : w4.cell? ⟨wr.heap.size, 3, none⟩ = some (.string xn) := HK.out.2.1.cell 3
              go_wp2_with fail
              refine HK.out.1.mono ?_
              rintro e w5 ⟨rfl, hs5, hk5⟩
              have hx5 := hk5 _ _ HK.out.2.1
              have hw5 := hk5 _ _ HK.out.2.2.1
              have hn5 := hk5 _ _ HK.out.2.2.2.1
              clear x0 x1 x2 x3
              have x0 : w5.cell? ⟨wr.heap.size, 0, none⟩ = some (.int .i64 N) := hx5.cell 0
              have x1 : w5.cell? ⟨wr.heap.size, 1, none⟩ = some (.int .i64 xt) := hx5.cell 1
              have x2 : w5.cell? ⟨wr.heap.size, 2, none⟩ = some (.int .i64 xh) := hx5.cell 2
              have x3 : w5.cell? ⟨wr.heap.size, 3, none⟩ = some (.string xn) := hx5.cell 3
              have Ac0 : w5.cell? ⟨w1.heap.size + 1, 0, none⟩ = some (.int .i64 yt) := hn5.cell 0
              have Af0 := hn5.frozen 0
              obtain ⟨A1, hA1⟩ : ∃ V, w5.setCell ⟨w1.heap.size + 1, 0, none⟩ (.int .i64 N) = V := ⟨_, rfl⟩
              have rA1 : Row A1 (w1.heap.size + 1) #[.int .i64 N, .int .i64 ya, .int .i64 yh, .string yn] 81 := by rw [← hA1]; exact hn5.set 0 _
              have sA1 : St w A1 d D5 := by rw [← hA1]; exact st_own hs5 hn5 (by omega) 0 _
              have tA1_x := hx5.other (w1.heap.size + 1) 0 (.int .i64 N) (by omega)
              rw [hA1] at tA1_x
              have tA1_w := hw5.other (w1.heap.size + 1) 0 (.int .i64 N) (by omega)
              rw [hA1] at tA1_w
              have Ac1 : A1.cell? ⟨w1.heap.size + 1, 1, none⟩ = some (.int .i64 ya) := rA1.cell 1
              have Af1 := rA1.frozen 1
              obtain ⟨A2, hA2⟩ : ∃ V, A1.setCell ⟨w1.heap.size + 1, 1, none⟩ (.int .i64 xt) = V := ⟨_, rfl⟩
              have rA2 : Row A2 (w1.heap.size + 1) #[.int .i64 N, .int .i64 xt, .int .i64 yh, .string yn] 81 := by rw [← hA2]; exact rA1.set 1 _
              have sA2 : St w A2 d D5 := by rw [← hA2]; exact st_own sA1 rA1 (by omega) 1 _
              have tA2_x := tA1_x.other (w1.heap.size + 1) 1 (.int .i64 xt) (by omega)
              rw [hA2] at tA2_x
              have tA2_w := tA1_w.other (w1.heap.size + 1) 1 (.int .i64 xt) (by omega)
              rw [hA2] at tA2_w
              have Ac2 : A2.cell? ⟨w1.heap.size + 1, 2, none⟩ = some (.int .i64 yh) := rA2.cell 2
              have Af2 := rA2.frozen 2
              obtain ⟨A3, hA3⟩ : ∃ V, A2.setCell ⟨w1.heap.size + 1, 2, none⟩ (.int .i64 xh) = V := ⟨_, rfl⟩
              have rA3 : Row A3 (w1.heap.size + 1) #[.int .i64 N, .int .i64 xt, .int .i64 xh, .string yn] 81 := by rw [← hA3]; exact rA2.set 2 _
              have sA3 : St w A3 d D5 := by rw [← hA3]; exact st_own sA2 rA2 (by omega) 2 _
              have tA3_x := tA2_x.other (w1.heap.size + 1) 2 (.int .i64 xh) (by omega)
              rw [hA3] at tA3_x
              have tA3_w := tA2_w.other (w1.heap.size + 1) 2 (.int .i64 xh) (by omega)
              rw [hA3] at tA3_w
              have Ac3 : A3.cell? ⟨w1.heap.size + 1, 3, none⟩ = some (.string yn) := rA3.cell 3
              have Af3 := rA3.frozen 3
              obtain ⟨A4, hA4⟩ : ∃ V, A3.setCell ⟨w1.heap.size + 1, 3, none⟩ (.string xn) = V := ⟨_, rfl⟩
              have rA4 : Row A4 (w1.heap.size + 1) #[.int .i64 N, .int .i64 xt, .int .i64 xh, .string xn] 81 := by rw [← hA4]; exact rA3.set 3 _
              have sA4 : St w A4 d D5 := by rw [← hA4]; exact st_own sA3 rA3 (by omega) 3 _
              have tA4_x := tA3_x.other (w1.heap.size + 1) 3 (.string xn) (by omega)
              rw [hA4] at tA4_x
              have tA4_w := tA3_w.other (w1.heap.size + 1) 3 (.string xn) (by omega)
              rw [hA4] at tA4_w
              obtain ⟨fv5, q0, q1, q2, q3, q4, hf5, _, fa5, fc5, hfv5⟩ := (HL.out.later sA4.below).elim (fun h => absurd h.1 (by intro e; rw [e] at hm; simp at hm; omega)) (fun h => by
                obtain ⟨g', o', c', hv, hc⟩ := h
                cases hv
                exact hc k _ hx)
              simp only at q4 hfv5 hf5
              subst hfv5
              have hcrash := crash_keep sA4 (.slice fa5 xs.length fc5) xs ⟨hf5.1, fun g o n c hv hn => .inl (hf5.2.1 g o n c hv hn), hf5.2.2⟩ (by have := HK.out.2.2.2.2; omega)
              rw [hcr] at hcrash
              have H5 := Ythkjodlddhdeiaa.base.Shut.mk (And.intro hcrash (And.intro tA4_w rA4))
              clear q0 q1 q2 q3 hf5 hcrash hcr hqq hsz hs5 hk5
              clear rA1 rA2 rA3 rA4 sA1 sA2 sA3 sA4 tA1_w tA1_x tA2_w tA2_x tA3_w tA3_x tA4_w tA4_x hx5 hw5 hn5
              go_wp2_with fail
              refine H5.out.1.mono ?_
              rintro e w6 ⟨rfl, hs6, hk6⟩
              have hw6 := hk6 _ _ H5.out.2.1
              have hn6 := hk6 _ _ H5.out.2.2
              have hread := label_st hs6 (Nat.le_refl 2)
              rw [hy] at hread
              have H6 := Ythkjodlddhdeiaa.base.Shut.mk (And.intro hread (And.intro hs6 (And.intro hw6 hn6)))
              clear hs6 hk6 hw6 hn6 hread q4
              clear Ac0 Ac1 Ac2 Ac3 Af0 Af1 Af2 Af3 x0 x1 x2 x3 hA1 hA2 hA3 hA4
              go_wp2_with fail
              refine H6.out.1.mono ?_
              rintro e w7 ⟨rfl, hb7⟩
              have HS7 := Ythkjodlddhdeiaa.base.Shut.mk (H6.out.2.2.2.below hb7).lt
              have hw7 := (H6.out.2.2.1.below hb7).alloc (.cells #[.int .i64 yt, .int .i64 ya, .int .i64 yh, .string yn] 81)
              have hn7 := (H6.out.2.2.2.below hb7).alloc (.cells #[.int .i64 yt, .int .i64 ya, .int .i64 yh, .string yn] 81)
              have hs7 := H6.out.2.1.mono (newer hb7 (.cells #[.int .i64 yt, .int .i64 ya, .int .i64 yh, .string yn] 81))
              have hy7 := Row.new w7 #[.int .i64 yt, .int .i64 ya, .int .i64 yh, .string yn] 81
              have e0 : (w7.alloc (.cells #[.int .i64 yt, .int .i64 ya, .int .i64 yh, .string yn] 81)).cell? ⟨w1.heap.size, 0, none⟩ = some (.int .i64 yt) := hw7.cell 0
              have e1 : (w7.alloc (.cells #[.int .i64 yt, .int .i64 ya, .int .i64 yh, .string yn] 81)).cell? ⟨w1.heap.size, 1, none⟩ = some (.int .i64 ya) := hw7.cell 1
              have e2 : (w7.alloc (.cells #[.int .i64 yt, .int .i64 ya, .int .i64 yh, .string yn] 81)).cell? ⟨w1.heap.size, 2, none⟩ = some (.int .i64 yh) := hw7.cell 2
              have e3 : (w7.alloc (.cells #[.int .i64 yt, .int .i64 ya, .int .i64 yh, .string yn] 81)).cell? ⟨w1.heap.size, 3, none⟩ = some (.string yn) := hw7.cell 3
              have n0 : (w7.alloc (.cells #[.int .i64 yt, .int .i64 ya, .int .i64 yh, .string yn] 81)).cell? ⟨w1.heap.size + 1, 0, none⟩ = some (.int .i64 N) := hn7.cell 0
              have n1 : (w7.alloc (.cells #[.int .i64 yt, .int .i64 ya, .int .i64 yh, .string yn] 81)).cell? ⟨w1.heap.size + 1, 1, none⟩ = some (.int .i64 xt) := hn7.cell 1
              have n2 : (w7.alloc (.cells #[.int .i64 yt, .int .i64 ya, .int .i64 yh, .string yn] 81)).cell? ⟨w1.heap.size + 1, 2, none⟩ = some (.int .i64 xh) := hn7.cell 2
              have n3 : (w7.alloc (.cells #[.int .i64 yt, .int .i64 ya, .int .i64 yh, .string yn] 81)).cell? ⟨w1.heap.size + 1, 3, none⟩ = some (.string xn) := hn7.cell 3
              have H7 := Ythkjodlddhdeiaa.base.Shut.mk (And.intro hw7 (And.intro hn7 (And.intro hs7 hy7)))
              clear hb7 hw7 hn7 hs7 hy7
              go_wp2
              obtain ⟨hw7, hn7, hs7, hy7⟩ := H7.out
              have hqq := HQ.out
              have hsz := HSZ.out
              have hl8 := HS7.out
              clear H7 e0 e1 e2 e3 n0 n1 n2 n3
              have Cc0 : (w7.alloc (.cells #[.int .i64 yt, .int .i64 ya, .int .i64 yh, .string yn] 81)).cell? ⟨w1.heap.size, 0, none⟩ = some (.int .i64 yt) := hw7.cell 0
              have Cf0 := hw7.frozen 0
              obtain ⟨C1, hC1⟩ : ∃ V, (w7.alloc (.cells #[.int .i64 yt, .int .i64 ya, .int .i64 yh, .string yn] 81)).setCell ⟨w1.heap.size, 0, none⟩ (.int .i64 yt) = V := ⟨_, rfl⟩
              have rC1 : Row C1 (w1.heap.size) #[.int .i64 yt, .int .i64 ya, .int .i64 yh, .string yn] 81 := by rw [← hC1]; exact hw7.set 0 _
              have sC1 : St w C1 d (keyD F') := by rw [← hC1]; exact st_own hs7 hw7 (by omega) 0 _
              have tC1_n := hn7.other (w1.heap.size) 0 (.int .i64 yt) (by omega)
              rw [hC1] at tC1_n
              have tC1_y := hy7.other (w1.heap.size) 0 (.int .i64 yt) (by omega)
              rw [hC1] at tC1_y
              have Cc1 : C1.cell? ⟨w1.heap.size, 1, none⟩ = some (.int .i64 ya) := rC1.cell 1
              have Cf1 := rC1.frozen 1
              obtain ⟨C2, hC2⟩ : ∃ V, C1.setCell ⟨w1.heap.size, 1, none⟩ (.int .i64 ya) = V := ⟨_, rfl⟩
              have rC2 : Row C2 (w1.heap.size) #[.int .i64 yt, .int .i64 ya, .int .i64 yh, .string yn] 81 := by rw [← hC2]; exact rC1.set 1 _
              have sC2 : St w C2 d (keyD F') := by rw [← hC2]; exact st_own sC1 rC1 (by omega) 1 _
              have tC2_n := tC1_n.other (w1.heap.size) 1 (.int .i64 ya) (by omega)
              rw [hC2] at tC2_n
              have tC2_y := tC1_y.other (w1.heap.size) 1 (.int .i64 ya) (by omega)
              rw [hC2] at tC2_y
              have Cc2 : C2.cell? ⟨w1.heap.size, 2, none⟩ = some (.int .i64 yh) := rC2.cell 2
              have Cf2 := rC2.frozen 2
              obtain ⟨C3, hC3⟩ : ∃ V, C2.setCell ⟨w1.heap.size, 2, none⟩ (.int .i64 yh) = V := ⟨_, rfl⟩
              have rC3 : Row C3 (w1.heap.size) #[.int .i64 yt, .int .i64 ya, .int .i64 yh, .string yn] 81 := by rw [← hC3]; exact rC2.set 2 _
              have sC3 : St w C3 d (keyD F') := by rw [← hC3]; exact st_own sC2 rC2 (by omega) 2 _
              have tC3_n := tC2_n.other (w1.heap.size) 2 (.int .i64 yh) (by omega)
              rw [hC3] at tC3_n
              have tC3_y := tC2_y.other (w1.heap.size) 2 (.int .i64 yh) (by omega)
              rw [hC3] at tC3_y
              have Cc3 : C3.cell? ⟨w1.heap.size, 3, none⟩ = some (.string yn) := rC3.cell 3
              have Cf3 := rC3.frozen 3
              obtain ⟨C4, hC4⟩ : ∃ V, C3.setCell ⟨w1.heap.size, 3, none⟩ (.string yn) = V := ⟨_, rfl⟩
              have rC4 : Row C4 (w1.heap.size) #[.int .i64 yt, .int .i64 ya, .int .i64 yh, .string yn] 81 := by rw [← hC4]; exact rC3.set 3 _
              have sC4 : St w C4 d (keyD F') := by rw [← hC4]; exact st_own sC3 rC3 (by omega) 3 _
              have tC4_n := tC3_n.other (w1.heap.size) 3 (.string yn) (by omega)
              rw [hC4] at tC4_n
              have tC4_y := tC3_y.other (w1.heap.size) 3 (.string yn) (by omega)
              rw [hC4] at tC4_y
              have y0 : C4.cell? ⟨w7.heap.size, 0, none⟩ = some (.int .i64 yt) := tC4_y.cell 0
              have y1 : C4.cell? ⟨w7.heap.size, 1, none⟩ = some (.int .i64 ya) := tC4_y.cell 1
              have y2 : C4.cell? ⟨w7.heap.size, 2, none⟩ = some (.int .i64 yh) := tC4_y.cell 2
              have y3 : C4.cell? ⟨w7.heap.size, 3, none⟩ = some (.string yn) := tC4_y.cell 3
              have Ec0 : C4.cell? ⟨w1.heap.size + 1, 0, none⟩ = some (.int .i64 N) := tC4_n.cell 0
              have Ef0 := tC4_n.frozen 0
              obtain ⟨E1, hE1⟩ : ∃ V, C4.setCell ⟨w1.heap.size + 1, 0, none⟩ (.int .i64 yt) = V := ⟨_, rfl⟩
              have rE1 : Row E1 (w1.heap.size + 1) #[.int .i64 yt, .int .i64 xt, .int .i64 xh, .string xn] 81 := by rw [← hE1]; exact tC4_n.set 0 _
              have sE1 : St w E1 d (keyD F') := by rw [← hE1]; exact st_own sC4 tC4_n (by omega) 0 _
              have tE1_w := rC4.other (w1.heap.size + 1) 0 (.int .i64 yt) (by omega)
              rw [hE1] at tE1_w
              have tE1_y := tC4_y.other (w1.heap.size + 1) 0 (.int .i64 yt) (by omega)
              rw [hE1] at tE1_y
              have Ec1 : E1.cell? ⟨w1.heap.size + 1, 1, none⟩ = some (.int .i64 xt) := rE1.cell 1
              have Ef1 := rE1.frozen 1
              obtain ⟨E2, hE2⟩ : ∃ V, E1.setCell ⟨w1.heap.size + 1, 1, none⟩ (.int .i64 ya) = V := ⟨_, rfl⟩
              have rE2 : Row E2 (w1.heap.size + 1) #[.int .i64 yt, .int .i64 ya, .int .i64 xh, .string xn] 81 := by rw [← hE2]; exact rE1.set 1 _
              have sE2 : St w E2 d (keyD F') := by rw [← hE2]; exact st_own sE1 rE1 (by omega) 1 _
              have tE2_w := tE1_w.other (w1.heap.size + 1) 1 (.int .i64 ya) (by omega)
              rw [hE2] at tE2_w
              have tE2_y := tE1_y.other (w1.heap.size + 1) 1 (.int .i64 ya) (by omega)
              rw [hE2] at tE2_y
              have Ec2 : E2.cell? ⟨w1.heap.size + 1, 2, none⟩ = some (.int .i64 xh) := rE2.cell 2
              have Ef2 := rE2.frozen 2
              obtain ⟨E3, hE3⟩ : ∃ V, E2.setCell ⟨w1.heap.size + 1, 2, none⟩ (.int .i64 yh) = V := ⟨_, rfl⟩
              have rE3 : Row E3 (w1.heap.size + 1) #[.int .i64 yt, .int .i64 ya, .int .i64 yh, .string xn] 81 := by rw [← hE3]; exact rE2.set 2 _
              have sE3 : St w E3 d (keyD F') := by rw [← hE3]; exact st_own sE2 rE2 (by omega) 2 _
              have tE3_w := tE2_w.other (w1.heap.size + 1) 2 (.int .i64 yh) (by omega)
              rw [hE3] at tE3_w
              have tE3_y := tE2_y.other (w1.heap.size + 1) 2 (.int .i64 yh) (by omega)
              rw [hE3] at tE3_y
              have Ec3 : E3.cell? ⟨w1.heap.size + 1, 3, none⟩ = some (.string xn) := rE3.cell 3
              have Ef3 := rE3.frozen 3
              obtain ⟨E4, hE4⟩ : ∃ V, E3.setCell ⟨w1.heap.size + 1, 3, none⟩ (.string yn) = V := ⟨_, rfl⟩
              have rE4 : Row E4 (w1.heap.size + 1) #[.int .i64 yt, .int .i64 ya, .int .i64 yh, .string yn] 81 := by rw [← hE4]; exact rE3.set 3 _
              have sE4 : St w E4 d (keyD F') := by rw [← hE4]; exact st_own sE3 rE3 (by omega) 3 _
              have tE4_w := tE3_w.other (w1.heap.size + 1) 3 (.string yn) (by omega)
              rw [hE4] at tE4_w
              have tE4_y := tE3_y.other (w1.heap.size + 1) 3 (.string yn) (by omega)
              rw [hE4] at tE4_y
              have hfin : Ythkjodlddhdeiaa.base.Shut (Turn w w1 E4 d (k + 1) F') := ⟨by rw [Int.natCast_succ]; exact hinv', sE4, by rw [hy]; exact tE4_w, by rw [hy]; exact rE4⟩
              clear rC1 rC2 rC3 rC4 rE1 rE2 rE3 rE4 sC1 sC2 sC3 sC4 sE1 sE2 sE3 sE4 tC1_n tC1_y tC2_n tC2_y tC3_n tC3_y tC4_n tC4_y tE1_w tE1_y tE2_w tE2_y tE3_w tE3_y tE4_w tE4_y hw7 hn7 hs7 hy7
              go_big_region
              clear Cc0 Cc1 Cc2 Cc3 Cf0 Cf1 Cf2 Cf3 Ec0 Ec1 Ec2 Ec3 Ef0 Ef1 Ef2 Ef3 hC1 hC2 hC3 hC4 hE1 hE2 hE3 hE4 y0 y1 y2 y3 hqq hsz hl8
              go_wp2
              go_roundw
              case rel => exact ⟨k + 1, by omega, by go_num, ⟨⟨F', hfin.out.drew⟩⟩⟩
              case measure => simp [intOf]; omega

          · obtain ⟨⟨yt, ya, yh, yn⟩, ke⟩ := Y
            have hN0 : ¬ N = 0 := by omega
            have hNy : ¬ N = yt := by
              rcases hlw with e | ⟨M, e, h1, h2⟩
              · cases e
                exact hN0
              · cases e
                simp only at h2
                omega
            clear hlw
            have hqq := HQ.out
            have hsz := HSZ.out
            have x0 : w4.cell? ⟨wr.heap.size, 0, none⟩ = some (.int .i64 N) := HK.out.2.1.cell 0
            have x1 : w4.cell? ⟨wr.heap.size, 1, none⟩ = some (.int .i64 xt) := HK.out.2.1.cell 1
            have x2 : w4.cell? ⟨wr.heap.size, 2, none⟩ = some (.int .i64 xh) := HK.out.2.1.cell 2
            have x3 : w4.cell? ⟨wr.heap.size, 3, none⟩ = some (.string xn) := HK.out.2.1.cell 3
            go_wp2_with fail
            refine HK.out.1.mono ?_
            rintro e w5 ⟨rfl, hs5, hk5⟩
            have hx5 := hk5 _ _ HK.out.2.1
            have hw5 := hk5 _ _ HK.out.2.2.1
            have hn5 := hk5 _ _ HK.out.2.2.2.1
            clear x0 x1 x2 x3
            have x0 : w5.cell? ⟨wr.heap.size, 0, none⟩ = some (.int .i64 N) := hx5.cell 0
            have x1 : w5.cell? ⟨wr.heap.size, 1, none⟩ = some (.int .i64 xt) := hx5.cell 1
            have x2 : w5.cell? ⟨wr.heap.size, 2, none⟩ = some (.int .i64 xh) := hx5.cell 2
            have x3 : w5.cell? ⟨wr.heap.size, 3, none⟩ = some (.string xn) := hx5.cell 3
            have Ac0 : w5.cell? ⟨w1.heap.size + 1, 0, none⟩ = some (.int .i64 yt) := hn5.cell 0
            have Af0 := hn5.frozen 0
            obtain ⟨A1, hA1⟩ : ∃ V, w5.setCell ⟨w1.heap.size + 1, 0, none⟩ (.int .i64 N) = V := ⟨_, rfl⟩
            have rA1 : Row A1 (w1.heap.size + 1) #[.int .i64 N, .int .i64 ya, .int .i64 yh, .string yn] 81 := by rw [← hA1]; exact hn5.set 0 _
            have sA1 : St w A1 d D5 := by rw [← hA1]; exact st_own hs5 hn5 (by omega) 0 _
            have tA1_x := hx5.other (w1.heap.size + 1) 0 (.int .i64 N) (by omega)
            rw [hA1] at tA1_x
            have tA1_w := hw5.other (w1.heap.size + 1) 0 (.int .i64 N) (by omega)
            rw [hA1] at tA1_w
            have Ac1 : A1.cell? ⟨w1.heap.size + 1, 1, none⟩ = some (.int .i64 ya) := rA1.cell 1
            have Af1 := rA1.frozen 1
            obtain ⟨A2, hA2⟩ : ∃ V, A1.setCell ⟨w1.heap.size + 1, 1, none⟩ (.int .i64 xt) = V := ⟨_, rfl⟩
            have rA2 : Row A2 (w1.heap.size + 1) #[.int .i64 N, .int .i64 xt, .int .i64 yh, .string yn] 81 := by rw [← hA2]; exact rA1.set 1 _
            have sA2 : St w A2 d D5 := by rw [← hA2]; exact st_own sA1 rA1 (by omega) 1 _
            have tA2_x := tA1_x.other (w1.heap.size + 1) 1 (.int .i64 xt) (by omega)
            rw [hA2] at tA2_x
            have tA2_w := tA1_w.other (w1.heap.size + 1) 1 (.int .i64 xt) (by omega)
            rw [hA2] at tA2_w
            have Ac2 : A2.cell? ⟨w1.heap.size + 1, 2, none⟩ = some (.int .i64 yh) := rA2.cell 2
            have Af2 := rA2.frozen 2
            obtain ⟨A3, hA3⟩ : ∃ V, A2.setCell ⟨w1.heap.size + 1, 2, none⟩ (.int .i64 xh) = V := ⟨_, rfl⟩
            have rA3 : Row A3 (w1.heap.size + 1) #[.int .i64 N, .int .i64 xt, .int .i64 xh, .string yn] 81 := by rw [← hA3]; exact rA2.set 2 _
            have sA3 : St w A3 d D5 := by rw [← hA3]; exact st_own sA2 rA2 (by omega) 2 _
            have tA3_x := tA2_x.other (w1.heap.size + 1) 2 (.int .i64 xh) (by omega)
            rw [hA3] at tA3_x
            have tA3_w := tA2_w.other (w1.heap.size + 1) 2 (.int .i64 xh) (by omega)
            rw [hA3] at tA3_w
            have Ac3 : A3.cell? ⟨w1.heap.size + 1, 3, none⟩ = some (.string yn) := rA3.cell 3
            have Af3 := rA3.frozen 3
            obtain ⟨A4, hA4⟩ : ∃ V, A3.setCell ⟨w1.heap.size + 1, 3, none⟩ (.string xn) = V := ⟨_, rfl⟩
            have rA4 : Row A4 (w1.heap.size + 1) #[.int .i64 N, .int .i64 xt, .int .i64 xh, .string xn] 81 := by rw [← hA4]; exact rA3.set 3 _
            have sA4 : St w A4 d D5 := by rw [← hA4]; exact st_own sA3 rA3 (by omega) 3 _
            have tA4_x := tA3_x.other (w1.heap.size + 1) 3 (.string xn) (by omega)
            rw [hA4] at tA4_x
            have tA4_w := tA3_w.other (w1.heap.size + 1) 3 (.string xn) (by omega)
            rw [hA4] at tA4_w
            obtain ⟨fv5, q0, q1, q2, q3, q4, hf5, _, fa5, fc5, hfv5⟩ := (HL.out.later sA4.below).elim (fun h => absurd h.1 (by intro e; rw [e] at hm; simp at hm; omega)) (fun h => by
              obtain ⟨g', o', c', hv, hc⟩ := h
              cases hv
              exact hc k _ hx)
            simp only at q4 hfv5 hf5
            subst hfv5
            have hcrash := crash_keep sA4 (.slice fa5 xs.length fc5) xs ⟨hf5.1, fun g o n c hv hn => .inl (hf5.2.1 g o n c hv hn), hf5.2.2⟩ (by have := HK.out.2.2.2.2; omega)
            rw [hcr] at hcrash
            have H5 := Ythkjodlddhdeiaa.base.Shut.mk (And.intro hcrash (And.intro tA4_w rA4))
            clear q0 q1 q2 q3 hf5 hcrash hcr hqq hsz hs5 hk5
            clear rA1 rA2 rA3 rA4 sA1 sA2 sA3 sA4 tA1_w tA1_x tA2_w tA2_x tA3_w tA3_x tA4_w tA4_x hx5 hw5 hn5
            go_wp2_with fail
            refine H5.out.1.mono ?_
            rintro e w6 ⟨rfl, hs6, hk6⟩
            have hw6 := hk6 _ _ H5.out.2.1
            have hn6 := hk6 _ _ H5.out.2.2
            have hread := label_st hs6 (Nat.le_refl 2)
            rw [hy] at hread
            have H6 := Ythkjodlddhdeiaa.base.Shut.mk (And.intro hread (And.intro hs6 (And.intro hw6 hn6)))
            clear hs6 hk6 hw6 hn6 hread q4
            clear Ac0 Ac1 Ac2 Ac3 Af0 Af1 Af2 Af3 x0 x1 x2 x3 hA1 hA2 hA3 hA4
            go_wp2_with fail
            refine H6.out.1.mono ?_
            rintro e w7 ⟨rfl, hb7⟩
            have HS7 := Ythkjodlddhdeiaa.base.Shut.mk (H6.out.2.2.2.below hb7).lt
            have hw7 := (H6.out.2.2.1.below hb7).alloc (.cells #[.int .i64 N, .int .i64 xt, .int .i64 xh, .string xn] 81)
            have hn7 := (H6.out.2.2.2.below hb7).alloc (.cells #[.int .i64 N, .int .i64 xt, .int .i64 xh, .string xn] 81)
            have hs7 := H6.out.2.1.mono (newer hb7 (.cells #[.int .i64 N, .int .i64 xt, .int .i64 xh, .string xn] 81))
            have hy7 := Row.new w7 #[.int .i64 N, .int .i64 xt, .int .i64 xh, .string xn] 81
            have e0 : (w7.alloc (.cells #[.int .i64 N, .int .i64 xt, .int .i64 xh, .string xn] 81)).cell? ⟨w1.heap.size, 0, none⟩ = some (.int .i64 yt) := hw7.cell 0
            have e1 : (w7.alloc (.cells #[.int .i64 N, .int .i64 xt, .int .i64 xh, .string xn] 81)).cell? ⟨w1.heap.size, 1, none⟩ = some (.int .i64 ya) := hw7.cell 1
            have e2 : (w7.alloc (.cells #[.int .i64 N, .int .i64 xt, .int .i64 xh, .string xn] 81)).cell? ⟨w1.heap.size, 2, none⟩ = some (.int .i64 yh) := hw7.cell 2
            have e3 : (w7.alloc (.cells #[.int .i64 N, .int .i64 xt, .int .i64 xh, .string xn] 81)).cell? ⟨w1.heap.size, 3, none⟩ = some (.string yn) := hw7.cell 3
            have n0 : (w7.alloc (.cells #[.int .i64 N, .int .i64 xt, .int .i64 xh, .string xn] 81)).cell? ⟨w1.heap.size + 1, 0, none⟩ = some (.int .i64 N) := hn7.cell 0
            have n1 : (w7.alloc (.cells #[.int .i64 N, .int .i64 xt, .int .i64 xh, .string xn] 81)).cell? ⟨w1.heap.size + 1, 1, none⟩ = some (.int .i64 xt) := hn7.cell 1
            have n2 : (w7.alloc (.cells #[.int .i64 N, .int .i64 xt, .int .i64 xh, .string xn] 81)).cell? ⟨w1.heap.size + 1, 2, none⟩ = some (.int .i64 xh) := hn7.cell 2
            have n3 : (w7.alloc (.cells #[.int .i64 N, .int .i64 xt, .int .i64 xh, .string xn] 81)).cell? ⟨w1.heap.size + 1, 3, none⟩ = some (.string xn) := hn7.cell 3
            have H7 := Ythkjodlddhdeiaa.base.Shut.mk (And.intro hw7 (And.intro hn7 (And.intro hs7 hy7)))
            clear hb7 hw7 hn7 hs7 hy7
            go_wp2
            obtain ⟨hw7, hn7, hs7, hy7⟩ := H7.out
            have hqq := HQ.out
            have hsz := HSZ.out
            have hl8 := HS7.out
            clear H7 e0 e1 e2 e3 n0 n1 n2 n3
            have Cc0 : (w7.alloc (.cells #[.int .i64 N, .int .i64 xt, .int .i64 xh, .string xn] 81)).cell? ⟨w1.heap.size, 0, none⟩ = some (.int .i64 yt) := hw7.cell 0
            have Cf0 := hw7.frozen 0
            obtain ⟨C1, hC1⟩ : ∃ V, (w7.alloc (.cells #[.int .i64 N, .int .i64 xt, .int .i64 xh, .string xn] 81)).setCell ⟨w1.heap.size, 0, none⟩ (.int .i64 N) = V := ⟨_, rfl⟩
            have rC1 : Row C1 (w1.heap.size) #[.int .i64 N, .int .i64 ya, .int .i64 yh, .string yn] 81 := by rw [← hC1]; exact hw7.set 0 _
            have sC1 : St w C1 d (keyD F') := by rw [← hC1]; exact st_own hs7 hw7 (by omega) 0 _
            have tC1_n := hn7.other (w1.heap.size) 0 (.int .i64 N) (by omega)
            rw [hC1] at tC1_n
            have tC1_y := hy7.other (w1.heap.size) 0 (.int .i64 N) (by omega)
            rw [hC1] at tC1_y
            have Cc1 : C1.cell? ⟨w1.heap.size, 1, none⟩ = some (.int .i64 ya) := rC1.cell 1
            have Cf1 := rC1.frozen 1
            obtain ⟨C2, hC2⟩ : ∃ V, C1.setCell ⟨w1.heap.size, 1, none⟩ (.int .i64 xt) = V := ⟨_, rfl⟩
            have rC2 : Row C2 (w1.heap.size) #[.int .i64 N, .int .i64 xt, .int .i64 yh, .string yn] 81 := by rw [← hC2]; exact rC1.set 1 _
            have sC2 : St w C2 d (keyD F') := by rw [← hC2]; exact st_own sC1 rC1 (by omega) 1 _
            have tC2_n := tC1_n.other (w1.heap.size) 1 (.int .i64 xt) (by omega)
            rw [hC2] at tC2_n
            have tC2_y := tC1_y.other (w1.heap.size) 1 (.int .i64 xt) (by omega)
            rw [hC2] at tC2_y
            have Cc2 : C2.cell? ⟨w1.heap.size, 2, none⟩ = some (.int .i64 yh) := rC2.cell 2
            have Cf2 := rC2.frozen 2
            obtain ⟨C3, hC3⟩ : ∃ V, C2.setCell ⟨w1.heap.size, 2, none⟩ (.int .i64 xh) = V := ⟨_, rfl⟩
            have rC3 : Row C3 (w1.heap.size) #[.int .i64 N, .int .i64 xt, .int .i64 xh, .string yn] 81 := by rw [← hC3]; exact rC2.set 2 _
            have sC3 : St w C3 d (keyD F') := by rw [← hC3]; exact st_own sC2 rC2 (by omega) 2 _
            have tC3_n := tC2_n.other (w1.heap.size) 2 (.int .i64 xh) (by omega)
            rw [hC3] at tC3_n
            have tC3_y := tC2_y.other (w1.heap.size) 2 (.int .i64 xh) (by omega)
            rw [hC3] at tC3_y
            have Cc3 : C3.cell? ⟨w1.heap.size, 3, none⟩ = some (.string yn) := rC3.cell 3
            have Cf3 := rC3.frozen 3
            obtain ⟨C4, hC4⟩ : ∃ V, C3.setCell ⟨w1.heap.size, 3, none⟩ (.string xn) = V := ⟨_, rfl⟩
            have rC4 : Row C4 (w1.heap.size) #[.int .i64 N, .int .i64 xt, .int .i64 xh, .string xn] 81 := by rw [← hC4]; exact rC3.set 3 _
            have sC4 : St w C4 d (keyD F') := by rw [← hC4]; exact st_own sC3 rC3 (by omega) 3 _
            have tC4_n := tC3_n.other (w1.heap.size) 3 (.string xn) (by omega)
            rw [hC4] at tC4_n
            have tC4_y := tC3_y.other (w1.heap.size) 3 (.string xn) (by omega)
            rw [hC4] at tC4_y
            have y0 : C4.cell? ⟨w7.heap.size, 0, none⟩ = some (.int .i64 N) := tC4_y.cell 0
            have y1 : C4.cell? ⟨w7.heap.size, 1, none⟩ = some (.int .i64 xt) := tC4_y.cell 1
            have y2 : C4.cell? ⟨w7.heap.size, 2, none⟩ = some (.int .i64 xh) := tC4_y.cell 2
            have y3 : C4.cell? ⟨w7.heap.size, 3, none⟩ = some (.string xn) := tC4_y.cell 3
            have Ec0 : C4.cell? ⟨w1.heap.size + 1, 0, none⟩ = some (.int .i64 N) := tC4_n.cell 0
            have Ef0 := tC4_n.frozen 0
            obtain ⟨E1, hE1⟩ : ∃ V, C4.setCell ⟨w1.heap.size + 1, 0, none⟩ (.int .i64 N) = V := ⟨_, rfl⟩
            have rE1 : Row E1 (w1.heap.size + 1) #[.int .i64 N, .int .i64 xt, .int .i64 xh, .string xn] 81 := by rw [← hE1]; exact tC4_n.set 0 _
            have sE1 : St w E1 d (keyD F') := by rw [← hE1]; exact st_own sC4 tC4_n (by omega) 0 _
            have tE1_w := rC4.other (w1.heap.size + 1) 0 (.int .i64 N) (by omega)
            rw [hE1] at tE1_w
            have tE1_y := tC4_y.other (w1.heap.size + 1) 0 (.int .i64 N) (by omega)
            rw [hE1] at tE1_y
            have Ec1 : E1.cell? ⟨w1.heap.size + 1, 1, none⟩ = some (.int .i64 xt) := rE1.cell 1
            have Ef1 := rE1.frozen 1
            obtain ⟨E2, hE2⟩ : ∃ V, E1.setCell ⟨w1.heap.size + 1, 1, none⟩ (.int .i64 xt) = V := ⟨_, rfl⟩
            have rE2 : Row E2 (w1.heap.size + 1) #[.int .i64 N, .int .i64 xt, .int .i64 xh, .string xn] 81 := by rw [← hE2]; exact rE1.set 1 _
            have sE2 : St w E2 d (keyD F') := by rw [← hE2]; exact st_own sE1 rE1 (by omega) 1 _
            have tE2_w := tE1_w.other (w1.heap.size + 1) 1 (.int .i64 xt) (by omega)
            rw [hE2] at tE2_w
            have tE2_y := tE1_y.other (w1.heap.size + 1) 1 (.int .i64 xt) (by omega)
            rw [hE2] at tE2_y
            have Ec2 : E2.cell? ⟨w1.heap.size + 1, 2, none⟩ = some (.int .i64 xh) := rE2.cell 2
            have Ef2 := rE2.frozen 2
            obtain ⟨E3, hE3⟩ : ∃ V, E2.setCell ⟨w1.heap.size + 1, 2, none⟩ (.int .i64 xh) = V := ⟨_, rfl⟩
            have rE3 : Row E3 (w1.heap.size + 1) #[.int .i64 N, .int .i64 xt, .int .i64 xh, .string xn] 81 := by rw [← hE3]; exact rE2.set 2 _
            have sE3 : St w E3 d (keyD F') := by rw [← hE3]; exact st_own sE2 rE2 (by omega) 2 _
            have tE3_w := tE2_w.other (w1.heap.size + 1) 2 (.int .i64 xh) (by omega)
            rw [hE3] at tE3_w
            have tE3_y := tE2_y.other (w1.heap.size + 1) 2 (.int .i64 xh) (by omega)
            rw [hE3] at tE3_y
            have Ec3 : E3.cell? ⟨w1.heap.size + 1, 3, none⟩ = some (.string xn) := rE3.cell 3
            have Ef3 := rE3.frozen 3
            obtain ⟨E4, hE4⟩ : ∃ V, E3.setCell ⟨w1.heap.size + 1, 3, none⟩ (.string xn) = V := ⟨_, rfl⟩
            have rE4 : Row E4 (w1.heap.size + 1) #[.int .i64 N, .int .i64 xt, .int .i64 xh, .string xn] 81 := by rw [← hE4]; exact rE3.set 3 _
            have sE4 : St w E4 d (keyD F') := by rw [← hE4]; exact st_own sE3 rE3 (by omega) 3 _
            have tE4_w := tE3_w.other (w1.heap.size + 1) 3 (.string xn) (by omega)
            rw [hE4] at tE4_w
            have tE4_y := tE3_y.other (w1.heap.size + 1) 3 (.string xn) (by omega)
            rw [hE4] at tE4_y
            have hfin : Ythkjodlddhdeiaa.base.Shut (Turn w w1 E4 d (k + 1) F') := ⟨by rw [Int.natCast_succ]; exact hinv', sE4, by rw [hy]; exact tE4_w, by rw [hy]; exact rE4⟩
            clear rC1 rC2 rC3 rC4 rE1 rE2 rE3 rE4 sC1 sC2 sC3 sC4 sE1 sE2 sE3 sE4 tC1_n tC1_y tC2_n tC2_y tC3_n tC3_y tC4_n tC4_y tE1_w tE1_y tE2_w tE2_y tE3_w tE3_y tE4_w tE4_y hw7 hn7 hs7 hy7
            go_big_region
            clear Cc0 Cc1 Cc2 Cc3 Cf0 Cf1 Cf2 Cf3 Ec0 Ec1 Ec2 Ec3 Ef0 Ef1 Ef2 Ef3 hC1 hC2 hC3 hC4 hE1 hE2 hE3 hE4 y0 y1 y2 y3 hqq hsz hl8
            go_wp2
            go_roundw
            case rel => exact ⟨k + 1, by omega, by go_num, ⟨⟨F', hfin.out.drew⟩⟩⟩
            case measure => simp [intOf]; omega

      · obtain rfl : k = m := by omega
        obtain ⟨F, hinv, hst, hwas, hnow⟩ := HW.out
        have HB := Ythkjodlddhdeiaa.base.Shut.mk hst.below
        clear hinv hst hwas hnow HW
        go_wp2_with fail
        refine (lives_walk _).mono ?_
        rintro e w2 ⟨rfl, hb2⟩
        have H2 := Ythkjodlddhdeiaa.base.Shut.mk (chain HB.out hb2)
        clear hb2
        go_wp2
        go_ret
        exact ⟨rfl, H2.out⟩
end Go.Proofs.Ythkjodlddhdeiaa.label
