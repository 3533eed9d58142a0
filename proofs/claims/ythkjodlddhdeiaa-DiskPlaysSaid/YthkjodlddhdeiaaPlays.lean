/- The walk of DiskPlays. -/
import Derived.Test.YthkjodlddhdeiaaPlayLike
import Derived.Test.YthkjodlddhdeiaaDiskLives
namespace Go.Proofs.Ythkjodlddhdeiaa.disk
open Go.ChangeShapes Go.WideShapes Go.ChangeAt Go.RowKit
open Ythkjodlddhdeiaa.base

theorem RAt.lower {w : World} {base base' r b : Nat} {D : Dk} {z : Int} (h : RAt w base' r b D z) (hb : base ≤ base') : RAt w base r b D z := by
  obtain ⟨hw, hf, hz1, hz2, hl, ⟨cb, lv, h1, h2, h3⟩⟩ := h
  exact ⟨hw, hf, hz1, hz2, ⟨by omega, by omega⟩, ⟨cb, lv, h1, low_row h2 hb, low_row h3 hb⟩⟩
/-- how it stands between two calls -/
structure Play (w wr : World) (d r : Nat) (k : Nat) : Prop where
  half : ∃ D, Half w wr d r D D ∧ Seen D ∧ D.W.length ≤ k
set_option maxRecDepth 100000 in
set_option maxHeartbeats 3200000 in
theorem diskPlays_walk (n : Int) (a : Option Addr) (c : Nat) (L : List ActV) (hlen : L.length ≤ 9223372036854775807) (w : World) (hL : Acts w w (.slice a L.length c) L) :
    Calls Try.prog 6 #[.int .i64 n, .slice a L.length c] w fun e w' => e = .returned (.bool true) ∧ Below w.heap.size w w' := by
  obtain ⟨m, hm⟩ : ∃ m, L.length = m := ⟨_, rfl⟩
  rw [hm] at hlen hL ⊢
  have HL := Ythkjodlddhdeiaa.base.Shut.mk (And.intro hL hm)
  clear hL hm
  by_cases g1 : 20 < n ∧ n ≤ 4096
  · obtain ⟨g1, g2⟩ := g1
    clear hlen
    go_enter Try.func6, Try.ntmps6
    go_wp2_with fail
    refine (lives_walk _).mono ?_
    rintro e w1 ⟨rfl, hb1⟩
    have H1 := Ythkjodlddhdeiaa.base.Shut.mk hb1
    clear hb1
    go_wp2
    go_ret
    exact ⟨rfl, H1.out⟩
  · by_cases g3 : 40 < m
    · have g3' : (40 : Int) < m := by omega
      have hw : (n ≤ 20 ∧ ¬ 20 < n) ∨ (20 < n ∧ ¬ n ≤ 4096) := by omega
      clear g1 hlen
      rcases hw with ⟨h1, h2⟩ | ⟨h1, h2⟩
      all_goals
        go_enter Try.func6, Try.ntmps6
        go_wp2_with fail
        refine (lives_walk _).mono ?_
        rintro e w1 ⟨rfl, hb1⟩
        have H1 := Ythkjodlddhdeiaa.base.Shut.mk hb1
        clear hb1
        go_wp2
        go_ret
        exact ⟨rfl, H1.out⟩
    · have g3' : ¬ (40 : Int) < m := by omega
      by_cases g4 : n < 1 ∨ 4096 < n
      · have HN := Ythkjodlddhdeiaa.base.Shut.mk (And.intro (new_fails n g4) (rnew_fails n g4))
        have hw : (n ≤ 20 ∧ ¬ 20 < n) ∨ (20 < n ∧ ¬ n ≤ 4096) := by omega
        clear g1 g4
        rcases hw with ⟨h1, h2⟩ | ⟨h1, h2⟩
        all_goals
          go_enter Try.func6, Try.ntmps6
          go_wp2_with fail
          refine (HN.out.1 _).mono ?_
          rintro e w1 ⟨rfl, rfl⟩
          go_wp2_with fail
          refine (HN.out.2 _).mono ?_
          rintro e w1 ⟨rfl, rfl⟩
          go_wp2
          go_loop [9] (fun i => i = .int .i64 0) (fun _ => 0)
          case atStart => rfl
          case round =>
            obtain rfl := hrel
            by_cases hm0 : m = 0
            · subst hm0
              go_wp2_with fail
              refine (lives_walk _).mono ?_
              rintro e w2 ⟨rfl, hb2⟩
              have H2 := Ythkjodlddhdeiaa.base.Shut.mk hb2
              clear hb2
              go_wp2
              go_ret
              exact ⟨rfl, H2.out⟩
            · have hm0' : (0 : Int) < m := by omega
              have hm1 : 0 < m := by omega
              go_wp2_with fail
              refine (lives_walk _).mono ?_
              rintro e w2 ⟨rfl, hb2⟩
              have H2 := Ythkjodlddhdeiaa.base.Shut.mk hb2
              clear hb2
              go_wp2
              go_ret
              exact ⟨rfl, H2.out⟩
      · obtain ⟨N, rfl⟩ := Int.eq_ofNat_of_zero_le (show 0 ≤ n by omega)
        have hN : 1 ≤ N ∧ N ≤ 20 := by omega
        have h1 : ¬ (20 : Int) < N := by omega
        clear g1 g4
        have HN := Ythkjodlddhdeiaa.base.Shut.mk (And.intro (new_st N hN.1 (by omega) w w (same w)) (fun u => rnew_walk N hN.1 (by omega) u))
        go_enter Try.func6, Try.ntmps6
        go_wp2_with fail
        refine HN.out.1.mono ?_
        rintro e w1 ⟨d, rfl, hs1, hd⟩
        have HS := Ythkjodlddhdeiaa.base.Shut.mk hs1
        clear hs1 hd
        go_wp2_with fail
        refine (HN.out.2 _).mono ?_
        rintro e w2 ⟨r, b, rfl, hr2, hb2⟩
        have HP := Ythkjodlddhdeiaa.base.Shut.mk (show Play w w2 d r 0 from ⟨newD N, ⟨HS.out.mono hb2, b, -1, hr2.lower HS.out.below.size⟩, rfl, Nat.zero_le _⟩)
        clear hr2 hb2 HS HN
        go_wp2
        go_loopw [9] (fun i wr => ∃ k : Nat, k ≤ m ∧ i = .int .i64 k ∧ Ythkjodlddhdeiaa.base.Shut (Play w wr d r k)) (fun i _ => m - (intOf i).toNat)
        case atStart => exact ⟨0, Nat.zero_le _, rfl, HP⟩
        case round =>
          obtain ⟨k, hk, rfl, HR⟩ := hrel
          obtain ⟨D, hh, hse, hw⟩ := HR.out.half
          by_cases hlt : k < m
          · have hlt' : (k : Int) < m := by omega
            obtain ⟨hLa, hmm⟩ := HL.out
            have hx : L[k]? = some (L[k]'(by omega)) := List.getElem?_eq_getElem (by omega)
            generalize L[k]'(by omega) = x at hx
            rcases hLa with ⟨rfl, _⟩ | ⟨g, o, c2, hv, hc⟩
            · simp at hmm; omega
            obtain rfl : a = some ⟨g, o, none⟩ := by cases hv; rfl
            obtain ⟨fv, q0, q1, q2, q3, q4, hf, hi, fa, fc, rfl⟩ := (hc k x hx).later hh.st.below
            have hf0 : ArgFates w w (.slice fa x.fates.length fc) x.fates := by
              obtain ⟨fv', _, _, _, _, p4, hf', _⟩ := hc k x hx
              have e1 := hh.st.below.cell (p := ⟨g, o + k * 5 + 4, none⟩) (World.block_lt_of_cell? w _ p4)
              rw [p4, q4] at e1
              cases e1
              exact hf'
            have hstep := step_walk (hh.mono (drewn (same wr))) hse (by omega) x fa fc hi hf0
            have hseen := seen_step hse x
            have hlen2 := step_len D x
            have HT := Ythkjodlddhdeiaa.base.Shut.mk (And.intro hstep (And.intro hseen (show (stepD D x).W.length ≤ k + 1 by omega)))
            clear hstep hseen hlen2 hf hf0 hi hc hv hx hse hw hh HR hmm
            generalize stepD D x = D2 at HT
            obtain ⟨xk, xi, xa, xb, xf⟩ := x
            simp only at q0 q1 q2 q3 q4 HT
            go_wp2
            go_region_with (first | (go_at_call 28; (with_reducible refine Calls.mono HT.out.1 ?_); rintro e w3 ⟨rfl, hh3, ho3⟩; have hlo := loose_st hh3.st; obtain ⟨b3, z3, hr3⟩ := hh3.rt; obtain ⟨cb3, lv3, -, c13, -, -, -, -, hL3⟩ := hr3.cells; obtain ⟨a3, cap3, rfl, -, -⟩ := own_slice hL3; have H3 := Ythkjodlddhdeiaa.base.Shut.mk (And.intro hlo hh3); clear hlo hh3 ho3 hr3 hL3) | (go_at_call 29; (with_reducible refine Calls.mono H3.out.1 ?_); rintro e w4 ⟨rfl, rfl⟩))
            all_goals
              have HN := Ythkjodlddhdeiaa.base.Shut.mk (show Play w w3 d r (k + 1) from ⟨D2, H3.out.2, HT.out.2.1, HT.out.2.2⟩)
              clear H3 HT HL q0 q1 q2 q3 q4 c13
              go_wp2
              go_roundw
              case rel => exact ⟨k + 1, by omega, by go_num, HN⟩
              case measure => simp [intOf]; omega
          · obtain rfl : k = m := by omega
            have hlike := like_walk hh hse (by omega)
            have H2 := Ythkjodlddhdeiaa.base.Shut.mk (And.intro hlike hh.st.below)
            clear hlike hh hse hw HR
            go_wp2_with fail
            refine H2.out.1.mono ?_
            rintro e w3 ⟨rfl, hb3⟩
            have H3 := Ythkjodlddhdeiaa.base.Shut.mk (chain H2.out.2 hb3)
            clear hb3
            go_wp2_with fail
            refine (lives_walk _).mono ?_
            rintro e w4 ⟨rfl, hb4⟩
            have H4 := Ythkjodlddhdeiaa.base.Shut.mk (chain H3.out hb4)
            clear hb4
            go_wp2
            go_ret
            exact ⟨rfl, H4.out⟩
end Go.Proofs.Ythkjodlddhdeiaa.disk
