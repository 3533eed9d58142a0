/- The walk of DiskSame. -/
import Derived.Test.YthkjodlddhdeiaaTwo
namespace Go.Proofs.Ythkjodlddhdeiaa.disk
open Go.ChangeShapes Go.WideShapes Go.ChangeAt Go.RowKit
open Ythkjodlddhdeiaa.base

/-- the k-th call, as a loop reads it -/
theorem act_at {w0 w : World} {a : Option Addr} {L : List ActV} {n c : Nat} (hn : n = L.length) (h : Acts w0 w (.slice a n c) L) (k : Nat) (hk : k < L.length) : ∃ g o, a = some ⟨g, o, none⟩ ∧ ∃ x, x = L[k] ∧ ActAt w0 w g (o + k * 5) x := by
  subst hn
  rcases h with ⟨hL, _⟩ | ⟨g, o, c', hv, hc⟩
  · rw [hL] at hk; simp at hk
  · cases hv
    exact ⟨g, o, rfl, _, rfl, hc k _ (List.getElem?_eq_getElem hk)⟩
set_option maxRecDepth 100000 in
set_option maxHeartbeats 1600000 in
theorem diskSame_walk (a1 a2 : Option Addr) (c1 c2 : Nat) (L M : List ActV) (w : World) (hL : Acts w w (.slice a1 L.length c1) L) (hM : Acts w w (.slice a2 M.length c2) M) (hl1 : L.length ≤ 9223372036854775807) (hl2 : M.length ≤ 9223372036854775807) :
    Calls Try.prog 7 #[.slice a1 L.length c1, .slice a2 M.length c2] w fun e w' => e = .returned (.bool true) ∧ Below w.heap.size w w' := by
  obtain ⟨n, hn⟩ : ∃ n, n = L.length := ⟨_, rfl⟩
  obtain ⟨m, hm⟩ : ∃ m, m = M.length := ⟨_, rfl⟩
  rw [← hn] at hL hl1 ⊢
  rw [← hm] at hM hl2 ⊢
  have HA := Ythkjodlddhdeiaa.base.Shut.mk (And.intro hn (And.intro hm (And.intro hL hM)))
  clear hn hm hL hM
  have hways : (20 : Int) < (n : Int) ∨ (¬ (20 : Int) < (n : Int) ∧ (20 : Int) < (m : Int)) ∨ (¬ (20 : Int) < (n : Int) ∧ ¬ (20 : Int) < (m : Int)) := by omega
  rcases hways with h1 | ⟨h1, h2⟩ | ⟨h1, h2⟩
  · go_enter Try.func7, Try.ntmps7
    go_wp2_with fail
    refine (lives_walk _).mono ?_
    rintro e w1 ⟨rfl, hb⟩
    go_wp2
    go_ret
    exact ⟨rfl, hb⟩
  · go_enter Try.func7, Try.ntmps7
    go_wp2_with fail
    refine (lives_walk _).mono ?_
    rintro e w1 ⟨rfl, hb⟩
    go_wp2
    go_ret
    exact ⟨rfl, hb⟩
  · have hn20 : n ≤ 20 := by omega
    have hm20 : m ≤ 20 := by omega
    clear hl1 hl2
    go_enter Try.func7, Try.ntmps7
    go_wp2_with fail
    refine (new_st 4 (by decide) (by decide) w _ (same w)).mono ?_
    rintro e w1 ⟨d, rfl, hs, hd⟩
    have HS1 := Ythkjodlddhdeiaa.base.Shut.mk hs
    clear hs hd
    go_wp2_with fail
    go_loopw [7] (fun i wr => ∃ k : Nat, k ≤ n ∧ i = .int .i64 k ∧ Ythkjodlddhdeiaa.base.Shut (St w wr d (run (newD 4) (L.take k)))) (fun i _ => n - (intOf i).toNat)
    case atStart => exact ⟨0, Nat.zero_le _, rfl, HS1⟩
    case round =>
      obtain ⟨k, hk, rfl, HR⟩ := hrel
      by_cases hlt : k < n
      · have hkL : k < L.length := by rw [← HA.out.1]; exact hlt
        obtain ⟨g, o, rfl, x, hx, hact⟩ := act_at HA.out.1 (HA.out.2.2.1.later HR.out.below) k hkL
        obtain ⟨fv, x0, x1, x2, x3, x4, hfa, hi, fa, fc, rfl⟩ := hact
        have hWb : (run (newD 4) (L.take k)).W.length ≤ 100000 := by
          have := (run_W (L.take k) (newD 4)).1
          have h3 : (newD 4).W.length = 0 := rfl
          rw [List.length_take] at this
          omega
        have hdo := do_st HR.out x _ hi hfa ⟨fa, fc, rfl⟩ hWb
        have HD := Ythkjodlddhdeiaa.base.Shut.mk (And.intro hdo hx)
        have hkk : (k : Int) < (n : Int) := by omega
        have hk0 : (0 : Int) ≤ (k : Int) := by omega
        clear hdo hx hfa hi hWb
        go_wp2_with fail
        refine HD.out.1.mono ?_
        rintro e w2 ⟨rfl, hs2⟩
        have HS2 := Ythkjodlddhdeiaa.base.Shut.mk hs2
        clear hs2
        go_wp2
        go_roundw
        case rel => exact ⟨k + 1, by omega, by go_num, ⟨by rw [run_snoc _ _ _ hkL, ← HD.out.2]; exact HS2.out⟩⟩
        case measure => simp [intOf]; omega
      · have e : k = n := by omega
        subst e
        have hS := HR.out
        rw [HA.out.1, List.take_length] at hS
        obtain ⟨D0, hD0⟩ : ∃ D0, D0 = run (newD 4) L := ⟨_, rfl⟩
        rw [← hD0] at hS
        have hD0W : D0.W.length ≤ 20 ∧ D0.n = 4 := by
          rw [hD0]
          have h4 := run_W L (newD 4)
          have h3 : (newD 4).W.length = 0 := rfl
          have h5 := HA.out.1
          exact ⟨by omega, h4.2⟩
        have HS3 := Ythkjodlddhdeiaa.base.Shut.mk (And.intro hS hD0W)
        clear hS hD0 hD0W HR HS1 hlt hk
        go_wp2_with fail
        refine (copy_st HS3.out.1 (by have := HS3.out.2.1; omega)).mono ?_
        rintro e w2 ⟨c, rfl, h2s⟩
        have HT := Ythkjodlddhdeiaa.base.Shut.mk h2s
        clear h2s
        go_wp2_with fail
        go_loopw [9] (fun i wr => ∃ k : Nat, k ≤ m ∧ i = .int .i64 k ∧ Ythkjodlddhdeiaa.base.Shut (Two w wr d c D0 (run D0 (M.take k)))) (fun i _ => m - (intOf i).toNat)
        case atStart => exact ⟨0, Nat.zero_le _, rfl, HT⟩
        case round =>
          obtain ⟨k, hk, rfl, HR⟩ := hrel
          by_cases hlt : k < m
          · have hkM : k < M.length := by rw [← HA.out.2.1]; exact hlt
            obtain ⟨g, o, rfl, x, hx, hact⟩ := act_at HA.out.2.1 (HA.out.2.2.2.later HR.out.below) k hkM
            obtain ⟨fv, x0, x1, x2, x3, x4, hfa, hi, fa, fc, rfl⟩ := hact
            have hWb : (run D0 (M.take k)).W.length ≤ 100000 := by
              have := (run_W (M.take k) D0).1
              have h3 := HS3.out.2.1
              rw [List.length_take] at this
              omega
            have hdo := do_two HR.out.swap x _ hi hfa ⟨fa, fc, rfl⟩ hWb
            have HD := Ythkjodlddhdeiaa.base.Shut.mk (And.intro hdo hx)
            have hkk : (k : Int) < (m : Int) := by omega
            have hk0 : (0 : Int) ≤ (k : Int) := by omega
            clear hdo hx hfa hi hWb
            go_wp2_with fail
            refine HD.out.1.mono ?_
            rintro e w3 ⟨rfl, hs2⟩
            have HS2 := Ythkjodlddhdeiaa.base.Shut.mk hs2
            clear hs2
            go_wp2
            go_roundw
            case rel => exact ⟨k + 1, by omega, by go_num, ⟨by rw [run_snoc _ _ _ hkM, ← HD.out.2]; exact HS2.out.swap⟩⟩
            case measure => simp [intOf]; omega
          · obtain rfl : m = k := by omega
            have hS := HR.out
            rw [HA.out.2.1, List.take_length] at hS
            have HS4 := Ythkjodlddhdeiaa.base.Shut.mk hS
            clear hS HR hlt hk HT
            go_wp2_with fail
            go_loopw [10] (fun i wr => ∃ k : Nat, k ≤ m ∧ i = .int .i64 k ∧ Ythkjodlddhdeiaa.base.Shut (Two w wr d c (run D0 (M.take k)) (run D0 M))) (fun i _ => m - (intOf i).toNat)
            case atStart => exact ⟨0, Nat.zero_le _, rfl, HS4⟩
            case round =>
              obtain ⟨k, hk, rfl, HR⟩ := hrel
              by_cases hlt : k < m
              · have hkM : k < M.length := by rw [← HA.out.2.1]; exact hlt
                obtain ⟨g, o, rfl, x, hx, hact⟩ := act_at HA.out.2.1 (HA.out.2.2.2.later HR.out.below) k hkM
                obtain ⟨fv, x0, x1, x2, x3, x4, hfa, hi, fa, fc, rfl⟩ := hact
                have hWb : (run D0 (M.take k)).W.length ≤ 100000 := by
                  have := (run_W (M.take k) D0).1
                  have h3 := HS3.out.2.1
                  rw [List.length_take] at this
                  omega
                have hdo := do_two HR.out x _ hi hfa ⟨fa, fc, rfl⟩ hWb
                have HD := Ythkjodlddhdeiaa.base.Shut.mk (And.intro hdo hx)
                have hkk : (k : Int) < (m : Int) := by omega
                have hk0 : (0 : Int) ≤ (k : Int) := by omega
                clear hdo hx hfa hi hWb
                go_wp2_with fail
                refine HD.out.1.mono ?_
                rintro e w3 ⟨rfl, hs2⟩
                have HS2 := Ythkjodlddhdeiaa.base.Shut.mk hs2
                clear hs2
                go_wp2
                go_roundw
                case rel => exact ⟨k + 1, by omega, by go_num, ⟨by rw [run_snoc _ _ _ hkM, ← HD.out.2]; exact HS2.out⟩⟩
                case measure => simp [intOf]; omega
              · obtain rfl : m = k := by omega
                have hS := HR.out
                rw [HA.out.2.1, List.take_length] at hS
                have hn4 : (run D0 M).n = 4 := (run_W M D0).2.trans HS3.out.2.2
                obtain ⟨E, hE⟩ : ∃ E, E = run D0 M := ⟨_, rfl⟩
                rw [← hE] at hS hn4
                have HS5 := Ythkjodlddhdeiaa.base.Shut.mk (And.intro hS hn4)
                clear hS HR hlt hk HS4 hn4 hE
                go_wp2_with fail
                go_loop [11] (fun i => ∃ k : Nat, k ≤ 4 ∧ i = .int .i64 k) (fun i => 4 - (intOf i).toNat)
                case atStart => exact ⟨0, Nat.zero_le _, rfl⟩
                case round =>
                  obtain ⟨j, hj, rfl⟩ := hrel
                  by_cases hlt : j < 4
                  · go_wp2_with fail
                    refine (read_st HS5.out.1.fst (j : Int)).mono ?_
                    rintro e w3 ⟨rfl, rfl⟩
                    go_wp2_with fail
                    refine (read_st HS5.out.1.snd (j : Int)).mono ?_
                    rintro e w3 ⟨rfl, rfl⟩
                    go_wp2
                    go_round
                    case rel => exact ⟨j + 1, by omega, by go_num⟩
                    case measure => simp [intOf]; omega
                  · have e : j = 4 := by omega
                    subst e
                    go_wp2_with fail
                    refine (loose_st HS5.out.1.fst).mono ?_
                    rintro e w3 ⟨rfl, rfl⟩
                    go_wp2_with fail
                    refine (loose_st HS5.out.1.snd).mono ?_
                    rintro e w3 ⟨rfl, rfl⟩
                    go_wp2_with fail
                    refine (len_st HS5.out.1.fst).mono ?_
                    rintro e w3 ⟨rfl, rfl⟩
                    rw [HS5.out.2]
                    go_wp2_with fail
                    refine (len_st HS5.out.1.snd).mono ?_
                    rintro e w3 ⟨rfl, rfl⟩
                    rw [HS5.out.2]
                    go_wp2_with fail
                    refine (lives_walk _).mono ?_
                    rintro e w4 ⟨rfl, hb4⟩
                    have HB4 := Ythkjodlddhdeiaa.base.Shut.mk (HS5.out.1.below.trans (hb4.mono HS5.out.1.below.size))
                    clear hb4
                    go_wp2
                    go_ret
                    exact ⟨rfl, HB4.out⟩
end Go.Proofs.Ythkjodlddhdeiaa.disk
