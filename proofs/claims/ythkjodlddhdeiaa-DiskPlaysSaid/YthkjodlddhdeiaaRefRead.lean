/- The reference's Read. -/
import Derived.Test.YthkjodlddhdeiaaRefWrite
import Derived.Test.YthkjodlddhdeiaaActs
namespace Go.Proofs.Ythkjodlddhdeiaa.disk
open Go.ChangeShapes Go.WideShapes Go.ChangeAt Go.RowKit
open Ythkjodlddhdeiaa.base

theorem seen_same {F : List UInt8} {W : List (Nat × List UInt8)} {n i : Nat} (hF : F.length = n * 512) (hW : ∀ p ∈ W, p.1 < n ∧ p.2.length = 512) (hi : i < n) (a : Nat) (m : Nat) (ha : a ≤ m) (hm : m ≤ W.length)
    (h : ∀ j (hj : j < W.length), a ≤ j → j < m → W[j].1 ≠ i) : blk (applyW F (W.take m)) i = blk (applyW F (W.take a)) i := by
  induction m with
  | zero => obtain rfl : a = 0 := by omega
            rfl
  | succ m ih =>
    by_cases hcase : a = m + 1
    · rw [hcase]
    · have hmW : m < W.length := by omega
      have hp := hW W[m] (List.getElem_mem hmW)
      rw [applyW_snoc F W m hmW, blk_setBlk_other (applyW_len F (W.take m) n hF (fun p hp => hW p (List.mem_of_mem_take hp))) hp.1 hi hp.2 (fun e => h m hmW (by omega) (by omega) e.symm)]
      exact ih (by omega) (by omega) (fun j hj h1 h2 => h j hj h1 (by omega))
theorem seen_none {F : List UInt8} {W : List (Nat × List UInt8)} {n i : Nat} (hF : F.length = n * 512) (hW : ∀ p ∈ W, p.1 < n ∧ p.2.length = 512) (hi : i < n) (h : ∀ j (hj : j < W.length), W[j].1 ≠ i) : blk (applyW F W) i = blk F i := by
  have := seen_same hF hW hi 0 W.length (Nat.zero_le _) (Nat.le_refl _) (fun j hj _ _ => h j hj)
  rw [List.take_of_length_le (Nat.le_refl _)] at this
  exact this
theorem seen_hit {F : List UInt8} {W : List (Nat × List UInt8)} {n i k : Nat} (hF : F.length = n * 512) (hW : ∀ p ∈ W, p.1 < n ∧ p.2.length = 512) (hi : i < n) (hk : k < W.length) (he : W[k].1 = i) (h : ∀ j (hj : j < W.length), k + 1 ≤ j → W[j].1 ≠ i) : blk (applyW F W) i = W[k].2 := by
  have := seen_same hF hW hi (k + 1) W.length (by omega) (Nat.le_refl _) (fun j hj h1 _ => h j hj h1)
  rw [List.take_of_length_le (Nat.le_refl _)] at this
  have hp := hW W[k] (List.getElem_mem hk)
  rw [this, applyW_snoc F W k hk, ← he, blk_setBlk_same (applyW_len F (W.take k) n hF (fun p hp => hW p (List.mem_of_mem_take hp))) hp.1 hp.2]
set_option maxRecDepth 100000 in
set_option maxHeartbeats 800000 in
theorem rread_walk {w : World} {base r b : Nat} {D : Dk} {z : Int} (h : RAt w base r b D z) (hS : D.S = applyW D.F D.W) (hWl : D.W.length ≤ 100000) (i : Int) :
    Calls Try.prog 64 #[pd r, .int .i64 i] w fun e w' => e = .returned (.tuple #[.string ⟨(readS D i).toArray⟩, .int .i64 (mayE D i)]) ∧ w = w' := by
  have hth := there_walk h i
  obtain ⟨cb, lv, c0, c1, -, c3, -, hB, hL⟩ := h.cells
  have hw := h.wf
  clear h
  cases hg : D.gone with
  | true =>
    have hm : mayE D i = 7 := by unfold mayE; rw [if_pos hg]
    have hR : readS D i = [] := by unfold readS; rw [if_neg (by rw [hm]; decide)]
    rw [hm, hR]
    rw [hg] at c3
    clear hm hR hth hg hB hL hw hS hWl c0 c1
    go_enter Try.func64, Try.ntmps64
    go_wp2
    go_ret2
    exact ⟨rfl, rfl⟩
  | false =>
    rw [hg] at c3
    by_cases ht : 0 ≤ i ∧ i < (D.n : Int)
    · have hm : mayE D i = 0 := by unfold mayE; rw [if_neg (by rw [hg]; decide), if_pos ht]
      have hR : readS D i = blk D.S i.toNat := by unfold readS; rw [if_pos hm]
      rw [hm, hR, hS]
      rw [decide_eq_true ht] at hth
      obtain ⟨m, rfl⟩ := Int.eq_ofNat_of_zero_le ht.1
      rw [Int.toNat_natCast]
      have hmn : m < D.n := by omega
      have hmn' : (m : Int) < (D.n : Int) := ht.2
      obtain ⟨_, hg0, hcell⟩ := own_at hB (by omega)
      cases hg0
      have cB : w.cell? ⟨b, m, none⟩ = some (.string ⟨(blk D.F m).toArray⟩) := hcell m _ (blks_get D.F D.n m hmn)
      obtain ⟨a, cap, rfl, hcap, -⟩ := own_slice hL
      have hnone := seen_none (i := m) hw.F hw.W hmn
      have hhit := fun (k : Nat) => seen_hit (i := m) (k := k) hw.F hw.W hmn
      have hWc : ∀ k (hk : k < D.W.length), ∃ g, a = some ⟨g, 0, none⟩ ∧ w.cell? ⟨g, k * 2, none⟩ = some (.int .i64 (D.W[k].1 : Int)) ∧ w.cell? ⟨g, k * 2 + 1, none⟩ = some (.string ⟨(D.W[k].2).toArray⟩) := by
        intro k hk
        obtain ⟨g, e, hc⟩ := own_at hL (by omega)
        exact ⟨g, e, hc _ _ (looseS_get D.W k hk).1, hc _ _ (looseS_get D.W k hk).2⟩
      have HT := Shut.mk (And.intro hth (And.intro hnone (And.intro hhit hWc)))
      clear hth hnone hhit hWc hcell hL hB hm hR hS hg ht hw hmn
      generalize blk (applyW D.F D.W) m = R at HT ⊢
      generalize blk D.F m = Bm at HT cB
      generalize hwl : D.W = W at *
      clear hwl
      go_enter Try.func64, Try.ntmps64
      go_wp2_with fail
      refine HT.out.1.mono ?_
      rintro e w1 ⟨rfl, rfl⟩
      go_wp2
      go_loop [6] (fun i => ∃ x : Int, i = .int .i64 x ∧ -1 ≤ x ∧ x < W.length ∧ ∀ j (hj : j < W.length), x < j → W[j].1 ≠ m) (fun i => (intOf i + 1).toNat)
      case atStart => exact ⟨(W.length : Int) - 1, by go_num, by omega, by omega, fun j hj h => by omega⟩
      case round =>
        obtain ⟨x, rfl, hx1, hx2, hx3⟩ := hrel
        by_cases hx : 0 ≤ x
        · obtain ⟨k, rfl⟩ := Int.eq_ofNat_of_zero_le hx
          have hkW : k < W.length := by omega
          obtain ⟨g, rfl, y1, y2⟩ := HT.out.2.2.2 k hkW
          by_cases hc : W[k].1 = m
          · have hval := HT.out.2.2.1 k hkW hc (fun j hj h => hx3 j hj (by omega))
            have hc' : (W[k].1 : Int) = (m : Int) := by omega
            rw [hc'] at y1
            have HV := Shut.mk (And.intro hx3 hval)
            clear hx3 hc hc' hval
            go_wp2
            go_ret2
            exact ⟨by rw [HV.out.2]; rfl, rfl⟩
          · have hc' : ¬ (W[k].1 : Int) = (m : Int) := by omega
            have HV := Shut.mk (And.intro hx3 hc)
            clear hx3 hc
            generalize hq : (W[k].1 : Int) = q at y1 hc'
            clear hq
            go_wp2
            go_round
            case rel => exact ⟨(k : Int) - 1, by go_num, by omega, by omega, fun j hj h => by
              by_cases e : j = k
              · subst e; exact HV.out.2
              · exact HV.out.1 j hj (by omega)⟩
            case measure => simp [intOf]
        · obtain rfl : x = -1 := by omega
          have HV := Shut.mk (HT.out.2.1 (fun j hj => hx3 j hj (by omega)))
          clear hx3
          go_wp2
          go_ret2
          exact ⟨by rw [HV.out]; rfl, rfl⟩
    · have hm : mayE D i = 2 := by unfold mayE; rw [if_neg (by rw [hg]; decide), if_neg ht]
      have hR : readS D i = [] := by unfold readS; rw [if_neg (by rw [hm]; decide)]
      rw [hm, hR]
      rw [decide_eq_false ht] at hth
      have HT := Shut.mk hth
      clear hm hR hth hg ht hB hL hw hS hWl c0 c1
      go_enter Try.func64, Try.ntmps64
      go_wp2_with fail
      refine HT.out.mono ?_
      rintro e w1 ⟨rfl, rfl⟩
      go_wp2
      go_ret2
      exact ⟨rfl, rfl⟩
end Go.Proofs.Ythkjodlddhdeiaa.disk
