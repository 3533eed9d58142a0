/- The walk of the law's rules: a table of rules of one cell each (the walk). -/
import Derived.Test.YtobdfocfkomagaaRevRules
namespace Go.Proofs.Ytobdfocfkomagaa.rev
open Go.ChangeShapes Go.WideShapes Go.ChangeAt Go.RowKit
open Ytobdfocfkomagaa.base (size_mk chain newer drewn same ba_ext)
open Ytobdfocfkomagaa.row2 (Row CReads own_keep)
open Ytobdfocfkomagaa.oct (Reads)

attribute [local go_sem] si_one si_cells run_store_si
attribute [local go_sem ↓] rl_shut
set_option maxRecDepth 100000 in
set_option maxHeartbeats 3200000 in
theorem rules_walk (B : Option Addr) (n d : Nat) (ls : List ByteArray) (hn : ls.length = n) (hn2 : n ≤ 100) (w : World) (hr : Reads w B ls) :
    Calls Try.prog 45 #[.slice B n d] w fun e w' => ∃ A c rs, e = .returned (.agg (rcells A n c)) ∧ rs.length = n ∧ (∀ (i : Nat) (r : RI) (s : ByteArray), rs[i]? = some r → ls[i]? = some s → isOne w' r s) ∧ w'.ownsRow w.heap.size 77 2 (.slice A n c) n (cellsR rs) ∧ Below w.heap.size w w' := by

  obtain ⟨q0, hq0⟩ : ∃ q0, w.heap.size = q0 := ⟨_, rfl⟩
  obtain ⟨V, hV⟩ : ∃ V, (w.alloc (.cells zcells 27)).alloc (.cells (rcells none 0 0) 27) = V := ⟨_, rfl⟩
  have H : Ytobdfocfkomagaa.base.Shut (Reads w B ls ∧ ls.length = n ∧ RulesAt w V (q0 + 2) (q0 + 1) q0 none 0 [] [] ∧ q0 + 2 ≤ V.heap.size) := by
    have r0 := (Row.new w zcells 27).below (newer (same _) (.cells (rcells none 0 0) 27))
    have r1 := Row.new (w.alloc (.cells zcells 27)) (rcells none 0 0) 27
    have hb0 := newer (newer (same w) (.cells zcells 27)) (.cells (rcells none 0 0) 27)
    rw [World.size_alloc, hV, hq0] at r1
    rw [hV, hq0] at r0
    rw [hV] at hb0
    refine ⟨hr, hn, ⟨r1, ⟨_, r0, rfl⟩, World.ownsRow_nil _ _ _ _, rfl, fun i r s h => by simp at h, hb0⟩, ?_⟩
    have := r1.lt
    omega
  have HV := Ytobdfocfkomagaa.base.Shut.mk hV
  clear hr hn hV
  go_enter Try.func45, Try.ntmps45
  go_wp2
  go_loopw [4] (fun i wr => ∃ (k : Nat) (A : Option Addr) (c : Nat) (rs : List RI), k ≤ n ∧ rs.length = k ∧ i = .int .i64 k ∧ Ytobdfocfkomagaa.base.Shut (RulesAt w wr (q0 + 2) (q0 + 1) q0 A c rs (ls.take k) ∧ q0 + 2 ≤ wr.heap.size)) (fun i _ => n - (intOf i).toNat)
  case atStart => exact ⟨0, none, 0, [], Nat.zero_le _, rfl, rfl, by
    have hV := HV.out
    rw [hV]
    exact ⟨H.out.2.2.1, H.out.2.2.2⟩⟩
  case round =>
    obtain ⟨k, A, c, rs, hk, hkl, rfl, HA⟩ := hrel
    by_cases hlt : k < n
    · have hlt' : (k : Int) < n := by omega
      have hk0 : (0 : Int) ≤ k := by omega
      obtain ⟨s, hs⟩ : ∃ s, ls[k]? = some s := ⟨_, List.getElem?_eq_getElem (by rw [H.out.2.1]; omega)⟩
      obtain ⟨b, off, rfl, hblt, hcell⟩ := (H.out.1.keep HA.out.1.below) (by intro e; rw [e] at hs; simp at hs)
      have m0 := hcell k s hs
      have hown5 : wr.cell? ⟨q0 + 1, 5, none⟩ = some (.slice A rs.length c) := HA.out.1.row.cell 5
      rw [hkl] at hown5
      obtain ⟨A4, c4, w4, hrun, hcq, hfq, hsz, hR⟩ := HA.out.1.more (by omega) (by omega) (by omega) (by omega) (by omega) HA.out.2 (by omega) s _ _ rfl rfl
      rw [hkl] at hrun hcq hR
      have HR := Ytobdfocfkomagaa.base.Shut.mk (And.intro hR hsz)
      have hnw : Below wr.heap.size wr ((wr.alloc (.cells #[.string s] 9)).alloc (.cells #[.slice (some ⟨wr.heap.size, 0, none⟩) 1 1, .slice none 0 0] 77)).drew := drewn (newer (newer (same wr) _) _)
      have e5 := (hnw.cell (World.block_lt_of_cell? wr _ hown5)).trans hown5
      have e6 := (hnw.cell (World.block_lt_of_cell? wr _ m0)).trans m0
      have hnw1 : Below wr.heap.size wr (wr.alloc (.cells #[.string s] 9)).drew := drewn (newer (same wr) _)
      have g5 := (hnw1.cell (World.block_lt_of_cell? wr _ hown5)).trans hown5
      have g6 := (hnw1.cell (World.block_lt_of_cell? wr _ m0)).trans m0
      clear hnw hnw1
      clear hR hsz hblt hcell
      go_wp2
      go_big_region
      go_wp2
      go_roundw
      case rel =>
        refine ⟨k + 1, A4, c4, rs ++ [oneR wr.heap.size s], by omega, by rw [List.length_append, hkl]; rfl, by go_num, ⟨?_, ?_⟩⟩
        · rw [List.take_add_one, hs]
          exact HR.out.1
        · show q0 + 2 ≤ (w4.setCell _ _).heap.size
          rw [World.size_setCell]
          exact HR.out.2
      case measure => simp [intOf]; omega
    · obtain rfl : k = n := by omega
      have hrow := HA.out.1.row
      obtain ⟨C0, hrow0, hs0⟩ := HA.out.1.row0
      have t0 := hrow.cell 0
      have t1 := hrow.cell 1
      have t2 := hrow.cell 2
      have t3 := hrow.cell 3
      have t4 := hrow.cell 4
      have t5 := hrow.cell 5
      rw [hkl] at t5
      have HQ := Ytobdfocfkomagaa.base.Shut.mk (And.intro hrow0 hs0)
      have f0 := hrow0.frozen 0
      have f1 := hrow0.frozen 1
      have f2 := hrow0.frozen 2
      have f3 := hrow0.frozen 3
      have f4 := hrow0.frozen 4
      have f5 := hrow0.frozen 5
      have c0 := hrow0.cell 0
      have c1 := hrow0.cell 1
      have c2 := hrow0.cell 2
      have c3 := hrow0.cell 3
      have c4 := hrow0.cell 4
      have c5 := hrow0.cell 5
      rw [Array.getElem?_eq_getElem (by omega)] at c0 c1 c2 c3 c4 c5
      generalize C0[0]'(by omega) = d0 at c0
      generalize C0[1]'(by omega) = d1 at c1
      generalize C0[2]'(by omega) = d2 at c2
      generalize C0[3]'(by omega) = d3 at c3
      generalize C0[4]'(by omega) = d4 at c4
      generalize C0[5]'(by omega) = d5 at c5
      clear hrow hrow0 hs0
      go_wp2
      refine bodyPost_ret (res_tb1 (p := 2) rfl _ _ q0 _ _ _ _ _ _ rfl (six_set HQ.out.1 HQ.out.2 _ _ _ _ _ _)) rfl ?_
      have hw0 : w.heap.size ≤ q0 := by omega
      have hB := six_below HA.out.1.below hw0 (.string rev.t0) (.slice none 0 0) (.slice none 0 0) (.int .i64 0) (.int .i64 0) (.slice A k c)
      refine ⟨A, c, rs, rfl, hkl, ?_, ?_, hB⟩
      · intro i r s hr hs
        rw [List.take_of_length_le (by rw [H.out.2.1]; exact Nat.le_refl _)] at HA
        obtain ⟨g, rfl, hg⟩ := HA.out.1.ok i r s hr hs
        exact ⟨g, rfl, (six_heap wr q0 g (Row.apart hg HQ.out.1 (by decide)) _ _ _ _ _ _).trans hg⟩
      · have hown := HA.out.1.own
        rw [hkl] at hown
        exact own_weak (own_keep hown (fun g hg _ => six_heap wr q0 g (by omega) _ _ _ _ _ _)) (by omega)
end Go.Proofs.Ytobdfocfkomagaa.rev
