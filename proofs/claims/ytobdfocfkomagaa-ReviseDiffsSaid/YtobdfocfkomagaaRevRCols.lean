/- The reference's sameColumns. -/
import Derived.Test.YtobdfocfkomagaaRevFrame
import Derived.Deep.RegionHeld3
import Derived.BigRegion
namespace Go.Proofs.Ytobdfocfkomagaa.rev
open Go.ChangeShapes Go.WideShapes Go.ChangeAt Go.RowKit
open Ytobdfocfkomagaa.base (size_mk chain newer drewn same ba_ext)
open Ytobdfocfkomagaa.oct (ne_str)
open Ytobdfocfkomagaa.row2 (Row CReads)

attribute [local go_sem] oi_one oi_cells run_store_oi
theorem six_kept {p0 p1 p2 p3 p4 p5 : Addr} {v0 v1 v2 v3 v4 v5 : Value} {u w' : World} (hb : Below u.heap.size u w') (h : u.cell? p0 = some v0 ∧ u.cell? p1 = some v1 ∧ u.cell? p2 = some v2 ∧ u.cell? p3 = some v3 ∧ u.cell? p4 = some v4 ∧ u.cell? p5 = some v5) :
    w'.cell? p0 = some v0 ∧ w'.cell? p1 = some v1 ∧ w'.cell? p2 = some v2 ∧ w'.cell? p3 = some v3 ∧ w'.cell? p4 = some v4 ∧ w'.cell? p5 = some v5 :=
  have k := fun {p : Addr} {v : Value} (h : u.cell? p = some v) => (hb.cell (World.block_lt_of_cell? u p h)).trans h
  ⟨k h.1, k h.2.1, k h.2.2.1, k h.2.2.2.1, k h.2.2.2.2.1, k h.2.2.2.2.2⟩
set_option maxRecDepth 100000 in
set_option maxHeartbeats 3200000 in
theorem rsameCols_walk (a b : FI) (w : World) (ha : FOk w a) (hb : FOk w b) :
    Calls Try.prog 54 #[a.v, b.v] w fun e w' => e = .returned (.bool (sameF a.l b.l)) ∧ Below w.heap.size w w' := by
  by_cases hl : a.l.length = b.l.length
  · obtain ⟨n, hn⟩ : ∃ n, a.l.length = n := ⟨_, rfl⟩
    have hn' : b.l.length = n := by omega
    have hs63 : n ≤ 9223372036854775807 := by have := ha.len; unfold maxLen at this; omega
    have H := Ytobdfocfkomagaa.base.Shut.mk (And.intro ha (And.intro hb (And.intro hn hn')))
    show Calls Try.prog 54 #[.slice a.A a.l.length a.c, .slice b.A b.l.length b.c] w _
    rw [hn, hn']
    clear ha hb hn hn' hl
    go_enter Try.func54, Try.ntmps54
    go_wp2
    go_loopw [5] (fun i wr => ∃ k : Nat, i = .int .i64 k ∧ k ≤ n ∧ Ytobdfocfkomagaa.base.Shut (sameF a.l b.l = sameF (a.l.drop k) (b.l.drop k) ∧ Below w.heap.size w wr)) (fun i _ => n - (intOf i).toNat)
    case atStart => exact ⟨0, rfl, Nat.zero_le _, ⟨rfl, same w⟩⟩
    case round =>
      obtain ⟨k, rfl, hk, HI⟩ := hrel
      by_cases hlt : k < n
      · obtain ⟨x, hx⟩ : ∃ x, a.l[k]? = some x := ⟨_, List.getElem?_eq_getElem (by rw [H.out.2.2.1]; exact hlt)⟩
        obtain ⟨y, hy⟩ : ∃ y, b.l[k]? = some y := ⟨_, List.getElem?_eq_getElem (by rw [H.out.2.2.2]; exact hlt)⟩
        obtain ⟨p, off, hA, c0, c1, c2, hok⟩ := (H.out.1.keep HI.out.2).at_ hx
        obtain ⟨p', off', hB, d0, d1, d2, hok'⟩ := (H.out.2.1.keep HI.out.2).at_ hy
        have hs1 := rsameRow_walk x.o y.o wr.drew (hok.keep (drewn (same wr))) (hok'.keep (drewn (same wr)))
        have k1 : (k : Int) < n := by omega
        have hdef : sameK x y = (decide (x.nm = y.nm) && decide (x.kd = y.kd) && decide (x.o.l = y.o.l)) := rfl
        have HG := Ytobdfocfkomagaa.base.Shut.mk (And.intro (HI.out.1.trans (sameF_step hx hy)) hdef)
        clear hx hy hok hok' hdef
        obtain ⟨xn, xk, xo⟩ := x
        obtain ⟨yn, yk, yo⟩ := y
        simp only at c0 c1 c2 d0 d1 d2 hs1 HG
        simp only [hA, hB]
        by_cases q1 : xn = yn
        · subst q1
          by_cases q2 : xk = yk
          · subst q2
            obtain ⟨sm, hsm⟩ : ∃ sm, decide (xo.l = yo.l) = sm := ⟨_, rfl⟩
            rw [hsm] at hs1 HG
            have HS := Ytobdfocfkomagaa.base.Shut.mk hs1
            clear hs1 hsm
            generalize xo.v = y1 at c2 HS
            generalize yo.v = y2 at d2 HS
            go_wp2
            go_region_held3 (fun w' => w'.cell? ⟨p, off + k * 3, none⟩ = some (.string xn) ∧ w'.cell? ⟨p, off + k * 3 + 1, none⟩ = some (.int .i64 xk) ∧ w'.cell? ⟨p, off + k * 3 + 2, none⟩ = some y1 ∧ w'.cell? ⟨p', off' + k * 3, none⟩ = some (.string xn) ∧ w'.cell? ⟨p', off' + k * 3 + 1, none⟩ = some (.int .i64 xk) ∧ w'.cell? ⟨p', off' + k * 3 + 2, none⟩ = some y2)
              (first | assumption | go_keep)
              (first | (go_at_call 79; (with_reducible refine Calls.mono HS.out ?_); rintro e w5 ⟨rfl, hb5⟩; have H5 := Ytobdfocfkomagaa.base.Shut.mk (chain (drewn (same wr)) hb5); have hk5 := six_kept H5.out (And.intro c0 (And.intro c1 (And.intro c2 (And.intro d0 (And.intro d1 d2))))); clear hb5))
            cases sm with
            | true =>
              go_wp2
              go_roundw
              case rel => exact ⟨k + 1, by go_num, by omega, ⟨by rw [HG.out.1, HG.out.2]; simp, chain HI.out.2 H5.out⟩⟩
              case measure => simp [intOf]; omega
            | false =>
              go_wp2
              go_ret
              exact ⟨by rw [HG.out.1, HG.out.2]; simp, chain HI.out.2 H5.out⟩
          · have e1 := beq_int_false q2
            have C1 := Ytobdfocfkomagaa.base.Shut.mk q2
            have e3 : (xk != yk) = true := by simpa using q2
            clear hs1
            go_wp2
            go_big_region
            go_wp2
            go_ret
            exact ⟨by rw [HG.out.1, HG.out.2, decide_eq_false C1.out]; simp, HI.out.2.drew⟩
        · have e1 := ne_str q1
          have C1 := Ytobdfocfkomagaa.base.Shut.mk q1
          clear q1 hs1
          go_wp2
          go_big_region
          go_wp2
          go_ret
          exact ⟨by rw [HG.out.1, HG.out.2, decide_eq_false C1.out]; simp, HI.out.2.drew⟩
      · obtain rfl : k = n := by omega
        go_wp2
        go_ret
        refine ⟨?_, HI.out.2⟩
        rw [HI.out.1, List.drop_of_length_le (by rw [H.out.2.2.1]; exact Nat.le_refl _), List.drop_of_length_le (by rw [H.out.2.2.2]; exact Nat.le_refl _)]
        rfl
  · rw [sameF_len _ _ hl]
    obtain ⟨n, hn⟩ : ∃ n, a.l.length = n := ⟨_, rfl⟩
    obtain ⟨m, hm⟩ : ∃ m, b.l.length = m := ⟨_, rfl⟩
    show Calls Try.prog 54 #[.slice a.A a.l.length a.c, .slice b.A b.l.length b.c] w _
    rw [hn, hm] at hl ⊢
    have hnm : ¬ (n : Int) = m := by omega
    clear ha hb hn hm hl
    go_enter Try.func54, Try.ntmps54
    go_wp2
    go_ret
    exact ⟨rfl, same w⟩
end Go.Proofs.Ytobdfocfkomagaa.rev
