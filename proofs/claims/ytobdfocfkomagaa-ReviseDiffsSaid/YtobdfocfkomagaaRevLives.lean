/- The document's example of changes: lives. -/
import Derived.Test.YtobdfocfkomagaaRevLivesP
import Derived.Deep.RegionHeld3
namespace Go.Proofs.Ytobdfocfkomagaa.rev
open Go.ChangeShapes Go.WideShapes Go.ChangeAt Go.RowKit
open Ytobdfocfkomagaa.base (size_mk chain newer drewn same ba_ext)
open Ytobdfocfkomagaa.row2 (Row CReads own_keep)
open Ytobdfocfkomagaa.oct (Reads)

attribute [local go_sem] si_one si_cells run_store_si
theorem reads_row {u : World} {g : Nat} {l : List ByteArray} {C : Array Value} (h : Row u g C 9) (hC : C = (l.map Value.string).toArray) : Reads u (some ⟨g, 0, none⟩) l := fun _ => ⟨g, 0, rfl, h.lt, fun i s hi => by
  rw [Nat.zero_add]
  exact h.at_ (by rw [hC]; simp [hi])⟩
/-- rules of three texts that were just laid -/
theorem rules3 (a b c : ByteArray) (u : World) : Calls Try.prog 45 #[.slice (some ⟨u.heap.size, 0, none⟩) 3 3] (u.alloc (.cells #[.string a, .string b, .string c] 9)) fun e w' => ∃ A k rs, e = .returned (.agg (rcells A 3 k)) ∧ rs.length = 3 ∧ (∀ (i : Nat) (r : RI) (s : ByteArray), rs[i]? = some r → [a, b, c][i]? = some s → isOne w' r s) ∧ w'.ownsRow u.heap.size 77 2 (.slice A 3 k) 3 (cellsR rs) ∧ Below u.heap.size u w' :=
  (rules_walk (some ⟨u.heap.size, 0, none⟩) 3 3 [a, b, c] rfl (by decide) _ (reads_row (Row.new u _ _) rfl)).mono fun e w' ⟨A, k, rs, h1, h2, h3, h4, h5⟩ => ⟨A, k, rs, h1, h2, h3, own_weak h4 (newer (same u) _).size, chain (newer (same u) _) h5⟩
theorem own_nil {w : World} {base k n c : Nat} {e : TypeId} {A : Option Addr} {xs : List Value} (h : w.ownsRow base e k (.slice A n c) n xs) : A = none → n = 0 ∧ c = 0 := by
  intro hA
  obtain ⟨_, ⟨hv, h0⟩ | ⟨g', cap, cur, hv, _⟩⟩ := h
  · cases hv; exact ⟨rfl, rfl⟩
  · rw [hA] at hv; cases hv
/-- the changes told are those that the document tells -/
theorem ex_same {u V : World} {A : Option Addr} {c gx gw gc : Nat} {r0 s1 : RI} (hC : CL u A [⟨false, 0, r0⟩, ⟨true, 1, s1⟩]) (h0 : one r0 bX) (h1 : one s1 bW) (hb : Below u.heap.size u V) (hx : Row V gx #[.string bX] 9) (hw : Row V gw #[.string bW] 9)
    (hc : Row V gc #[.bool false, .int .i64 0, .slice (some ⟨gx, 0, none⟩) 1 1, .slice none 0 0, .bool true, .int .i64 1, .slice (some ⟨gw, 0, none⟩) 1 1, .slice none 0 0] 79) :
    Calls Try.prog 20 #[.slice A 2 c, .slice (some ⟨gc, 0, none⟩) 2 2] V fun e w' => e = .returned (.bool true) ∧ Below u.heap.size u w' := by
  have hcl : CL V (some ⟨gc, 0, none⟩) [⟨false, 0, oneR gx bX⟩, ⟨true, 1, oneR gw bW⟩] := ⟨fun _ => ⟨gc, 0, rfl, hc.lt, fun j v hj => by
    rw [Nat.zero_add]
    exact hc.at_ (by simpa [cellsC, CI.cells, oneR, SI.v] using hj)⟩, fun d hd => by
    simp only [List.mem_cons, List.not_mem_nil, or_false] at hd
    rcases hd with rfl | rfl
    · exact ⟨isOne.ok ⟨gx, rfl, hx⟩, by simp⟩
    · exact ⟨isOne.ok ⟨gw, rfl, hw⟩, by simp⟩⟩
  refine (rsameC_walk A (some ⟨gc, 0, none⟩) 2 c 2 _ _ rfl rfl (by decide) V (hC.keep hb) hcl (fun i x y hi hj => ?_)).mono (fun e w' ⟨h1, h2⟩ => ⟨h1, chain hb h2⟩)
  match i with
  | 0 => cases hi; cases hj; exact ⟨rfl, rfl, by rw [one_same h0 (show one (oneR gx bX) bX from ⟨rfl, rfl⟩)]; decide⟩
  | 1 => cases hi; cases hj; exact ⟨rfl, rfl, by rw [one_same h1 (show one (oneR gw bW) bW from ⟨rfl, rfl⟩)]; decide⟩
  | i + 2 => simp at hi
theorem exA {u : World} {A : Option Addr} {c : Nat} {r0 s1 : RI} (hC : CL u A [⟨false, 0, r0⟩, ⟨true, 1, s1⟩]) (h0 : one r0 bX) (h1 : one s1 bW) :
    Calls Try.prog 20 #[.slice A 2 c, .slice (some ⟨u.heap.size + 1 + 1, 0, none⟩) 2 2] (((u.alloc (.cells #[.string bX] 9)).alloc (.cells #[.string bW] 9)).alloc (.cells #[.bool false, .int .i64 0, .slice (some ⟨u.heap.size, 0, none⟩) 1 1, .slice none 0 0, .bool true, .int .i64 1, .slice (some ⟨u.heap.size + 1, 0, none⟩) 1 1, .slice none 0 0] 79)).drew fun e w' => e = .returned (.bool true) ∧ Below u.heap.size u w' := by
  have r1 := (Row.new u #[.string bX] 9).below (newer (same _) (.cells #[.string bW] 9))
  have r2 := Row.new (u.alloc (.cells #[.string bX] 9)) #[.string bW] 9
  have hb := newer (newer (same u) (.cells #[.string bX] 9)) (.cells #[.string bW] 9)
  have hsz : ((u.alloc (.cells #[.string bX] 9)).alloc (.cells #[.string bW] 9)).heap.size = u.heap.size + 1 + 1 := by rw [World.size_alloc, World.size_alloc]
  rw [World.size_alloc] at r2
  generalize (u.alloc (.cells #[.string bX] 9)).alloc (.cells #[.string bW] 9) = U at r1 r2 hb hsz ⊢
  have r3 := Row.new U #[.bool false, .int .i64 0, .slice (some ⟨u.heap.size, 0, none⟩) 1 1, .slice none 0 0, .bool true, .int .i64 1, .slice (some ⟨u.heap.size + 1, 0, none⟩) 1 1, .slice none 0 0] 79
  rw [hsz] at r3
  have hn := drewn (newer (same U) (.cells #[.bool false, .int .i64 0, .slice (some ⟨u.heap.size, 0, none⟩) 1 1, .slice none 0 0, .bool true, .int .i64 1, .slice (some ⟨u.heap.size + 1, 0, none⟩) 1 1, .slice none 0 0] 79))
  exact ex_same hC h0 h1 (chain hb hn) (r1.below hn) (r2.below hn) (r3.below (drewn (same _)))
theorem exB {u : World} {A : Option Addr} {c : Nat} {r0 s1 : RI} (hC : CL u A [⟨false, 0, r0⟩, ⟨true, 1, s1⟩]) (h0 : one r0 bX) (h1 : one s1 bW) :
    Calls Try.prog 20 #[.slice A 2 c, .slice (some ⟨u.heap.size + 1 + 1, 0, none⟩) 2 2] (((u.alloc (.cells #[.string bW] 9)).alloc (.cells #[.string bX] 9)).alloc (.cells #[.bool false, .int .i64 0, .slice (some ⟨u.heap.size + 1, 0, none⟩) 1 1, .slice none 0 0, .bool true, .int .i64 1, .slice (some ⟨u.heap.size, 0, none⟩) 1 1, .slice none 0 0] 79)).drew fun e w' => e = .returned (.bool true) ∧ Below u.heap.size u w' := by
  have r1 := (Row.new u #[.string bW] 9).below (newer (same _) (.cells #[.string bX] 9))
  have r2 := Row.new (u.alloc (.cells #[.string bW] 9)) #[.string bX] 9
  have hb := newer (newer (same u) (.cells #[.string bW] 9)) (.cells #[.string bX] 9)
  have hsz : ((u.alloc (.cells #[.string bW] 9)).alloc (.cells #[.string bX] 9)).heap.size = u.heap.size + 1 + 1 := by rw [World.size_alloc, World.size_alloc]
  rw [World.size_alloc] at r2
  generalize (u.alloc (.cells #[.string bW] 9)).alloc (.cells #[.string bX] 9) = U at r1 r2 hb hsz ⊢
  have r3 := Row.new U #[.bool false, .int .i64 0, .slice (some ⟨u.heap.size + 1, 0, none⟩) 1 1, .slice none 0 0, .bool true, .int .i64 1, .slice (some ⟨u.heap.size, 0, none⟩) 1 1, .slice none 0 0] 79
  rw [hsz] at r3
  have hn := drewn (newer (same U) (.cells #[.bool false, .int .i64 0, .slice (some ⟨u.heap.size + 1, 0, none⟩) 1 1, .slice none 0 0, .bool true, .int .i64 1, .slice (some ⟨u.heap.size, 0, none⟩) 1 1, .slice none 0 0] 79))
  exact ex_same hC h0 h1 (chain hb hn) (r2.below hn) (r1.below hn) (r3.below (drewn (same _)))
theorem ex_tsame {V : World} {A B : Option Addr} {c d : Nat} {r1 s1 r2 : RI} {us : List RI} (hA : RL V A [r1, s1, r2]) (h1 : one r1 bY) (g1 : one s1 bW) (h2 : one r2 bZ) (hl : us.length = 3) (ho : ∀ (i : Nat) (r : RI) (s : ByteArray), us[i]? = some r → [bY, bW, bZ][i]? = some s → isOne V r s) (hB : CReads V B (cellsR us)) :
    Calls Try.prog 19 #[.agg (rcells A 3 c), .agg (rcells B 3 d)] V fun e w' => e = .returned (.bool true) ∧ Below V.heap.size V w' := by
  obtain ⟨v0, v1, v2, rfl, k0, k1, k2, hok⟩ := three hl ho
  have h := tsame_walk ti0 ti0 A B 3 c d [r1, s1, r2] [v0, v1, v2] rfl (by decide) (ex_like h1 g1 h2 k0 k1 k2) V (ti0_ok V) (ti0_ok V) hA ⟨hB, hok⟩
  rw [ti0_same] at h
  exact h
set_option maxRecDepth 100000 in
set_option maxHeartbeats 3200000 in
theorem lives_walk (w : World) : Calls Try.prog 14 #[] w fun e w' => e = .returned (.bool true) ∧ Below w.heap.size w w' := by
  go_enter Try.func14, Try.ntmps14
  go_wp2_with fail
  refine (rules3 bX bY bZ w).mono ?_
  rintro e w2 ⟨A1, c1, rs, rfl, hl1, hone1, hown1, hb2⟩
  have H1 := Ytobdfocfkomagaa.base.Shut.mk (And.intro hl1 (And.intro hone1 (And.intro hown1 hb2)))
  clear hl1 hone1 hown1 hb2
  go_wp2_with fail
  refine (rules3 bY bW bZ w2).mono ?_
  rintro e w4 ⟨A2, c2, ss, rfl, hl2, hone2, hown2, hb4⟩
  have H2 := Ytobdfocfkomagaa.base.Shut.mk (And.intro hl2 (And.intro hone2 (And.intro hown2 hb4)))
  clear hl2 hone2 hown2 hb4
  obtain ⟨r0, r1, r2, rfl, ha0, ha1, ha2, hrok⟩ := three H1.out.1 H1.out.2.1
  obtain ⟨s0, s1, s2, rfl, hc0, hc1, hc2, hsok⟩ := three H2.out.1 H2.out.2.1
  have hr4 : RL w4 A1 [r0, r1, r2] := (RL.mk (CReads.of_own H1.out.2.2.1) hrok).keep H2.out.2.2.2
  have hs4 : RL w4 A2 [s0, s1, s2] := RL.mk (CReads.of_own H2.out.2.2.1) hsok
  have hd := diff_walk ti0 ti0 A1 A2 3 c1 3 c2 [r0, r1, r2] [s0, s1, s2] rfl rfl (by decide) (by decide) w4 (ti0_ok _) (ti0_ok _) hr4 hs4
  rw [ex_diffO rfl rfl, ex_diff ha0 ha1 ha2 hc0 hc1 hc2] at hd
  have HP := Ytobdfocfkomagaa.base.Shut.mk (And.intro ha0 (And.intro ha1 (And.intro ha2 (And.intro hc0 (And.intro hc1 (And.intro hc2 (And.intro hrok hsok)))))))
  have HD := Ytobdfocfkomagaa.base.Shut.mk hd
  clear ha0 ha1 ha2 hc0 hc1 hc2 hr4 hs4 hd hrok hsok
  go_wp2_with fail
  refine HD.out.mono ?_
  rintro e w5 ⟨hb5, A3, c3, he, hown5⟩
  obtain rfl : e = .returned (.tuple #[.slice A3 2 c3, .int .i64 0]) := he
  have hcl5 : CL w5 A3 [⟨false, 0, r0⟩, ⟨true, 1, s1⟩] := ⟨CReads.of_own hown5, fun c hc => by
    simp only [List.mem_cons, List.not_mem_nil, or_false] at hc
    rcases hc with rfl | rfl
    · exact ⟨((HP.out.2.2.2.2.2.2.1 r0 (by simp)).keep H2.out.2.2.2).keep hb5, by simp⟩
    · exact ⟨(HP.out.2.2.2.2.2.2.2 s1 (by simp)).keep hb5, by simp⟩⟩
  have H5 := Ytobdfocfkomagaa.base.Shut.mk (And.intro hcl5 (chain H1.out.2.2.2 (chain H2.out.2.2.2 hb5)))
  clear hown5 hb5 hcl5
  go_wp2_with fail
  refine (rules3 bX bY bZ w5).mono ?_
  rintro e w6 ⟨A4, c4, ts, rfl, hl3, hone3, hown3, hb6⟩
  obtain ⟨t1, t2, t3, rfl, hd0, hd1, hd2, htok⟩ := three hl3 hone3
  have ht6 : RL w6 A4 [t1, t2, t3] := RL.mk (CReads.of_own hown3) htok
  have hap := apply_walk (.string t0) (.slice none 0 0) (.slice none 0 0) (.int .i64 0) (.int .i64 0) A4 3 c4 [t1, t2, t3] A3 2 c3 [⟨false, 0, r0⟩, ⟨true, 1, s1⟩] rfl rfl rfl rfl rfl rfl rfl rfl rfl rfl rfl (by decide) (own_nil hown3) rfl (by decide) w6 ht6 (H5.out.1.keep hb6)
  rw [ex_apply hd0 HP.out.1] at hap
  have HD := Ytobdfocfkomagaa.base.Shut.mk hap
  have H6 := Ytobdfocfkomagaa.base.Shut.mk (And.intro hd1 (And.intro hd2 (And.intro htok (And.intro (chain H5.out.2 hb6) (H5.out.1.keep hb6)))))
  clear hap hl3 hone3 hown3 hb6 ht6 hd0 hd1 hd2 htok
  go_wp2_with fail
  refine HD.out.mono ?_
  rintro e w7 ⟨hb7, A5, c5, he, hown7⟩
  obtain rfl : e = .returned (.tuple #[.agg (rcells A5 3 c5), .int .i64 0]) := he
  have hrl7 : RL w7 A5 [t2, s1, t3] := RL.mk (CReads.of_own hown7) (fun r hr => by
    simp only [List.mem_cons, List.not_mem_nil, or_false] at hr
    rcases hr with rfl | rfl | rfl
    · exact (H6.out.2.2.1 _ (by simp)).keep hb7
    · exact ((H6.out.2.2.2.2).ok ⟨true, 1, _⟩ (by simp)).r.keep hb7
    · exact (H6.out.2.2.1 _ (by simp)).keep hb7)
  have H7 := Ytobdfocfkomagaa.base.Shut.mk (And.intro hrl7 (And.intro (chain H6.out.2.2.2.1 hb7) (H6.out.2.2.2.2.keep hb7)))
  clear hb7 hown7 hrl7
  go_wp2
  have hb8 := newer H7.out.2.1 (.cells (rcells A5 3 c5) 27)
  have hrow := Row.new w7 (rcells A5 3 c5) 27
  have hrl8 := H7.out.1.keep (newer (same w7) (.cells (rcells A5 3 c5) 27))
  have hcl8 := H7.out.2.2.keep (newer (same w7) (.cells (rcells A5 3 c5) 27))
  generalize w7.alloc (.cells (rcells A5 3 c5) 27) = w8 at hb8 hrow hrl8 hcl8 ⊢
  generalize w7.heap.size = q at hrow ⊢
  have m0 : w8.cell? ⟨q, 0, none⟩ = some (.string t0) := hrow.cell 0
  have m1 : w8.cell? ⟨q, 1, none⟩ = some (.slice none 0 0) := hrow.cell 1
  have m2 : w8.cell? ⟨q, 2, none⟩ = some (.slice none 0 0) := hrow.cell 2
  have m3 : w8.cell? ⟨q, 3, none⟩ = some (.int .i64 0) := hrow.cell 3
  have m4 : w8.cell? ⟨q, 4, none⟩ = some (.int .i64 0) := hrow.cell 4
  have m5 : w8.cell? ⟨q, 5, none⟩ = some (.slice A5 3 c5) := hrow.cell 5
  have H8 := Ytobdfocfkomagaa.base.Shut.mk (And.intro hb8 (And.intro hrow (And.intro hrl8 hcl8)))
  clear hb8 hrow hrl8 hcl8
  have HK := Ytobdfocfkomagaa.base.Shut.mk (fun (V : World) (hb : Below w8.heap.size w8 V) => (show V.cell? ⟨q, 0, none⟩ = some (.string t0) ∧ V.cell? ⟨q, 1, none⟩ = some (.slice none 0 0) ∧ V.cell? ⟨q, 2, none⟩ = some (.slice none 0 0) ∧ V.cell? ⟨q, 3, none⟩ = some (.int .i64 0) ∧ V.cell? ⟨q, 4, none⟩ = some (.int .i64 0) ∧ V.cell? ⟨q, 5, none⟩ = some (.slice A5 3 c5) from
    ⟨(hb.cell (World.block_lt_of_cell? w8 _ m0)).trans m0, (hb.cell (World.block_lt_of_cell? w8 _ m1)).trans m1, (hb.cell (World.block_lt_of_cell? w8 _ m2)).trans m2, (hb.cell (World.block_lt_of_cell? w8 _ m3)).trans m3, (hb.cell (World.block_lt_of_cell? w8 _ m4)).trans m4, (hb.cell (World.block_lt_of_cell? w8 _ m5)).trans m5⟩))
  have HA := Ytobdfocfkomagaa.base.Shut.mk (exA (c := c3) H8.out.2.2.2 HP.out.1 HP.out.2.2.2.2.1)
  have HB := Ytobdfocfkomagaa.base.Shut.mk (exB (c := c3) H8.out.2.2.2 HP.out.1 HP.out.2.2.2.2.1)
  go_region_held3 (fun w' => w'.cell? ⟨q, 0, none⟩ = some (.string t0) ∧ w'.cell? ⟨q, 1, none⟩ = some (.slice none 0 0) ∧ w'.cell? ⟨q, 2, none⟩ = some (.slice none 0 0) ∧ w'.cell? ⟨q, 3, none⟩ = some (.int .i64 0) ∧ w'.cell? ⟨q, 4, none⟩ = some (.int .i64 0) ∧ w'.cell? ⟨q, 5, none⟩ = some (.slice A5 3 c5))
    (first | assumption | (refine HK.out _ ?_; repeat (first | exact same _ | refine drewn ?_ | refine newer ?_ _ | exact H9.out)))
    (first
      | (go_at_call 20; (first | (with_reducible refine Calls.mono HA.out ?_) | (with_reducible refine Calls.mono HB.out ?_)); rintro e w9 ⟨rfl, hb9⟩; have H9 := Ytobdfocfkomagaa.base.Shut.mk hb9; have hk9 := HK.out w9 hb9; clear hb9)
      | (go_at_call 45; (with_reducible refine Calls.mono (rules3 bY bW bZ _) ?_); rintro e w10 ⟨A6, c6, us, rfl, hl6, hone6, hown6, hb10⟩; have hk10 := HK.out w10 (chain H9.out hb10); have H10 := Ytobdfocfkomagaa.base.Shut.mk (And.intro hl6 (And.intro hone6 (And.intro hown6 (chain H9.out hb10)))); clear hl6 hone6 hown6 hb10)
      | (go_at_call 19; (with_reducible refine Calls.mono (ex_tsame (H8.out.2.2.1.keep H10.out.2.2.2) H6.out.1 HP.out.2.2.2.2.1 H6.out.2.1 H10.out.1 H10.out.2.1 (CReads.of_own H10.out.2.2.1)) ?_); rintro e w11 ⟨rfl, hb11⟩; have H11 := Ytobdfocfkomagaa.base.Shut.mk (chain H10.out.2.2.2 hb11); have hk11 := HK.out w11 H11.out; clear hb11))
  all_goals go_wp2
  all_goals (go_ret; exact ⟨rfl, chain H8.out.1 H11.out⟩)
end Go.Proofs.Ytobdfocfkomagaa.rev
