/- The walk of the reference's count of alike rules. -/
import Derived.Test.YtobdfocfkomagaaRevRAlikeP
import Derived.Test.YtobdfocfkomagaaRevFrame
import Derived.Deep.RegionHeld3
namespace Go.Proofs.Ytobdfocfkomagaa.rev
open Go.ChangeShapes Go.WideShapes Go.ChangeAt Go.RowKit
open Ytobdfocfkomagaa.base (size_mk chain newer drewn same ba_ext)
open Ytobdfocfkomagaa.row2 (Row CReads own_keep)

attribute [local go_sem] si_one si_cells run_store_si
def shutRA (ats : Array TypeId) (ty : TypeId) (args : Array Value) : Sem Value := Builtin.append_ ats ty args
theorem ra_shut (ats : Array TypeId) (ty : TypeId) (args : Array Value) : Builtin.append_ ats ty args = shutRA ats ty args := rfl
attribute [local go_sem ↓] ra_shut
/-- a row of numbers of its own that grows -/
structure Ints (W wr : World) (A : Option Addr) (n c : Nat) (f : Nat → Nat) : Prop where
  own : wr.ownsRow W.heap.size 3 1 (.slice A n c) n (intsOf f n)
  below : Below W.heap.size W wr
theorem Ints.get {W wr w' : World} {A : Option Addr} {n c : Nat} {f : Nat → Nat} (h : Ints W wr A n c f) (hn : 0 < n) (hb : Below wr.heap.size wr w') : ∃ b off, A = some ⟨b, off, none⟩ ∧ b < wr.heap.size ∧ n ≤ c ∧ ∀ k, k < n → w'.cell? ⟨b, off + k, none⟩ = some (.int .i64 (f k : Int)) := by
  have hr := CReads.of_own h.own
  obtain ⟨b, off, hA, hlt, hc⟩ := hr (by intro e; have := intsOf_len f n; rw [e] at this; simp at this; omega)
  refine ⟨b, off, hA, hlt, ?_, fun k hk => (hb.cell hlt).trans (hc k _ (intsOf_get f n k hk))⟩
  obtain ⟨_, ⟨hv, h0⟩ | ⟨g', cap, cur, hv, _, _, hle, _⟩⟩ := h.own
  · omega
  · cases hv; exact hle
theorem Ints.more {W wr w1 : World} {A : Option Addr} {n c : Nat} {f : Nat → Nat} (h : Ints W wr A n c f) (hb : Below wr.heap.size wr w1) (v : Nat) (hn : n ≤ 500) (hv : v = f n) (ats : Array TypeId) (ty : TypeId) (hats : ats = #[97, 97]) (hty : ty = 97) :
    ∃ A' c' w', (shutRA ats ty #[.slice A n c, .slice (some ⟨w1.heap.size, 0, none⟩) 1 1]).run Try.prog (w1.alloc (.cells #[.int .i64 (v : Int)] 3)) = .ok (.slice A' (n + 1) c') w' ∧ Ints W w' A' (n + 1) c' f := by
  have hnw := chain hb (newer (same w1) (.cells #[.int .i64 (v : Int)] 3))
  have hown1 : (w1.alloc (.cells #[.int .i64 (v : Int)] 3)).ownsRow W.heap.size 3 1 (.slice A n c) n (intsOf f n) := own_keep h.own (fun g _ hg => hnw.block g hg)
  have hsz := (chain h.below hnw).size
  obtain ⟨A4, c4, w4, hrun, hown4, hgr⟩ := int_append (w1.alloc (.cells #[.int .i64 (v : Int)] 3)) W.heap.size w1.heap.size v ((Row.new w1 #[.int .i64 (v : Int)] 3).cell 0) _ n _ (by omega) hown1 hsz
  subst hv hats hty
  rw [intsOf_succ] at hown4
  exact ⟨A4, c4, w4, hrun, hown4, (chain h.below hnw).grown hgr hsz (fun g hg => (World.ownsRow.lt hown1 g hg).1)⟩
theorem Ints.weak {W0 W wr : World} {A : Option Addr} {n c : Nat} {f : Nat → Nat} (h : Ints W wr A n c f) (hb : Below W0.heap.size W0 W) : Ints W0 wr A n c f := by
  refine ⟨?_, chain hb h.below⟩
  obtain ⟨hl, h1 | ⟨g', cap, cur, hv, hbg, r⟩⟩ := h.own
  · exact ⟨hl, .inl h1⟩
  · exact ⟨hl, .inr ⟨g', cap, cur, hv, Nat.le_trans hb.size hbg, r⟩⟩
theorem Ints.first (W : World) (f : Nat → Nat) (hf : f 0 = 0) : Ints W (W.alloc (.cells #[.int .i64 0] 3)) (some ⟨W.heap.size, 0, none⟩) 1 1 f := by
  refine ⟨⟨intsOf_len f 1, .inr ⟨W.heap.size, 1, #[.int .i64 0], rfl, Nat.le_refl _, heap_alloc_new _ _, Nat.le_refl _, by decide, rfl, ?_⟩⟩, newer (same W) _⟩
  simp [intsOf, hf]
set_option maxRecDepth 100000 in
set_option maxHeartbeats 6400000 in
theorem ralike_walk (A B : Option Addr) (n c m d : Nat) (rs ss : List RI) (hn : rs.length = n) (hm : ss.length = m) (hn2 : n ≤ 100) (hm2 : m ≤ 100) (w : World) (hr : RL w A rs) (hs : RL w B ss) :
    Calls Try.prog 60 #[.slice A n c, .slice B m d] w fun e w' => e = .returned (.int .i64 (Pf rs ss n m : Int)) ∧ Below w.heap.size w w' := by
  have H := Ytobdfocfkomagaa.base.Shut.mk (And.intro hr (And.intro hs (And.intro hn hm)))
  clear hr hs hn hm
  go_enter Try.func60, Try.ntmps60
  go_wp2
  go_loopw [5, 6] (fun l k wr => ∃ (k' : Nat) (A5 : Option Addr) (c5 : Nat), k' ≤ m + 1 ∧ l = .slice A5 k' c5 ∧ k = .int .i64 (k' : Int) ∧ Ytobdfocfkomagaa.base.Shut (Ints w wr A5 k' c5 (Pf rs ss 0))) (fun _ k _ => m + 1 - (intOf k).toNat)
  case atStart => exact ⟨0, none, 0, Nat.zero_le _, rfl, rfl, ⟨⟨World.ownsRow_nil _ _ _ _, same w⟩⟩⟩
  case round =>
    obtain ⟨k, A5, c5, hk, rfl, rfl, HI⟩ := hrel
    by_cases hlt : k ≤ m
    · have hlt' : (k : Int) ≤ m := by omega
      have hk0 : (0 : Int) ≤ k := by omega
      obtain ⟨A9, c9, w9, hrun, hI9⟩ := HI.out.more (same wr) 0 (by omega) (by rw [Pf_zero1]) _ _ rfl rfl
      rw [show ((0 : Nat) : Int) = 0 from rfl] at hrun
      have HI9 := Ytobdfocfkomagaa.base.Shut.mk hI9
      clear hI9
      go_wp2
      go_roundw
      case rel => exact ⟨k + 1, A9, c9, by omega, rfl, by go_num, HI9⟩
      case measure => simp [intOf]; omega
    · obtain rfl : k = m + 1 := by omega
      have hgt : ¬ ((m + 1 : Nat) : Int) ≤ (m : Int) := by omega
      go_wp2
      clear hgt hlt hk
      go_loopw [5, 7] (fun l i wr => ∃ (i' : Nat) (A5 : Option Addr) (c5 : Nat), i' ≤ n ∧ l = .slice A5 (m + 1) c5 ∧ i = .int .i64 (i' : Int) ∧ Ytobdfocfkomagaa.base.Shut (Ints w wr A5 (m + 1) c5 (Pf rs ss i'))) (fun _ i _ => n - (intOf i).toNat)
      case atStart => exact ⟨0, A5, c5, Nat.zero_le _, rfl, rfl, HI⟩
      case round =>
        obtain ⟨i, A5, c5, hi, rfl, rfl, HO⟩ := hrel
        by_cases hlt : i < n
        · have hlt' : (i : Int) < n := by omega
          have hi0 : (0 : Int) ≤ i := by omega
          obtain ⟨x, hx⟩ : ∃ x, rs[i]? = some x := ⟨_, List.getElem?_eq_getElem (by rw [H.out.2.2.1]; omega)⟩
          obtain ⟨W0, rfl⟩ : ∃ W0, W0 = wr := ⟨wr, rfl⟩
          obtain ⟨g5, o5, rfl, hg5, hcap5, hrow⟩ := HO.out.get (Nat.succ_pos m) (same W0)
          have HF := Ytobdfocfkomagaa.base.Shut.mk (Ints.first W0 (Pf rs ss (i + 1)) (Pf_zero2 _ _ _))
          have HX := Ytobdfocfkomagaa.base.Shut.mk (And.intro hx (And.intro hrow (And.intro hg5 hcap5)))
          clear hx hrow hg5
          go_wp2
          go_loopw [8, 9] (fun l k wr2 => ∃ (k' : Nat) (A8 : Option Addr) (c8 : Nat), k' ≤ m ∧ l = .slice A8 (k' + 1) c8 ∧ k = .int .i64 (k' : Int) ∧ Ytobdfocfkomagaa.base.Shut (Ints W0 wr2 A8 (k' + 1) c8 (Pf rs ss (i + 1)))) (fun _ k _ => m - (intOf k).toNat)
          case atStart => exact ⟨0, _, 1, Nat.zero_le _, rfl, rfl, HF⟩
          case round =>
            obtain ⟨k, A8, c8, hk, rfl, rfl, HJ⟩ := hrel
            by_cases hkl : k < m
            · have hkl' : (k : Int) < m := by omega
              have hk0 : (0 : Int) ≤ k := by omega
              have hk1 : (0 : Int) ≤ (k : Int) + 1 := by omega
              have hk2 : (k : Int) + 1 < (m : Int) + 1 := by omega
              have hk3 : (k : Int) < (m : Int) + 1 := by omega
              have hk4 : (k : Int) < (k : Int) + 1 := by omega
              obtain ⟨y, hy⟩ : ∃ y, ss[k]? = some y := ⟨_, List.getElem?_eq_getElem (by rw [H.out.2.2.2]; omega)⟩
              have hbw := chain HO.out.below HJ.out.below
              obtain ⟨b, off, rfl, -, m0, m1, hok⟩ := (H.out.1.keep hbw).at_ HX.out.1
              obtain ⟨b', off', rfl, -, n0, n1, hok'⟩ := (H.out.2.1.keep hbw).at_ hy
              obtain ⟨g8, o8, rfl, -, -, hnx⟩ := HJ.out.get (Nat.succ_pos k) (same wr)
              have e8 := hnx k (by omega)
              have e51 := (HJ.out.below.cell HX.out.2.2.1).trans (HX.out.2.1 (k + 1) (by omega))
              have e50 := (HJ.out.below.cell HX.out.2.2.1).trans (HX.out.2.1 k (by omega))
              have HS : Ytobdfocfkomagaa.base.Shut (Calls Try.prog 55 #[.agg #[x.x.v, x.y.v], .agg #[y.x.v, y.y.v]] wr.drew fun e w' => e = .returned (.bool (sameR x y)) ∧ Below wr.drew.heap.size wr.drew w') := ⟨rsame_walk x y wr.drew (hok.keep (drewn (same wr))) (hok'.keep (drewn (same wr)))⟩
              have HP := Ytobdfocfkomagaa.base.Shut.mk (Pf_way HX.out.1 hy)
              have hP1 := Pf_le rs ss i k
              have hP2 := Pf_le rs ss (i + 1) k
              have hP3 := Pf_le rs ss i (k + 1)
              have hwr : IntKind.i64.wrap ((Pf rs ss i k : Int) + 1) = (Pf rs ss i k : Int) + 1 := by rw [IntKind.wrap_i64]; omega
              obtain ⟨sm, hsm⟩ : ∃ sm, sameR x y = sm := ⟨_, rfl⟩
              rw [hsm] at HS HP
              clear hsm hok hok' hnx hbw hy
              generalize x.x.v = y1 at m0 HS
              generalize x.y.v = y2 at m1 HS
              generalize y.x.v = y3 at n0 HS
              generalize y.y.v = y4 at n1 HS
              have HK := Ytobdfocfkomagaa.base.Shut.mk (fun (V : World) (hb : Below wr.heap.size wr V) => (show V.cell? ⟨b, off + i * 2, none⟩ = some y1 ∧ V.cell? ⟨b, off + i * 2 + 1, none⟩ = some y2 ∧ V.cell? ⟨b', off' + k * 2, none⟩ = some y3 ∧ V.cell? ⟨b', off' + k * 2 + 1, none⟩ = some y4 ∧ V.cell? ⟨g5, o5 + k, none⟩ = some (.int .i64 (Pf rs ss i k : Int)) from
                ⟨(hb.cell (World.block_lt_of_cell? wr _ m0)).trans m0, (hb.cell (World.block_lt_of_cell? wr _ m1)).trans m1, (hb.cell (World.block_lt_of_cell? wr _ n0)).trans n0, (hb.cell (World.block_lt_of_cell? wr _ n1)).trans n1, (hb.cell (World.block_lt_of_cell? wr _ e50)).trans e50⟩))
              by_cases hup : Pf rs ss (i + 1) k < Pf rs ss i (k + 1)
              · have hup' : ((Pf rs ss (i + 1) k : Nat) : Int) < (Pf rs ss i (k + 1) : Int) := by omega
                cases sm
                · go_wp2
                  refine wp_region_noPanic ?_
                  refine wp_region_held_drew (S := (fun w' => w'.cell? ⟨b, off + i * 2, none⟩ = some y1 ∧ w'.cell? ⟨b, off + i * 2 + 1, none⟩ = some y2 ∧ w'.cell? ⟨b', off' + k * 2, none⟩ = some y3 ∧ w'.cell? ⟨b', off' + k * 2 + 1, none⟩ = some y4 ∧ w'.cell? ⟨g5, o5 + k, none⟩ = some (.int .i64 (Pf rs ss i k : Int)))) (by kernel_rfl) (HK.out _ (drewn (same wr))) (fun hHeld => ?_)
                  refine wpAnyH_take (i := 0) (v := ?vuf0) rfl (by kernel_rfl) (by kernel_rfl) (by kernel_rfl) (fun _ _ _ h => h) (Or.inl ⟨by rfl, ?yuf0⟩) (by assumption) ?ruf0
                  case yuf0 => (intro w hSw; (try dsimp only at hSw); first | (go_simp; done) | (go_simp; with_reducible rfl))
                  try simp only [Act.put, List.getElem_toArray, List.getElem_cons_zero, List.getElem_cons_succ, List.setIfInBounds_toArray, List.set_cons_zero, List.set_cons_succ]
                  refine wpAnyH_take (i := 1) (v := ?vuf1) rfl (by kernel_rfl) (by kernel_rfl) (by kernel_rfl) (fun _ _ _ h => h) (Or.inl ⟨by rfl, ?yuf1⟩) (by assumption) ?ruf1
                  case yuf1 => (intro w hSw; (try dsimp only at hSw); first | (go_simp; done) | (go_simp; with_reducible rfl))
                  try simp only [Act.put, List.getElem_toArray, List.getElem_cons_zero, List.getElem_cons_succ, List.setIfInBounds_toArray, List.set_cons_zero, List.set_cons_succ]
                  refine wpAnyH_take (i := 2) (v := ?vuf2) rfl (by kernel_rfl) (by kernel_rfl) (by kernel_rfl) (fun _ _ _ h => h) (Or.inl ⟨by rfl, ?yuf2⟩) (by assumption) ?ruf2
                  case yuf2 => (intro w hSw; (try dsimp only at hSw); first | (go_simp; done) | (go_simp; with_reducible rfl))
                  try simp only [Act.put, List.getElem_toArray, List.getElem_cons_zero, List.getElem_cons_succ, List.setIfInBounds_toArray, List.set_cons_zero, List.set_cons_succ]
                  refine wpAnyH_take (i := 3) (v := ?vuf3) rfl (by kernel_rfl) (by kernel_rfl) (by kernel_rfl) (fun _ _ _ h => h) (Or.inl ⟨by rfl, ?yuf3⟩) (by assumption) ?ruf3
                  case yuf3 => (intro w hSw; (try dsimp only at hSw); first | (go_simp; done) | (go_simp; with_reducible rfl))
                  try simp only [Act.put, List.getElem_toArray, List.getElem_cons_zero, List.getElem_cons_succ, List.setIfInBounds_toArray, List.set_cons_zero, List.set_cons_succ]
                  refine wpAnyH_take (i := 4) (v := ?vuf4) rfl (by kernel_rfl) (by kernel_rfl) (by kernel_rfl) (fun _ _ _ h => h) (Or.inl ⟨by rfl, ?yuf4⟩) (by assumption) ?ruf4
                  case yuf4 => (intro w hSw; (try dsimp only at hSw); first | (go_simp; done) | (go_simp; with_reducible rfl))
                  try simp only [Act.put, List.getElem_toArray, List.getElem_cons_zero, List.getElem_cons_succ, List.setIfInBounds_toArray, List.set_cons_zero, List.set_cons_succ]
                  refine wpAnyH_take (i := 5) (v := ?vuf5) rfl (by kernel_rfl) (by kernel_rfl) (by kernel_rfl) (fun _ _ _ h => h) (Or.inl ⟨by rfl, ?yuf5⟩) (by assumption) ?ruf5
                  case yuf5 => (intro w hSw; (try dsimp only at hSw); first | (go_simp; done) | (go_simp; with_reducible rfl))
                  try simp only [Act.put, List.getElem_toArray, List.getElem_cons_zero, List.getElem_cons_succ, List.setIfInBounds_toArray, List.set_cons_zero, List.set_cons_succ]
                  refine wpAnyH_take (i := 6) (v := ?vuf6) rfl (by kernel_rfl) (by kernel_rfl) (by kernel_rfl) (fun _ _ _ h => h) (Or.inl ⟨by rfl, ?yuf6⟩) (by assumption) ?ruf6
                  case yuf6 => (intro w hSw; (try dsimp only at hSw); first | (go_simp; done) | (go_simp; with_reducible rfl))
                  try simp only [Act.put, List.getElem_toArray, List.getElem_cons_zero, List.getElem_cons_succ, List.setIfInBounds_toArray, List.set_cons_zero, List.set_cons_succ]
                  refine wpAnyH_take (i := 7) (v := ?vuf7) rfl (by kernel_rfl) (by kernel_rfl) (by kernel_rfl) (fun _ _ _ h => h) (Or.inl ⟨by rfl, ?yuf7⟩) (by assumption) ?ruf7
                  case yuf7 => (intro w hSw; (try dsimp only at hSw); first | (go_simp; done) | (go_simp; with_reducible rfl))
                  try simp only [Act.put, List.getElem_toArray, List.getElem_cons_zero, List.getElem_cons_succ, List.setIfInBounds_toArray, List.set_cons_zero, List.set_cons_succ]
                  refine wpAnyH_ready (rs := [8]) (by kernel_rfl) (by simp) ?_
                  refine AllReadyH.cons rfl (fun K hK => ?_) AllReadyH.nil
                  go_simp
                  refine Calls.mono HS.out ?_
                  rintro e w5 ⟨rfl, hb5⟩
                  have H5 := Ytobdfocfkomagaa.base.Shut.mk (chain (drewn (same wr)) hb5)
                  clear hb5
                  first | refine hK.out _ _ ?_ (fun hHeld => ?_) | (go_wp2_with fail; refine hK.out _ _ ?_ (fun hHeld => ?_))
                  · exact HK.out w5 H5.out
                  clear hK K
                  try simp only [Act.put, List.getElem_toArray, List.getElem_cons_zero, List.getElem_cons_succ, List.setIfInBounds_toArray, List.set_cons_zero, List.set_cons_succ]
                  refine wpAnyH_take (i := 9) (v := ?vuf9) rfl (by kernel_rfl) (by kernel_rfl) (by kernel_rfl) (fun _ _ _ h => h) (Or.inl ⟨by rfl, ?yuf9⟩) (by assumption) ?ruf9
                  case yuf9 => (intro w hSw; (try dsimp only at hSw); first | (go_simp; done) | (go_simp; with_reducible rfl))
                  try simp only [Act.put, List.getElem_toArray, List.getElem_cons_zero, List.getElem_cons_succ, List.setIfInBounds_toArray, List.set_cons_zero, List.set_cons_succ]
                  refine wpAnyH_take (i := 10) (v := undef) rfl (by kernel_rfl) (by kernel_rfl) (by kernel_rfl) (fun _ _ _ h => h) (Or.inr ⟨by rfl, rfl⟩) (by assumption) ?_
                  try simp only [Act.put, List.getElem_toArray, List.getElem_cons_zero, List.getElem_cons_succ, List.setIfInBounds_toArray, List.set_cons_zero, List.set_cons_succ]
                  refine wpAnyH_take (i := 11) (v := undef) rfl (by kernel_rfl) (by kernel_rfl) (by kernel_rfl) (fun _ _ _ h => h) (Or.inr ⟨by rfl, rfl⟩) (by assumption) ?_
                  try simp only [Act.put, List.getElem_toArray, List.getElem_cons_zero, List.getElem_cons_succ, List.setIfInBounds_toArray, List.set_cons_zero, List.set_cons_succ]
                  refine wpAnyH_take (i := 12) (v := undef) rfl (by kernel_rfl) (by kernel_rfl) (by kernel_rfl) (fun _ _ _ h => h) (Or.inr ⟨by rfl, rfl⟩) (by assumption) ?_
                  try simp only [Act.put, List.getElem_toArray, List.getElem_cons_zero, List.getElem_cons_succ, List.setIfInBounds_toArray, List.set_cons_zero, List.set_cons_succ]
                  refine wpAnyH_take (i := 13) (v := undef) rfl (by kernel_rfl) (by kernel_rfl) (by kernel_rfl) (fun _ _ _ h => h) (Or.inr ⟨by rfl, rfl⟩) (by assumption) ?_
                  try simp only [Act.put, List.getElem_toArray, List.getElem_cons_zero, List.getElem_cons_succ, List.setIfInBounds_toArray, List.set_cons_zero, List.set_cons_succ]
                  refine wpAnyH_take (i := 14) (v := undef) rfl (by kernel_rfl) (by kernel_rfl) (by kernel_rfl) (fun _ _ _ h => h) (Or.inr ⟨by rfl, rfl⟩) (by assumption) ?_
                  try simp only [Act.put, List.getElem_toArray, List.getElem_cons_zero, List.getElem_cons_succ, List.setIfInBounds_toArray, List.set_cons_zero, List.set_cons_succ]
                  refine wpAnyH_take (i := 15) (v := undef) rfl (by kernel_rfl) (by kernel_rfl) (by kernel_rfl) (fun _ _ _ h => h) (Or.inr ⟨by rfl, rfl⟩) (by assumption) ?_
                  try simp only [Act.put, List.getElem_toArray, List.getElem_cons_zero, List.getElem_cons_succ, List.setIfInBounds_toArray, List.set_cons_zero, List.set_cons_succ]
                  refine wpAnyH_take (i := 16) (v := undef) rfl (by kernel_rfl) (by kernel_rfl) (by kernel_rfl) (fun _ _ _ h => h) (Or.inr ⟨by rfl, rfl⟩) (by assumption) ?_
                  try simp only [Act.put, List.getElem_toArray, List.getElem_cons_zero, List.getElem_cons_succ, List.setIfInBounds_toArray, List.set_cons_zero, List.set_cons_succ]
                  refine wpAnyH_take (i := 17) (v := ?vuf17) rfl (by kernel_rfl) (by kernel_rfl) (by kernel_rfl) (fun _ _ _ h => h) (Or.inl ⟨by rfl, ?yuf17⟩) (by assumption) ?ruf17
                  case yuf17 => (intro w hSw; (try dsimp only at hSw); first | (go_simp; done) | (go_simp; with_reducible rfl))
                  try simp only [Act.put, List.getElem_toArray, List.getElem_cons_zero, List.getElem_cons_succ, List.setIfInBounds_toArray, List.set_cons_zero, List.set_cons_succ]
                  refine wpAnyH_done (by kernel_rfl) ?_ _
                  refine NoPanic.normal ?_
                  obtain ⟨-, -, -, -, hrk⟩ := HK.out w5 H5.out
                  obtain ⟨A9, c9, w9, hrun, hI9⟩ := HJ.out.more H5.out (Pf rs ss i (k + 1)) (by omega) (by rw [HP.out, if_neg Bool.false_ne_true]; omega) _ _ rfl rfl
                  have HI9 := Ytobdfocfkomagaa.base.Shut.mk hI9
                  clear hI9
                  go_wp2
                  go_roundw
                  case rel => exact ⟨k + 1, A9, c9, by omega, rfl, by go_num, HI9⟩
                  case measure => simp [intOf]; omega
                · go_wp2
                  refine wp_region_noPanic ?_
                  refine wp_region_held_drew (S := (fun w' => w'.cell? ⟨b, off + i * 2, none⟩ = some y1 ∧ w'.cell? ⟨b, off + i * 2 + 1, none⟩ = some y2 ∧ w'.cell? ⟨b', off' + k * 2, none⟩ = some y3 ∧ w'.cell? ⟨b', off' + k * 2 + 1, none⟩ = some y4 ∧ w'.cell? ⟨g5, o5 + k, none⟩ = some (.int .i64 (Pf rs ss i k : Int)))) (by kernel_rfl) (HK.out _ (drewn (same wr))) (fun hHeld => ?_)
                  refine wpAnyH_take (i := 0) (v := ?vut0) rfl (by kernel_rfl) (by kernel_rfl) (by kernel_rfl) (fun _ _ _ h => h) (Or.inl ⟨by rfl, ?yut0⟩) (by assumption) ?rut0
                  case yut0 => (intro w hSw; (try dsimp only at hSw); first | (go_simp; done) | (go_simp; with_reducible rfl))
                  try simp only [Act.put, List.getElem_toArray, List.getElem_cons_zero, List.getElem_cons_succ, List.setIfInBounds_toArray, List.set_cons_zero, List.set_cons_succ]
                  refine wpAnyH_take (i := 1) (v := ?vut1) rfl (by kernel_rfl) (by kernel_rfl) (by kernel_rfl) (fun _ _ _ h => h) (Or.inl ⟨by rfl, ?yut1⟩) (by assumption) ?rut1
                  case yut1 => (intro w hSw; (try dsimp only at hSw); first | (go_simp; done) | (go_simp; with_reducible rfl))
                  try simp only [Act.put, List.getElem_toArray, List.getElem_cons_zero, List.getElem_cons_succ, List.setIfInBounds_toArray, List.set_cons_zero, List.set_cons_succ]
                  refine wpAnyH_take (i := 2) (v := ?vut2) rfl (by kernel_rfl) (by kernel_rfl) (by kernel_rfl) (fun _ _ _ h => h) (Or.inl ⟨by rfl, ?yut2⟩) (by assumption) ?rut2
                  case yut2 => (intro w hSw; (try dsimp only at hSw); first | (go_simp; done) | (go_simp; with_reducible rfl))
                  try simp only [Act.put, List.getElem_toArray, List.getElem_cons_zero, List.getElem_cons_succ, List.setIfInBounds_toArray, List.set_cons_zero, List.set_cons_succ]
                  refine wpAnyH_take (i := 3) (v := ?vut3) rfl (by kernel_rfl) (by kernel_rfl) (by kernel_rfl) (fun _ _ _ h => h) (Or.inl ⟨by rfl, ?yut3⟩) (by assumption) ?rut3
                  case yut3 => (intro w hSw; (try dsimp only at hSw); first | (go_simp; done) | (go_simp; with_reducible rfl))
                  try simp only [Act.put, List.getElem_toArray, List.getElem_cons_zero, List.getElem_cons_succ, List.setIfInBounds_toArray, List.set_cons_zero, List.set_cons_succ]
                  refine wpAnyH_take (i := 4) (v := ?vut4) rfl (by kernel_rfl) (by kernel_rfl) (by kernel_rfl) (fun _ _ _ h => h) (Or.inl ⟨by rfl, ?yut4⟩) (by assumption) ?rut4
                  case yut4 => (intro w hSw; (try dsimp only at hSw); first | (go_simp; done) | (go_simp; with_reducible rfl))
                  try simp only [Act.put, List.getElem_toArray, List.getElem_cons_zero, List.getElem_cons_succ, List.setIfInBounds_toArray, List.set_cons_zero, List.set_cons_succ]
                  refine wpAnyH_take (i := 5) (v := ?vut5) rfl (by kernel_rfl) (by kernel_rfl) (by kernel_rfl) (fun _ _ _ h => h) (Or.inl ⟨by rfl, ?yut5⟩) (by assumption) ?rut5
                  case yut5 => (intro w hSw; (try dsimp only at hSw); first | (go_simp; done) | (go_simp; with_reducible rfl))
                  try simp only [Act.put, List.getElem_toArray, List.getElem_cons_zero, List.getElem_cons_succ, List.setIfInBounds_toArray, List.set_cons_zero, List.set_cons_succ]
                  refine wpAnyH_take (i := 6) (v := ?vut6) rfl (by kernel_rfl) (by kernel_rfl) (by kernel_rfl) (fun _ _ _ h => h) (Or.inl ⟨by rfl, ?yut6⟩) (by assumption) ?rut6
                  case yut6 => (intro w hSw; (try dsimp only at hSw); first | (go_simp; done) | (go_simp; with_reducible rfl))
                  try simp only [Act.put, List.getElem_toArray, List.getElem_cons_zero, List.getElem_cons_succ, List.setIfInBounds_toArray, List.set_cons_zero, List.set_cons_succ]
                  refine wpAnyH_take (i := 7) (v := ?vut7) rfl (by kernel_rfl) (by kernel_rfl) (by kernel_rfl) (fun _ _ _ h => h) (Or.inl ⟨by rfl, ?yut7⟩) (by assumption) ?rut7
                  case yut7 => (intro w hSw; (try dsimp only at hSw); first | (go_simp; done) | (go_simp; with_reducible rfl))
                  try simp only [Act.put, List.getElem_toArray, List.getElem_cons_zero, List.getElem_cons_succ, List.setIfInBounds_toArray, List.set_cons_zero, List.set_cons_succ]
                  refine wpAnyH_ready (rs := [8]) (by kernel_rfl) (by simp) ?_
                  refine AllReadyH.cons rfl (fun K hK => ?_) AllReadyH.nil
                  go_simp
                  refine Calls.mono HS.out ?_
                  rintro e w5 ⟨rfl, hb5⟩
                  have H5 := Ytobdfocfkomagaa.base.Shut.mk (chain (drewn (same wr)) hb5)
                  clear hb5
                  first | refine hK.out _ _ ?_ (fun hHeld => ?_) | (go_wp2_with fail; refine hK.out _ _ ?_ (fun hHeld => ?_))
                  · exact HK.out w5 H5.out
                  clear hK K
                  try simp only [Act.put, List.getElem_toArray, List.getElem_cons_zero, List.getElem_cons_succ, List.setIfInBounds_toArray, List.set_cons_zero, List.set_cons_succ]
                  refine wpAnyH_take (i := 9) (v := ?vut9) rfl (by kernel_rfl) (by kernel_rfl) (by kernel_rfl) (fun _ _ _ h => h) (Or.inl ⟨by rfl, ?yut9⟩) (by assumption) ?rut9
                  case yut9 => (intro w hSw; (try dsimp only at hSw); first | (go_simp; done) | (go_simp; with_reducible rfl))
                  try simp only [Act.put, List.getElem_toArray, List.getElem_cons_zero, List.getElem_cons_succ, List.setIfInBounds_toArray, List.set_cons_zero, List.set_cons_succ]
                  refine wpAnyH_take (i := 10) (v := ?vut10) rfl (by kernel_rfl) (by kernel_rfl) (by kernel_rfl) (fun _ _ _ h => h) (Or.inl ⟨by rfl, ?yut10⟩) (by assumption) ?rut10
                  case yut10 => (intro w hSw; (try dsimp only at hSw); first | (go_simp; done) | (go_simp; with_reducible rfl))
                  try simp only [Act.put, List.getElem_toArray, List.getElem_cons_zero, List.getElem_cons_succ, List.setIfInBounds_toArray, List.set_cons_zero, List.set_cons_succ]
                  refine wpAnyH_take (i := 11) (v := ?vut11) rfl (by kernel_rfl) (by kernel_rfl) (by kernel_rfl) (fun _ _ _ h => h) (Or.inl ⟨by rfl, ?yut11⟩) (by assumption) ?rut11
                  case yut11 => (intro w hSw; (try dsimp only at hSw); first | (go_simp; done) | (go_simp; with_reducible rfl))
                  try simp only [Act.put, List.getElem_toArray, List.getElem_cons_zero, List.getElem_cons_succ, List.setIfInBounds_toArray, List.set_cons_zero, List.set_cons_succ]
                  refine wpAnyH_take (i := 12) (v := ?vut12) rfl (by kernel_rfl) (by kernel_rfl) (by kernel_rfl) (fun _ _ _ h => h) (Or.inl ⟨by rfl, ?yut12⟩) (by assumption) ?rut12
                  case yut12 => (intro w hSw; (try dsimp only at hSw); first | (go_simp; done) | (go_simp; with_reducible rfl))
                  try simp only [Act.put, List.getElem_toArray, List.getElem_cons_zero, List.getElem_cons_succ, List.setIfInBounds_toArray, List.set_cons_zero, List.set_cons_succ]
                  refine wpAnyH_take (i := 13) (v := ?vut13) rfl (by kernel_rfl) (by kernel_rfl) (by kernel_rfl) (fun _ _ _ h => h) (Or.inl ⟨by rfl, ?yut13⟩) (by assumption) ?rut13
                  case yut13 => (intro w hSw; (try dsimp only at hSw); first | (go_simp; done) | (go_simp; with_reducible rfl))
                  try simp only [Act.put, List.getElem_toArray, List.getElem_cons_zero, List.getElem_cons_succ, List.setIfInBounds_toArray, List.set_cons_zero, List.set_cons_succ]
                  refine wpAnyH_take (i := 14) (v := ?vut14) rfl (by kernel_rfl) (by kernel_rfl) (by kernel_rfl) (fun _ _ _ h => h) (Or.inl ⟨by rfl, ?yut14⟩) (by assumption) ?rut14
                  case yut14 => (intro w hSw; (try dsimp only at hSw); first | (go_simp; done) | (go_simp; with_reducible rfl))
                  try simp only [Act.put, List.getElem_toArray, List.getElem_cons_zero, List.getElem_cons_succ, List.setIfInBounds_toArray, List.set_cons_zero, List.set_cons_succ]
                  refine wpAnyH_take (i := 15) (v := ?vut15) rfl (by kernel_rfl) (by kernel_rfl) (by kernel_rfl) (fun _ _ _ h => h) (Or.inl ⟨by rfl, ?yut15⟩) (by assumption) ?rut15
                  case yut15 => (intro w hSw; (try dsimp only at hSw); first | (go_simp; done) | (go_simp; with_reducible rfl))
                  try simp only [Act.put, List.getElem_toArray, List.getElem_cons_zero, List.getElem_cons_succ, List.setIfInBounds_toArray, List.set_cons_zero, List.set_cons_succ]
                  refine wpAnyH_take (i := 16) (v := ?vut16) rfl (by kernel_rfl) (by kernel_rfl) (by kernel_rfl) (fun _ _ _ h => h) (Or.inl ⟨by rfl, ?yut16⟩) (by assumption) ?rut16
                  case yut16 => (intro w hSw; (try dsimp only at hSw); first | (go_simp; done) | (go_simp; with_reducible rfl))
                  try simp only [Act.put, List.getElem_toArray, List.getElem_cons_zero, List.getElem_cons_succ, List.setIfInBounds_toArray, List.set_cons_zero, List.set_cons_succ]
                  refine wpAnyH_take (i := 17) (v := ?vut17) rfl (by kernel_rfl) (by kernel_rfl) (by kernel_rfl) (fun _ _ _ h => h) (Or.inl ⟨by rfl, ?yut17⟩) (by assumption) ?rut17
                  case yut17 => (intro w hSw; (try dsimp only at hSw); first | (go_simp; done) | (go_simp; with_reducible rfl))
                  try simp only [Act.put, List.getElem_toArray, List.getElem_cons_zero, List.getElem_cons_succ, List.setIfInBounds_toArray, List.set_cons_zero, List.set_cons_succ]
                  refine wpAnyH_done (by kernel_rfl) ?_ _
                  refine NoPanic.normal ?_
                  obtain ⟨-, -, -, -, hrk⟩ := HK.out w5 H5.out
                  by_cases hg : Pf rs ss i (k + 1) < Pf rs ss i k + 1
                  · have hg' : ((Pf rs ss i (k + 1) : Nat) : Int) ≤ (Pf rs ss i k : Int) := by omega
                    have hg2 : ((Pf rs ss i (k + 1) : Nat) : Int) < (Pf rs ss i k : Int) + 1 := by omega
                    obtain ⟨A9, c9, w9, hrun, hI9⟩ := HJ.out.more H5.out (Pf rs ss i k + 1) (by omega) (by rw [HP.out, if_pos True.intro]; omega) _ _ rfl rfl
                    rw [show ((Pf rs ss i k + 1 : Nat) : Int) = (Pf rs ss i k : Int) + 1 from rfl] at hrun
                    have HI9 := Ytobdfocfkomagaa.base.Shut.mk hI9
                    clear hI9
                    go_wp2
                    go_roundw
                    case rel => exact ⟨k + 1, A9, c9, by omega, rfl, by go_num, HI9⟩
                    case measure => simp [intOf]; omega
                  · have hg' : ¬ ((Pf rs ss i (k + 1) : Nat) : Int) ≤ (Pf rs ss i k : Int) := by omega
                    have hg2 : ¬ ((Pf rs ss i (k + 1) : Nat) : Int) < (Pf rs ss i k : Int) + 1 := by omega
                    obtain ⟨A9, c9, w9, hrun, hI9⟩ := HJ.out.more H5.out (Pf rs ss i (k + 1)) (by omega) (by rw [HP.out, if_pos True.intro]; omega) _ _ rfl rfl
                    have HI9 := Ytobdfocfkomagaa.base.Shut.mk hI9
                    clear hI9
                    go_wp2
                    go_roundw
                    case rel => exact ⟨k + 1, A9, c9, by omega, rfl, by go_num, HI9⟩
                    case measure => simp [intOf]; omega
              · have hup' : ¬ ((Pf rs ss (i + 1) k : Nat) : Int) < (Pf rs ss i (k + 1) : Int) := by omega
                cases sm
                · go_wp2
                  refine wp_region_noPanic ?_
                  refine wp_region_held_drew (S := (fun w' => w'.cell? ⟨b, off + i * 2, none⟩ = some y1 ∧ w'.cell? ⟨b, off + i * 2 + 1, none⟩ = some y2 ∧ w'.cell? ⟨b', off' + k * 2, none⟩ = some y3 ∧ w'.cell? ⟨b', off' + k * 2 + 1, none⟩ = some y4 ∧ w'.cell? ⟨g5, o5 + k, none⟩ = some (.int .i64 (Pf rs ss i k : Int)))) (by kernel_rfl) (HK.out _ (drewn (same wr))) (fun hHeld => ?_)
                  refine wpAnyH_take (i := 0) (v := ?vdf0) rfl (by kernel_rfl) (by kernel_rfl) (by kernel_rfl) (fun _ _ _ h => h) (Or.inl ⟨by rfl, ?ydf0⟩) (by assumption) ?rdf0
                  case ydf0 => (intro w hSw; (try dsimp only at hSw); first | (go_simp; done) | (go_simp; with_reducible rfl))
                  try simp only [Act.put, List.getElem_toArray, List.getElem_cons_zero, List.getElem_cons_succ, List.setIfInBounds_toArray, List.set_cons_zero, List.set_cons_succ]
                  refine wpAnyH_take (i := 1) (v := ?vdf1) rfl (by kernel_rfl) (by kernel_rfl) (by kernel_rfl) (fun _ _ _ h => h) (Or.inl ⟨by rfl, ?ydf1⟩) (by assumption) ?rdf1
                  case ydf1 => (intro w hSw; (try dsimp only at hSw); first | (go_simp; done) | (go_simp; with_reducible rfl))
                  try simp only [Act.put, List.getElem_toArray, List.getElem_cons_zero, List.getElem_cons_succ, List.setIfInBounds_toArray, List.set_cons_zero, List.set_cons_succ]
                  refine wpAnyH_take (i := 2) (v := ?vdf2) rfl (by kernel_rfl) (by kernel_rfl) (by kernel_rfl) (fun _ _ _ h => h) (Or.inl ⟨by rfl, ?ydf2⟩) (by assumption) ?rdf2
                  case ydf2 => (intro w hSw; (try dsimp only at hSw); first | (go_simp; done) | (go_simp; with_reducible rfl))
                  try simp only [Act.put, List.getElem_toArray, List.getElem_cons_zero, List.getElem_cons_succ, List.setIfInBounds_toArray, List.set_cons_zero, List.set_cons_succ]
                  refine wpAnyH_take (i := 3) (v := ?vdf3) rfl (by kernel_rfl) (by kernel_rfl) (by kernel_rfl) (fun _ _ _ h => h) (Or.inl ⟨by rfl, ?ydf3⟩) (by assumption) ?rdf3
                  case ydf3 => (intro w hSw; (try dsimp only at hSw); first | (go_simp; done) | (go_simp; with_reducible rfl))
                  try simp only [Act.put, List.getElem_toArray, List.getElem_cons_zero, List.getElem_cons_succ, List.setIfInBounds_toArray, List.set_cons_zero, List.set_cons_succ]
                  refine wpAnyH_take (i := 4) (v := ?vdf4) rfl (by kernel_rfl) (by kernel_rfl) (by kernel_rfl) (fun _ _ _ h => h) (Or.inl ⟨by rfl, ?ydf4⟩) (by assumption) ?rdf4
                  case ydf4 => (intro w hSw; (try dsimp only at hSw); first | (go_simp; done) | (go_simp; with_reducible rfl))
                  try simp only [Act.put, List.getElem_toArray, List.getElem_cons_zero, List.getElem_cons_succ, List.setIfInBounds_toArray, List.set_cons_zero, List.set_cons_succ]
                  refine wpAnyH_take (i := 5) (v := ?vdf5) rfl (by kernel_rfl) (by kernel_rfl) (by kernel_rfl) (fun _ _ _ h => h) (Or.inl ⟨by rfl, ?ydf5⟩) (by assumption) ?rdf5
                  case ydf5 => (intro w hSw; (try dsimp only at hSw); first | (go_simp; done) | (go_simp; with_reducible rfl))
                  try simp only [Act.put, List.getElem_toArray, List.getElem_cons_zero, List.getElem_cons_succ, List.setIfInBounds_toArray, List.set_cons_zero, List.set_cons_succ]
                  refine wpAnyH_take (i := 6) (v := ?vdf6) rfl (by kernel_rfl) (by kernel_rfl) (by kernel_rfl) (fun _ _ _ h => h) (Or.inl ⟨by rfl, ?ydf6⟩) (by assumption) ?rdf6
                  case ydf6 => (intro w hSw; (try dsimp only at hSw); first | (go_simp; done) | (go_simp; with_reducible rfl))
                  try simp only [Act.put, List.getElem_toArray, List.getElem_cons_zero, List.getElem_cons_succ, List.setIfInBounds_toArray, List.set_cons_zero, List.set_cons_succ]
                  refine wpAnyH_take (i := 7) (v := ?vdf7) rfl (by kernel_rfl) (by kernel_rfl) (by kernel_rfl) (fun _ _ _ h => h) (Or.inl ⟨by rfl, ?ydf7⟩) (by assumption) ?rdf7
                  case ydf7 => (intro w hSw; (try dsimp only at hSw); first | (go_simp; done) | (go_simp; with_reducible rfl))
                  try simp only [Act.put, List.getElem_toArray, List.getElem_cons_zero, List.getElem_cons_succ, List.setIfInBounds_toArray, List.set_cons_zero, List.set_cons_succ]
                  refine wpAnyH_ready (rs := [8]) (by kernel_rfl) (by simp) ?_
                  refine AllReadyH.cons rfl (fun K hK => ?_) AllReadyH.nil
                  go_simp
                  refine Calls.mono HS.out ?_
                  rintro e w5 ⟨rfl, hb5⟩
                  have H5 := Ytobdfocfkomagaa.base.Shut.mk (chain (drewn (same wr)) hb5)
                  clear hb5
                  first | refine hK.out _ _ ?_ (fun hHeld => ?_) | (go_wp2_with fail; refine hK.out _ _ ?_ (fun hHeld => ?_))
                  · exact HK.out w5 H5.out
                  clear hK K
                  try simp only [Act.put, List.getElem_toArray, List.getElem_cons_zero, List.getElem_cons_succ, List.setIfInBounds_toArray, List.set_cons_zero, List.set_cons_succ]
                  refine wpAnyH_take (i := 9) (v := ?vdf9) rfl (by kernel_rfl) (by kernel_rfl) (by kernel_rfl) (fun _ _ _ h => h) (Or.inl ⟨by rfl, ?ydf9⟩) (by assumption) ?rdf9
                  case ydf9 => (intro w hSw; (try dsimp only at hSw); first | (go_simp; done) | (go_simp; with_reducible rfl))
                  try simp only [Act.put, List.getElem_toArray, List.getElem_cons_zero, List.getElem_cons_succ, List.setIfInBounds_toArray, List.set_cons_zero, List.set_cons_succ]
                  refine wpAnyH_take (i := 10) (v := undef) rfl (by kernel_rfl) (by kernel_rfl) (by kernel_rfl) (fun _ _ _ h => h) (Or.inr ⟨by rfl, rfl⟩) (by assumption) ?_
                  try simp only [Act.put, List.getElem_toArray, List.getElem_cons_zero, List.getElem_cons_succ, List.setIfInBounds_toArray, List.set_cons_zero, List.set_cons_succ]
                  refine wpAnyH_take (i := 11) (v := undef) rfl (by kernel_rfl) (by kernel_rfl) (by kernel_rfl) (fun _ _ _ h => h) (Or.inr ⟨by rfl, rfl⟩) (by assumption) ?_
                  try simp only [Act.put, List.getElem_toArray, List.getElem_cons_zero, List.getElem_cons_succ, List.setIfInBounds_toArray, List.set_cons_zero, List.set_cons_succ]
                  refine wpAnyH_take (i := 12) (v := undef) rfl (by kernel_rfl) (by kernel_rfl) (by kernel_rfl) (fun _ _ _ h => h) (Or.inr ⟨by rfl, rfl⟩) (by assumption) ?_
                  try simp only [Act.put, List.getElem_toArray, List.getElem_cons_zero, List.getElem_cons_succ, List.setIfInBounds_toArray, List.set_cons_zero, List.set_cons_succ]
                  refine wpAnyH_take (i := 13) (v := undef) rfl (by kernel_rfl) (by kernel_rfl) (by kernel_rfl) (fun _ _ _ h => h) (Or.inr ⟨by rfl, rfl⟩) (by assumption) ?_
                  try simp only [Act.put, List.getElem_toArray, List.getElem_cons_zero, List.getElem_cons_succ, List.setIfInBounds_toArray, List.set_cons_zero, List.set_cons_succ]
                  refine wpAnyH_take (i := 14) (v := undef) rfl (by kernel_rfl) (by kernel_rfl) (by kernel_rfl) (fun _ _ _ h => h) (Or.inr ⟨by rfl, rfl⟩) (by assumption) ?_
                  try simp only [Act.put, List.getElem_toArray, List.getElem_cons_zero, List.getElem_cons_succ, List.setIfInBounds_toArray, List.set_cons_zero, List.set_cons_succ]
                  refine wpAnyH_take (i := 15) (v := undef) rfl (by kernel_rfl) (by kernel_rfl) (by kernel_rfl) (fun _ _ _ h => h) (Or.inr ⟨by rfl, rfl⟩) (by assumption) ?_
                  try simp only [Act.put, List.getElem_toArray, List.getElem_cons_zero, List.getElem_cons_succ, List.setIfInBounds_toArray, List.set_cons_zero, List.set_cons_succ]
                  refine wpAnyH_take (i := 16) (v := undef) rfl (by kernel_rfl) (by kernel_rfl) (by kernel_rfl) (fun _ _ _ h => h) (Or.inr ⟨by rfl, rfl⟩) (by assumption) ?_
                  try simp only [Act.put, List.getElem_toArray, List.getElem_cons_zero, List.getElem_cons_succ, List.setIfInBounds_toArray, List.set_cons_zero, List.set_cons_succ]
                  refine wpAnyH_take (i := 17) (v := ?vdf17) rfl (by kernel_rfl) (by kernel_rfl) (by kernel_rfl) (fun _ _ _ h => h) (Or.inl ⟨by rfl, ?ydf17⟩) (by assumption) ?rdf17
                  case ydf17 => (intro w hSw; (try dsimp only at hSw); first | (go_simp; done) | (go_simp; with_reducible rfl))
                  try simp only [Act.put, List.getElem_toArray, List.getElem_cons_zero, List.getElem_cons_succ, List.setIfInBounds_toArray, List.set_cons_zero, List.set_cons_succ]
                  refine wpAnyH_done (by kernel_rfl) ?_ _
                  refine NoPanic.normal ?_
                  obtain ⟨-, -, -, -, hrk⟩ := HK.out w5 H5.out
                  obtain ⟨A9, c9, w9, hrun, hI9⟩ := HJ.out.more H5.out (Pf rs ss (i + 1) k) (by omega) (by rw [HP.out, if_neg Bool.false_ne_true]; omega) _ _ rfl rfl
                  have HI9 := Ytobdfocfkomagaa.base.Shut.mk hI9
                  clear hI9
                  go_wp2
                  go_roundw
                  case rel => exact ⟨k + 1, A9, c9, by omega, rfl, by go_num, HI9⟩
                  case measure => simp [intOf]; omega
                · go_wp2
                  refine wp_region_noPanic ?_
                  refine wp_region_held_drew (S := (fun w' => w'.cell? ⟨b, off + i * 2, none⟩ = some y1 ∧ w'.cell? ⟨b, off + i * 2 + 1, none⟩ = some y2 ∧ w'.cell? ⟨b', off' + k * 2, none⟩ = some y3 ∧ w'.cell? ⟨b', off' + k * 2 + 1, none⟩ = some y4 ∧ w'.cell? ⟨g5, o5 + k, none⟩ = some (.int .i64 (Pf rs ss i k : Int)))) (by kernel_rfl) (HK.out _ (drewn (same wr))) (fun hHeld => ?_)
                  refine wpAnyH_take (i := 0) (v := ?vdt0) rfl (by kernel_rfl) (by kernel_rfl) (by kernel_rfl) (fun _ _ _ h => h) (Or.inl ⟨by rfl, ?ydt0⟩) (by assumption) ?rdt0
                  case ydt0 => (intro w hSw; (try dsimp only at hSw); first | (go_simp; done) | (go_simp; with_reducible rfl))
                  try simp only [Act.put, List.getElem_toArray, List.getElem_cons_zero, List.getElem_cons_succ, List.setIfInBounds_toArray, List.set_cons_zero, List.set_cons_succ]
                  refine wpAnyH_take (i := 1) (v := ?vdt1) rfl (by kernel_rfl) (by kernel_rfl) (by kernel_rfl) (fun _ _ _ h => h) (Or.inl ⟨by rfl, ?ydt1⟩) (by assumption) ?rdt1
                  case ydt1 => (intro w hSw; (try dsimp only at hSw); first | (go_simp; done) | (go_simp; with_reducible rfl))
                  try simp only [Act.put, List.getElem_toArray, List.getElem_cons_zero, List.getElem_cons_succ, List.setIfInBounds_toArray, List.set_cons_zero, List.set_cons_succ]
                  refine wpAnyH_take (i := 2) (v := ?vdt2) rfl (by kernel_rfl) (by kernel_rfl) (by kernel_rfl) (fun _ _ _ h => h) (Or.inl ⟨by rfl, ?ydt2⟩) (by assumption) ?rdt2
                  case ydt2 => (intro w hSw; (try dsimp only at hSw); first | (go_simp; done) | (go_simp; with_reducible rfl))
                  try simp only [Act.put, List.getElem_toArray, List.getElem_cons_zero, List.getElem_cons_succ, List.setIfInBounds_toArray, List.set_cons_zero, List.set_cons_succ]
                  refine wpAnyH_take (i := 3) (v := ?vdt3) rfl (by kernel_rfl) (by kernel_rfl) (by kernel_rfl) (fun _ _ _ h => h) (Or.inl ⟨by rfl, ?ydt3⟩) (by assumption) ?rdt3
                  case ydt3 => (intro w hSw; (try dsimp only at hSw); first | (go_simp; done) | (go_simp; with_reducible rfl))
                  try simp only [Act.put, List.getElem_toArray, List.getElem_cons_zero, List.getElem_cons_succ, List.setIfInBounds_toArray, List.set_cons_zero, List.set_cons_succ]
                  refine wpAnyH_take (i := 4) (v := ?vdt4) rfl (by kernel_rfl) (by kernel_rfl) (by kernel_rfl) (fun _ _ _ h => h) (Or.inl ⟨by rfl, ?ydt4⟩) (by assumption) ?rdt4
                  case ydt4 => (intro w hSw; (try dsimp only at hSw); first | (go_simp; done) | (go_simp; with_reducible rfl))
                  try simp only [Act.put, List.getElem_toArray, List.getElem_cons_zero, List.getElem_cons_succ, List.setIfInBounds_toArray, List.set_cons_zero, List.set_cons_succ]
                  refine wpAnyH_take (i := 5) (v := ?vdt5) rfl (by kernel_rfl) (by kernel_rfl) (by kernel_rfl) (fun _ _ _ h => h) (Or.inl ⟨by rfl, ?ydt5⟩) (by assumption) ?rdt5
                  case ydt5 => (intro w hSw; (try dsimp only at hSw); first | (go_simp; done) | (go_simp; with_reducible rfl))
                  try simp only [Act.put, List.getElem_toArray, List.getElem_cons_zero, List.getElem_cons_succ, List.setIfInBounds_toArray, List.set_cons_zero, List.set_cons_succ]
                  refine wpAnyH_take (i := 6) (v := ?vdt6) rfl (by kernel_rfl) (by kernel_rfl) (by kernel_rfl) (fun _ _ _ h => h) (Or.inl ⟨by rfl, ?ydt6⟩) (by assumption) ?rdt6
                  case ydt6 => (intro w hSw; (try dsimp only at hSw); first | (go_simp; done) | (go_simp; with_reducible rfl))
                  try simp only [Act.put, List.getElem_toArray, List.getElem_cons_zero, List.getElem_cons_succ, List.setIfInBounds_toArray, List.set_cons_zero, List.set_cons_succ]
                  refine wpAnyH_take (i := 7) (v := ?vdt7) rfl (by kernel_rfl) (by kernel_rfl) (by kernel_rfl) (fun _ _ _ h => h) (Or.inl ⟨by rfl, ?ydt7⟩) (by assumption) ?rdt7
                  case ydt7 => (intro w hSw; (try dsimp only at hSw); first | (go_simp; done) | (go_simp; with_reducible rfl))
                  try simp only [Act.put, List.getElem_toArray, List.getElem_cons_zero, List.getElem_cons_succ, List.setIfInBounds_toArray, List.set_cons_zero, List.set_cons_succ]
                  refine wpAnyH_ready (rs := [8]) (by kernel_rfl) (by simp) ?_
                  refine AllReadyH.cons rfl (fun K hK => ?_) AllReadyH.nil
                  go_simp
                  refine Calls.mono HS.out ?_
                  rintro e w5 ⟨rfl, hb5⟩
                  have H5 := Ytobdfocfkomagaa.base.Shut.mk (chain (drewn (same wr)) hb5)
                  clear hb5
                  first | refine hK.out _ _ ?_ (fun hHeld => ?_) | (go_wp2_with fail; refine hK.out _ _ ?_ (fun hHeld => ?_))
                  · exact HK.out w5 H5.out
                  clear hK K
                  try simp only [Act.put, List.getElem_toArray, List.getElem_cons_zero, List.getElem_cons_succ, List.setIfInBounds_toArray, List.set_cons_zero, List.set_cons_succ]
                  refine wpAnyH_take (i := 9) (v := ?vdt9) rfl (by kernel_rfl) (by kernel_rfl) (by kernel_rfl) (fun _ _ _ h => h) (Or.inl ⟨by rfl, ?ydt9⟩) (by assumption) ?rdt9
                  case ydt9 => (intro w hSw; (try dsimp only at hSw); first | (go_simp; done) | (go_simp; with_reducible rfl))
                  try simp only [Act.put, List.getElem_toArray, List.getElem_cons_zero, List.getElem_cons_succ, List.setIfInBounds_toArray, List.set_cons_zero, List.set_cons_succ]
                  refine wpAnyH_take (i := 10) (v := ?vdt10) rfl (by kernel_rfl) (by kernel_rfl) (by kernel_rfl) (fun _ _ _ h => h) (Or.inl ⟨by rfl, ?ydt10⟩) (by assumption) ?rdt10
                  case ydt10 => (intro w hSw; (try dsimp only at hSw); first | (go_simp; done) | (go_simp; with_reducible rfl))
                  try simp only [Act.put, List.getElem_toArray, List.getElem_cons_zero, List.getElem_cons_succ, List.setIfInBounds_toArray, List.set_cons_zero, List.set_cons_succ]
                  refine wpAnyH_take (i := 11) (v := ?vdt11) rfl (by kernel_rfl) (by kernel_rfl) (by kernel_rfl) (fun _ _ _ h => h) (Or.inl ⟨by rfl, ?ydt11⟩) (by assumption) ?rdt11
                  case ydt11 => (intro w hSw; (try dsimp only at hSw); first | (go_simp; done) | (go_simp; with_reducible rfl))
                  try simp only [Act.put, List.getElem_toArray, List.getElem_cons_zero, List.getElem_cons_succ, List.setIfInBounds_toArray, List.set_cons_zero, List.set_cons_succ]
                  refine wpAnyH_take (i := 12) (v := ?vdt12) rfl (by kernel_rfl) (by kernel_rfl) (by kernel_rfl) (fun _ _ _ h => h) (Or.inl ⟨by rfl, ?ydt12⟩) (by assumption) ?rdt12
                  case ydt12 => (intro w hSw; (try dsimp only at hSw); first | (go_simp; done) | (go_simp; with_reducible rfl))
                  try simp only [Act.put, List.getElem_toArray, List.getElem_cons_zero, List.getElem_cons_succ, List.setIfInBounds_toArray, List.set_cons_zero, List.set_cons_succ]
                  refine wpAnyH_take (i := 13) (v := ?vdt13) rfl (by kernel_rfl) (by kernel_rfl) (by kernel_rfl) (fun _ _ _ h => h) (Or.inl ⟨by rfl, ?ydt13⟩) (by assumption) ?rdt13
                  case ydt13 => (intro w hSw; (try dsimp only at hSw); first | (go_simp; done) | (go_simp; with_reducible rfl))
                  try simp only [Act.put, List.getElem_toArray, List.getElem_cons_zero, List.getElem_cons_succ, List.setIfInBounds_toArray, List.set_cons_zero, List.set_cons_succ]
                  refine wpAnyH_take (i := 14) (v := ?vdt14) rfl (by kernel_rfl) (by kernel_rfl) (by kernel_rfl) (fun _ _ _ h => h) (Or.inl ⟨by rfl, ?ydt14⟩) (by assumption) ?rdt14
                  case ydt14 => (intro w hSw; (try dsimp only at hSw); first | (go_simp; done) | (go_simp; with_reducible rfl))
                  try simp only [Act.put, List.getElem_toArray, List.getElem_cons_zero, List.getElem_cons_succ, List.setIfInBounds_toArray, List.set_cons_zero, List.set_cons_succ]
                  refine wpAnyH_take (i := 15) (v := ?vdt15) rfl (by kernel_rfl) (by kernel_rfl) (by kernel_rfl) (fun _ _ _ h => h) (Or.inl ⟨by rfl, ?ydt15⟩) (by assumption) ?rdt15
                  case ydt15 => (intro w hSw; (try dsimp only at hSw); first | (go_simp; done) | (go_simp; with_reducible rfl))
                  try simp only [Act.put, List.getElem_toArray, List.getElem_cons_zero, List.getElem_cons_succ, List.setIfInBounds_toArray, List.set_cons_zero, List.set_cons_succ]
                  refine wpAnyH_take (i := 16) (v := ?vdt16) rfl (by kernel_rfl) (by kernel_rfl) (by kernel_rfl) (fun _ _ _ h => h) (Or.inl ⟨by rfl, ?ydt16⟩) (by assumption) ?rdt16
                  case ydt16 => (intro w hSw; (try dsimp only at hSw); first | (go_simp; done) | (go_simp; with_reducible rfl))
                  try simp only [Act.put, List.getElem_toArray, List.getElem_cons_zero, List.getElem_cons_succ, List.setIfInBounds_toArray, List.set_cons_zero, List.set_cons_succ]
                  refine wpAnyH_take (i := 17) (v := ?vdt17) rfl (by kernel_rfl) (by kernel_rfl) (by kernel_rfl) (fun _ _ _ h => h) (Or.inl ⟨by rfl, ?ydt17⟩) (by assumption) ?rdt17
                  case ydt17 => (intro w hSw; (try dsimp only at hSw); first | (go_simp; done) | (go_simp; with_reducible rfl))
                  try simp only [Act.put, List.getElem_toArray, List.getElem_cons_zero, List.getElem_cons_succ, List.setIfInBounds_toArray, List.set_cons_zero, List.set_cons_succ]
                  refine wpAnyH_done (by kernel_rfl) ?_ _
                  refine NoPanic.normal ?_
                  obtain ⟨-, -, -, -, hrk⟩ := HK.out w5 H5.out
                  by_cases hg : Pf rs ss (i + 1) k < Pf rs ss i k + 1
                  · have hg' : ((Pf rs ss (i + 1) k : Nat) : Int) ≤ (Pf rs ss i k : Int) := by omega
                    have hg2 : ((Pf rs ss (i + 1) k : Nat) : Int) < (Pf rs ss i k : Int) + 1 := by omega
                    obtain ⟨A9, c9, w9, hrun, hI9⟩ := HJ.out.more H5.out (Pf rs ss i k + 1) (by omega) (by rw [HP.out, if_pos True.intro]; omega) _ _ rfl rfl
                    rw [show ((Pf rs ss i k + 1 : Nat) : Int) = (Pf rs ss i k : Int) + 1 from rfl] at hrun
                    have HI9 := Ytobdfocfkomagaa.base.Shut.mk hI9
                    clear hI9
                    go_wp2
                    go_roundw
                    case rel => exact ⟨k + 1, A9, c9, by omega, rfl, by go_num, HI9⟩
                    case measure => simp [intOf]; omega
                  · have hg' : ¬ ((Pf rs ss (i + 1) k : Nat) : Int) ≤ (Pf rs ss i k : Int) := by omega
                    have hg2 : ¬ ((Pf rs ss (i + 1) k : Nat) : Int) < (Pf rs ss i k : Int) + 1 := by omega
                    obtain ⟨A9, c9, w9, hrun, hI9⟩ := HJ.out.more H5.out (Pf rs ss (i + 1) k) (by omega) (by rw [HP.out, if_pos True.intro]; omega) _ _ rfl rfl
                    have HI9 := Ytobdfocfkomagaa.base.Shut.mk hI9
                    clear hI9
                    go_wp2
                    go_roundw
                    case rel => exact ⟨k + 1, A9, c9, by omega, rfl, by go_num, HI9⟩
                    case measure => simp [intOf]; omega
            · obtain rfl : k = m := by omega
              go_wp2
              go_roundw
              case rel => exact ⟨i + 1, _, _, by omega, rfl, by go_num, ⟨HJ.out.weak HO.out.below⟩⟩
              case measure => simp [intOf]; omega
        · obtain rfl : i = n := by omega
          obtain ⟨b, off, rfl, -, hcap, hrow⟩ := HO.out.get (Nat.succ_pos m) (same wr)
          have hl := hrow m (by omega)
          have hm0 : (0 : Int) ≤ m := by omega
          have hm1 : (m : Int) < (m : Int) + 1 := by omega
          have hm3 : (m : Int) < ((m + 1 : Nat) : Int) := by omega
          go_wp2
          go_ret
          exact ⟨rfl, HO.out.below⟩
end Go.Proofs.Ytobdfocfkomagaa.rev
