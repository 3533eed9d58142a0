/- The walk of node.Take. -/
import Derived.Test.YtobdfocfkomagaaNodePut
import Derived.Test.YtobdfocfkomagaaNodeTakeB
import Derived.LoopN
import Derived.WalkMore
namespace Go.Proofs.Ytobdfocfkomagaa.node
open Go.ChangeShapes Go.WideShapes Go.ChangeAt Go.RowKit
open Ytobdfocfkomagaa.base (size_mk chain newer drewn same ba_ext rest_eq)
open Ytobdfocfkomagaa.oct (take takeText)

/-- what Take tells -/
def Taken (w : World) (T : Nd × Int) (e : Ending) (w' : World) : Prop := ∃ A n c, e = .returned (.tuple #[nv T.1.leaf A n c, .int .i64 T.2]) ∧ T.1.l.length = n ∧ PReads w' A T.1.l ∧ Below w.heap.size w w'
theorem Taken.zero {w w' : World} (h : Below w.heap.size w w') : Taken w (zeroN, 4) (.returned (.tuple #[nv false none 0 0, .int .i64 4])) w' := ⟨none, 0, 0, rfl, rfl, fun h => absurd rfl h, h⟩
theorem take_short {s : List UInt8} (h : s.length ≠ 480) (most : Int) : takeN most s = (zeroN, 4) := by unfold takeN; rw [if_pos h]
theorem take_bad_num {s r : List UInt8} {n e : Int} (h1 : take (s.drop 1) = (n, r, e)) (he : e ≠ 0) (most : Int) : takeN most s = (zeroN, 4) := by
  unfold takeN
  split
  · rfl
  · rw [h1]; simp only; rw [if_pos he]
theorem take_num_ok {s r : List UInt8} {n : Int} (h : s.length = 480) (h1 : take (s.drop 1) = (n, r, 0)) (most : Int) : takeN most s = endN (s.head? == some 1) s (loopN most (min n 480).toNat [] r) := by
  unfold takeN
  rw [if_neg (by omega), h1]
  simp only
  rw [if_neg (by decide)]
theorem first_dec (s : ByteArray) : decide (s.extract 0 1 = ⟨#[1]⟩) = (s.data.toList.head? == some 1) := by
  obtain ⟨⟨l⟩⟩ := s
  cases l with
  | nil => rfl
  | cons a r =>
    have : (ByteArray.mk ⟨a :: r⟩).extract 0 1 = ⟨#[a]⟩ := by
      apply ba_ext
      simp
    rw [this]
    by_cases h : a = 1
    · subst h; simp
    · rw [decide_eq_false (fun e => h (by simpa using e))]
      simp [h]
theorem TakeAt.start (w : World) (leaf : Bool) : TakeAt w ((w.alloc (.cells zc 49)).alloc (.cells #[.bool leaf, .slice none 0 0] 49)) leaf none 0 0 [] := by
  have h1 := newer (same w) (.cells zc 49)
  have h2 := newer (same (w.alloc (.cells zc 49))) (.cells #[.bool leaf, .slice none 0 0] 49)
  have hz : (w.alloc (.cells zc 49)).heap.size = w.heap.size + 1 := World.size_alloc _ _
  refine ⟨chain h1 h2, (Row.new w zc 49).below h2, ?_, ⟨by simp [cellsP], .inl ⟨rfl, rfl⟩⟩⟩
  have := Row.new (w.alloc (.cells zc 49)) #[.bool leaf, .slice none 0 0] 49
  rw [hz] at this
  exact this
theorem first_eq (s : ByteArray) : ((s.extract 0 1).toList == [1]) = (s.data.toList.head? == some 1) := by
  rw [← first_dec s]
  have : (s.extract 0 1).toList = (s.extract 0 1).data.toList := ByteArray.toList_eq _
  rw [this]
  generalize s.extract 0 1 = t
  obtain ⟨⟨l⟩⟩ := t
  by_cases h : l = [1]
  · subst h; rfl
  · rw [decide_eq_false (fun e => h (by simpa using e))]
    simpa using h
theorem text_two (r : List UInt8) : (∃ e : Int, e ≠ 0 ∧ takeText r 160 = ([], [], e)) ∨ ∃ k r1, takeText r 160 = (k, r1, 0) := by
  rcases takeText_most r with ⟨e, he, h, _⟩ | ⟨k, r1, h, _⟩ | ⟨k, r1, h, _⟩
  · exact .inl ⟨e, he, h⟩
  · exact .inr ⟨k, r1, h⟩
  · exact .inr ⟨k, r1, h⟩
abbrev zp : Array Value := #[.string ⟨#[]⟩, .string ⟨#[]⟩]
theorem strp_info : ∃ i, Try.prog.info? 109 = some i ∧ i.size = 1 := by
  have h : (Try.prog.info? 109).map (fun i => i.size) = some 1 := by kernel_rfl
  obtain ⟨i, hi, hh⟩ := Option.map_eq_some_iff.1 h
  exact ⟨i, hi, hh⟩
theorem idx_zero (a b : Value) (u : World) : (Instr.index 110 (.agg #[a, b]) (.int .i64 0)).run Try.prog u = .ok a u := by
  obtain ⟨i, hi, hs⟩ := strp_info
  simp [Instr.index, run_underlying Try.underlying110, asIntOf, sizeOf, typeInfo, hi, hs, part, isAgg, run_underlying Try.underlying109]
theorem idx_one (a b : Value) (u : World) : (Instr.index 110 (.agg #[a, b]) (.int .i64 1)).run Try.prog u = .ok b u := by
  obtain ⟨i, hi, hs⟩ := strp_info
  simp [Instr.index, run_underlying Try.underlying110, asIntOf, sizeOf, typeInfo, hi, hs, part, isAgg, run_underlying Try.underlying109]
def shutT (ats : Array TypeId) (ty : TypeId) (args : Array Value) : Sem Value := Builtin.append_ ats ty args
theorem t_shut (ats : Array TypeId) (ty : TypeId) (args : Array Value) : Builtin.append_ ats ty args = shutT ats ty args := rfl
attribute [local go_sem ↓] t_shut
attribute [local go_sem] idx_zero idx_one
set_option maxRecDepth 100000 in
set_option maxHeartbeats 1600000 in
theorem take_walk (s : ByteArray) (hs : s.size ≤ 1000) (w : World) : Calls Try.prog 40 #[.string s] w (Taken w (takeN 160 s.data.toList)) := by
  have hl : s.data.toList.length = s.size := by simp
  by_cases h480 : s.size = 480
  · have hrest : s.extract 1 480 = ⟨(s.data.toList.drop 1).toArray⟩ := by rw [← h480, rest_eq]
    have c1 := fun u : World => Ytobdfocfkomagaa.oct.take_walk (s.extract 1 480) (by rw [hrest, size_mk]; unfold maxLen; simp; omega) u
    have hd : (s.extract 1 480).data.toList = s.data.toList.drop 1 := by rw [hrest]
    rw [hd] at c1
    have hln : (s.data.toList.drop 1).length ≤ 1000 := by rw [List.length_drop]; omega
    have hways : (∃ e : Int, e ≠ 0 ∧ take (s.data.toList.drop 1) = (0, [], e)) ∨ ∃ n r, take (s.data.toList.drop 1) = (n, r, 0) ∧ -9223372036854775808 ≤ n ∧ n ≤ 9223372036854775807 ∧ r.length + 1 ≤ (s.data.toList.drop 1).length := by
      rcases Ytobdfocfkomagaa.oct.take_ways (s.data.toList.drop 1) with h | h | h
      · exact .inl ⟨3, by decide, h⟩
      · exact .inl ⟨4, by decide, h⟩
      · exact .inr h
    obtain ⟨lf, hlf⟩ : ∃ lf, (s.data.toList.head? == some 1) = lf := ⟨_, rfl⟩
    have hlf2 := first_eq s
    rw [hlf] at hlf2
    rcases hways with ⟨e, he, h1⟩ | ⟨n, r, h1, hn0, hn1, hr⟩
    · rw [take_bad_num h1 he 160]
      rw [h1] at c1
      simp only at c1
      have HC := Ytobdfocfkomagaa.base.Shut.mk c1
      have HT := Ytobdfocfkomagaa.base.Shut.mk (TakeAt.start w lf)
      clear hl h1 hln hlf hd hrest c1
      go_enter Try.func40, Try.ntmps40
      go_wp2
      go_step3
      go_wp2_with fail
      refine (HC.out _).mono ?_
      rintro e w1 ⟨rfl, hb1⟩
      have HA := Ytobdfocfkomagaa.base.Shut.mk (HT.out.keep hb1)
      have z0 := HA.out.res.cell 0
      have z1 := HA.out.res.cell 1
      have g0 := HA.out.res.frozen 0
      have g1 := HA.out.res.frozen 1
      clear hb1
      go_wp2
      try rw [Exit.noGoto_ret]
      refine bodyPost_ret (v := .tuple #[nv false none 0 0, .int .i64 4]) (res_nd (p := 2) (u := 3) rfl _ _ w.heap.size false none 0 0 rfl (HA.out.res.two _ _ rfl)) rfl (Taken.zero (two_below HA.out.below (Nat.le_refl _) _ _))
    · rw [take_num_ok (by omega) h1 160, hlf]
      rw [h1] at c1
      simp only at c1
      have HT := Ytobdfocfkomagaa.base.Shut.mk (And.intro (TakeAt.start w lf) c1)
      clear hl h1 hlf hd hrest c1
      go_enter Try.func40, Try.ntmps40
      go_wp2
      go_step3
      go_wp2_with fail
      refine (HT.out.2 _).mono ?_
      rintro e w1 ⟨rfl, hb1⟩
      have HA := Ytobdfocfkomagaa.base.Shut.mk (HT.out.1.keep hb1)
      clear hb1
      go_wp2
      go_step3
      obtain ⟨m, hm⟩ : ∃ m : Nat, m = (min n 480).toNat := ⟨_, rfl⟩
      rw [← hm]
      have hc2 := fun (l : List UInt8) (h : l.length ≤ 1000) (u : World) => Ytobdfocfkomagaa.oct.takeText_walk ⟨l.toArray⟩ 160 (by rw [size_mk]; unfold maxLen; omega) u
      have HC2 := Ytobdfocfkomagaa.base.Shut.mk (And.intro hc2 (And.intro hm HA.out))
      have hs0 := Acc.start 160 m r (by omega)
      clear hc2 hm HA
      go_wp2
      all_goals
        go_loopw [6, 7, 33] (fun rs e i wr => ∃ (k : Nat) (acc : PL) (r' : List UInt8) (A : Option Addr) (nn c : Nat), k ≤ m ∧ i = .int .i64 k ∧ rs = .string ⟨r'.toArray⟩ ∧ e = .int .i64 0 ∧ Ytobdfocfkomagaa.base.Shut (Acc 160 m r k acc r' ∧ TakeAt w wr lf A nn c acc)) (fun _ _ i _ => m - (intOf i).toNat)
        case atStart => exact ⟨0, [], r, none, 0, 0, Nat.zero_le _, rfl, rfl, rfl, ⟨hs0, HC2.out.2.2⟩⟩
        case round =>
          obtain ⟨k, acc, r', A, nn, c, hk, rfl, rfl, rfl, HR⟩ := hrel
          by_cases hlt : k < m
          · have hlt1 : (k : Int) < n := by have := HC2.out.2.1; omega
            have hlt2 : (k : Int) < 480 := by have := HC2.out.2.1; omega
            have hput := fun (u : World) (hu : Below wr.heap.size wr u) => put_walk lf A nn c acc (own_reads HR.out.2.own).1 HR.out.1.nice u (own_reads (HR.out.2.keep hu).own).2
            have HP := Ytobdfocfkomagaa.base.Shut.mk hput
            have hc1 := HC2.out.1 r' HR.out.1.small
            have hq0 : ¬ wr.heap.size = w.heap.size := by have := HR.out.2.big; omega
            have hq1 : ¬ wr.heap.size = w.heap.size + 1 := by have := HR.out.2.big; omega
            have hrow := Row.new wr zp 60
            have hnew := newer (same wr) (.cells zp 60)
            clear hput
            rcases text_two r' with ⟨e, he, ht⟩ | ⟨k1, r1, ht⟩
            · have hnone := HR.out.1.bad1 hlt ht rfl he
              rw [ht] at hc1
              simp only at hc1
              have HC := Ytobdfocfkomagaa.base.Shut.mk (And.intro hc1 (And.intro hrow (And.intro hnew hnone)))
              clear hlt hc1 hrow hnew hnone ht
              go_wp2
              refine wp_loop_rounds 3 ?_
              rw [rounds_succ]
              go_wp2_with fail
              refine (HC.out.1 _).mono ?_
              rintro e w2 ⟨rfl, hb2⟩
              have hr2 := HC.out.2.1.below hb2
              have hB2 := chain HC.out.2.2.1 hb2
              have hT2 := HR.out.2.keep hB2
              have y0 := hr2.cell 0
              have y1 := hr2.cell 1
              have f0 := hr2.frozen 0
              have f1 := hr2.frozen 1
              have x0 := hT2.box.cell 0
              have x1 := hT2.box.cell 1
              have H2 := Ytobdfocfkomagaa.base.Shut.mk (And.intro hB2 hT2)
              clear hr2 hB2 hT2 hb2
              go_wp2_with fail
              refine (HP.out _ (H2.out.1.setCell (p := ⟨wr.heap.size, 0, none⟩) (Nat.le_refl _) _)).mono ?_
              rintro e5 w5 ⟨rfl, hb5⟩
              have hB5 := chain (H2.out.1.setCell (p := ⟨wr.heap.size, 0, none⟩) (Nat.le_refl _) _) hb5
              have hT5 := HR.out.2.keep hB5
              have z0 := hT5.res.cell 0
              have z1 := hT5.res.cell 1
              have g0 := hT5.res.frozen 0
              have g1 := hT5.res.frozen 1
              have H5 := Ytobdfocfkomagaa.base.Shut.mk hT5
              clear hb5 hB5 hT5
              go_wp2
              try rw [Exit.noGoto_ret]
              refine bodyPost_ret (v := .tuple #[nv false none 0 0, .int .i64 4]) (res_nd (p := 2) (u := 3) rfl _ _ w.heap.size false none 0 0 rfl (H5.out.res.two _ _ rfl)) rfl ?_
              rw [← HC2.out.2.1, HC.out.2.2.2]
              exact Taken.zero (two_below H5.out.below (Nat.le_refl _) _ _)
            · have hs1 := text_small r' 160 (by decide) (by decide)
              rw [ht] at hs1 hc1
              simp only at hs1 hc1
              have hc2 := HC2.out.1 r1 (by have := HR.out.1.small; omega)
              rcases text_two r1 with ⟨e, he, ht2⟩ | ⟨v1, r2, ht2⟩
              · have hnone := HR.out.1.bad2 hlt ht ht2 rfl he
                rw [ht2] at hc2
                simp only at hc2
                have HC := Ytobdfocfkomagaa.base.Shut.mk (And.intro hc1 (And.intro hc2 (And.intro hrow (And.intro hnew hnone))))
                clear hnone hlt hc1 hc2 hrow hnew ht ht2 hs1
                go_wp2
                refine wp_loop_rounds 3 ?_
                rw [rounds_succ]
                go_wp2_with fail
                refine (HC.out.1 _).mono ?_
                rintro e w2 ⟨rfl, hb2⟩
                have hr2 := HC.out.2.2.1.below hb2
                have hB2 := chain HC.out.2.2.2.1 hb2
                have y0 := hr2.cell 0
                have f0 := hr2.frozen 0
                have hr3 := hr2.set 0 (.string ⟨k1.toArray⟩)
                have hB3 := hB2.setCell (p := ⟨wr.heap.size, 0, none⟩) (Nat.le_refl _) (.string ⟨k1.toArray⟩)
                have H3 := Ytobdfocfkomagaa.base.Shut.mk (And.intro hr3 hB3)
                clear hr2 hB2 hr3 hB3 hb2
                go_wp2
                rw [rounds_succ]
                clear y0 f0
                go_wp2_with fail
                refine (HC.out.2.1 _).mono ?_
                rintro e w4 ⟨rfl, hb4⟩
                have hr4 := H3.out.1.below hb4
                have hB4 := chain H3.out.2 hb4
                have hT4 := HR.out.2.keep hB4
                have y0 := hr4.cell 0
                have y1 := hr4.cell 1
                have f0 := hr4.frozen 0
                have f1 := hr4.frozen 1
                have x0 := hT4.box.cell 0
                have x1 := hT4.box.cell 1
                have H4 := Ytobdfocfkomagaa.base.Shut.mk (And.intro hB4 hT4)
                clear hr4 hB4 hT4 hb4
                go_wp2_with fail
                refine (HP.out _ (H4.out.1.setCell (p := ⟨wr.heap.size, 1, none⟩) (Nat.le_refl _) _)).mono ?_
                rintro e5 w5 ⟨rfl, hb5⟩
                have hB5 := chain (H4.out.1.setCell (p := ⟨wr.heap.size, 1, none⟩) (Nat.le_refl _) _) hb5
                have hT5 := HR.out.2.keep hB5
                have z0 := hT5.res.cell 0
                have z1 := hT5.res.cell 1
                have g0 := hT5.res.frozen 0
                have g1 := hT5.res.frozen 1
                have H5 := Ytobdfocfkomagaa.base.Shut.mk hT5
                clear hb5 hB5 hT5
                go_wp2
                try rw [Exit.noGoto_ret]
                refine bodyPost_ret (v := .tuple #[nv false none 0 0, .int .i64 4]) (res_nd (p := 2) (u := 3) rfl _ _ w.heap.size false none 0 0 rfl (H5.out.res.two _ _ rfl)) rfl ?_
                rw [← HC2.out.2.1, HC.out.2.2.2.2]
                exact Taken.zero (two_below H5.out.below (Nat.le_refl _) _ _)
              · have hacc := HR.out.1.more (by decide) (by decide) hlt (by have := HC2.out.2.1; omega) ht ht2
                have hnn : nn ≤ 1000 := by have := (own_reads HR.out.2.own).1; have := HR.out.1.nice.len; omega
                rw [ht2] at hc2
                simp only at hc2
                have HC := Ytobdfocfkomagaa.base.Shut.mk (And.intro hc1 (And.intro hc2 (And.intro hrow (And.intro hnew (And.intro hacc (And.intro hnn hlt))))))
                clear hacc hnn hlt hc1 hc2 hrow hnew ht ht2 hs1
                go_wp2
                refine wp_loop_rounds 3 ?_
                rw [rounds_succ]
                go_wp2_with fail
                refine (HC.out.1 _).mono ?_
                rintro e w2 ⟨rfl, hb2⟩
                have hr2 := HC.out.2.2.1.below hb2
                have hB2 := chain HC.out.2.2.2.1 hb2
                have y0 := hr2.cell 0
                have f0 := hr2.frozen 0
                have hr3 := hr2.set 0 (.string ⟨k1.toArray⟩)
                have hB3 := hB2.setCell (p := ⟨wr.heap.size, 0, none⟩) (Nat.le_refl _) (.string ⟨k1.toArray⟩)
                have H3 := Ytobdfocfkomagaa.base.Shut.mk (And.intro hr3 hB3)
                clear hr2 hB2 hr3 hB3 hb2
                go_wp2
                rw [rounds_succ]
                clear y0 f0
                go_wp2_with fail
                refine (HC.out.2.1 _).mono ?_
                rintro e w4 ⟨rfl, hb4⟩
                have hr4 := H3.out.1.below hb4
                have hB4 := chain H3.out.2 hb4
                have hT4 := HR.out.2.keep hB4
                have y0 := hr4.cell 0
                have y1 := hr4.cell 1
                have f0 := hr4.frozen 0
                have f1 := hr4.frozen 1
                have x0 := hT4.box.cell 0
                have x1 := hT4.box.cell 1
                have hr5 := hr4.set 1 (.string ⟨v1.toArray⟩)
                have hB5 := hB4.setCell (p := ⟨wr.heap.size, 1, none⟩) (Nat.le_refl _) (.string ⟨v1.toArray⟩)
                obtain ⟨w5, hw5⟩ : ∃ w5, w4.setCell ⟨wr.heap.size, 1, none⟩ (.string ⟨v1.toArray⟩) = w5 := ⟨_, rfl⟩
                rw [hw5] at hr5 hB5
                have hT5 := HR.out.2.keep (chain hB5 (newer (same w5) (.cells #[.string ⟨k1.toArray⟩, .string ⟨v1.toArray⟩] 60)))
                obtain ⟨g6, cap6, w6, hrun, hb6, hbox6, hT6⟩ := hT5.more HC.out.2.2.2.2.2.1 (⟨k1.toArray⟩, ⟨v1.toArray⟩) w5.heap.size (Row.new w5 #[.string ⟨k1.toArray⟩, .string ⟨v1.toArray⟩] 60)
                have v0 := hbox6.cell 1
                have d0 := hbox6.frozen 1
                have u0 := hr5.cell 0
                have u1 := hr5.cell 1
                have hT5' := HR.out.2.keep hB5
                have x2 := hT5'.box.cell 0
                have x3 := hT5'.box.cell 1
                have H6 := Ytobdfocfkomagaa.base.Shut.mk hT6
                rw [t_shut] at hrun
                clear hr4 hB4 hT4 hb4 hr5 hB5 hT5 hT5' hb6 hbox6 hT6
                go_wp2
                rw [rounds_succ]
                go_wp2
                refine ⟨⟨k + 1, _, r2, _, _, _, HC.out.2.2.2.2.2.2, by go_num, rfl, rfl, ⟨HC.out.2.2.2.2.1, H6.out⟩⟩, ?_⟩
                have := HC.out.2.2.2.2.2.2
                simp [intOf]; omega
          · obtain rfl : k = m := by omega
            have hdone := HR.out.1.done
            have hge : ¬ (k : Int) < n ∨ (480 < n ∧ ¬ (k : Int) < 480) := by have := HC2.out.2.1; omega
            first
              | (have hge1 : ¬ (k : Int) < n := by omega)
              | (have hge1 : ¬ (k : Int) < 480 := by omega)
            obtain ⟨ps, pf, hps⟩ : ∃ ps pf, putN ⟨lf, acc⟩ = (ps, pf) := ⟨_, _, rfl⟩
            have hput := put_walk lf A nn c acc (own_reads HR.out.2.own).1 HR.out.1.nice wr (own_reads HR.out.2.own).2
            rw [hps] at hput
            have x0 := HR.out.2.box.cell 0
            have x1 := HR.out.2.box.cell 1
            have HP := Ytobdfocfkomagaa.base.Shut.mk (And.intro hput (And.intro hps hdone))
            clear hput hge hdone hlt hps
            go_wp2_with fail
            refine HP.out.1.mono ?_
            rintro e5 w5 ⟨rfl, hb5⟩
            have hT5 := HR.out.2.keep hb5
            have z0 := hT5.res.cell 0
            have z1 := hT5.res.cell 1
            have g0 := hT5.res.frozen 0
            have g1 := hT5.res.frozen 1
            have v0 := hT5.box.cell 0
            have v1 := hT5.box.cell 1
            have H5 := Ytobdfocfkomagaa.base.Shut.mk hT5
            clear hb5 hT5 x0 x1
            have hx := HP.out.2.2
            by_cases hpf : pf = 0
            · subst hpf
              by_cases hsame : ps = s.data.toList
              · have hcmp : (ps == s.toList) = true := by rw [hsame, ByteArray.toList_eq]; simp
                have HS := Ytobdfocfkomagaa.base.Shut.mk hsame
                clear hsame hx
                go_wp2
                try rw [Exit.noGoto_ret]
                refine bodyPost_ret (v := .tuple #[nv lf A nn c, .int .i64 0]) (res_nd (p := 2) (u := 3) rfl _ _ w.heap.size lf A nn c rfl H5.out.told.1) rfl ?_
                rw [← HC2.out.2.1, HP.out.2.2]
                unfold endN
                simp only
                rw [HP.out.2.1, HS.out, if_pos rfl]
                exact ⟨A, nn, c, rfl, H5.out.told.2.1, H5.out.told.2.2.1, H5.out.told.2.2.2⟩
              · have hcmp : (ps == s.toList) = false := by
                  rw [ByteArray.toList_eq]
                  exact beq_eq_false_iff_ne.2 hsame
                have HS := Ytobdfocfkomagaa.base.Shut.mk hsame
                clear hsame hx
                go_wp2
                try rw [Exit.noGoto_ret]
                refine bodyPost_ret (v := .tuple #[nv false none 0 0, .int .i64 4]) (res_nd (p := 2) (u := 3) rfl _ _ w.heap.size false none 0 0 rfl (H5.out.res.two _ _ rfl)) rfl ?_
                rw [← HC2.out.2.1, HP.out.2.2]
                unfold endN
                simp only
                rw [HP.out.2.1, if_neg (fun e => HS.out (congrArg Prod.fst e))]
                exact Taken.zero (two_below H5.out.below (Nat.le_refl _) _ _)
            · clear hx
              go_wp2
              try rw [Exit.noGoto_ret]
              refine bodyPost_ret (v := .tuple #[nv false none 0 0, .int .i64 4]) (res_nd (p := 2) (u := 3) rfl _ _ w.heap.size false none 0 0 rfl (H5.out.res.two _ _ rfl)) rfl ?_
              rw [← HC2.out.2.1, HP.out.2.2]
              unfold endN
              simp only
              rw [HP.out.2.1, if_neg (fun e => hpf (congrArg Prod.snd e))]
              exact Taken.zero (two_below H5.out.below (Nat.le_refl _) _ _)
  · have hT : takeN 160 s.data.toList = (zeroN, 4) := take_short (by omega) _
    rw [hT]
    have hne : ¬ (s.size : Int) = 480 := by omega
    have hr := Row.new w zc 49
    have HR := Ytobdfocfkomagaa.base.Shut.mk (And.intro hr (newer (same w) (.cells zc 49)))
    have z0 : (w.alloc (.cells zc 49)).cell? ⟨w.heap.size, 0, none⟩ = some (.bool false) := hr.cell 0
    have z1 : (w.alloc (.cells zc 49)).cell? ⟨w.heap.size, 1, none⟩ = some (.slice none 0 0) := hr.cell 1
    have g0 := hr.frozen 0
    have g1 := hr.frozen 1
    clear hT hl h480 hs hr
    go_enter Try.func40, Try.ntmps40
    go_wp2
    go_step3
    go_wp2
    try rw [Exit.noGoto_ret]
    refine bodyPost_ret (v := .tuple #[nv false none 0 0, .int .i64 4]) (res_nd (p := 2) (u := 3) rfl _ _ w.heap.size false none 0 0 rfl HR.out.1) rfl (Taken.zero HR.out.2)
end Go.Proofs.Ytobdfocfkomagaa.node
