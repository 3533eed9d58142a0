/- The walk of the reference's Take. -/
import Derived.Test.YtobdfocfkomagaaNodeRPutW
import Derived.Test.YtobdfocfkomagaaNodeTakeW
namespace Go.Proofs.Ytobdfocfkomagaa.node
open Go.ChangeShapes Go.WideShapes Go.ChangeAt Go.RowKit
open Ytobdfocfkomagaa.base (size_mk chain newer drewn same ba_ext rest_eq)
open Ytobdfocfkomagaa.oct (take takeText)

theorem text_two48 (r : List UInt8) : (∃ e : Int, e ≠ 0 ∧ takeText r 48 = ([], [], e)) ∨ ∃ k r1, takeText r 48 = (k, r1, 0) := by
  rcases takeText_most r with ⟨e, he, h, e', he', h'⟩ | ⟨k, r1, h, _, h'⟩ | ⟨k, r1, h, _, h'⟩
  · exact .inl ⟨e', he', h'⟩
  · exact .inr ⟨k, r1, h'⟩
  · exact .inl ⟨5, by decide, h'⟩
theorem first_is (s : ByteArray) (h : 0 < s.size) : (((s[0]'h).toNat : Int) == 1) = (s.data.toList.head? == some 1) := by
  obtain ⟨⟨l⟩⟩ := s
  cases l with
  | nil => cases h
  | cons a r =>
    show ((a.toNat : Int) == 1) = (some a == some 1)
    by_cases e : a = 1
    · subst e; rfl
    · have h1 : ¬ (a.toNat : Int) = 1 := fun h => e (UInt8.toNat_inj.1 (by show a.toNat = 1; omega))
      rw [beq_eq_false_iff_ne.2 h1]
      simp [e]
theorem put_none (lf : Bool) : putN ⟨lf, []⟩ = ([], 2) := rfl
def shutR (ats : Array TypeId) (ty : TypeId) (args : Array Value) : Sem Value := Builtin.append_ ats ty args
theorem r_shut (ats : Array TypeId) (ty : TypeId) (args : Array Value) : Builtin.append_ ats ty args = shutR ats ty args := rfl
attribute [local go_sem ↓] r_shut
set_option maxRecDepth 100000 in
set_option maxHeartbeats 1600000 in
theorem rtake_walk (s : ByteArray) (hs : s.size ≤ 1000) (w : World) : Calls Try.prog 41 #[.string s] w (Taken w (takeN 48 s.data.toList)) := by
  have hl : s.data.toList.length = s.size := by simp
  by_cases h480 : s.size = 480
  · have hrest : s.extract 1 480 = ⟨(s.data.toList.drop 1).toArray⟩ := by rw [← h480, rest_eq]
    have c1 := fun u : World => Ytobdfocfkomagaa.oct.rtake_walk (s.extract 1 480) (by rw [hrest, size_mk]; unfold maxLen; simp; omega) u
    have hd : (s.extract 1 480).data.toList = s.data.toList.drop 1 := by rw [hrest]
    rw [hd] at c1
    have hln : (s.data.toList.drop 1).length ≤ 1000 := by rw [List.length_drop]; omega
    have hways : (∃ e : Int, e ≠ 0 ∧ take (s.data.toList.drop 1) = (0, [], e)) ∨ ∃ n r, take (s.data.toList.drop 1) = (n, r, 0) ∧ -9223372036854775808 ≤ n ∧ n ≤ 9223372036854775807 ∧ r.length + 1 ≤ (s.data.toList.drop 1).length := by
      rcases Ytobdfocfkomagaa.oct.take_ways (s.data.toList.drop 1) with h | h | h
      · exact .inl ⟨3, by decide, h⟩
      · exact .inl ⟨4, by decide, h⟩
      · exact .inr h
    obtain ⟨lf, hlf⟩ : ∃ lf, (s.data.toList.head? == some 1) = lf := ⟨_, rfl⟩
    have hpos : 0 < s.size := by omega
    have hlf2 := first_is s hpos
    rw [hlf] at hlf2
    obtain ⟨b0, hb0⟩ : ∃ b0, s[0]'hpos = b0 := ⟨_, rfl⟩
    rw [hb0] at hlf2
    rcases hways with ⟨e, he, h1⟩ | ⟨n, r, h1, hn0, hn1, hr⟩
    · rw [take_bad_num h1 he 48]
      rw [h1] at c1
      simp only at c1
      have HT := Ytobdfocfkomagaa.base.Shut.mk (And.intro (TakeAt.start w lf) c1)
      clear hl h1 hln hlf hd hrest c1
      go_enter Try.func41, Try.ntmps41
      go_wp2_with fail
      refine (HT.out.2 _).mono ?_
      rintro e w1 ⟨rfl, hb1⟩
      have HA := Ytobdfocfkomagaa.base.Shut.mk (HT.out.1.keep hb1)
      clear hb1
      go_wp2
      refine wp_loop_rounds 1 ?_
      rw [rounds_succ]
      have x0 := HA.out.box.cell 0
      have x1 := HA.out.box.cell 1
      have hput := rput_walk lf none 0 0 [] rfl ⟨by decide, fun k => by unfold at0; simp [ByteArray.size]⟩ w1 (fun h => absurd rfl h)
      rw [put_none] at hput
      have HP := Ytobdfocfkomagaa.base.Shut.mk hput
      clear hput
      go_wp2_with fail
      refine HP.out.mono ?_
      rintro e5 w5 ⟨rfl, hb5⟩
      have hT5 := HA.out.keep hb5
      have z0 := hT5.res.cell 0
      have z1 := hT5.res.cell 1
      have g0 := hT5.res.frozen 0
      have g1 := hT5.res.frozen 1
      have H5 := Ytobdfocfkomagaa.base.Shut.mk hT5
      clear hb5 hT5 x0 x1
      go_wp2
      refine bodyPost_ret (v := .tuple #[nv false none 0 0, .int .i64 4]) (res_nd (p := 2) (u := 3) rfl _ _ w.heap.size false none 0 0 rfl (H5.out.res.two _ _ rfl)) rfl ?_
      exact Taken.zero (two_below H5.out.below (Nat.le_refl _) _ _)
    · rw [take_num_ok (by omega) h1 48, hlf]
      rw [h1] at c1
      simp only at c1
      have HT := Ytobdfocfkomagaa.base.Shut.mk (And.intro (TakeAt.start w lf) c1)
      clear hl h1 hlf hd hrest c1
      go_enter Try.func41, Try.ntmps41
      go_wp2_with fail
      refine (HT.out.2 _).mono ?_
      rintro e w1 ⟨rfl, hb1⟩
      have HA := Ytobdfocfkomagaa.base.Shut.mk (HT.out.1.keep hb1)
      clear hb1
      obtain ⟨m, hm⟩ : ∃ m : Nat, m = (min n 480).toNat := ⟨_, rfl⟩
      rw [← hm]
      have hc2 := fun (l : List UInt8) (h : l.length ≤ 1000) (u : World) => Ytobdfocfkomagaa.oct.rtakeText_walk ⟨l.toArray⟩ 48 (by rw [size_mk]; unfold maxLen; omega) u
      have hc3 := fun (l : List UInt8) (h : l.length ≤ 1000) (u : World) => Ytobdfocfkomagaa.oct.rtakeText_walk ⟨l.toArray⟩ 160 (by rw [size_mk]; unfold maxLen; omega) u
      have HC2 := Ytobdfocfkomagaa.base.Shut.mk (And.intro hc2 (And.intro hm (And.intro hc3 HA.out)))
      have hs0 := Acc.start 48 m r (by omega)
      clear hc2 hc3 hm HA
      go_wp2
      go_loopw [6, 8] (fun rs i wr => ∃ (k : Nat) (acc : PL) (r' : List UInt8) (A : Option Addr) (nn c : Nat), k ≤ m ∧ i = .int .i64 k ∧ rs = .string ⟨r'.toArray⟩ ∧ Ytobdfocfkomagaa.base.Shut (Acc 48 m r k acc r' ∧ TakeAt w wr lf A nn c acc)) (fun _ i _ => m - (intOf i).toNat)
      case atStart => exact ⟨0, [], r, none, 0, 0, Nat.zero_le _, rfl, rfl, ⟨hs0, HC2.out.2.2.2⟩⟩
      case round =>
        obtain ⟨k, acc, r', A, nn, c, hk, rfl, rfl, HR⟩ := hrel
        by_cases hlt : k < m
        · have hlt1 : (k : Int) < n := by have := HC2.out.2.1; omega
          have hlt2 : (k : Int) < 480 := by have := HC2.out.2.1; omega
          have hc1 := HC2.out.1 r' HR.out.1.small
          rcases text_two48 r' with ⟨e, he, ht⟩ | ⟨k1, r1, ht⟩
          · have hnone := HR.out.1.bad1 hlt ht rfl he
            rw [ht] at hc1
            simp only at hc1
            have hc2 := HC2.out.2.2.1 [] (by decide)
            rw [show takeText [] 160 = ([], [], 3) from rfl] at hc2
            have HC := Ytobdfocfkomagaa.base.Shut.mk (And.intro hc1 hc2)
            have HN := Ytobdfocfkomagaa.base.Shut.mk hnone
            clear hlt hc1 hc2 hnone ht
            go_wp2_with fail
            refine (HC.out.1 _).mono ?_
            rintro e w2 ⟨rfl, hb2⟩
            go_wp2_with fail
            refine (HC.out.2 _).mono ?_
            rintro e w5 ⟨rfl, hb5⟩
            have hB5 := chain hb2 hb5
            have hT5 := HR.out.2.keep hB5
            have z0 := hT5.res.cell 0
            have z1 := hT5.res.cell 1
            have g0 := hT5.res.frozen 0
            have g1 := hT5.res.frozen 1
            have H5 := Ytobdfocfkomagaa.base.Shut.mk hT5
            clear hb5 hb2 hB5 hT5
            go_wp2
            refine bodyPost_ret (v := .tuple #[nv false none 0 0, .int .i64 4]) (res_nd (p := 2) (u := 3) rfl _ _ w.heap.size false none 0 0 rfl (H5.out.res.two _ _ rfl)) rfl ?_
            rw [← HC2.out.2.1, HN.out]
            exact Taken.zero (two_below H5.out.below (Nat.le_refl _) _ _)
          · have hs1 := text_small r' 48 (by decide) (by decide)
            rw [ht] at hs1 hc1
            simp only at hs1 hc1
            have hc2 := HC2.out.2.2.1 r1 (by have := HR.out.1.small; omega)
            rcases text_two r1 with ⟨e, he, ht2⟩ | ⟨v1, r2, ht2⟩
            · have hnone := HR.out.1.bad2 hlt ht ht2 rfl he
              rw [ht2] at hc2
              simp only at hc2
              have HC := Ytobdfocfkomagaa.base.Shut.mk (And.intro hc1 hc2)
              have HN := Ytobdfocfkomagaa.base.Shut.mk hnone
              clear hlt hc1 hc2 hnone ht ht2 hs1
              go_wp2_with fail
              refine (HC.out.1 _).mono ?_
              rintro e w2 ⟨rfl, hb2⟩
              go_wp2_with fail
              refine (HC.out.2 _).mono ?_
              rintro e w5 ⟨rfl, hb5⟩
              have hB5 := chain hb2 hb5
              have hT5 := HR.out.2.keep hB5
              have z0 := hT5.res.cell 0
              have z1 := hT5.res.cell 1
              have g0 := hT5.res.frozen 0
              have g1 := hT5.res.frozen 1
              have H5 := Ytobdfocfkomagaa.base.Shut.mk hT5
              clear hb5 hb2 hB5 hT5
              go_wp2
              refine bodyPost_ret (v := .tuple #[nv false none 0 0, .int .i64 4]) (res_nd (p := 2) (u := 3) rfl _ _ w.heap.size false none 0 0 rfl (H5.out.res.two _ _ rfl)) rfl ?_
              rw [← HC2.out.2.1, HN.out]
              exact Taken.zero (two_below H5.out.below (Nat.le_refl _) _ _)
            · have hacc := HR.out.1.more (by decide) (by decide) hlt (by have := HC2.out.2.1; omega) ht ht2
              have hnn : nn ≤ 1000 := by have := (own_reads HR.out.2.own).1; have := HR.out.1.nice.len; omega
              rw [ht2] at hc2
              simp only at hc2
              have HC := Ytobdfocfkomagaa.base.Shut.mk (And.intro hc1 (And.intro hc2 (And.intro hacc (And.intro hnn hlt))))
              clear hlt hc1 hc2 hacc hnn ht ht2 hs1
              go_wp2_with fail
              refine (HC.out.1 _).mono ?_
              rintro e w2 ⟨rfl, hb2⟩
              have HB := Ytobdfocfkomagaa.base.Shut.mk hb2
              clear hb2
              go_wp2_with fail
              refine (HC.out.2.1 _).mono ?_
              rintro e w5 ⟨rfl, hb5⟩
              have hB5 := chain HB.out hb5
              have hT0 := HR.out.2.keep hB5
              have x0 := hT0.box.cell 0
              have x1 := hT0.box.cell 1
              have hT5 := HR.out.2.keep (chain hB5 (newer (same w5) (.cells #[.string ⟨k1.toArray⟩, .string ⟨v1.toArray⟩] 60)))
              obtain ⟨g6, cap6, w6, hrun, hb6, hbox6, hT6⟩ := hT5.more HC.out.2.2.2.1 (⟨k1.toArray⟩, ⟨v1.toArray⟩) w5.heap.size (Row.new w5 #[.string ⟨k1.toArray⟩, .string ⟨v1.toArray⟩] 60)
              have v0 := hbox6.cell 1
              have d0 := hbox6.frozen 1
              have H6 := Ytobdfocfkomagaa.base.Shut.mk hT6
              rw [r_shut] at hrun
              clear hb5 hB5 hT0 hT5 hb6 hbox6 hT6
              go_wp2
              refine ⟨⟨k + 1, _, r2, _, _, _, HC.out.2.2.2.2, by go_num, rfl, ⟨HC.out.2.2.1, H6.out⟩⟩, ?_⟩
              have := HC.out.2.2.2.2
              simp [intOf]; omega
        · obtain rfl : k = m := by omega
          have hdone := HR.out.1.done
          obtain ⟨ps, pf, hps⟩ : ∃ ps pf, putN ⟨lf, acc⟩ = (ps, pf) := ⟨_, _, rfl⟩
          have hput := rput_walk lf A nn c acc (own_reads HR.out.2.own).1 HR.out.1.nice wr (own_reads HR.out.2.own).2
          rw [hps] at hput
          have x0 := HR.out.2.box.cell 0
          have x1 := HR.out.2.box.cell 1
          have HP := Ytobdfocfkomagaa.base.Shut.mk (And.intro hput (And.intro hps hdone))
          have hge : (¬ (k : Int) < n) ∨ ((k : Int) < n ∧ ¬ (k : Int) < 480) := by have := HC2.out.2.1; omega
          clear hput hdone hlt hps
          rcases hge with hge | ⟨hge0, hge⟩
          all_goals
            go_wp2_with fail
            refine HP.out.1.mono ?_
            rintro e5 w5 ⟨rfl, hb5⟩
            have hT5 := HR.out.2.keep hb5
            have z0 := hT5.res.cell 0
            have z1 := hT5.res.cell 1
            have g0 := hT5.res.frozen 0
            have g1 := hT5.res.frozen 1
            have v0 := hT5.box.cell 0
            have v1 := hT5.box.cell 1
            have H5 := Ytobdfocfkomagaa.base.Shut.mk hT5
            clear hb5 hT5 x0 x1
            by_cases hpf : pf = 0
            · subst hpf
              by_cases hsame : ps = s.data.toList
              · have hcmp : (ps == s.toList) = true := by rw [hsame, ByteArray.toList_eq]; simp
                have HS := Ytobdfocfkomagaa.base.Shut.mk hsame
                clear hsame
                go_wp2
                refine bodyPost_ret (v := .tuple #[nv lf A nn c, .int .i64 0]) (res_nd (p := 2) (u := 3) rfl _ _ w.heap.size lf A nn c rfl H5.out.told.1) rfl ?_
                rw [← HC2.out.2.1, HP.out.2.2]
                unfold endN
                simp only
                rw [HP.out.2.1, HS.out, if_pos rfl]
                exact ⟨A, nn, c, rfl, H5.out.told.2.1, H5.out.told.2.2.1, H5.out.told.2.2.2⟩
              · have hcmp : (ps == s.toList) = false := by
                  rw [ByteArray.toList_eq]
                  exact beq_eq_false_iff_ne.2 hsame
                have HS := Ytobdfocfkomagaa.base.Shut.mk hsame
                clear hsame
                go_wp2
                refine bodyPost_ret (v := .tuple #[nv false none 0 0, .int .i64 4]) (res_nd (p := 2) (u := 3) rfl _ _ w.heap.size false none 0 0 rfl (H5.out.res.two _ _ rfl)) rfl ?_
                rw [← HC2.out.2.1, HP.out.2.2]
                unfold endN
                simp only
                rw [HP.out.2.1, if_neg (fun e => HS.out (congrArg Prod.fst e))]
                exact Taken.zero (two_below H5.out.below (Nat.le_refl _) _ _)
            · go_wp2
              refine bodyPost_ret (v := .tuple #[nv false none 0 0, .int .i64 4]) (res_nd (p := 2) (u := 3) rfl _ _ w.heap.size false none 0 0 rfl (H5.out.res.two _ _ rfl)) rfl ?_
              rw [← HC2.out.2.1, HP.out.2.2]
              unfold endN
              simp only
              rw [HP.out.2.1, if_neg (fun e => hpf (congrArg Prod.snd e))]
              exact Taken.zero (two_below H5.out.below (Nat.le_refl _) _ _)
  · have hT : takeN 48 s.data.toList = (zeroN, 4) := take_short (by omega) _
    rw [hT]
    have hne : ¬ (s.size : Int) = 480 := by omega
    have hr := Row.new w zc 49
    have HR := Ytobdfocfkomagaa.base.Shut.mk (And.intro hr (newer (same w) (.cells zc 49)))
    have z0 : (w.alloc (.cells zc 49)).cell? ⟨w.heap.size, 0, none⟩ = some (.bool false) := hr.cell 0
    have z1 : (w.alloc (.cells zc 49)).cell? ⟨w.heap.size, 1, none⟩ = some (.slice none 0 0) := hr.cell 1
    have g0 := hr.frozen 0
    have g1 := hr.frozen 1
    clear hT hl h480 hs hr
    go_enter Try.func41, Try.ntmps41
    go_wp2
    refine bodyPost_ret (v := .tuple #[nv false none 0 0, .int .i64 4]) (res_nd (p := 2) (u := 3) rfl _ _ w.heap.size false none 0 0 rfl HR.out.1) rfl (Taken.zero HR.out.2)
end Go.Proofs.Ytobdfocfkomagaa.node
