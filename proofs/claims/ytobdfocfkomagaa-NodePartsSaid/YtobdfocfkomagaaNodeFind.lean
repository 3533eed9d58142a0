/- The walks of strings.Compare, of the binary search, of Find. -/
import Derived.Test.YtobdfocfkomagaaNodeCheck
import Derived.Lib.Bytealg
namespace Go.Proofs.Ytobdfocfkomagaa.node
open Go.ChangeShapes Go.WideShapes Go.ChangeAt Go.RowKit
open Ytobdfocfkomagaa.base (size_mk chain newer drewn same ba_ext)

set_option maxRecDepth 100000 in
set_option maxHeartbeats 400000 in
theorem cmpstr_walk (a b : ByteArray) (w : World) : Calls Try.prog 85 #[.string a, .string b] w fun e w' => e = .returned (.int .i64 (Lib.compareBytes a.data.toList b.data.toList)) ∧ w = w' := by
  go_enter Try.func85, Try.ntmps85
  go_wp2
  rw [run_callFunc_extern Try.func101 (by kernel_rfl) (by kernel_rfl) (by kernel_rfl) (e := Extern.BytealgCompare.compare) (by kernel_rfl), Lib.run_compareString]
  simp only [Result.andThen]
  rw [Oper.upon_value]
  go_wp2
  go_ret
  exact ⟨rfl, rfl⟩
set_option maxRecDepth 100000 in
set_option maxHeartbeats 400000 in
theorem compare_walk (a b : ByteArray) (w : World) : Calls Try.prog 69 #[.string a, .string b] w fun e w' => e = .returned (.int .i64 (Lib.compareBytes a.data.toList b.data.toList)) ∧ w = w' := by
  go_enter Try.func69, Try.ntmps69
  go_wp2_with fail
  refine (cmpstr_walk a b w).mono ?_
  rintro e w1 ⟨rfl, rfl⟩
  go_wp2
  go_ret
  exact ⟨rfl, rfl⟩
set_option maxRecDepth 100000 in
set_option maxHeartbeats 400000 in
theorem cmp_walk (k v key : ByteArray) (w : World) : Calls Try.prog 68 #[.agg #[.string k, .string v], .string key] w fun e w' => e = .returned (.int .i64 (Lib.compareBytes k.data.toList key.data.toList)) ∧ Below w.heap.size w w' := by
  have HB := Ytobdfocfkomagaa.base.Shut.mk (newer (same w) (.cells #[.string k, .string v] 60))
  have H := Ytobdfocfkomagaa.base.Shut.mk (fun u : World => compare_walk k key u)
  go_enter Try.func68, Try.ntmps68
  go_wp2_with fail
  refine (H.out _).mono ?_
  rintro e w1 ⟨rfl, rfl⟩
  go_wp2
  go_ret
  exact ⟨rfl, HB.out⟩
theorem cmp_less (a b : ByteArray) : Lib.compareBytes a.data.toList b.data.toList = if less a b = true then -1 else if a = b then 0 else 1 := by
  rw [compare_less]
  unfold less
  rw [ByteArray.toList_eq, ByteArray.toList_eq]
  by_cases h : lessL a.data.toList b.data.toList = true
  · rw [if_pos h, if_pos h]
  · rw [if_neg h, if_neg h]
    by_cases h2 : a = b
    · rw [if_pos h2, if_pos (by rw [h2])]
    · rw [if_neg h2, if_neg (fun e => h2 (by cases a; cases b; simpa using e))]
/-- what the search comes to -/
def Bound (ps : PL) (n : Nat) (key : ByteArray) (e : Ending) (i : Nat) : Prop := e = .returned (.tuple #[.int .i64 (i : Int), .bool (decide (i < n) && decide ((at0 ps i).1 = key))]) ∧ i ≤ n ∧ (∀ t, t < i → less (at0 ps t).1 key = true) ∧ (∀ t, i ≤ t → t < n → less (at0 ps t).1 key = false)
set_option maxRecDepth 100000 in
set_option maxHeartbeats 1600000 in
theorem search_walk (A : Option Addr) (n c : Nat) (ps : PL) (hn : ps.length = n) (hn2 : n ≤ 1000) (hso : ∀ j i, i < j → j < n → less (at0 ps i).1 (at0 ps j).1 = true) (key : ByteArray) (w : World) (hr : PReads w A ps) :
    Calls Try.prog 67 #[.slice A n c, .string key, .func (.func 68) #[] #[]] w fun e w' => (∃ i, Bound ps n key e i) ∧ Below w.heap.size w w' := by
  have H := Ytobdfocfkomagaa.base.Shut.mk (And.intro hr (And.intro hn (And.intro hso (fun k v u => cmp_walk k v key u))))
  clear hr hn hso
  go_enter Try.func67, Try.ntmps67
  go_wp2
  go_loopw [9, 10] (fun a b wr => ∃ i j : Nat, i ≤ j ∧ j ≤ n ∧ a = .int .i64 (i : Int) ∧ b = .int .i64 (j : Int) ∧ Ytobdfocfkomagaa.base.Shut (Below w.heap.size w wr ∧ (∀ t, t < i → less (at0 ps t).1 key = true) ∧ ∀ t, j ≤ t → t < n → less (at0 ps t).1 key = false)) (fun a b _ => (intOf b).toNat - (intOf a).toNat)
  case atStart => exact ⟨0, n, Nat.zero_le _, Nat.le_refl _, rfl, rfl, ⟨same w, fun t ht => by omega, fun t h1 h2 => by omega⟩⟩
  case round =>
    obtain ⟨i, j, hij, hjn, rfl, rfl, HR⟩ := hrel
    by_cases hlt : i < j
    · have hlt' : (i : Int) < j := by omega
      obtain ⟨h, hh⟩ : ∃ h, h = (i + j) / 2 := ⟨_, rfl⟩
      have hh1 : i ≤ h ∧ h < j ∧ h < n := by omega
      have hhn : (h : Int) < n := by omega
      have hmid : ((i : Int) + j) / 2 = h := by omega
      have hhp : h < ps.length := by rw [H.out.2.1]; exact hh1.2.2
      obtain ⟨b, off, rfl, c0, c1, -⟩ := (H.out.1.keep HR.out.1).at_ hhp
      have hcmp := H.out.2.2.2 (at0 ps h).1 (at0 ps h).2
      rw [cmp_less] at hcmp
      have hlow : less (at0 ps h).1 key = true → ∀ t, t < h + 1 → less (at0 ps t).1 key = true := by
        intro hl t ht
        by_cases e : t = h
        · rw [e]; exact hl
        · exact less_trans _ _ _ (H.out.2.2.1 h t (by omega) hh1.2.2) hl
      have hhigh : less (at0 ps h).1 key = false → ∀ t, h ≤ t → t < n → less (at0 ps t).1 key = false := by
        intro hl t h1 h2
        by_cases e : t = h
        · rw [e]; exact hl
        · cases hc : less (at0 ps t).1 key with
          | false => rfl
          | true =>
            have := less_trans _ _ _ (H.out.2.2.1 t h (by omega) h2) hc
            unfold less at hl
            rw [this] at hl
            cases hl
      have HK := Ytobdfocfkomagaa.base.Shut.mk (And.intro HR.out (And.intro hlow hhigh))
      clear HR hlow hhigh hh
      generalize (at0 ps h).2 = vx at c1 hcmp
      cases hls : less (at0 ps h).1 key with
      | true =>
        rw [hls, if_pos rfl] at hcmp
        have HC := Ytobdfocfkomagaa.base.Shut.mk hcmp
        have HL := Ytobdfocfkomagaa.base.Shut.mk (HK.out.2.1 hls)
        clear hcmp hls
        generalize (at0 ps h).1 = kx at c0 HC
        go_wp2_with fail
        refine (HC.out _).mono ?_
        rintro e w2 ⟨rfl, hb2⟩
        have H2 := Ytobdfocfkomagaa.base.Shut.mk (chain HK.out.1.1 hb2)
        clear hb2 HC c0 c1
        go_wp2
        go_roundw
        case rel => exact ⟨h + 1, j, by omega, hjn, by go_num, rfl, ⟨H2.out, HL.out, HK.out.1.2.2⟩⟩
        case measure => simp [intOf]; omega
      | false =>
        rw [hls, if_neg (by decide)] at hcmp
        have HL := Ytobdfocfkomagaa.base.Shut.mk (HK.out.2.2 hls)
        clear hls
        by_cases he : (at0 ps h).1 = key
        · rw [if_pos he] at hcmp
          have HC := Ytobdfocfkomagaa.base.Shut.mk hcmp
          clear hcmp he
          generalize (at0 ps h).1 = kx at c0 HC
          go_wp2_with fail
          refine (HC.out _).mono ?_
          rintro e w2 ⟨rfl, hb2⟩
          have H2 := Ytobdfocfkomagaa.base.Shut.mk (chain HK.out.1.1 hb2)
          clear hb2 HC c0 c1
          go_wp2
          go_roundw
          case rel => exact ⟨i, h, by omega, by omega, rfl, rfl, ⟨H2.out, HK.out.1.2.1, HL.out⟩⟩
          case measure => simp [intOf]; omega
        · rw [if_neg he] at hcmp
          have HC := Ytobdfocfkomagaa.base.Shut.mk hcmp
          clear hcmp he
          generalize (at0 ps h).1 = kx at c0 HC
          go_wp2_with fail
          refine (HC.out _).mono ?_
          rintro e w2 ⟨rfl, hb2⟩
          have H2 := Ytobdfocfkomagaa.base.Shut.mk (chain HK.out.1.1 hb2)
          clear hb2 HC c0 c1
          go_wp2
          go_roundw
          case rel => exact ⟨i, h, by omega, by omega, rfl, rfl, ⟨H2.out, HK.out.1.2.1, HL.out⟩⟩
          case measure => simp [intOf]; omega
    · obtain rfl : i = j := by omega
      by_cases hin : i < n
      · have hin' : (i : Int) < n := by omega
        have hip : i < ps.length := by rw [H.out.2.1]; exact hin
        obtain ⟨b, off, rfl, c0, c1, -⟩ := (H.out.1.keep HR.out.1).at_ hip
        have hcmp := H.out.2.2.2 (at0 ps i).1 (at0 ps i).2
        rw [cmp_less, HR.out.2.2 i (Nat.le_refl _) hin, if_neg (by decide)] at hcmp
        have HK := Ytobdfocfkomagaa.base.Shut.mk HR.out
        clear HR
        generalize (at0 ps i).2 = vx at c1 hcmp
        by_cases he : (at0 ps i).1 = key
        · rw [if_pos he] at hcmp
          have HC := Ytobdfocfkomagaa.base.Shut.mk hcmp
          have HE := Ytobdfocfkomagaa.base.Shut.mk he
          clear hcmp he
          generalize hkx : (at0 ps i).1 = kx at c0 HC
          clear hkx
          go_wp2_with fail
          refine (HC.out _).mono ?_
          rintro e w2 ⟨rfl, hb2⟩
          have H2 := Ytobdfocfkomagaa.base.Shut.mk (chain HK.out.1 hb2)
          clear hb2 HC c0 c1
          go_wp2
          go_ret2
          refine ⟨⟨i, ?_, hjn, HK.out.2.1, HK.out.2.2⟩, H2.out⟩
          rw [decide_eq_true hin, decide_eq_true HE.out]
          rfl
        · rw [if_neg he] at hcmp
          have HC := Ytobdfocfkomagaa.base.Shut.mk hcmp
          have HE := Ytobdfocfkomagaa.base.Shut.mk he
          clear hcmp he
          generalize hkx : (at0 ps i).1 = kx at c0 HC
          clear hkx
          go_wp2_with fail
          refine (HC.out _).mono ?_
          rintro e w2 ⟨rfl, hb2⟩
          have H2 := Ytobdfocfkomagaa.base.Shut.mk (chain HK.out.1 hb2)
          clear hb2 HC c0 c1
          go_wp2
          go_ret2
          refine ⟨⟨i, ?_, hjn, HK.out.2.1, HK.out.2.2⟩, H2.out⟩
          rw [decide_eq_false HE.out, Bool.and_false]
          rfl
      · have hin' : ¬ (i : Int) < n := by omega
        have HK := Ytobdfocfkomagaa.base.Shut.mk HR.out
        clear HR
        go_wp2
        go_ret2
        refine ⟨⟨i, ?_, hjn, HK.out.2.1, HK.out.2.2⟩, HK.out.1⟩
        rw [decide_eq_false hin]
        rfl
set_option maxRecDepth 100000 in
set_option maxHeartbeats 800000 in
theorem find_walk (leaf : Bool) (A : Option Addr) (n c : Nat) (ps : PL) (hn : ps.length = n) (hs : Nice ps) (hrt : rightN ⟨leaf, ps⟩ = true) (key : ByteArray) (w : World) (hr : PReads w A ps) :
    Calls Try.prog 33 #[nv leaf A n c, .string key] w fun e w' => e = .returned (.tuple #[.int .i64 (atK ps key n), .bool (decide (0 ≤ atK ps key n) && decide ((at0 ps (atK ps key n).toNat).1 = key))]) ∧ Below w.heap.size w w' := by
  have hb := newer (same w) (.cells #[.bool leaf, .slice A n c] 49)
  have hn2 : n ≤ 1000 := by rw [← hn]; exact hs.len
  have hso := sorted hrt
  simp only [hn] at hso
  have hsw := search_walk A n c ps hn hn2 hso key (w.alloc (.cells #[.bool leaf, .slice A n c] 49)) (hr.keep hb)
  have hfs := fun i => find_same hrt key i
  simp only [hn] at hfs
  have H := Ytobdfocfkomagaa.base.Shut.mk (And.intro hsw (And.intro hb (And.intro hfs hn)))
  clear hsw hb hfs hso hrt hs hr hn
  generalize atK ps key n = T at H ⊢
  go_enter Try.func33, Try.ntmps33
  go_wp2_with fail
  refine H.out.1.mono ?_
  rintro e w1 ⟨⟨i, rfl, hi, h1, h2⟩, hb1⟩
  have hf := H.out.2.2.1 i hi h1 h2
  have hdef : findB ps key i = if i < ps.length ∧ (at0 ps i).1 = key then ((i : Int), true) else ((i : Int) - 1, false) := rfl
  rw [H.out.2.2.2] at hdef
  have HB := Ytobdfocfkomagaa.base.Shut.mk (chain H.out.2.1 hb1)
  clear hb1 h1 h2
  by_cases hc : i < n ∧ (at0 ps i).1 = key
  · rw [if_pos hc] at hdef
    rw [hdef] at hf
    have hd : (decide (i < n) && decide ((at0 ps i).1 = key)) = true := by rw [decide_eq_true hc.1, decide_eq_true hc.2]; rfl
    rw [hd]
    have HF := Ytobdfocfkomagaa.base.Shut.mk hf
    clear hf hdef hd hc H
    go_wp2
    go_ret2
    exact ⟨by rw [← HF.out.2, ← HF.out.1]; rfl, HB.out⟩
  · rw [if_neg hc] at hdef
    rw [hdef] at hf
    have hd : (decide (i < n) && decide ((at0 ps i).1 = key)) = false := by
      cases hx : (decide (i < n) && decide ((at0 ps i).1 = key)) with
      | false => rfl
      | true => exact absurd (by simpa using hx) hc
    rw [hd]
    have HF := Ytobdfocfkomagaa.base.Shut.mk hf
    have hsub : IntKind.i64.wrap ((i : Int) - 1) = (i : Int) - 1 := w64 _ (by omega) (by omega)
    clear hf hdef hd hc H
    go_wp2
    go_ret2
    exact ⟨by rw [← HF.out.2, ← HF.out.1]; rfl, HB.out⟩
end Go.Proofs.Ytobdfocfkomagaa.node
