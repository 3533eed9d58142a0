/- The walks of the reference's Size, Check, Put, Find. -/
import Derived.Test.YtobdfocfkomagaaNodeRText
import Derived.Test.YtobdfocfkomagaaNodePut
namespace Go.Proofs.Ytobdfocfkomagaa.node
open Go.ChangeShapes Go.WideShapes Go.ChangeAt Go.RowKit
open Ytobdfocfkomagaa.base (size_mk chain newer drewn same ba_ext bytesOf run_string)

set_option maxRecDepth 100000 in
set_option maxHeartbeats 400000 in
theorem rsize_walk (leaf : Bool) (A : Option Addr) (n c : Nat) (ps : PL) (hn : ps.length = n) (hs : Nice ps) (w : World) (hr : PReads w A ps) :
    Calls Try.prog 37 #[nv leaf A n c] w fun e w' => e = .returned (.int .i64 (sizeN ⟨leaf, ps⟩ : Int)) ∧ Below w.heap.size w w' := by
  have hb := newer (same w) (.cells #[.bool leaf, .slice A n c] 49)
  have h1 := rtext_walk leaf A n c ps hn hs _ (hr.keep hb)
  have hl := text_len ⟨leaf, ps⟩
  have H := Ytobdfocfkomagaa.base.Shut.mk (And.intro h1 (And.intro hb hl))
  clear h1 hb hl hr hn hs
  go_enter Try.func37, Try.ntmps37
  go_wp2_with fail
  refine H.out.1.mono ?_
  rintro e w1 ⟨s, rfl, hs, hb1⟩
  have H1 := Ytobdfocfkomagaa.base.Shut.mk (And.intro (chain H.out.2.1 hb1) (show s.size = sizeN ⟨leaf, ps⟩ by rw [hs, size_mk]; exact H.out.2.2))
  clear hs hb1
  go_wp2
  go_ret
  exact ⟨by rw [← H1.out.2]; rfl, H1.out.1⟩
set_option maxRecDepth 100000 in
set_option maxHeartbeats 800000 in
theorem rcheck_walk (leaf : Bool) (A : Option Addr) (n c : Nat) (ps : PL) (hn : ps.length = n) (hs : Nice ps) (w : World) (hr : PReads w A ps) :
    Calls Try.prog 29 #[nv leaf A n c] w fun e w' => e = .returned (.int .i64 (checkN ⟨leaf, ps⟩)) ∧ Below w.heap.size w w' := by
  have hb := newer (same w) (.cells #[.bool leaf, .slice A n c] 49)
  have hx := Row.new w #[.bool leaf, .slice A n c] 49
  obtain ⟨q, hq⟩ : ∃ q, w.heap.size = q := ⟨_, rfl⟩
  obtain ⟨V, hV⟩ : ∃ V, w.alloc (.cells #[.bool leaf, .slice A n c] 49) = V := ⟨_, rfl⟩
  rw [hV, hq] at hx
  rw [hV] at hb
  have x0 : V.cell? ⟨q, 0, none⟩ = some (.bool leaf) := hx.cell 0
  have x1 : V.cell? ⟨q, 1, none⟩ = some (.slice A n c) := hx.cell 1
  have hrV := hr.keep hb
  have h1 := rright_walk leaf A n c ps hn hs V hrV
  have h2 := fun (u : World) (hu : Below V.heap.size V u) => rsize_walk leaf A n c ps hn hs u (hrV.keep hu)
  have hbd := size_bd hs leaf
  have hdef : checkN ⟨leaf, ps⟩ = if rightN ⟨leaf, ps⟩ = false then 2 else if 480 < sizeN ⟨leaf, ps⟩ then 5 else 0 := rfl
  have H := Ytobdfocfkomagaa.base.Shut.mk (And.intro h1 (And.intro h2 (And.intro hb (And.intro hx hdef))))
  clear h1 h2 hb hx hdef hr hrV hn hs
  generalize checkN ⟨leaf, ps⟩ = C at H ⊢
  generalize rightN ⟨leaf, ps⟩ = R at H
  generalize sizeN ⟨leaf, ps⟩ = Z at H hbd
  cases R with
  | false =>
    go_enter Try.func29, Try.ntmps29
    go_wp2_with fail
    refine H.out.1.mono ?_
    rintro e w1 ⟨rfl, hb1⟩
    have H1 := Ytobdfocfkomagaa.base.Shut.mk (chain H.out.2.2.1 hb1)
    clear hb1
    go_wp2
    go_ret
    exact ⟨by rw [H.out.2.2.2.2]; rfl, H1.out⟩
  | true =>
    have hw : (480 < (Z : Int) ∧ C = 5) ∨ (¬ 480 < (Z : Int) ∧ C = 0) := by
      rw [H.out.2.2.2.2, if_neg (by decide)]
      by_cases h : 480 < Z
      · exact .inl ⟨by omega, if_pos h⟩
      · exact .inr ⟨by omega, if_neg h⟩
    rcases hw with ⟨hz, rfl⟩ | ⟨hz, rfl⟩
    all_goals
      go_enter Try.func29, Try.ntmps29
      go_wp2_with fail
      refine H.out.1.mono ?_
      rintro e w1 ⟨rfl, hb1⟩
      have y0 : w1.cell? ⟨q, 0, none⟩ = some (.bool leaf) := (H.out.2.2.2.1.below hb1).cell 0
      have y1 : w1.cell? ⟨q, 1, none⟩ = some (.slice A n c) := (H.out.2.2.2.1.below hb1).cell 1
      have H1 := Ytobdfocfkomagaa.base.Shut.mk (And.intro (H.out.2.1 w1 hb1) (chain H.out.2.2.1 hb1))
      clear hb1
      go_wp2_with fail
      refine H1.out.1.mono ?_
      rintro e w2 ⟨rfl, hb2⟩
      have H2 := Ytobdfocfkomagaa.base.Shut.mk (chain H1.out.2 hb2)
      clear hb2
      go_wp2
      go_ret
      exact ⟨rfl, H2.out⟩
theorem ratK_spec (ps : PL) (key : ByteArray) : ∀ k : Nat, (atK ps key k = -1 ∧ ∀ s, s < k → leqB (at0 ps s).1 key = false) ∨ ∃ t, t < k ∧ atK ps key k = (t : Int) ∧ leqB (at0 ps t).1 key = true ∧ ∀ s, t < s → s < k → leqB (at0 ps s).1 key = false
  | 0 => .inl ⟨rfl, fun s hs => by omega⟩
  | k + 1 => by
    unfold atK
    cases hc : leqB (at0 ps k).1 key with
    | true => rw [if_pos rfl]; exact .inr ⟨k, by omega, rfl, hc, fun s h1 h2 => by omega⟩
    | false =>
      rw [if_neg (by decide)]
      rcases ratK_spec ps key k with ⟨h1, h2⟩ | ⟨t, h1, h2, h3, h4⟩
      · refine .inl ⟨h1, fun s hs => ?_⟩
        by_cases e : s = k
        · rw [e]; exact hc
        · exact h2 s (by omega)
      · refine .inr ⟨t, by omega, h2, h3, fun s h5 h6 => ?_⟩
        by_cases e : s = k
        · rw [e]; exact hc
        · exact h4 s h5 (by omega)
theorem rrun_leq (a b : ByteArray) (r : Bool) (h : leqB a b = r) (u : World) : (binOp .leq 9 (.string a) (.string b)).run Try.prog u = .ok (.bool r) u := by
  unfold leqB less at h
  rw [← h]
  simp [binOp, Op.stringOp, lessL]
theorem req_dec (a b : ByteArray) : (a.toList == b.toList) = decide (a = b) := by
  by_cases h : a = b
  · rw [h]; simp
  · rw [decide_eq_false h]; exact beq_eq_false_iff_ne.2 (fun e => h (toList_inj e))
theorem rrun_eql (a b : ByteArray) (u : World) : (binOp .eql 9 (.string a) (.string b)).run Try.prog u = .ok (.bool (decide (a = b))) u := by
  have : (a.toList == b.toList) = decide (a = b) := by
    by_cases h : a = b
    · rw [h]; simp
    · rw [decide_eq_false h]; exact beq_eq_false_iff_ne.2 (fun e => h (toList_inj e))
  simp [binOp, Op.stringOp, this]
set_option maxRecDepth 100000 in
set_option maxHeartbeats 1600000 in
theorem rfind_walk (leaf : Bool) (A : Option Addr) (n c : Nat) (ps : PL) (hn : ps.length = n) (hn2 : n ≤ 1000) (key : ByteArray) (w : World) (hr : PReads w A ps) :
    Calls Try.prog 39 #[nv leaf A n c, .string key] w fun e w' => e = .returned (.tuple #[.int .i64 (atK ps key n), .bool (decide (0 ≤ atK ps key n) && decide ((at0 ps (atK ps key n).toNat).1 = key))]) ∧ Below w.heap.size w w' := by
  have hb := newer (same w) (.cells #[.bool leaf, .slice A n c] 49)
  have hx := Row.new w #[.bool leaf, .slice A n c] 49
  obtain ⟨q, hq⟩ : ∃ q, w.heap.size = q := ⟨_, rfl⟩
  obtain ⟨V, hV⟩ : ∃ V, w.alloc (.cells #[.bool leaf, .slice A n c] 49) = V := ⟨_, rfl⟩
  rw [hV, hq] at hx
  rw [hV] at hb
  have x1 : V.cell? ⟨q, 1, none⟩ = some (.slice A n c) := hx.cell 1
  have H := Ytobdfocfkomagaa.base.Shut.mk (And.intro (hr.keep hb) (And.intro hb hn))
  clear hx hb hr hn
  go_enter Try.func39, Try.ntmps39
  go_wp2
  go_loop [6, 7] (fun a i => ∃ k : Nat, k ≤ n ∧ i = .int .i64 k ∧ a = .int .i64 (atK ps key k)) (fun _ i => n - (intOf i).toNat)
  case atStart => exact ⟨0, Nat.zero_le _, rfl, rfl⟩
  case round =>
    obtain ⟨k, hk, rfl, rfl⟩ := hrel
    by_cases hlt : k < n
    · have hlt' : (k : Int) < n := by omega
      have hkp : k < ps.length := by rw [H.out.2.2]; exact hlt
      obtain ⟨b, off, rfl, c0, c1, -⟩ := H.out.1.at_ hkp
      have hdef : atK ps key (k + 1) = if leqB (at0 ps k).1 key = true then (k : Int) else atK ps key k := rfl
      cases hB : leqB (at0 ps k).1 key with
      | true =>
        rw [hB, if_pos rfl] at hdef
        have hq2 := fun u : World => rrun_leq (at0 ps k).1 key true hB u
        have HD := Ytobdfocfkomagaa.base.Shut.mk hdef
        clear hdef hB c1
        generalize (at0 ps k).1 = kx at c0 hq2
        go_wp2
        go_round
        case rel => exact ⟨k + 1, by omega, by go_num, by rw [HD.out]⟩
        case measure => simp [intOf]; omega
      | false =>
        rw [hB, if_neg (by decide)] at hdef
        have hq2 := fun u : World => rrun_leq (at0 ps k).1 key false hB u
        have HD := Ytobdfocfkomagaa.base.Shut.mk hdef
        clear hdef hB c1
        generalize (at0 ps k).1 = kx at c0 hq2
        go_wp2
        go_round
        case rel => exact ⟨k + 1, by omega, by go_num, by rw [HD.out]⟩
        case measure => simp [intOf]; omega
    · obtain rfl : k = n := by omega
      rcases ratK_spec ps key k with ⟨hT, -⟩ | ⟨t, htk, hT, -⟩
      · have HT := Ytobdfocfkomagaa.base.Shut.mk hT
        go_wp2
        go_big_region
        go_wp2
        go_ret2
        refine ⟨?_, chain H.out.2.1 (drewn (same V))⟩
        rw [HT.out]
        rfl
      · have HT := Ytobdfocfkomagaa.base.Shut.mk hT
        have htp : t < ps.length := by rw [H.out.2.2]; exact htk
        obtain ⟨b, off, rfl, c0, c1, -⟩ := H.out.1.at_ htp
        have hd : decide ((0 : Int) ≤ (t : Int)) = true := decide_eq_true (by omega)
        have hd2 : (0 : Int) ≤ (t : Int) := by omega
        have hd3 : (t : Int) < k := by omega
        have hq2 := req_dec (at0 ps t).1 key
        clear c1
        generalize hkx : (at0 ps t).1 = kx at c0 hq2
        have HX := Ytobdfocfkomagaa.base.Shut.mk hkx
        clear hkx
        go_wp2
        go_big_region
        go_wp2
        go_ret2
        refine ⟨?_, chain H.out.2.1 (drewn (same V))⟩
        rw [HT.out, Int.toNat_natCast, HX.out, hd, Bool.true_and]
        first | rfl | (rw [← hq2]; rfl)
end Go.Proofs.Ytobdfocfkomagaa.node
