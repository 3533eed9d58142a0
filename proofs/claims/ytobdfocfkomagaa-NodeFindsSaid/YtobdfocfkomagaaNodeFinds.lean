/- The walk of NodeFinds. -/
import Derived.Test.YtobdfocfkomagaaNodeSmall
namespace Go.Proofs.Ytobdfocfkomagaa.node
open Go.ChangeShapes Go.WideShapes Go.ChangeAt Go.RowKit
open Ytobdfocfkomagaa.base (size_mk chain newer drewn same ba_ext)

theorem atK_spec (ps : PL) (key : ByteArray) : ∀ k : Nat, (atK ps key k = -1 ∧ ∀ s, s < k → leqB (at0 ps s).1 key = false) ∨ ∃ t, t < k ∧ atK ps key k = (t : Int) ∧ leqB (at0 ps t).1 key = true ∧ ∀ s, t < s → s < k → leqB (at0 ps s).1 key = false
  | 0 => .inl ⟨rfl, fun s hs => by omega⟩
  | k + 1 => by
    unfold atK
    cases hc : leqB (at0 ps k).1 key with
    | true => rw [if_pos rfl]; exact .inr ⟨k, by omega, rfl, hc, fun s h1 h2 => by omega⟩
    | false =>
      rw [if_neg (by decide)]
      rcases atK_spec ps key k with ⟨h1, h2⟩ | ⟨t, h1, h2, h3, h4⟩
      · refine .inl ⟨h1, fun s hs => ?_⟩
        by_cases e : s = k
        · rw [e]; exact hc
        · exact h2 s (by omega)
      · refine .inr ⟨t, by omega, h2, h3, fun s h5 h6 => ?_⟩
        by_cases e : s = k
        · rw [e]; exact hc
        · exact h4 s h5 (by omega)
theorem leq_self (a : ByteArray) : leqB a a = true := by unfold leqB; simp
theorem leq_of_less {a b : ByteArray} (h : less a b = true) : leqB b a = false := by
  unfold leqB
  have h1 : less b a = false := by
    cases hc : less b a with
    | false => rfl
    | true =>
      have := less_trans _ _ _ h hc
      rw [less_irrefl] at this
      cases this
  rw [h1, Bool.false_or]
  refine beq_eq_false_iff_ne.2 (fun e => ?_)
  unfold less at h
  rw [e, less_irrefl] at h
  cases h
theorem atK_own {n : Nd} (h : rightN n = true) {i : Nat} (hi : i < n.l.length) : atK n.l (at0 n.l i).1 n.l.length = (i : Int) := by
  rcases atK_spec n.l (at0 n.l i).1 n.l.length with ⟨_, h2⟩ | ⟨t, h1, h2, h3, h4⟩
  · have := h2 i hi
    rw [leq_self] at this
    cases this
  · by_cases e : t = i
    · rw [h2, e]
    · by_cases hlt : t < i
      · have := h4 i hlt hi
        rw [leq_self] at this
        cases this
      · have := leq_of_less (sorted h t i (by omega) h1)
        rw [h3] at this
        cases this
theorem run_leq (a b : ByteArray) (r : Bool) (h : leqB a b = r) (u : World) : (binOp .leq 9 (.string a) (.string b)).run Try.prog u = .ok (.bool r) u := by
  unfold leqB less at h
  rw [← h]
  simp [binOp, Op.stringOp, lessL]
theorem run_gtr (a b : ByteArray) (r : Bool) (h : leqB a b = !r) (u : World) : (binOp .gtr 9 (.string a) (.string b)).run Try.prog u = .ok (.bool r) u := by
  have h2 : r = !(leqB a b) := by rw [h, Bool.not_not]
  unfold leqB less at h2
  rw [h2]
  simp [binOp, Op.stringOp, lessL]
theorem eq_dec (a b : ByteArray) : (a.toList == b.toList) = decide (a = b) := by
  by_cases h : a = b
  · rw [h]; simp
  · rw [decide_eq_false h]; exact beq_eq_false_iff_ne.2 (fun e => h (toList_inj e))
theorem run_eql (a b : ByteArray) (u : World) : (binOp .eql 9 (.string a) (.string b)).run Try.prog u = .ok (.bool (decide (a = b))) u := by
  have : (a.toList == b.toList) = decide (a = b) := by
    by_cases h : a = b
    · rw [h]; simp
    · rw [decide_eq_false h]; exact beq_eq_false_iff_ne.2 (fun e => h (toList_inj e))
  simp [binOp, Op.stringOp, this]
set_option maxRecDepth 100000 in
set_option maxHeartbeats 3200000 in
theorem nodeFinds_walk (leaf : Bool) (A : Option Addr) (n c : Nat) (ps : PL) (hn : ps.length = n) (key : ByteArray) (w : World) (hr : PReads w A ps) :
    Calls Try.prog 7 #[nv leaf A n c, .string key] w fun e w' => e = .returned (.bool true) ∧ Below w.heap.size w w' := by
  have hb := newer (same w) (.cells #[.bool leaf, .slice A n c] 49)
  have hx := Row.new w #[.bool leaf, .slice A n c] 49
  obtain ⟨q, hq⟩ : ∃ q, w.heap.size = q := ⟨_, rfl⟩
  obtain ⟨V, hV⟩ : ∃ V, w.alloc (.cells #[.bool leaf, .slice A n c] 49) = V := ⟨_, rfl⟩
  rw [hV, hq] at hx
  rw [hV] at hb
  have x0 : V.cell? ⟨q, 0, none⟩ = some (.bool leaf) := hx.cell 0
  have x1 : V.cell? ⟨q, 1, none⟩ = some (.slice A n c) := hx.cell 1
  have hrV := hr.keep hb
  have hsm := small_walk leaf A n c ps hn V hrV
  have HB := Ytobdfocfkomagaa.base.Shut.mk (And.intro hb hx)
  cases hS : smallB ps with
  | false =>
    rw [hS] at hsm
    have H := Ytobdfocfkomagaa.base.Shut.mk hsm
    clear hsm hb hx hr hrV hn hS
    go_enter Try.func7, Try.ntmps7
    go_wp2_with fail
    refine H.out.mono ?_
    rintro e w1 ⟨rfl, hb1⟩
    have H1 := Ytobdfocfkomagaa.base.Shut.mk (chain HB.out.1 hb1)
    clear hb1
    go_wp2_with fail
    refine (lives_walk _).mono ?_
    rintro e w2 ⟨rfl, hb2⟩
    have H2 := Ytobdfocfkomagaa.base.Shut.mk (chain H1.out hb2)
    clear hb2
    go_wp2
    go_ret
    exact ⟨rfl, H2.out⟩
  | true =>
    rw [hS] at hsm
    have hs := small_nice hS
    have hck := fun (u : World) (hu : Below V.heap.size V u) => check_walk leaf A n c ps hn hs u (hrV.keep hu)
    have hdef : checkN ⟨leaf, ps⟩ = if rightN ⟨leaf, ps⟩ = false then 2 else if 480 < sizeN ⟨leaf, ps⟩ then 5 else 0 := rfl
    cases hR : rightN ⟨leaf, ps⟩ with
    | false =>
      rw [hR, if_pos rfl] at hdef
      rw [hdef] at hck
      have H := Ytobdfocfkomagaa.base.Shut.mk (And.intro hsm hck)
      clear hsm hb hx hr hrV hn hS hs hck hdef hR
      go_enter Try.func7, Try.ntmps7
      go_wp2_with fail
      refine H.out.1.mono ?_
      rintro e w1 ⟨rfl, hb1⟩
      have y0 : w1.cell? ⟨q, 0, none⟩ = some (.bool leaf) := (HB.out.2.below hb1).cell 0
      have y1 : w1.cell? ⟨q, 1, none⟩ = some (.slice A n c) := (HB.out.2.below hb1).cell 1
      have H1 := Ytobdfocfkomagaa.base.Shut.mk (And.intro (H.out.2 w1 hb1) hb1)
      clear hb1
      go_wp2_with fail
      refine H1.out.1.mono ?_
      rintro e w2 ⟨rfl, hb2⟩
      have H2 := Ytobdfocfkomagaa.base.Shut.mk (chain HB.out.1 (chain H1.out.2 hb2))
      clear hb2
      go_wp2_with fail
      refine (lives_walk _).mono ?_
      rintro e w3 ⟨rfl, hb3⟩
      have H3 := Ytobdfocfkomagaa.base.Shut.mk (chain H2.out hb3)
      clear hb3
      go_wp2
      go_ret
      exact ⟨rfl, H3.out⟩
    | true =>
      rw [hR, if_neg (by decide)] at hdef
      have hne : ¬ checkN ⟨leaf, ps⟩ = 2 := by rw [hdef]; split <;> decide
      have hfi := fun (k : ByteArray) (u : World) (hu : Below V.heap.size V u) => find_walk leaf A n c ps hn hs hR k u (hrV.keep hu)
      have hown : ∀ i, i < n → atK ps (at0 ps i).1 n = (i : Int) := fun i hi => by
        have := @atK_own ⟨leaf, ps⟩ hR i (by show i < ps.length; omega)
        rwa [hn] at this
      have hat := fun (u : World) (hu : Below V.heap.size V u) (k : Nat) (hk : k < n) => (hrV.keep hu).at_ (k := k) (by omega)
      have hspec := atK_spec ps key n
      have hpos : 0 < n := by have := (right_of hR).1; rw [← hn]; exact this
      have hn2 : n ≤ 1000 := by rw [← hn]; exact hs.len
      have H := Ytobdfocfkomagaa.base.Shut.mk (And.intro hsm (And.intro hck (And.intro hfi (And.intro hown (And.intro hat hspec)))))
      clear hsm hb hx hr hrV hn hS hs hck hdef hR hfi hown hat hspec
      generalize checkN ⟨leaf, ps⟩ = C at H hne
      replace hne : (C == 2) = false := beq_eq_false_iff_ne.2 hne
      go_enter Try.func7, Try.ntmps7
      go_wp2_with fail
      refine H.out.1.mono ?_
      rintro e w1 ⟨rfl, hb1⟩
      have y0 : w1.cell? ⟨q, 0, none⟩ = some (.bool leaf) := (HB.out.2.below hb1).cell 0
      have y1 : w1.cell? ⟨q, 1, none⟩ = some (.slice A n c) := (HB.out.2.below hb1).cell 1
      have H1 := Ytobdfocfkomagaa.base.Shut.mk (And.intro (H.out.2.1 w1 hb1) hb1)
      clear hb1 x0 x1
      go_wp2_with fail
      refine H1.out.1.mono ?_
      rintro e w2 ⟨rfl, hb2⟩
      have H2 := Ytobdfocfkomagaa.base.Shut.mk (chain H1.out.2 hb2)
      clear hb2 y0 y1
      go_wp2
      go_loopw [5] (fun i wr => ∃ k : Nat, k ≤ n ∧ i = .int .i64 k ∧ Ytobdfocfkomagaa.base.Shut (Below V.heap.size V wr)) (fun i _ => n - (intOf i).toNat)
      case atStart => exact ⟨0, Nat.zero_le _, rfl, H2⟩
      case round =>
        obtain ⟨k, hk, rfl, HR⟩ := hrel
        have z0 : wr.cell? ⟨q, 0, none⟩ = some (.bool leaf) := (HB.out.2.below HR.out).cell 0
        have z1 : wr.cell? ⟨q, 1, none⟩ = some (.slice A n c) := (HB.out.2.below HR.out).cell 1
        by_cases hlt : k < n
        · have hlt' : (k : Int) < n := by omega
          obtain ⟨b, off, rfl, c0, c1, -⟩ := H.out.2.2.2.2.1 wr HR.out k hlt
          have hf := H.out.2.2.1 (at0 ps k).1 wr.drew (chain HR.out (drewn (same wr)))
          rw [H.out.2.2.2.1 k hlt] at hf
          have htrue : (decide ((0 : Int) ≤ (k : Int)) && decide ((at0 ps (k : Int).toNat).1 = (at0 ps k).1)) = true := by rw [Int.toNat_natCast]; simp
          rw [htrue] at hf
          have HF := Ytobdfocfkomagaa.base.Shut.mk (And.intro hf (chain HR.out (drewn (same wr))))
          clear hf htrue HR c1
          generalize (at0 ps k).1 = kx at c0 HF
          go_wp2
          go_region_held3 (fun w' => w'.cell? ⟨q, 0, none⟩ = some (.bool leaf) ∧ w'.cell? ⟨q, 1, none⟩ = some (.slice (some ⟨b, off, none⟩) n c) ∧ w'.cell? ⟨b, off + k * 2, none⟩ = some (.string kx))
            (first | exact ⟨one_keep ‹_› (And.left ‹_›), one_keep ‹_› (And.left (And.right ‹_›)), one_keep ‹_› (And.right (And.right ‹_›))⟩ | go_keep)
            (first | (go_at_call 33; (with_reducible refine Calls.mono HF.out.1 ?_); rintro e w3 ⟨rfl, hb3⟩; have H3 := Ytobdfocfkomagaa.base.Shut.mk hb3; have hk3 := And.intro (one_keep H3 z0) (And.intro (one_keep H3 z1) (one_keep H3 c0)); clear hb3))
          go_wp2
          go_roundw
          case rel => exact ⟨k + 1, by omega, by go_num, ⟨chain HF.out.2 H3.out⟩⟩
          case measure => simp [intOf]; omega
        · obtain rfl : k = n := by omega
          obtain ⟨b, off, rfl, -⟩ := H.out.2.2.2.2.1 wr HR.out 0 hpos
          have hf := H.out.2.2.1 key wr HR.out
          rcases H.out.2.2.2.2.2 with ⟨hT, hno⟩ | ⟨t, htk, hT, hleq, hno⟩
          · rw [hT] at hf
            have hb0 : (decide ((0 : Int) ≤ -1) && decide ((at0 ps (-1 : Int).toNat).1 = key)) = false := rfl
            rw [hb0] at hf
            have HF := Ytobdfocfkomagaa.base.Shut.mk (And.intro hf HR.out)
            clear hf hb0 HR hT
            have hn0 : ¬ (0 : Int) = k := by omega
            have hpos' : (0 : Int) < k := by omega
            go_wp2_with fail
            refine HF.out.1.mono ?_
            rintro e w3 ⟨rfl, hb3⟩
            have H3 := Ytobdfocfkomagaa.base.Shut.mk (And.intro hb3 (chain HF.out.2 hb3))
            have z0 : w3.cell? ⟨q, 0, none⟩ = some (.bool leaf) := (HB.out.2.below H3.out.2).cell 0
            have z1 : w3.cell? ⟨q, 1, none⟩ = some (.slice (some ⟨b, off, none⟩) k c) := (HB.out.2.below H3.out.2).cell 1
            have c0 : w3.cell? ⟨b, off + 0 * 2, none⟩ = some (.string (at0 ps 0).1) := by
              obtain ⟨b', off', hA, hc, -⟩ := H.out.2.2.2.2.1 w3 H3.out.2 0 (by omega)
              cases hA
              exact hc
            rw [Nat.zero_mul, Nat.add_zero] at c0
            have hg0 := fun u : World => run_gtr (at0 ps 0).1 key true (hno 0 hpos) u
            clear hb3 hno
            generalize (at0 ps 0).1 = kx at c0 hg0
            go_wp2_with fail
            refine (lives_walk _).mono ?_
            rintro e w4 ⟨rfl, hb4⟩
            have H4 := Ytobdfocfkomagaa.base.Shut.mk (chain HB.out.1 (chain H3.out.2 hb4))
            clear hb4
            go_wp2
            go_ret
            exact ⟨rfl, H4.out⟩
          · rw [hT] at hf
            have hb0 : (decide ((0 : Int) ≤ (t : Int)) && decide ((at0 ps (t : Int).toNat).1 = key)) = decide ((at0 ps t).1 = key) := by
              rw [decide_eq_true (show (0 : Int) ≤ (t : Int) by omega), Bool.true_and, Int.toNat_natCast]
            rw [hb0] at hf
            have HF := Ytobdfocfkomagaa.base.Shut.mk (And.intro hf HR.out)
            clear hf hb0 HR hT
            have ht1 : ¬ (t : Int) < -1 := by omega
            have ht2 : ¬ (k : Int) ≤ t := by omega
            have ht3 : ¬ (t : Int) < 0 := by omega
            have ht4 : (0 : Int) ≤ t := by omega
            have ht5 : (t : Int) < k := by omega
            have hg1 := fun u : World => run_leq (at0 ps t).1 key true hleq u
            have hg2 := fun u : World => run_eql (at0 ps t).1 key u
            have hq2 := eq_dec (at0 ps t).1 key
            cases hB : decide ((at0 ps t).1 = key) with
            | true =>
              rw [hB] at HF hg2 hq2
              clear hB
              by_cases hlast : t + 1 = k
              · have hl1 : (t : Int) + 1 = k := by omega
                go_wp2_with fail
                refine HF.out.1.mono ?_
                rintro e w3 ⟨rfl, hb3⟩
                have H3 := Ytobdfocfkomagaa.base.Shut.mk (And.intro hb3 (chain HF.out.2 hb3))
                have z0 : w3.cell? ⟨q, 0, none⟩ = some (.bool leaf) := (HB.out.2.below H3.out.2).cell 0
                have z1 : w3.cell? ⟨q, 1, none⟩ = some (.slice (some ⟨b, off, none⟩) k c) := (HB.out.2.below H3.out.2).cell 1
                have c0 : w3.cell? ⟨b, off + t * 2, none⟩ = some (.string (at0 ps t).1) := by
                  obtain ⟨b', off', hA, hc, -⟩ := H.out.2.2.2.2.1 w3 H3.out.2 t (by omega)
                  cases hA
                  exact hc
                clear hb3 hno hlast hleq
                generalize (at0 ps t).1 = kx at c0 hg1 hg2 hq2
                go_wp2_with fail
                refine (lives_walk _).mono ?_
                rintro e w4 ⟨rfl, hb4⟩
                have H4 := Ytobdfocfkomagaa.base.Shut.mk (chain HB.out.1 (chain H3.out.2 hb4))
                clear hb4
                go_wp2
                go_ret
                exact ⟨rfl, H4.out⟩
              · have hl1 : ¬ (t : Int) + 1 = k := by omega
                have hl2 : (t : Int) + 1 < k := by omega
                have hg3 := fun u : World => run_gtr (at0 ps (t + 1)).1 key true (hno (t + 1) (by omega) (by omega)) u
                go_wp2_with fail
                refine HF.out.1.mono ?_
                rintro e w3 ⟨rfl, hb3⟩
                have H3 := Ytobdfocfkomagaa.base.Shut.mk (And.intro hb3 (chain HF.out.2 hb3))
                have z0 : w3.cell? ⟨q, 0, none⟩ = some (.bool leaf) := (HB.out.2.below H3.out.2).cell 0
                have z1 : w3.cell? ⟨q, 1, none⟩ = some (.slice (some ⟨b, off, none⟩) k c) := (HB.out.2.below H3.out.2).cell 1
                have c0 : w3.cell? ⟨b, off + t * 2, none⟩ = some (.string (at0 ps t).1) := by
                  obtain ⟨b', off', hA, hc, -⟩ := H.out.2.2.2.2.1 w3 H3.out.2 t (by omega)
                  cases hA
                  exact hc
                have c2 : w3.cell? ⟨b, off + (t + 1) * 2, none⟩ = some (.string (at0 ps (t + 1)).1) := by
                  obtain ⟨b', off', hA, hc, -⟩ := H.out.2.2.2.2.1 w3 H3.out.2 (t + 1) (by omega)
                  cases hA
                  exact hc
                clear hb3 hno hlast hleq
                generalize (at0 ps t).1 = kx at c0 hg1 hg2 hq2
                generalize (at0 ps (t + 1)).1 = ky at c2 hg3
                go_wp2_with fail
                refine (lives_walk _).mono ?_
                rintro e w4 ⟨rfl, hb4⟩
                have H4 := Ytobdfocfkomagaa.base.Shut.mk (chain HB.out.1 (chain H3.out.2 hb4))
                clear hb4
                go_wp2
                go_ret
                exact ⟨rfl, H4.out⟩
            | false =>
              rw [hB] at HF hg2 hq2
              clear hB
              by_cases hlast : t + 1 = k
              · have hl1 : (t : Int) + 1 = k := by omega
                go_wp2_with fail
                refine HF.out.1.mono ?_
                rintro e w3 ⟨rfl, hb3⟩
                have H3 := Ytobdfocfkomagaa.base.Shut.mk (And.intro hb3 (chain HF.out.2 hb3))
                have z0 : w3.cell? ⟨q, 0, none⟩ = some (.bool leaf) := (HB.out.2.below H3.out.2).cell 0
                have z1 : w3.cell? ⟨q, 1, none⟩ = some (.slice (some ⟨b, off, none⟩) k c) := (HB.out.2.below H3.out.2).cell 1
                have c0 : w3.cell? ⟨b, off + t * 2, none⟩ = some (.string (at0 ps t).1) := by
                  obtain ⟨b', off', hA, hc, -⟩ := H.out.2.2.2.2.1 w3 H3.out.2 t (by omega)
                  cases hA
                  exact hc
                clear hb3 hno hlast hleq
                generalize (at0 ps t).1 = kx at c0 hg1 hg2 hq2
                go_wp2_with fail
                refine (lives_walk _).mono ?_
                rintro e w4 ⟨rfl, hb4⟩
                have H4 := Ytobdfocfkomagaa.base.Shut.mk (chain HB.out.1 (chain H3.out.2 hb4))
                clear hb4
                go_wp2
                go_ret
                exact ⟨rfl, H4.out⟩
              · have hl1 : ¬ (t : Int) + 1 = k := by omega
                have hl2 : (t : Int) + 1 < k := by omega
                have hg3 := fun u : World => run_gtr (at0 ps (t + 1)).1 key true (hno (t + 1) (by omega) (by omega)) u
                go_wp2_with fail
                refine HF.out.1.mono ?_
                rintro e w3 ⟨rfl, hb3⟩
                have H3 := Ytobdfocfkomagaa.base.Shut.mk (And.intro hb3 (chain HF.out.2 hb3))
                have z0 : w3.cell? ⟨q, 0, none⟩ = some (.bool leaf) := (HB.out.2.below H3.out.2).cell 0
                have z1 : w3.cell? ⟨q, 1, none⟩ = some (.slice (some ⟨b, off, none⟩) k c) := (HB.out.2.below H3.out.2).cell 1
                have c0 : w3.cell? ⟨b, off + t * 2, none⟩ = some (.string (at0 ps t).1) := by
                  obtain ⟨b', off', hA, hc, -⟩ := H.out.2.2.2.2.1 w3 H3.out.2 t (by omega)
                  cases hA
                  exact hc
                have c2 : w3.cell? ⟨b, off + (t + 1) * 2, none⟩ = some (.string (at0 ps (t + 1)).1) := by
                  obtain ⟨b', off', hA, hc, -⟩ := H.out.2.2.2.2.1 w3 H3.out.2 (t + 1) (by omega)
                  cases hA
                  exact hc
                clear hb3 hno hlast hleq
                generalize (at0 ps t).1 = kx at c0 hg1 hg2 hq2
                generalize (at0 ps (t + 1)).1 = ky at c2 hg3
                go_wp2_with fail
                refine (lives_walk _).mono ?_
                rintro e w4 ⟨rfl, hb4⟩
                have H4 := Ytobdfocfkomagaa.base.Shut.mk (chain HB.out.1 (chain H3.out.2 hb4))
                clear hb4
                go_wp2
                go_ret
                exact ⟨rfl, H4.out⟩
end Go.Proofs.Ytobdfocfkomagaa.node
