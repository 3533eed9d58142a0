/- The walk of NodePuts. -/
import Derived.Test.YtobdfocfkomagaaNodeRPutW
import Derived.Test.YtobdfocfkomagaaNodeSmall
namespace Go.Proofs.Ytobdfocfkomagaa.node
open Go.ChangeShapes Go.WideShapes Go.ChangeAt Go.RowKit
open Ytobdfocfkomagaa.base (size_mk chain newer drewn same ba_ext)

theorem put_snd (n : Nd) : (putN n).2 = checkN n := by
  by_cases h : checkN n = 0
  · rw [(put_ok h).1, h]
  · rw [put_bad h]
theorem row_two {w : World} {q : Nat} {a b : Value} {t : TypeId} (h : Row w q #[a, b] t) : w.cell? ⟨q, 0, none⟩ = some a ∧ w.cell? ⟨q, 1, none⟩ = some b := ⟨h.cell 0, h.cell 1⟩
set_option maxRecDepth 100000 in
set_option maxHeartbeats 3200000 in
theorem nodePuts_walk (leaf : Bool) (A : Option Addr) (n c : Nat) (ps : PL) (hn : ps.length = n) (key : ByteArray) (w : World) (hr : PReads w A ps) :
    Calls Try.prog 8 #[nv leaf A n c, .string key] w fun e w' => e = .returned (.bool true) ∧ Below w.heap.size w w' := by
  have hb := newer (same w) (.cells #[.bool leaf, .slice A n c] 49)
  have hx := Row.new w #[.bool leaf, .slice A n c] 49
  obtain ⟨q, hq⟩ : ∃ q, w.heap.size = q := ⟨_, rfl⟩
  obtain ⟨V, hV⟩ : ∃ V, w.alloc (.cells #[.bool leaf, .slice A n c] 49) = V := ⟨_, rfl⟩
  rw [hV, hq] at hx
  rw [hV] at hb
  have x0 : V.cell? ⟨q, 0, none⟩ = some (.bool leaf) := hx.cell 0
  have x1 : V.cell? ⟨q, 1, none⟩ = some (.slice A n c) := hx.cell 1
  have hrV := hr.keep hb
  have hsm := small_walk leaf A n c ps hn V hrV
  have HB := Ytobdfocfkomagaa.base.Shut.mk (And.intro hb hx)
  cases hS : smallB ps with
  | false =>
    rw [hS] at hsm
    have H := Ytobdfocfkomagaa.base.Shut.mk hsm
    clear hsm hb hx hr hrV hn hS
    go_enter Try.func8, Try.ntmps8
    go_wp2_with fail
    refine H.out.mono ?_
    rintro e w1 ⟨rfl, hb1⟩
    have H1 := Ytobdfocfkomagaa.base.Shut.mk (chain HB.out.1 hb1)
    clear hb1
    go_wp2_with fail
    refine (lives_walk _).mono ?_
    rintro e w2 ⟨rfl, hb2⟩
    have H2 := Ytobdfocfkomagaa.base.Shut.mk (chain H1.out hb2)
    clear hb2
    go_wp2
    go_ret
    exact ⟨rfl, H2.out⟩
  | true =>
    rw [hS] at hsm
    by_cases h300 : 300 < key.size
    · have h300' : (300 : Int) < key.size := by omega
      have H := Ytobdfocfkomagaa.base.Shut.mk hsm
      clear hsm hb hx hr hrV hn hS h300
      go_enter Try.func8, Try.ntmps8
      go_wp2_with fail
      refine H.out.mono ?_
      rintro e w1 ⟨rfl, hb1⟩
      have H1 := Ytobdfocfkomagaa.base.Shut.mk (chain HB.out.1 hb1)
      clear hb1
      go_wp2_with fail
      refine (lives_walk _).mono ?_
      rintro e w2 ⟨rfl, hb2⟩
      have H2 := Ytobdfocfkomagaa.base.Shut.mk (chain H1.out hb2)
      clear hb2
      go_wp2
      go_ret
      exact ⟨rfl, H2.out⟩
    · have h300' : ¬ (300 : Int) < key.size := by omega
      have hs := small_nice hS
      have hn2 : n ≤ 1000 := by rw [← hn]; exact hs.len
      have hpu := fun (u : World) (hu : Below V.heap.size V u) => put_walk leaf A n c ps hn hs u (hrV.keep hu)
      have hrp := fun (u : World) (hu : Below V.heap.size V u) => rput_walk leaf A n c ps hn hs u (hrV.keep hu)
      simp only [put_snd] at hpu hrp
      have hck := fun (u : World) (hu : Below V.heap.size V u) => check_walk leaf A n c ps hn hs u (hrV.keep hu)
      have hsi := fun (u : World) (hu : Below V.heap.size V u) => size_walk leaf A n c ps hn hs u (hrV.keep hu)
      have hrs := fun (u : World) (hu : Below V.heap.size V u) => rsize_walk leaf A n c ps hn hs u (hrV.keep hu)
      have hle := fun (u : World) (hu : Below V.heap.size V u) => least_walk leaf A n c ps hn hn2 u (hrV.keep hu)
      have hri := fun (u : World) (hu : Below V.heap.size V u) => rright_walk leaf A n c ps hn hs u (hrV.keep hu)
      have hfi := fun (hR : rightN ⟨leaf, ps⟩ = true) (u : World) (hu : Below V.heap.size V u) => find_walk leaf A n c ps hn hs hR key u (hrV.keep hu)
      have hrf := fun (u : World) (hu : Below V.heap.size V u) => rfind_walk leaf A n c ps hn hn2 key u (hrV.keep hu)
      have hat := fun (u : World) (hu : Below V.heap.size V u) (hk : 0 < n) => (hrV.keep hu).at_ (k := 0) (by omega)
      have hnil : n = 0 → (at0 ps 0).1 = ⟨#[]⟩ := fun h => by
        have e : ps = [] := List.length_eq_zero_iff.1 (by omega)
        rw [e]; rfl
      have H := Ytobdfocfkomagaa.base.Shut.mk (And.intro hsm (And.intro hpu (And.intro hrp (And.intro hck (And.intro hsi (And.intro hrs (And.intro hle (And.intro hri (And.intro hfi (And.intro hrf hat))))))))))
      clear hsm hb hx hr hrV hn hS h300 hpu hrp hck hsi hrs hle hri hfi hrf hat hs
      generalize (putN ⟨leaf, ps⟩).1 = PG at H
      generalize checkN ⟨leaf, ps⟩ = C at H
      generalize sizeN ⟨leaf, ps⟩ = Z at H
      generalize rightN ⟨leaf, ps⟩ = R at H
      generalize hBB : (decide (0 ≤ atK ps key n) && decide ((at0 ps (atK ps key n).toNat).1 = key)) = BB at H
      clear hBB
      generalize atK ps key n = T at H
      go_enter Try.func8, Try.ntmps8
      go_wp2_with fail
      refine H.out.1.mono ?_
      rintro e w1 ⟨rfl, hb1⟩
      have y0 : w1.cell? ⟨q, 0, none⟩ = some (.bool leaf) := (HB.out.2.below hb1).cell 0
      have y1 : w1.cell? ⟨q, 1, none⟩ = some (.slice A n c) := (HB.out.2.below hb1).cell 1
      have H1 := Ytobdfocfkomagaa.base.Shut.mk (And.intro (H.out.2.1 w1 hb1) hb1)
      clear hb1 x0 x1
      go_wp2_with fail
      refine H1.out.1.mono ?_
      rintro e w2 ⟨rfl, hb2⟩
      have z0 : w2.cell? ⟨q, 0, none⟩ = some (.bool leaf) := (HB.out.2.below (chain H1.out.2 hb2)).cell 0
      have z1 : w2.cell? ⟨q, 1, none⟩ = some (.slice A n c) := (HB.out.2.below (chain H1.out.2 hb2)).cell 1
      have H2 := Ytobdfocfkomagaa.base.Shut.mk (And.intro (H.out.2.2.1 w2 (chain H1.out.2 hb2)) (chain H1.out.2 hb2))
      clear hb2 y0 y1
      go_wp2_with fail
      refine H2.out.1.mono ?_
      rintro e w3 ⟨rfl, hb3⟩
      have y0 : w3.cell? ⟨q, 0, none⟩ = some (.bool leaf) := (HB.out.2.below (chain H2.out.2 hb3)).cell 0
      have y1 : w3.cell? ⟨q, 1, none⟩ = some (.slice A n c) := (HB.out.2.below (chain H2.out.2 hb3)).cell 1
      have H3 := Ytobdfocfkomagaa.base.Shut.mk (chain H2.out.2 hb3)
      clear hb3 z0 z1
      have hat3 := H.out.2.2.2.2.2.2.2.2.2.2 w3 H3.out
      have hd := fun (u : World) (hu : Below w3.heap.size w3 u) => chain H3.out hu
      have hdw := chain H3.out (drewn (same w3))
      have HC := Ytobdfocfkomagaa.base.Shut.mk (And.intro (H.out.2.2.2.1 w3.drew hdw) hdw)
      have hk0 : Row w3 q #[.bool leaf, .slice A n c] 49 := HB.out.2.below H3.out
      have HK := Ytobdfocfkomagaa.base.Shut.mk (And.intro hk0 hd)
      clear hk0 hd hdw
      by_cases h0 : n = 0
      · have hpos : ¬ (0 : Int) < n := by omega
        rw [hnil h0] at H
        clear hnil h0 hat3
        go_wp2
        go_region_held3 (fun w' => w'.cell? ⟨q, 0, none⟩ = some (.bool leaf) ∧ w'.cell? ⟨q, 1, none⟩ = some (.slice A n c))
          (first | assumption | go_keep)
          (first | (go_at_call 32; (with_reducible refine Calls.mono HC.out.1 ?_); rintro e w4 ⟨rfl, hb4⟩; have HB4 := Ytobdfocfkomagaa.base.Shut.mk hb4; have H4 := Ytobdfocfkomagaa.base.Shut.mk (chain HC.out.2 hb4); have hk4 := row_two (HB.out.2.below H4.out); clear hb4) | (go_at_call 36; (with_reducible refine Calls.mono (H.out.2.2.2.2.1 _ H4.out) ?_); rintro e w5 ⟨rfl, hb5⟩; have HB5 := Ytobdfocfkomagaa.base.Shut.mk hb5; have H5 := Ytobdfocfkomagaa.base.Shut.mk (chain H4.out hb5); have hk5 := row_two (HB.out.2.below H5.out); clear hb5) | (go_at_call 37; (with_reducible refine Calls.mono (H.out.2.2.2.2.2.1 _ H5.out) ?_); rintro e w6 ⟨rfl, hb6⟩; have HB6 := Ytobdfocfkomagaa.base.Shut.mk hb6; have H6 := Ytobdfocfkomagaa.base.Shut.mk (chain H5.out hb6); have hk6 := row_two (HB.out.2.below H6.out); clear hb6) | (go_at_call 38; (with_reducible refine Calls.mono (H.out.2.2.2.2.2.2.1 _ H6.out) ?_); rintro e w7 ⟨rfl, hb7⟩; have HB7 := Ytobdfocfkomagaa.base.Shut.mk hb7; have H7 := Ytobdfocfkomagaa.base.Shut.mk (chain H6.out hb7); have hk7 := row_two (HB.out.2.below H7.out); clear hb7))
        obtain ⟨k70, k71⟩ := hk7
        go_wp2_with fail
        refine (H.out.2.2.2.2.2.2.2.1 _ H7.out).mono ?_
        rintro e w8 ⟨rfl, hb8⟩
        have H8 := Ytobdfocfkomagaa.base.Shut.mk (chain H7.out hb8)
        have hk8 := row_two (HB.out.2.below H8.out)
        clear hb8
        cases R with
        | false =>
          go_wp2_with fail
          refine (lives_walk _).mono ?_
          rintro e w9 ⟨rfl, hb9⟩
          have H9 := Ytobdfocfkomagaa.base.Shut.mk (chain HB.out.1 (chain H8.out hb9))
          clear hb9
          go_wp2
          go_ret
          exact ⟨rfl, H9.out⟩
        | true =>
          obtain ⟨k80, k81⟩ := hk8
          go_wp2_with fail
          refine (H.out.2.2.2.2.2.2.2.2.1 (by trivial) _ H8.out).mono ?_
          rintro e w9 ⟨rfl, hb9⟩
          have H9 := Ytobdfocfkomagaa.base.Shut.mk (chain H8.out hb9)
          obtain ⟨k90, k91⟩ := row_two (HB.out.2.below H9.out)
          clear hb9
          go_wp2_with fail
          refine (H.out.2.2.2.2.2.2.2.2.2.1 _ H9.out).mono ?_
          rintro e w10 ⟨rfl, hb10⟩
          have H10 := Ytobdfocfkomagaa.base.Shut.mk (chain H9.out hb10)
          clear hb10
          go_wp2_with fail
          refine (lives_walk _).mono ?_
          rintro e w11 ⟨rfl, hb11⟩
          have H11 := Ytobdfocfkomagaa.base.Shut.mk (chain HB.out.1 (chain H10.out hb11))
          clear hb11
          go_wp2
          go_ret
          exact ⟨rfl, H11.out⟩
      · have hpos : (0 : Int) < n := by omega
        obtain ⟨b, off, rfl, c0, -, -⟩ := hat3 (by omega)
        rw [Nat.zero_mul, Nat.add_zero] at c0
        clear hnil h0
        generalize (at0 ps 0).1 = k0 at c0 H
        go_wp2
        go_region_held3 (fun w' => w'.cell? ⟨q, 0, none⟩ = some (.bool leaf) ∧ w'.cell? ⟨q, 1, none⟩ = some (.slice (some ⟨b, off, none⟩) n c))
          (first | assumption | go_keep)
          (first | (go_at_call 32; (with_reducible refine Calls.mono HC.out.1 ?_); rintro e w4 ⟨rfl, hb4⟩; have HB4 := Ytobdfocfkomagaa.base.Shut.mk hb4; have H4 := Ytobdfocfkomagaa.base.Shut.mk (chain HC.out.2 hb4); have hk4 := row_two (HB.out.2.below H4.out); clear hb4) | (go_at_call 36; (with_reducible refine Calls.mono (H.out.2.2.2.2.1 _ H4.out) ?_); rintro e w5 ⟨rfl, hb5⟩; have HB5 := Ytobdfocfkomagaa.base.Shut.mk hb5; have H5 := Ytobdfocfkomagaa.base.Shut.mk (chain H4.out hb5); have hk5 := row_two (HB.out.2.below H5.out); clear hb5) | (go_at_call 37; (with_reducible refine Calls.mono (H.out.2.2.2.2.2.1 _ H5.out) ?_); rintro e w6 ⟨rfl, hb6⟩; have HB6 := Ytobdfocfkomagaa.base.Shut.mk hb6; have H6 := Ytobdfocfkomagaa.base.Shut.mk (chain H5.out hb6); have hk6 := row_two (HB.out.2.below H6.out); clear hb6) | (go_at_call 38; (with_reducible refine Calls.mono (H.out.2.2.2.2.2.2.1 _ H6.out) ?_); rintro e w7 ⟨rfl, hb7⟩; have HB7 := Ytobdfocfkomagaa.base.Shut.mk hb7; have H7 := Ytobdfocfkomagaa.base.Shut.mk (chain H6.out hb7); have hk7 := row_two (HB.out.2.below H7.out); clear hb7))
        obtain ⟨k70, k71⟩ := hk7
        go_wp2_with fail
        refine (H.out.2.2.2.2.2.2.2.1 _ H7.out).mono ?_
        rintro e w8 ⟨rfl, hb8⟩
        have H8 := Ytobdfocfkomagaa.base.Shut.mk (chain H7.out hb8)
        have hk8 := row_two (HB.out.2.below H8.out)
        clear hb8
        cases R with
        | false =>
          go_wp2_with fail
          refine (lives_walk _).mono ?_
          rintro e w9 ⟨rfl, hb9⟩
          have H9 := Ytobdfocfkomagaa.base.Shut.mk (chain HB.out.1 (chain H8.out hb9))
          clear hb9
          go_wp2
          go_ret
          exact ⟨rfl, H9.out⟩
        | true =>
          obtain ⟨k80, k81⟩ := hk8
          go_wp2_with fail
          refine (H.out.2.2.2.2.2.2.2.2.1 (by trivial) _ H8.out).mono ?_
          rintro e w9 ⟨rfl, hb9⟩
          have H9 := Ytobdfocfkomagaa.base.Shut.mk (chain H8.out hb9)
          obtain ⟨k90, k91⟩ := row_two (HB.out.2.below H9.out)
          clear hb9
          go_wp2_with fail
          refine (H.out.2.2.2.2.2.2.2.2.2.1 _ H9.out).mono ?_
          rintro e w10 ⟨rfl, hb10⟩
          have H10 := Ytobdfocfkomagaa.base.Shut.mk (chain H9.out hb10)
          clear hb10
          go_wp2_with fail
          refine (lives_walk _).mono ?_
          rintro e w11 ⟨rfl, hb11⟩
          have H11 := Ytobdfocfkomagaa.base.Shut.mk (chain HB.out.1 (chain H10.out hb11))
          clear hb11
          go_wp2
          go_ret
          exact ⟨rfl, H11.out⟩
end Go.Proofs.Ytobdfocfkomagaa.node
