/- DiskStays: the plain law, and the walk. -/
import Derived.Test.YthkjodlddhdeiaaDiskNil
namespace Go.Proofs.Ythkjodlddhdeiaa.disk
open Go.ChangeShapes Go.WideShapes Go.ChangeAt Go.RowKit
open Ythkjodlddhdeiaa.base

theorem cellsOf_int : Try.prog.cellsOf 3 = 1 := by kernel_rfl
set_option maxRecDepth 100000 in
/-- an argument's ints -/
theorem open_fates {H : Type} {enc : TypeId × Value → H} {W : World} {b0 : Nat} {v : Value} {d : DataW H} {p : List MemPlace} (hv : Value.okWide Try.prog W .any b0 35 v)
    (h : DataW.Trod enc Try.prog W 0 (fun _ => true) true 35 v d p) :
    ∃ L, Ints W v L ∧ L.length ≤ 9223372036854775807 ∧ (∀ g o n c, v = .slice (some ⟨g, o, none⟩) n c → 0 < n → g < W.heap.size) ∧ (∀ x ∈ L, (Lit.int .i64 x).wf = true) := by
  obtain ⟨a0, len, cap, rfl⟩ := okWide_slice Try.underlying35 hv
  obtain ⟨fuel, hf⟩ := h
  rcases open_ints Try.underlying35 Try.underlying3 cellsOf_int hf with ⟨hcs, hx⟩ | ⟨a, len', cap', zs, hcs, _, hl, hm, hz, hx, hcell, hwz⟩
  · simp only [Value.cells] at hcs
    have e : (Value.slice a0 len cap) = .slice none 0 0 := by simpa using hcs
    cases e
    exact ⟨[], .inl ⟨rfl, none, 0, rfl⟩, Nat.zero_le _, (fun _ _ _ _ h => by cases h), fun x hx => by cases hx⟩
  · have e : (Value.slice a0 len cap) = .slice (some a) len' cap' := by simpa [Value.cells] using hcs
    cases e
    have hz' : zs.length = cap := by simpa using hz
    have hlen : (zs.take len).length = len := by rw [List.length_take]; omega
    refine ⟨zs.take len, ?_, by rw [hlen]; unfold maxLen at hm; omega, ?_, fun x hx => hwz x (List.mem_of_mem_take hx)⟩
    · by_cases h0 : len = 0
      · exact .inl ⟨by rw [h0]; rfl, some a, cap, by rw [h0]⟩
      · obtain ⟨b, off, rfl, hc⟩ := ints_at hcell (by omega)
        refine .inr ⟨b, off, cap, by rw [hlen], fun j x hj => ?_⟩
        have hj2 : j < len := by have := (List.getElem?_eq_some_iff.1 hj).1; omega
        rw [List.getElem?_take, if_pos hj2] at hj
        rw [hc j (by omega), List.getD_eq_getElem?_getD, hj]
        rfl
    · intro g o n c hv hn
      cases hv
      obtain ⟨b, off, hb, hc⟩ := ints_at hcell (by omega)
      cases hb
      exact World.block_lt_of_cell? W _ (hc 0 (by omega))
theorem applyW_len (F : List UInt8) (W : List (Nat × List UInt8)) (n : Nat) (hF : F.length = n * 512) (hW : ∀ p ∈ W, p.1 < n ∧ p.2.length = 512) : (applyW F W).length = n * 512 := by
  unfold applyW
  induction W generalizing F with
  | nil => exact hF
  | cons p r ih =>
    have hp := hW p (List.mem_cons_self ..)
    exact ih _ (setBlk_len hF hp.1 hp.2) (fun q hq => hW q (List.mem_cons_of_mem _ hq))
theorem blk_fold (n i : Nat) (hi : i < n) (Q : List ((Nat × List UInt8) × Int)) (hQ : ∀ q ∈ Q, q.1.1 < n ∧ q.1.2.length = 512) : ∀ F : List UInt8, F.length = n * 512 →
    blk (Q.foldl (fun F q => fallF F q.1 q.2) F) i = Q.foldl (fun b q => if q.1.1 = i then torn b q.1.2 q.2 else b) (blk F i) ∧ (Q.foldl (fun F q => fallF F q.1 q.2) F).length = n * 512 := by
  induction Q with
  | nil => intro F hF; exact ⟨rfl, hF⟩
  | cons q r ih =>
    intro F hF
    have hq := hQ q (List.mem_cons_self ..)
    have ht := torn_len (blk F q.1.1) q.1.2 q.2 (blk_len hF hq.1) hq.2
    have hl : (fallF F q.1 q.2).length = n * 512 := setBlk_len hF hq.1 ht
    obtain ⟨h1, h2⟩ := ih (fun x hx => hQ x (List.mem_cons_of_mem _ hx)) (fallF F q.1 q.2) hl
    refine ⟨?_, h2⟩
    rw [List.foldl_cons, h1, List.foldl_cons]
    congr 1
    by_cases e : q.1.1 = i
    · rw [if_pos e]
      unfold fallF
      rw [← e, blk_setBlk_same hF hq.1 ht]
    · rw [if_neg e]
      unfold fallF
      rw [blk_setBlk_other hF hq.1 hi ht (Ne.symm e)]
/-- the bytes behind a crash, block by block -/
theorem crash_blk {F : List UInt8} {W : List (Nat × List UInt8)} {n i : Nat} (hF : F.length = n * 512) (hW : ∀ p ∈ W, p.1 < n ∧ p.2.length = 512) (hi : i < n) (fates : List Int) :
    blk (crashF F W fates) i = (W.zip fates).foldl (fun b q => if q.1.1 = i then torn b q.1.2 q.2 else b) (blk F i) :=
  (blk_fold n i hi (W.zip fates) (fun q hq => hW q.1 (List.of_mem_zip (show (q.1, q.2) ∈ W.zip fates from hq)).1) F hF).1
def staysEnd (D : Dk) (A B : List UInt8) (over : Bool) : Dk := let D1 := flushD (writeD D 1 A); let D2 := writeD D1 2 B; if over then writeD D2 1 B else D2
theorem stays_plain (a b : UInt8) (over : Bool) (fates : List Int) : ∃ D1 D2 D3 D4 : Dk, writeD (newD 3) 1 (blkL a a) = D1 ∧ flushD D1 = D2 ∧ writeD D2 2 (blkL b b) = D3 ∧ writeD D3 1 (blkL b b) = D4 ∧
    D1.W.length ≤ 1000000 ∧ D2.W.length ≤ 1000000 ∧ D3.W.length ≤ 1000000 ∧ D4.W.length ≤ 1000000 ∧
    mayE (crashD (if over then D4 else D3) fates) 1 = 0 ∧ (over = false → readS (crashD (if over then D4 else D3) fates) 1 = blkL a a) ∧
    (over = true → readS (crashD (if over then D4 else D3) fates) 1 = blkL a a ∨ readS (crashD (if over then D4 else D3) fates) 1 = blkL b b ∨ readS (crashD (if over then D4 else D3) fates) 1 = blkL a b ∨ readS (crashD (if over then D4 else D3) fates) 1 = blkL b a) := by
  have hw := newD_wf 3 (by decide) (by decide)
  have hA := blkL_len a a
  have hB := blkL_len b b
  have hT := fun f => blkL_torn a a b b f
  generalize hAA : blkL a a = A at *
  generalize hBB : blkL b b = B at *
  obtain ⟨e1, _⟩ := write_free (D := newD 3) (i := 1) (l := A) rfl rfl (by decide) (by decide) hA
  obtain ⟨e2, _⟩ := flush_free (D := writeD (newD 3) 1 A) (by rw [e1]; rfl) (by rw [e1]; rfl)
  obtain ⟨e3, _⟩ := write_free (D := flushD (writeD (newD 3) 1 A)) (i := 2) (l := B) (by rw [e2, e1]; rfl) (by rw [e2, e1]; rfl) (by decide) (by rw [e2, e1]; show (2 : Int) < ((3 : Nat) : Int); decide) hB
  obtain ⟨e4, _⟩ := write_free (D := writeD (flushD (writeD (newD 3) 1 A)) 2 B) (i := 1) (l := B) (by rw [e3, e2, e1]; rfl) (by rw [e3, e2, e1]; rfl) (by decide) (by rw [e3, e2, e1]; show (1 : Int) < ((3 : Nat) : Int); decide) hB
  have hF1 : (newD 3).F.length = 3 * 512 := hw.F
  have hF2 : (setBlk (newD 3).F 1 A).length = 3 * 512 := setBlk_len hF1 (by decide) hA
  have hb1 : blk (setBlk (newD 3).F 1 A) 1 = A := blk_setBlk_same hF1 (by decide) hA
  have hm : ∀ D : Dk, D.n = 3 → mayE (crashD D fates) 1 = 0 := fun D hD => mayE_ok rfl (by decide) (by show (1 : Int) < ((D.n : Nat) : Int); rw [hD]; decide)
  have n3 : (writeD (flushD (writeD (newD 3) 1 A)) 2 B).n = 3 := by rw [e3, e2, e1]; rfl
  have n4 : (writeD (writeD (flushD (writeD (newD 3) 1 A)) 2 B) 1 B).n = 3 := by rw [e4]; exact n3
  refine ⟨_, _, _, _, rfl, rfl, rfl, rfl, by rw [e1]; show (1 : Nat) ≤ 1000000; decide, by rw [e2]; show (0 : Nat) ≤ 1000000; decide, by rw [e3, e2]; show (1 : Nat) ≤ 1000000; decide, by rw [e4, e3, e2]; show (2 : Nat) ≤ 1000000; decide, ?_, ?_, ?_⟩
  · cases over
    · exact hm _ n3
    · exact hm _ n4
  · rintro rfl
    show readS (crashD (writeD (flushD (writeD (newD 3) 1 A)) 2 B) fates) 1 = A
    unfold readS
    rw [if_pos (hm _ n3), e3, e2, e1]
    show blk (crashF (setBlk (newD 3).F 1 A) [(2, B)] fates) 1 = A
    rw [crash_blk hF2 (by intro p hp; rw [List.mem_singleton.1 hp]; exact ⟨show 2 < 3 by decide, hB⟩) (by decide)]
    rw [hb1]
    cases fates with
    | nil => rfl
    | cons f r => rfl
  · rintro rfl
    have hr : readS (crashD (if true = true then writeD (writeD (flushD (writeD (newD 3) 1 A)) 2 B) 1 B else writeD (flushD (writeD (newD 3) 1 A)) 2 B) fates) 1 = blk (crashF (setBlk (newD 3).F 1 A) [(2, B), (1, B)] fates) 1 := by
      show readS (crashD (writeD (writeD (flushD (writeD (newD 3) 1 A)) 2 B) 1 B) fates) 1 = _
      unfold readS
      rw [if_pos (hm _ n4), e4, e3, e2, e1]
      rfl
    have hW2 : ∀ p ∈ [((2 : Nat), B), (1, B)], p.1 < 3 ∧ p.2.length = 512 := by
      intro p hp
      rcases List.mem_cons.1 hp with rfl | hp
      · exact ⟨show 2 < 3 by decide, hB⟩
      · rw [List.mem_singleton.1 hp]
        exact ⟨show 1 < 3 by decide, hB⟩
    rw [hr, crash_blk hF2 hW2 (by decide), hb1]
    match fates with
    | [] => exact .inl rfl
    | [f] => exact .inl rfl
    | f :: g :: r =>
      show torn A B g = A ∨ torn A B g = B ∨ torn A B g = blkL a b ∨ torn A B g = blkL b a
      rcases hT g with h | h | h | h
      · exact .inl h
      · exact .inr (.inl h)
      · exact .inr (.inr (.inr h))
      · exact .inr (.inr (.inl h))
/-- what the last line asks of what was read -/
structure StaysEnd (R A B AB BA : List UInt8) (over : Bool) : Prop where
  len : R.length = 512
  no : over = false → R = A
  yes : over = true → R = A ∨ (R = B ∧ (B == A) = false) ∨ (R = AB ∧ (AB == A) = false ∧ (AB == B) = false) ∨ (R = BA ∧ (BA == A) = false ∧ (BA == B) = false ∧ (BA == AB) = false)
theorem stays_end {R A B AB BA : List UInt8} {over : Bool} (hl : R.length = 512) (h0 : over = false → R = A) (h1 : over = true → R = A ∨ R = B ∨ R = AB ∨ R = BA) : StaysEnd R A B AB BA over := by
  refine ⟨hl, h0, fun ho => ?_⟩
  by_cases a : R = A
  · exact .inl a
  · by_cases b : R = B
    · exact .inr (.inl ⟨b, by rw [← b]; simpa using a⟩)
    · by_cases c : R = AB
      · exact .inr (.inr (.inl ⟨c, by rw [← c]; simpa using a, by rw [← c]; simpa using b⟩))
      · have e : R = BA := by rcases h1 ho with h | h | h | h <;> first | exact absurd h a | exact absurd h b | exact absurd h c | exact h
        exact .inr (.inr (.inr ⟨e, by rw [← e]; simpa using a, by rw [← e]; simpa using b, by rw [← e]; simpa using c⟩))
set_option maxRecDepth 100000 in
set_option maxHeartbeats 1600000 in
theorem diskStays_walk (a b : UInt8) (over : Bool) (fv : Value) (fates : List Int) (w : World) (hf : Ints w fv fates) (hfl : fates.length ≤ 9223372036854775807) (hfg : ∀ g o n c, fv = .slice (some ⟨g, o, none⟩) n c → 0 < n → g < w.heap.size) :
    Calls Try.prog 5 #[.int .u8 (a.toNat : Int), .int .u8 (b.toNat : Int), .bool over, fv] w fun e w' => e = .returned (.bool true) ∧ Below w.heap.size w w' := by
  obtain ⟨D1, D2, D3, D4, e1, e2, e3, e4, l1, l2, l3, l4, hm, hno, hyes⟩ := stays_plain a b over fates
  have hAA := fun u : World => block_walk a a u
  have hBB := fun u : World => block_walk b b u
  have hAB := fun u : World => block_walk a b u
  have hBA := fun u : World => block_walk b a u
  have lA := blkL_len a a
  have lB := blkL_len b b
  have lAB := blkL_len a b
  have lBA := blkL_len b a
  obtain ⟨A, hA⟩ : ∃ A, A = blkL a a := ⟨_, rfl⟩
  obtain ⟨B, hB⟩ : ∃ B, B = blkL b b := ⟨_, rfl⟩
  obtain ⟨AB, hABd⟩ : ∃ AB, AB = blkL a b := ⟨_, rfl⟩
  obtain ⟨BA, hBAd⟩ : ∃ BA, BA = blkL b a := ⟨_, rfl⟩
  simp only [← hA, ← hB, ← hABd, ← hBAd] at *
  have hrl : (readS (crashD (if over = true then D4 else D3) fates) 1).length = 512 := by
    cases over
    · rw [hno rfl]; exact lA
    · rcases hyes rfl with h | h | h | h <;> rw [h] <;> assumption
  have hend := stays_end hrl hno hyes
  have bA : A.length ≤ 9223372036854775807 := by rw [lA]; decide
  have bB : B.length ≤ 9223372036854775807 := by rw [lB]; decide
  have HE := Ythkjodlddhdeiaa.base.Shut.mk (And.intro e1 (And.intro e2 (And.intro e3 (And.intro e4 (And.intro l1 (And.intro l2 (And.intro l3 (And.intro l4 hm))))))))
  have HB := Ythkjodlddhdeiaa.base.Shut.mk (And.intro hAA (And.intro hBB (And.intro hAB (And.intro hBA (And.intro bA bB)))))
  have HF := Ythkjodlddhdeiaa.base.Shut.mk (And.intro hf (And.intro hfl hfg))
  have HN := Ythkjodlddhdeiaa.base.Shut.mk hend
  clear e1 e2 e3 e4 l1 l2 l3 l4 hm hno hyes hAA hBB hAB hBA lA lB lAB lBA bA bB hf hfl hfg hA hB hABd hBAd hrl hend
  cases over
  all_goals
    go_enter Try.func5, Try.ntmps5
    go_wp2_with fail
    refine (new_st 3 (by decide) (by decide) w _ (same w)).mono ?_
    rintro e w1 ⟨d, rfl, hs, hd⟩
    have HS1 := Ythkjodlddhdeiaa.base.Shut.mk hs
    clear hs hd
    go_wp2_with fail
    refine (HB.out.1 _).mono ?_
    rintro e w2 ⟨rfl, hb2⟩
    have HS2 := Ythkjodlddhdeiaa.base.Shut.mk (HS1.out.mono hb2)
    clear hb2
    go_wp2_with fail
    refine (write_st HS2.out 1 A HB.out.2.2.2.2.1 (by decide)).mono ?_
    rintro e w3 ⟨rfl, hs⟩
    rw [HE.out.1] at hs
    have HS3 := Ythkjodlddhdeiaa.base.Shut.mk hs
    clear hs
    go_wp2_with fail
    refine (flush_st HS3.out HE.out.2.2.2.2.1).mono ?_
    rintro e w4 ⟨rfl, hs⟩
    rw [HE.out.2.1] at hs
    have HS4 := Ythkjodlddhdeiaa.base.Shut.mk hs
    clear hs
    go_wp2_with fail
    refine (HB.out.2.1 _).mono ?_
    rintro e w5 ⟨rfl, hb5⟩
    have HS5 := Ythkjodlddhdeiaa.base.Shut.mk (HS4.out.mono hb5)
    clear hb5
    go_wp2_with fail
    refine (write_st HS5.out 2 B HB.out.2.2.2.2.2 HE.out.2.2.2.2.2.1).mono ?_
    rintro e w6 ⟨rfl, hs⟩
    rw [HE.out.2.2.1] at hs
    have HS6 := Ythkjodlddhdeiaa.base.Shut.mk hs
    clear hs
    go_wp2_with fail
  · refine (crash_st HS6.out fv fates (Fates.of_arg HF.out.1 HF.out.2.1 HF.out.2.2 HS6.out.below) HE.out.2.2.2.2.2.2.1).mono ?_
    rintro e w7 ⟨rfl, hs⟩
    have HS7 := Ythkjodlddhdeiaa.base.Shut.mk hs
    clear hs
    go_wp2_with fail
    refine (read_st HS7.out 1).mono ?_
    rintro e w8 ⟨rfl, rfl⟩
    have hm0 : mayE (crashD D3 fates) 1 = 0 := HE.out.2.2.2.2.2.2.2.2
    have hr0 : readS (crashD D3 fates) 1 = A := HN.out.no rfl
    rw [hm0, hr0]
    have hsz : (ByteArray.mk A.toArray).size = 512 := by rw [size_mk, ← hr0]; exact HN.out.len
    clear hm0 hr0
    go_wp2_with fail
    refine (HB.out.1 _).mono ?_
    rintro e w9 ⟨rfl, hb9⟩
    have HS9 := Ythkjodlddhdeiaa.base.Shut.mk (HS7.out.mono hb9)
    clear hb9
    go_wp2_with fail
    refine (lives_walk _).mono ?_
    rintro e w10 ⟨rfl, hb10⟩
    have HS10 := Ythkjodlddhdeiaa.base.Shut.mk (HS9.out.mono hb10)
    clear hb10
    go_wp2
    go_ret
    exact ⟨rfl, HS10.out.below⟩
  · refine (HB.out.2.1 _).mono ?_
    rintro e w5 ⟨rfl, hb5⟩
    have HS65 := Ythkjodlddhdeiaa.base.Shut.mk (HS6.out.mono hb5)
    clear hb5
    go_wp2_with fail
    refine (write_st HS65.out 1 B HB.out.2.2.2.2.2 HE.out.2.2.2.2.2.2.1).mono ?_
    rintro e w66 ⟨rfl, hs⟩
    rw [HE.out.2.2.2.1] at hs
    have HS66 := Ythkjodlddhdeiaa.base.Shut.mk hs
    clear hs
    go_wp2_with fail
    refine (crash_st HS66.out fv fates (Fates.of_arg HF.out.1 HF.out.2.1 HF.out.2.2 HS66.out.below) HE.out.2.2.2.2.2.2.2.1).mono ?_
    rintro e w7 ⟨rfl, hs⟩
    have HS7 := Ythkjodlddhdeiaa.base.Shut.mk hs
    clear hs
    go_wp2_with fail
    refine (read_st HS7.out 1).mono ?_
    rintro e w8 ⟨rfl, rfl⟩
    have hm0 : mayE (crashD D4 fates) 1 = 0 := HE.out.2.2.2.2.2.2.2.2
    have hN : StaysEnd (readS (crashD D4 fates) 1) A B AB BA true := HN.out
    rw [hm0]
    generalize readS (crashD D4 fates) 1 = R at hN
    have hsz : (ByteArray.mk R.toArray).size = 512 := by rw [size_mk]; exact hN.len
    have hy := hN.yes rfl
    clear hm0 hN
    rcases hy with rfl | ⟨rfl, n1⟩ | ⟨rfl, n1, n2⟩ | ⟨rfl, n1, n2, n3⟩
    all_goals
      go_wp2_with fail
      refine (HB.out.1 _).mono ?_
      rintro e w9 ⟨rfl, hb9⟩
      have HS9 := Ythkjodlddhdeiaa.base.Shut.mk (HS7.out.mono hb9)
      clear hb9
      go_wp2_with fail
    · refine (lives_walk _).mono ?_
      rintro e w20 ⟨rfl, hb20⟩
      have HS20 := Ythkjodlddhdeiaa.base.Shut.mk (HS9.out.mono hb20)
      clear hb20
      go_wp2
      go_ret
      exact ⟨rfl, HS20.out.below⟩
    · refine (HB.out.2.1 _).mono ?_
      rintro e w21 ⟨rfl, hb21⟩
      have HS21 := Ythkjodlddhdeiaa.base.Shut.mk (HS9.out.mono hb21)
      clear hb21
      go_wp2_with fail
      refine (lives_walk _).mono ?_
      rintro e w22 ⟨rfl, hb22⟩
      have HS22 := Ythkjodlddhdeiaa.base.Shut.mk (HS21.out.mono hb22)
      clear hb22
      go_wp2
      go_ret
      exact ⟨rfl, HS22.out.below⟩
    · refine (HB.out.2.1 _).mono ?_
      rintro e w21 ⟨rfl, hb21⟩
      have HS21 := Ythkjodlddhdeiaa.base.Shut.mk (HS9.out.mono hb21)
      clear hb21
      go_wp2_with fail
      refine (HB.out.2.2.1 _).mono ?_
      rintro e w22 ⟨rfl, hb22⟩
      have HS22 := Ythkjodlddhdeiaa.base.Shut.mk (HS21.out.mono hb22)
      clear hb22
      go_wp2_with fail
      refine (lives_walk _).mono ?_
      rintro e w23 ⟨rfl, hb23⟩
      have HS23 := Ythkjodlddhdeiaa.base.Shut.mk (HS22.out.mono hb23)
      clear hb23
      go_wp2
      go_ret
      exact ⟨rfl, HS23.out.below⟩
    · refine (HB.out.2.1 _).mono ?_
      rintro e w21 ⟨rfl, hb21⟩
      have HS21 := Ythkjodlddhdeiaa.base.Shut.mk (HS9.out.mono hb21)
      clear hb21
      go_wp2_with fail
      refine (HB.out.2.2.1 _).mono ?_
      rintro e w22 ⟨rfl, hb22⟩
      have HS22 := Ythkjodlddhdeiaa.base.Shut.mk (HS21.out.mono hb22)
      clear hb22
      go_wp2_with fail
      refine (HB.out.2.2.2.1 _).mono ?_
      rintro e w23 ⟨rfl, hb23⟩
      have HS23 := Ythkjodlddhdeiaa.base.Shut.mk (HS22.out.mono hb23)
      clear hb23
      go_wp2_with fail
      refine (lives_walk _).mono ?_
      rintro e w24 ⟨rfl, hb24⟩
      have HS24 := Ythkjodlddhdeiaa.base.Shut.mk (HS23.out.mono hb24)
      clear hb24
      go_wp2
      go_ret
      exact ⟨rfl, HS24.out.below⟩
end Go.Proofs.Ythkjodlddhdeiaa.disk
