/- The walks of wide, Size, right, Check, Least. -/
import Derived.Test.YtobdfocfkomagaaNodeWalk
namespace Go.Proofs.Ytobdfocfkomagaa.node
open Go.ChangeShapes Go.WideShapes Go.ChangeAt Go.RowKit
open Ytobdfocfkomagaa.base (size_mk chain newer drewn same ba_ext)
open Ytobdfocfkomagaa.oct (num num_len num_pos)

theorem w64 (n : Int) (h1 : -9223372036854775808 ≤ n) (h2 : n ≤ 9223372036854775807) : IntKind.i64.wrap n = n := by
  simp [IntKind.wrap, IntKind.bits, IntKind.signed]
  omega
theorem wide_le2 {x : Pair} (h : x.1.size ≤ 1000 ∧ x.2.size ≤ 1000) : wideP x ≤ 2020 := by
  unfold wideP
  have := num_len (x.1.size : Int)
  have := num_len (x.2.size : Int)
  omega
/-- two cells of a block stay -/
theorem two_keep {q i j : Nat} {a b : Value} {u w' : World} (hb : Ytobdfocfkomagaa.base.Shut (Below u.heap.size u w')) (h : u.cell? ⟨q, i, none⟩ = some a ∧ u.cell? ⟨q, j, none⟩ = some b) : w'.cell? ⟨q, i, none⟩ = some a ∧ w'.cell? ⟨q, j, none⟩ = some b :=
  ⟨by rw [hb.out.cell (World.block_lt_of_cell? u _ h.1)]; exact h.1, by rw [hb.out.cell (World.block_lt_of_cell? u _ h.2)]; exact h.2⟩
set_option maxRecDepth 100000 in
set_option maxHeartbeats 800000 in
theorem wide_walk (x : Pair) (hx : x.1.size ≤ 1000 ∧ x.2.size ≤ 1000) (w : World) :
    Calls Try.prog 63 #[pv x] w fun e w' => e = .returned (.int .i64 (wideP x : Int)) ∧ Below w.heap.size w w' := by
  obtain ⟨k, v⟩ := x
  obtain ⟨hx1, hx2⟩ := hx
  simp only at hx1 hx2
  have HB := Ytobdfocfkomagaa.base.Shut.mk (newer (same w) (.cells #[.string k, .string v] 60))
  have h1 := fun u : World => num_size (k.size : Int) (by omega) u
  have h2 := fun u : World => num_size (v.size : Int) (by omega) u
  have hl1 := num_len (k.size : Int)
  have hl2 := num_len (v.size : Int)
  have hdef : wideP (k, v) = (num (k.size : Int)).length + k.size + (num (v.size : Int)).length + v.size := rfl
  have H := Ytobdfocfkomagaa.base.Shut.mk (And.intro h1 (And.intro h2 (And.intro hl1 (And.intro hl2 hdef))))
  have hrow := Row.new w #[.string k, .string v] 60
  obtain ⟨q, hq⟩ : ∃ q, w.heap.size = q := ⟨_, rfl⟩
  obtain ⟨V, hV⟩ : ∃ V, w.alloc (.cells #[.string k, .string v] 60) = V := ⟨_, rfl⟩
  rw [hV, hq] at hrow
  rw [hV] at HB
  have x0 : V.cell? ⟨q, 0, none⟩ = some (.string k) := hrow.cell 0
  have x1 : V.cell? ⟨q, 1, none⟩ = some (.string v) := hrow.cell 1
  clear h1 h2 hl1 hl2 hdef hrow
  go_enter Try.func63, Try.ntmps63
  go_wp2
  go_region_held3 (fun w' => w'.cell? ⟨q, 0, none⟩ = some (.string k) ∧ w'.cell? ⟨q, 1, none⟩ = some (.string v))
    (first | exact two_keep ‹_› ‹_› | go_keep)
    (first | (go_at_call 83; (with_reducible refine Calls.mono (H.out.1 V.drew) ?_); rintro e w2 ⟨s1, rfl, hs1, hb2⟩; have HB2 := Ytobdfocfkomagaa.base.Shut.mk hb2; have hz1 : s1.size ≤ 10 := (by rw [hs1, size_mk]; exact H.out.2.2.1); have HS1 := Ytobdfocfkomagaa.base.Shut.mk hs1; clear hb2 hs1) | (go_at_call 83; (with_reducible refine Calls.mono (H.out.2.1 _) ?_); rintro e w3 ⟨s2, rfl, hs2, hb3⟩; have HB3 := Ytobdfocfkomagaa.base.Shut.mk hb3; have hz2 : s2.size ≤ 10 := (by rw [hs2, size_mk]; exact H.out.2.2.2.1); have HS2 := Ytobdfocfkomagaa.base.Shut.mk hs2; clear hb3 hs2))
  all_goals
    go_wp2
    go_ret
    refine ⟨?_, chain (chain HB.out (drewn (same V))) (chain HB2.out HB3.out)⟩
    have e1 : s1.size = (num (k.size : Int)).length := by rw [HS1.out, size_mk]
    have e2 : s2.size = (num (v.size : Int)).length := by rw [HS2.out, size_mk]
    rw [H.out.2.2.2.2, ← e1, ← e2]
    show Ending.returned (.int .i64 (IntKind.i64.wrap (IntKind.i64.wrap (IntKind.i64.wrap ((s1.size : Int) + k.size) + s2.size) + v.size))) = _
    rw [w64 ((s1.size : Int) + k.size) (by omega) (by omega), w64 ((s1.size : Int) + k.size + s2.size) (by omega) (by omega), w64 ((s1.size : Int) + k.size + s2.size + v.size) (by omega) (by omega)]
    rfl
set_option maxRecDepth 100000 in
set_option maxHeartbeats 400000 in
theorem least_walk (leaf : Bool) (A : Option Addr) (n c : Nat) (ps : PL) (hn : ps.length = n) (hn2 : n ≤ 1000) (w : World) (hr : PReads w A ps) :
    Calls Try.prog 38 #[nv leaf A n c] w fun e w' => e = .returned (.string (at0 ps 0).1) ∧ Below w.heap.size w w' := by
  have HB := Ytobdfocfkomagaa.base.Shut.mk (newer (same w) (.cells #[.bool leaf, .slice A n c] 49))
  by_cases h0 : n = 0
  · subst h0
    have h0 : (at0 ps 0).1 = ⟨#[]⟩ := by rw [List.length_eq_zero_iff.1 hn]; rfl
    rw [h0]
    clear hr hn h0
    go_enter Try.func38, Try.ntmps38
    go_wp2
    go_ret
    exact ⟨rfl, HB.out⟩
  · obtain ⟨b, off, rfl, hc, -, -⟩ := (hr.keep (newer (same w) (.cells #[.bool leaf, .slice A n c] 49))).at_ (k := 0) (by omega)
    rw [Nat.zero_mul, Nat.add_zero] at hc
    have h1 : ¬ (n : Int) = 0 := by omega
    have h2 : (0 : Int) < n := by omega
    clear hr hn h0
    generalize (at0 ps 0).1 = k at hc
    go_enter Try.func38, Try.ntmps38
    go_wp2
    go_ret
    exact ⟨rfl, HB.out⟩
set_option maxRecDepth 100000 in
set_option maxHeartbeats 800000 in
theorem size_walk (leaf : Bool) (A : Option Addr) (n c : Nat) (ps : PL) (hn : ps.length = n) (hs : Nice ps) (w : World) (hr : PReads w A ps) :
    Calls Try.prog 36 #[nv leaf A n c] w fun e w' => e = .returned (.int .i64 (sizeN ⟨leaf, ps⟩ : Int)) ∧ Below w.heap.size w w' := by
  have hb := newer (same w) (.cells #[.bool leaf, .slice A n c] 49)
  have hx := Row.new w #[.bool leaf, .slice A n c] 49
  obtain ⟨q, hq⟩ : ∃ q, w.heap.size = q := ⟨_, rfl⟩
  obtain ⟨V, hV⟩ : ∃ V, w.alloc (.cells #[.bool leaf, .slice A n c] 49) = V := ⟨_, rfl⟩
  rw [hV, hq] at hx
  rw [hV] at hb
  have hn2 : n ≤ 1000 := by rw [← hn]; exact hs.len
  have hh := fun u : World => head_walk leaf A n c n hn2 u
  have x0 : V.cell? ⟨q, 0, none⟩ = some (.bool leaf) := hx.cell 0
  have x1 : V.cell? ⟨q, 1, none⟩ = some (.slice A n c) := hx.cell 1
  have hl : (headL leaf n).length ≤ 11 := by have := num_len (n : Int); unfold headL; rw [List.length_cons]; omega
  have H := Ytobdfocfkomagaa.base.Shut.mk (And.intro hh (And.intro hb (And.intro hx (And.intro (hr.keep (w' := V) (by rw [← hV]; exact newer (same w) _)) (And.intro hn hs)))))
  clear hh hb hx hr hn hs
  go_enter Try.func36, Try.ntmps36
  go_wp2_with fail
  refine (H.out.1 _).mono ?_
  rintro e w1 ⟨s, rfl, hs1, hb1⟩
  have hsz : s.size = (headL leaf n).length := by rw [hs1, size_mk]
  have y1 : w1.cell? ⟨q, 1, none⟩ = some (.slice A n c) := (H.out.2.2.1.below hb1).cell 1
  have H1 := Ytobdfocfkomagaa.base.Shut.mk (And.intro hb1 hs1)
  have hz := sizeTo_zero ⟨leaf, ps⟩
  simp only [H.out.2.2.2.2.1] at hz
  rw [← hz] at hsz
  have HZ := Ytobdfocfkomagaa.base.Shut.mk (And.intro hz hl)
  clear hb1 hs1 hz hl
  go_wp2
  go_loopw [3, 15] (fun t i wr => ∃ k : Nat, k ≤ n ∧ i = .int .i64 k ∧ t = .int .i64 (sizeTo ⟨leaf, ps⟩ k : Int) ∧ Ytobdfocfkomagaa.base.Shut (Below w1.heap.size w1 wr ∧ sizeTo ⟨leaf, ps⟩ k ≤ 11 + 2020 * k)) (fun _ i _ => n - (intOf i).toNat)
  case atStart => exact ⟨0, Nat.zero_le _, rfl, rfl, ⟨same w1, by have := HZ.out; omega⟩⟩
  case round =>
    obtain ⟨k, hk, rfl, rfl, HR⟩ := hrel
    by_cases hlt : k < n
    · have hkn : k < ps.length := by rw [H.out.2.2.2.2.1]; exact hlt
      have hlt' : (k : Int) < n := by omega
      obtain ⟨b, off, rfl, c0, c1, -⟩ := ((H.out.2.2.2.1.keep H1.out.1).keep HR.out.1).at_ hkn
      have hwd : ∀ u : World, Calls Try.prog 63 #[.agg #[.string (at0 ps k).1, .string (at0 ps k).2]] u fun e w' => e = .returned (.int .i64 (wideP (at0 ps k) : Int)) ∧ Below u.heap.size u w' := fun u => wide_walk (at0 ps k) (H.out.2.2.2.2.2.sizes k) u
      have hle := wide_le2 (H.out.2.2.2.2.2.sizes k)
      have hsn := sizeTo_snoc ⟨leaf, ps⟩ (List.getElem?_eq_getElem hkn)
      rw [← at0_get (List.getElem?_eq_getElem hkn)] at hsn
      have hbd := HR.out.2
      have HW := Ytobdfocfkomagaa.base.Shut.mk (And.intro hwd (And.intro hsn HR.out))
      clear hwd hsn HR
      generalize wideP (at0 ps k) = wd at HW hle
      generalize (at0 ps k).1 = kx at c0 HW
      generalize (at0 ps k).2 = vx at c1 HW
      go_wp2_with fail
      refine (HW.out.1 _).mono ?_
      rintro e w2 ⟨rfl, hb2⟩
      have H2 := Ytobdfocfkomagaa.base.Shut.mk (chain HW.out.2.2.1 (chain (newer (same wr) _) hb2))
      have HS2 := Ytobdfocfkomagaa.base.Shut.mk HW.out.2.1
      clear hb2 HW c0 c1
      go_wp2
      go_roundw
      case rel => exact ⟨k + 1, by omega, by go_num, by rw [HS2.out]; go_num, ⟨H2.out, by rw [HS2.out]; omega⟩⟩
      case measure => simp [intOf]; omega
    · obtain rfl : k = n := by omega
      have hend := sizeTo_all ⟨leaf, ps⟩
      simp only [H.out.2.2.2.2.1] at hend
      have HE := Ytobdfocfkomagaa.base.Shut.mk (And.intro hend (chain H.out.2.1 (chain H1.out.1 HR.out.1)))
      clear hend HR
      go_wp2
      go_ret
      exact ⟨by rw [← HE.out.1]; rfl, HE.out.2⟩
end Go.Proofs.Ytobdfocfkomagaa.node
