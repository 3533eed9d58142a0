/- The walks of the document's Right, text, Bytes, Parse. -/
import Derived.Test.YthkjodlddhdeiaaLabBack
namespace Go.Proofs.Ythkjodlddhdeiaa.label
open Go.ChangeShapes Go.WideShapes Go.ChangeAt Go.RowKit
open Ythkjodlddhdeiaa.base Ythkjodlddhdeiaa.disk
open Ythkjodlddhdeiaa.oct (num text takeText num_len rnum_walk rtakeText_walk app_str take_ways)

set_option maxRecDepth 100000 in
set_option maxHeartbeats 1600000 in
theorem rright_walk (l : Lb) (hn : l.note.size ≤ maxLen) (w : World) : Calls Try.prog 79 #[l.v] w fun e w' => e = .returned (.bool (rightL l)) ∧ Below w.heap.size w w' := by
  obtain ⟨turn, tail, head, note⟩ := l
  have hn' : note.size ≤ 2 ^ 63 - 1 := hn
  have HT := Ythkjodlddhdeiaa.base.Shut.mk (right_iff ⟨turn, tail, head, note⟩)
  have HF := Ythkjodlddhdeiaa.base.Shut.mk (@not_right ⟨turn, tail, head, note⟩)
  obtain ⟨r, hr⟩ : ∃ r, rightL ⟨turn, tail, head, note⟩ = r := ⟨_, rfl⟩
  have HR := Ythkjodlddhdeiaa.base.Shut.mk hr
  rw [hr]
  clear hr hn
  have hfalse : ¬ (1 ≤ turn ∧ turn ≤ 4611686018427387904 ∧ 0 ≤ tail ∧ tail ≤ head ∧ head ≤ 1125899906842624 ∧ note.size ≤ 400) → r = false := fun h => by rw [← HR.out]; exact HF.out h
  have htrue : (1 ≤ turn ∧ turn ≤ 4611686018427387904 ∧ 0 ≤ tail ∧ tail ≤ head ∧ head ≤ 1125899906842624 ∧ note.size ≤ 400) → r = true := fun h => by rw [← HR.out]; exact HT.out.2 h
  have HH := Ythkjodlddhdeiaa.base.Shut.mk (And.intro hfalse htrue)
  clear hfalse htrue HT HF HR
  have HB := Ythkjodlddhdeiaa.base.Shut.mk (newer (same w) (.cells #[.int .i64 turn, .int .i64 tail, .int .i64 head, .string note] 81))
  by_cases c1 : 1 ≤ turn
  · by_cases c2 : turn ≤ 4611686018427387904
    · by_cases c3 : 0 ≤ tail
      · by_cases c4 : tail ≤ head
        · by_cases c5 : head ≤ 1125899906842624
          · by_cases c6 : note.size ≤ 400
            · obtain rfl := HH.out.2 ⟨c1, c2, c3, c4, c5, c6⟩
              have c6' : (note.size : Int) ≤ 400 := by omega
              go_enter Try.func79, Try.ntmps79
              go_wp2
              go_ret
              exact ⟨rfl, HB.out⟩
            · obtain rfl := HH.out.1 (fun h => c6 h.2.2.2.2.2)
              have c6' : ¬ (note.size : Int) ≤ 400 := by omega
              go_enter Try.func79, Try.ntmps79
              go_wp2
              go_ret
              exact ⟨rfl, HB.out⟩
          · obtain rfl := HH.out.1 (fun h => c5 h.2.2.2.2.1)
            go_enter Try.func79, Try.ntmps79
            go_wp2
            go_ret
            exact ⟨rfl, HB.out⟩
        · obtain rfl := HH.out.1 (fun h => c4 h.2.2.2.1)
          go_enter Try.func79, Try.ntmps79
          go_wp2
          go_ret
          exact ⟨rfl, HB.out⟩
      · obtain rfl := HH.out.1 (fun h => c3 h.2.2.1)
        go_enter Try.func79, Try.ntmps79
        go_wp2
        go_ret
        exact ⟨rfl, HB.out⟩
    · obtain rfl := HH.out.1 (fun h => c2 h.2.1)
      go_enter Try.func79, Try.ntmps79
      go_wp2
      go_ret
      exact ⟨rfl, HB.out⟩
  · obtain rfl := HH.out.1 (fun h => c1 h.1)
    go_enter Try.func79, Try.ntmps79
    go_wp2
    go_ret
    exact ⟨rfl, HB.out⟩

set_option maxRecDepth 100000 in
set_option maxHeartbeats 400000 in
theorem rtext_walk (s : ByteArray) (hs : s.size ≤ 4611686018427387904) (w : World) :
    Calls Try.prog 100 #[.string s] w fun e w' => e = .returned (.string ⟨(text s.data.toList).toArray⟩) ∧ Below w.heap.size w w' := by
  have hs' : s.size ≤ 2 ^ 62 := by omega
  have HN : Ythkjodlddhdeiaa.base.Shut (text s.data.toList = num (s.size : Int) ++ s.data.toList) := ⟨by unfold text; simp⟩
  have hl := num_len (s.size : Int)
  go_enter Try.func100, Try.ntmps100
  clear hs
  go_wp2_with fail
  refine (rnum_walk (s.size : Int) (by omega) _).mono ?_
  rintro e w1 ⟨rfl, hb1⟩
  generalize num (s.size : Int) = l at hl HN
  go_wp2
  go_ret
  exact ⟨ret_str (by rw [HN.out, app_str]), hb1⟩

set_option maxRecDepth 100000 in
set_option maxHeartbeats 1600000 in
theorem rlab_walk (l : Lb) (h : rightL l = true) (w : World) : Calls Try.prog 80 #[l.v] w fun e w' => e = .returned (.string ⟨(bytesL l).toArray⟩) ∧ Below w.heap.size w w' := by
  have hr := (right_iff l).1 h
  have hbl : bytesL l = num l.tail ++ num l.head ++ text l.note.data.toList := by unfold bytesL; rw [if_pos h]
  rw [hbl]
  clear hbl h
  obtain ⟨q, hq⟩ : ∃ q, w.heap.size = q := ⟨_, rfl⟩
  obtain ⟨V, hV⟩ : ∃ V, w.alloc (.cells l.cells 81) = V := ⟨_, rfl⟩
  have hX : Row V q l.cells 81 := by rw [← hV, ← hq]; exact Row.new _ _ _
  have hB : Below w.heap.size w V := by rw [← hV]; exact newer (same w) _
  have H1 := Ythkjodlddhdeiaa.base.Shut.mk hB
  obtain ⟨turn, tail, head, note⟩ := l
  have x1 : V.cell? ⟨q, 1, none⟩ = some (.int .i64 tail) := hX.cell 1
  have x2 : V.cell? ⟨q, 2, none⟩ = some (.int .i64 head) := hX.cell 2
  have x3 : V.cell? ⟨q, 3, none⟩ = some (.string note) := hX.cell 3
  clear hB hX
  simp only at hr ⊢
  have h1 := fun u : World => rnum_walk tail (by omega) u
  have h2 := fun u : World => rnum_walk head (by omega) u
  have h3 := fun u : World => rtext_walk note (by omega) u
  have l1 := num_len tail
  have l2 := num_len head
  have l3 : (text note.data.toList).length ≤ 420 := by
    unfold text
    have h3 := num_len (note.data.toList.length : Int)
    have h4 : note.data.toList.length = note.size := by simp
    simp only [List.length_append]
    omega
  generalize num tail = ta at h1 l1 ⊢
  generalize num head = ha at h2 l2 ⊢
  generalize text note.data.toList = tx at h3 l3 ⊢
  have HN := Ythkjodlddhdeiaa.base.Shut.mk (And.intro h1 (And.intro h2 h3))
  have s1 : ¬ 9223372036854775807 < ta.length + ha.length := by omega
  have s2 : ¬ 9223372036854775807 < ta.length + ha.length + tx.length := by omega
  clear h1 h2 h3 hr
  go_enter Try.func80, Try.ntmps80
  go_wp2
  go_region_held3 (fun w' => w'.cell? ⟨q, 1, none⟩ = some (.int .i64 tail) ∧ w'.cell? ⟨q, 2, none⟩ = some (.int .i64 head) ∧ w'.cell? ⟨q, 3, none⟩ = some (.string note))
    (first | exact stay3 ‹_› ‹_› | go_keep)
    (first | (go_at_call 99; (with_reducible refine Calls.mono (HN.out.1 _) ?_); rintro e w2 ⟨rfl, hb2⟩; have HB2 := Ythkjodlddhdeiaa.base.Shut.mk hb2; have hst2 := stay_below (q := q) hb2; clear hb2) | (go_at_call 99; (with_reducible refine Calls.mono (HN.out.2.1 _) ?_); rintro e w3 ⟨rfl, hb3⟩; have HB3 := Ythkjodlddhdeiaa.base.Shut.mk hb3; have hst3 := stay_below (q := q) hb3; clear hb3) | (go_at_call 100; (with_reducible refine Calls.mono (HN.out.2.2 _) ?_); rintro e w4 ⟨rfl, hb4⟩; have HB4 := Ythkjodlddhdeiaa.base.Shut.mk hb4; have hst4 := stay_below (q := q) hb4; clear hb4))
  all_goals
    go_wp2
    go_ret
    exact ⟨by rw [Ythkjodlddhdeiaa.seal.app_lists, Ythkjodlddhdeiaa.seal.app_lists]; rfl, chain (chain (chain (drewn H1.out) HB2.out) HB3.out) HB4.out⟩

set_option maxRecDepth 100000 in
set_option maxHeartbeats 1600000 in
theorem rbytes_walk (l : Lb) (hn : l.note.size ≤ maxLen) (w : World) : Calls Try.prog 46 #[l.v] w fun e w' => e = .returned (.tuple #[.string ⟨(bytesL l).toArray⟩, .int .i64 (bytesE l)]) ∧ Below w.heap.size w w' := by
  obtain ⟨q, hq⟩ : ∃ q, w.heap.size = q := ⟨_, rfl⟩
  obtain ⟨V, hV⟩ : ∃ V, w.alloc (.cells l.cells 81) = V := ⟨_, rfl⟩
  have hX : Row V q l.cells 81 := by rw [← hV, ← hq]; exact Row.new _ _ _
  have hB : Below w.heap.size w V := by rw [← hV]; exact newer (same w) _
  have hR := fun u : World => rright_walk l hn u
  have hT := fun (h : rightL l = true) (u : World) => rlab_walk l h u
  have HE := Ythkjodlddhdeiaa.base.Shut.mk (show bytesE l = if rightL l = true then 0 else 2 from rfl)
  have HL := Ythkjodlddhdeiaa.base.Shut.mk (fun h : rightL l = false => show bytesL l = [] by unfold bytesL; rw [h]; rfl)
  have HW := Ythkjodlddhdeiaa.base.Shut.mk (And.intro hR (And.intro hB (And.intro hX hT)))
  obtain ⟨turn, tail, head, note⟩ := l
  have x0 : V.cell? ⟨q, 0, none⟩ = some (.int .i64 turn) := hX.cell 0
  have x1 : V.cell? ⟨q, 1, none⟩ = some (.int .i64 tail) := hX.cell 1
  have x2 : V.cell? ⟨q, 2, none⟩ = some (.int .i64 head) := hX.cell 2
  have x3 : V.cell? ⟨q, 3, none⟩ = some (.string note) := hX.cell 3
  generalize bytesE _ = be at HE ⊢
  generalize bytesL _ = bl at HL HW ⊢
  generalize rightL _ = r at HE HL HW
  clear hR hB hX hn hT
  cases r with
  | false =>
    obtain rfl : be = 2 := HE.out
    obtain rfl : bl = [] := HL.out rfl
    clear HE HL
    go_enter Try.func46, Try.ntmps46
    go_wp2_with fail
    refine (HW.out.1 _).mono ?_
    rintro e w1 ⟨rfl, hb1⟩
    have H1 := Ythkjodlddhdeiaa.base.Shut.mk (HW.out.2.1.trans (hb1.mono HW.out.2.1.size))
    clear hb1
    go_wp2
    go_ret2
    exact ⟨rfl, H1.out⟩
  | true =>
    obtain rfl : be = 0 := HE.out
    clear HE HL
    go_enter Try.func46, Try.ntmps46
    go_wp2_with fail
    refine (HW.out.1 _).mono ?_
    rintro e w1 ⟨rfl, hb1⟩
    have hr := HW.out.2.2.1.below hb1
    have y0 : w1.cell? ⟨q, 0, none⟩ = some (.int .i64 turn) := hr.cell 0
    have y1 : w1.cell? ⟨q, 1, none⟩ = some (.int .i64 tail) := hr.cell 1
    have y2 : w1.cell? ⟨q, 2, none⟩ = some (.int .i64 head) := hr.cell 2
    have y3 : w1.cell? ⟨q, 3, none⟩ = some (.string note) := hr.cell 3
    have H1 := Ythkjodlddhdeiaa.base.Shut.mk (chain HW.out.2.1 hb1)
    clear hb1 hr hV x0 x1 x2 x3
    go_wp2_with fail
    refine (HW.out.2.2.2 trivial _).mono ?_
    rintro e w2 ⟨rfl, hb2⟩
    have H2 := Ythkjodlddhdeiaa.base.Shut.mk (chain H1.out hb2)
    clear hb2
    go_wp2
    go_ret2
    exact ⟨rfl, H2.out⟩

set_option maxRecDepth 100000 in
set_option maxHeartbeats 1600000 in
theorem rparse_walk (turn : Int) (s : ByteArray) (hs : s.size ≤ maxLen) (w : World) : Calls Try.prog 48 #[.int .i64 turn, .string s] w fun e w' =>
    e = .returned (.tuple #[(parseL turn s.data.toList).1.v, .int .i64 (parseL turn s.data.toList).2]) ∧ Below w.heap.size w w' := by
  have k1 := take_small s.data.toList
  have c1 := fun u : World => Ythkjodlddhdeiaa.oct.rtake_walk s hs u
  have hP : parseL turn s.data.toList = parseOf turn (Ythkjodlddhdeiaa.oct.take s.data.toList) (Ythkjodlddhdeiaa.oct.take (Ythkjodlddhdeiaa.oct.take s.data.toList).2.1) (takeText (Ythkjodlddhdeiaa.oct.take (Ythkjodlddhdeiaa.oct.take s.data.toList).2.1).2.1 400) := rfl
  have hl : s.data.toList.length = s.size := by simp
  rw [hl] at k1
  generalize Ythkjodlddhdeiaa.oct.take s.data.toList = A at k1 c1 hP
  obtain ⟨n1, r1, e1⟩ := A
  simp only at k1 c1 hP
  have k2 := take_small r1
  have c2 := fun u : World => Ythkjodlddhdeiaa.oct.rtake_walk ⟨r1.toArray⟩ (by rw [size_mk]; omega) u
  simp only at c2
  generalize Ythkjodlddhdeiaa.oct.take r1 = A at k2 c2 hP
  obtain ⟨n2, r2, e2⟩ := A
  simp only at k2 c2 hP
  have k3 := takeText_small r2 400
  have c3 := fun u : World => rtakeText_walk ⟨r2.toArray⟩ 400 (by rw [size_mk]; omega) u
  simp only at c3
  generalize takeText r2 400 = A at k3 c3 hP
  obtain ⟨t3, r3, e3⟩ := A
  simp only at k3 c3 hP
  have c4 := fun u : World => rright_walk ⟨turn, n1, n2, ⟨t3.toArray⟩⟩ (by show (ByteArray.mk t3.toArray).size ≤ maxLen; rw [size_mk]; omega) u
  unfold parseOf at hP
  simp only at hP
  generalize parseL turn s.data.toList = PL at hP ⊢
  obtain ⟨L, E⟩ := PL
  simp only
  generalize hR : rightL ⟨turn, n1, n2, ⟨t3.toArray⟩⟩ = r at c4 hP
  clear hR
  have HC := Ythkjodlddhdeiaa.base.Shut.mk (And.intro c1 (And.intro c2 (And.intro c3 c4)))
  have HP := Ythkjodlddhdeiaa.base.Shut.mk hP
  have ht3 : t3.length ≤ 9223372036854775807 := by unfold maxLen at hs; omega
  have hr3 : r3 = [] ∨ ∃ c l, r3 = c :: l := by cases r3 <;> simp
  clear c1 c2 c3 c4 hP k1 k2 k3 hl hs
  have HX := Ythkjodlddhdeiaa.base.Shut.mk (Row.new w #[.int .i64 0, .int .i64 0, .int .i64 0, .string ⟨#[]⟩] 81)
  have HB := Ythkjodlddhdeiaa.base.Shut.mk (newer (same w) (.cells #[.int .i64 0, .int .i64 0, .int .i64 0, .string ⟨#[]⟩] 81))
  go_enter Try.func48, Try.ntmps48
  go_wp2_with fail
  refine (HC.out.1 _).mono ?_
  rintro e w1 ⟨rfl, hb1⟩
  have H1 := Ythkjodlddhdeiaa.base.Shut.mk (And.intro (chain HB.out hb1) (HX.out.below hb1))
  clear hb1 HX HB
  go_wp2_with fail
  refine (HC.out.2.1 _).mono ?_
  rintro e w2 ⟨rfl, hb2⟩
  have H2 := Ythkjodlddhdeiaa.base.Shut.mk (And.intro (chain H1.out.1 hb2) (H1.out.2.below hb2))
  clear hb2 H1
  go_wp2_with fail
  refine (HC.out.2.2.1 _).mono ?_
  rintro e w3 ⟨rfl, hb3⟩
  obtain ⟨V3, hV3⟩ : ∃ V3, w3.alloc (.cells #[.int .i64 turn, .int .i64 n1, .int .i64 n2, .string ⟨t3.toArray⟩] 81) = V3 := ⟨_, rfl⟩
  have H3 := Ythkjodlddhdeiaa.base.Shut.mk (show Below w.heap.size w V3 ∧ Row V3 w.heap.size #[.int .i64 0, .int .i64 0, .int .i64 0, .string ⟨#[]⟩] 81 ∧ Row V3 w3.heap.size #[.int .i64 turn, .int .i64 n1, .int .i64 n2, .string ⟨t3.toArray⟩] 81 by
    rw [← hV3]
    exact ⟨newer (chain H2.out.1 hb3) _, (H2.out.2.below hb3).alloc _, Row.new _ _ _⟩)
  clear hb3 H2
  have a0 : V3.cell? ⟨w3.heap.size, 0, none⟩ = some (.int .i64 turn) := H3.out.2.2.cell 0
  have a1 : V3.cell? ⟨w3.heap.size, 1, none⟩ = some (.int .i64 n1) := H3.out.2.2.cell 1
  have a2 : V3.cell? ⟨w3.heap.size, 2, none⟩ = some (.int .i64 n2) := H3.out.2.2.cell 2
  have a3 : V3.cell? ⟨w3.heap.size, 3, none⟩ = some (.string ⟨t3.toArray⟩) := H3.out.2.2.cell 3
  have b0 : V3.cell? ⟨w.heap.size, 0, none⟩ = some (.int .i64 0) := H3.out.2.1.cell 0
  have b1 : V3.cell? ⟨w.heap.size, 1, none⟩ = some (.int .i64 0) := H3.out.2.1.cell 1
  have b2 : V3.cell? ⟨w.heap.size, 2, none⟩ = some (.int .i64 0) := H3.out.2.1.cell 2
  have b3 : V3.cell? ⟨w.heap.size, 3, none⟩ = some (.string ⟨#[]⟩) := H3.out.2.1.cell 3
  have d0 := H3.out.2.1.frozen 0
  have d1 := H3.out.2.1.frozen 1
  have d2 := H3.out.2.1.frozen 2
  have d3 := H3.out.2.1.frozen 3
  by_cases h1 : e1 = 0
  · by_cases h2 : e2 = 0
    · by_cases h3 : e3 = 0
      · rcases hr3 with rfl | ⟨c, l, rfl⟩
        · subst h1 h2 h3
          cases r with
          | false =>
            have HF : L = Lb.zero ∧ E = 4 := by have h := HP.out; rw [if_neg (fun h => Bool.noConfusion h.2.2.2.2)] at h; exact ⟨congrArg Prod.fst h, congrArg Prod.snd h⟩
            obtain ⟨rfl, rfl⟩ := HF
            clear HP
            go_wp2_with fail
            refine (HC.out.2.2.2 _).mono ?_
            rintro e w4 ⟨rfl, hb4⟩
            have i0 : w4.cell? ⟨w.heap.size, 0, none⟩ = some (.int .i64 0) := (H3.out.2.1.below hb4).cell 0
            have j0 := (H3.out.2.1.below hb4).frozen 0
            have i1 : w4.cell? ⟨w.heap.size, 1, none⟩ = some (.int .i64 0) := (H3.out.2.1.below hb4).cell 1
            have j1 := (H3.out.2.1.below hb4).frozen 1
            have i2 : w4.cell? ⟨w.heap.size, 2, none⟩ = some (.int .i64 0) := (H3.out.2.1.below hb4).cell 2
            have j2 := (H3.out.2.1.below hb4).frozen 2
            have i3 : w4.cell? ⟨w.heap.size, 3, none⟩ = some (.string ⟨#[]⟩) := (H3.out.2.1.below hb4).cell 3
            have j3 := (H3.out.2.1.below hb4).frozen 3
            have H4 := Ythkjodlddhdeiaa.base.Shut.mk (And.intro (chain H3.out.1 hb4) (H3.out.2.1.below hb4))
            clear hb4
            go_wp2
            exact bodyPost_ret (v := .tuple #[Lb.zero.v, .int .i64 4]) (res_lb (p := 4) (u := 5) rfl _ _ w.heap.size Lb.zero rfl (H4.out.2.lay _ _ _ _ rfl)) rfl ⟨rfl, lay_below H4.out.1 (Nat.le_refl _) _ _ _ _⟩
          | true =>
            have HF : L = ⟨turn, n1, n2, ⟨t3.toArray⟩⟩ ∧ E = 0 := by have h := HP.out; rw [if_pos ⟨rfl, rfl, rfl, rfl, rfl⟩] at h; exact ⟨congrArg Prod.fst h, congrArg Prod.snd h⟩
            obtain ⟨rfl, rfl⟩ := HF
            clear HP
            go_wp2_with fail
            refine (HC.out.2.2.2 _).mono ?_
            rintro e w4 ⟨rfl, hb4⟩
            have i0 : w4.cell? ⟨w.heap.size, 0, none⟩ = some (.int .i64 0) := (H3.out.2.1.below hb4).cell 0
            have j0 := (H3.out.2.1.below hb4).frozen 0
            have i1 : w4.cell? ⟨w.heap.size, 1, none⟩ = some (.int .i64 0) := (H3.out.2.1.below hb4).cell 1
            have j1 := (H3.out.2.1.below hb4).frozen 1
            have i2 : w4.cell? ⟨w.heap.size, 2, none⟩ = some (.int .i64 0) := (H3.out.2.1.below hb4).cell 2
            have j2 := (H3.out.2.1.below hb4).frozen 2
            have i3 : w4.cell? ⟨w.heap.size, 3, none⟩ = some (.string ⟨#[]⟩) := (H3.out.2.1.below hb4).cell 3
            have j3 := (H3.out.2.1.below hb4).frozen 3
            have m0 : w4.cell? ⟨w3.heap.size, 0, none⟩ = some (.int .i64 turn) := (H3.out.2.2.below hb4).cell 0
            have m1 : w4.cell? ⟨w3.heap.size, 1, none⟩ = some (.int .i64 n1) := (H3.out.2.2.below hb4).cell 1
            have m2 : w4.cell? ⟨w3.heap.size, 2, none⟩ = some (.int .i64 n2) := (H3.out.2.2.below hb4).cell 2
            have m3 : w4.cell? ⟨w3.heap.size, 3, none⟩ = some (.string ⟨t3.toArray⟩) := (H3.out.2.2.below hb4).cell 3
            have H4 := Ythkjodlddhdeiaa.base.Shut.mk (And.intro (chain H3.out.1 hb4) (H3.out.2.1.below hb4))
            clear hb4
            go_wp2
            exact bodyPost_ret (v := .tuple #[Lb.v ⟨turn, n1, n2, ⟨t3.toArray⟩⟩, .int .i64 0]) (res_lb (p := 4) (u := 5) rfl _ _ w.heap.size ⟨turn, n1, n2, ⟨t3.toArray⟩⟩ rfl (H4.out.2.lay _ _ _ _ rfl)) rfl ⟨rfl, lay_below H4.out.1 (Nat.le_refl _) _ _ _ _⟩
        · have hne : ¬ (ByteArray.mk (c :: l).toArray = ⟨#[]⟩) := fun h => by have := congrArg ByteArray.size h; simp [ByteArray.size] at this
          subst h1 h2 h3
          have HF : L = Lb.zero ∧ E = 4 := by have h := HP.out; rw [if_neg (fun h => by cases h.2.2.2.1)] at h; exact ⟨congrArg Prod.fst h, congrArg Prod.snd h⟩
          obtain ⟨rfl, rfl⟩ := HF
          clear HP
          go_wp2
          exact bodyPost_ret (v := .tuple #[Lb.zero.v, .int .i64 4]) (res_lb (p := 4) (u := 5) rfl _ _ w.heap.size Lb.zero rfl (H3.out.2.1.lay _ _ _ _ rfl)) rfl ⟨rfl, lay_below H3.out.1 (Nat.le_refl _) _ _ _ _⟩
      · subst h1 h2
        have HF : L = Lb.zero ∧ E = 4 := by have h := HP.out; rw [if_neg (fun h => h3 h.2.2.1)] at h; exact ⟨congrArg Prod.fst h, congrArg Prod.snd h⟩
        obtain ⟨rfl, rfl⟩ := HF
        clear HP
        go_wp2
        exact bodyPost_ret (v := .tuple #[Lb.zero.v, .int .i64 4]) (res_lb (p := 4) (u := 5) rfl _ _ w.heap.size Lb.zero rfl (H3.out.2.1.lay _ _ _ _ rfl)) rfl ⟨rfl, lay_below H3.out.1 (Nat.le_refl _) _ _ _ _⟩
    · subst h1
      have HF : L = Lb.zero ∧ E = 4 := by have h := HP.out; rw [if_neg (fun h => h2 h.2.1)] at h; exact ⟨congrArg Prod.fst h, congrArg Prod.snd h⟩
      obtain ⟨rfl, rfl⟩ := HF
      clear HP
      go_wp2
      exact bodyPost_ret (v := .tuple #[Lb.zero.v, .int .i64 4]) (res_lb (p := 4) (u := 5) rfl _ _ w.heap.size Lb.zero rfl (H3.out.2.1.lay _ _ _ _ rfl)) rfl ⟨rfl, lay_below H3.out.1 (Nat.le_refl _) _ _ _ _⟩
  · have HF : L = Lb.zero ∧ E = 4 := by have h := HP.out; rw [if_neg (fun h => h1 h.1)] at h; exact ⟨congrArg Prod.fst h, congrArg Prod.snd h⟩
    obtain ⟨rfl, rfl⟩ := HF
    clear HP
    go_wp2
    exact bodyPost_ret (v := .tuple #[Lb.zero.v, .int .i64 4]) (res_lb (p := 4) (u := 5) rfl _ _ w.heap.size Lb.zero rfl (H3.out.2.1.lay _ _ _ _ rfl)) rfl ⟨rfl, lay_below H3.out.1 (Nat.le_refl _) _ _ _ _⟩
end Go.Proofs.Ythkjodlddhdeiaa.label
