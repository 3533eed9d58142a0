/- The walk of label.Parse. -/
import Derived.Test.YthkjodlddhdeiaaLab
namespace Go.Proofs.Ythkjodlddhdeiaa.label
open Go.ChangeShapes Go.WideShapes Go.ChangeAt Go.RowKit
open Ythkjodlddhdeiaa.base Ythkjodlddhdeiaa.disk
open Ythkjodlddhdeiaa.oct (num text takeText num_walk text_walk num_len takeText_walk take_ways takeText_len)

def parseOf (turn : Int) (a b : Int × List UInt8 × Int) (c : List UInt8 × List UInt8 × Int) : Lb × Int :=
  if a.2.2 = 0 ∧ b.2.2 = 0 ∧ c.2.2 = 0 ∧ c.2.1 = [] ∧ rightL ⟨turn, a.1, b.1, ⟨c.1.toArray⟩⟩ = true then (⟨turn, a.1, b.1, ⟨c.1.toArray⟩⟩, 0) else (Lb.zero, 4)
def parseL (turn : Int) (s : List UInt8) : Lb × Int :=
  parseOf turn (Ythkjodlddhdeiaa.oct.take s) (Ythkjodlddhdeiaa.oct.take (Ythkjodlddhdeiaa.oct.take s).2.1) (takeText (Ythkjodlddhdeiaa.oct.take (Ythkjodlddhdeiaa.oct.take s).2.1).2.1 400)

theorem take_small (s : List UInt8) : (Ythkjodlddhdeiaa.oct.take s).2.1.length ≤ s.length := by
  rcases take_ways s with h | h | ⟨n, r, h, _, _, hl⟩ <;> rw [h] <;> simp <;> omega
theorem takeText_small (s : List UInt8) (m : Int) : (takeText s m).1.length ≤ s.length := by
  have h0 := take_small s
  unfold takeText
  generalize Ythkjodlddhdeiaa.oct.take s = x at h0 ⊢
  obtain ⟨n, r, e⟩ := x
  simp only at h0 ⊢
  by_cases h1 : e ≠ 0
  · rw [if_pos h1]; simp
  · rw [if_neg h1]
    by_cases h2 : n < 0
    · rw [if_pos h2]; simp
    · rw [if_neg h2]
      by_cases h3 : m < n
      · rw [if_pos h3]; simp
      · rw [if_neg h3]
        by_cases h4 : (r.length : Int) < n
        · rw [if_pos h4]; simp
        · rw [if_neg h4]; simp only [List.length_take]; omega

set_option maxRecDepth 100000 in
set_option maxHeartbeats 1600000 in
theorem parse_walk (turn : Int) (s : ByteArray) (hs : s.size ≤ maxLen) (w : World) : Calls Try.prog 47 #[.int .i64 turn, .string s] w fun e w' =>
    e = .returned (.tuple #[(parseL turn s.data.toList).1.v, .int .i64 (parseL turn s.data.toList).2]) ∧ Below w.heap.size w w' := by
  have k1 := take_small s.data.toList
  have c1 := fun u : World => Ythkjodlddhdeiaa.oct.take_walk s hs u
  have hP : parseL turn s.data.toList = parseOf turn (Ythkjodlddhdeiaa.oct.take s.data.toList) (Ythkjodlddhdeiaa.oct.take (Ythkjodlddhdeiaa.oct.take s.data.toList).2.1) (takeText (Ythkjodlddhdeiaa.oct.take (Ythkjodlddhdeiaa.oct.take s.data.toList).2.1).2.1 400) := rfl
  have hl : s.data.toList.length = s.size := by simp
  rw [hl] at k1
  generalize Ythkjodlddhdeiaa.oct.take s.data.toList = A at k1 c1 hP
  obtain ⟨n1, r1, e1⟩ := A
  simp only at k1 c1 hP
  have k2 := take_small r1
  have c2 := fun u : World => Ythkjodlddhdeiaa.oct.take_walk ⟨r1.toArray⟩ (by rw [size_mk]; omega) u
  simp only at c2
  generalize Ythkjodlddhdeiaa.oct.take r1 = A at k2 c2 hP
  obtain ⟨n2, r2, e2⟩ := A
  simp only at k2 c2 hP
  have k3 := takeText_small r2 400
  have c3 := fun u : World => takeText_walk ⟨r2.toArray⟩ 400 (by rw [size_mk]; omega) u
  simp only at c3
  generalize takeText r2 400 = A at k3 c3 hP
  obtain ⟨t3, r3, e3⟩ := A
  simp only at k3 c3 hP
  have c4 := fun u : World => right_walk ⟨turn, n1, n2, ⟨t3.toArray⟩⟩ (by show (ByteArray.mk t3.toArray).size ≤ maxLen; rw [size_mk]; omega) u
  unfold parseOf at hP
  simp only at hP
  generalize parseL turn s.data.toList = PL at hP ⊢
  obtain ⟨L, E⟩ := PL
  simp only
  generalize hR : rightL ⟨turn, n1, n2, ⟨t3.toArray⟩⟩ = r at c4 hP
  clear hR
  have HC := Ythkjodlddhdeiaa.base.Shut.mk (And.intro c1 (And.intro c2 (And.intro c3 c4)))
  have HP := Ythkjodlddhdeiaa.base.Shut.mk hP
  have ht3 : t3.length ≤ 9223372036854775807 := by unfold maxLen at hs; omega
  have hr3 : r3 = [] ∨ ∃ c l, r3 = c :: l := by cases r3 <;> simp
  clear c1 c2 c3 c4 hP k1 k2 k3 hl hs
  have HV := Ythkjodlddhdeiaa.base.Shut.mk (show ∃ V, (w.alloc (.cells #[.int .i64 0, .int .i64 0, .int .i64 0, .string ⟨#[]⟩] 81)).alloc (.cells #[.int .i64 turn, .int .i64 0, .int .i64 0, .string ⟨#[]⟩] 81) = V ∧ Below w.heap.size w V ∧
      Row V w.heap.size #[.int .i64 0, .int .i64 0, .int .i64 0, .string ⟨#[]⟩] 81 ∧ Row V (w.heap.size + 1) #[.int .i64 turn, .int .i64 0, .int .i64 0, .string ⟨#[]⟩] 81 from by
    refine ⟨_, rfl, newer (newer (same w) _) _, (Row.new _ _ _).alloc _, ?_⟩
    have h := Row.new (w.alloc (.cells #[.int .i64 0, .int .i64 0, .int .i64 0, .string ⟨#[]⟩] 81)) #[.int .i64 turn, .int .i64 0, .int .i64 0, .string ⟨#[]⟩] 81
    rwa [World.size_alloc] at h)
  go_enter Try.func47, Try.ntmps47
  go_wp2_with fail
  refine (HC.out.1 _).mono ?_
  rintro e w1 ⟨rfl, hb1⟩
  obtain ⟨V, hV, HV⟩ := HV.out
  rw [hV] at hb1
  replace HV := Ythkjodlddhdeiaa.base.Shut.mk HV
  have z1 : w1.cell? ⟨w.heap.size + 1, 1, none⟩ = some (.int .i64 0) := (HV.out.2.2.below hb1).cell 1
  have g1 := (HV.out.2.2.below hb1).frozen 1
  obtain ⟨V1, hV1⟩ : ∃ V1, w1.setCell ⟨w.heap.size + 1, 1, none⟩ (.int .i64 n1) = V1 := ⟨_, rfl⟩
  have H1 := Ythkjodlddhdeiaa.base.Shut.mk (show Below w.heap.size w V1 ∧ Row V1 w.heap.size #[.int .i64 0, .int .i64 0, .int .i64 0, .string ⟨#[]⟩] 81 ∧ Row V1 (w.heap.size + 1) #[.int .i64 turn, .int .i64 n1, .int .i64 0, .string ⟨#[]⟩] 81 by
    subst hV1
    exact ⟨(chain HV.out.1 hb1).setCell (p := ⟨w.heap.size + 1, 1, none⟩) (Nat.le_succ _) _, (HV.out.2.1.below hb1).other _ _ _ (by omega), (HV.out.2.2.below hb1).set 1 _⟩)
  clear hb1 HV hV
  go_wp2_with fail
  refine (HC.out.2.1 _).mono ?_
  rintro e w2 ⟨rfl, hb2⟩
  have z2 : w2.cell? ⟨w.heap.size + 1, 2, none⟩ = some (.int .i64 0) := (H1.out.2.2.below hb2).cell 2
  have g2 := (H1.out.2.2.below hb2).frozen 2
  obtain ⟨V2, hV2⟩ : ∃ V2, w2.setCell ⟨w.heap.size + 1, 2, none⟩ (.int .i64 n2) = V2 := ⟨_, rfl⟩
  have H2 := Ythkjodlddhdeiaa.base.Shut.mk (show Below w.heap.size w V2 ∧ Row V2 w.heap.size #[.int .i64 0, .int .i64 0, .int .i64 0, .string ⟨#[]⟩] 81 ∧ Row V2 (w.heap.size + 1) #[.int .i64 turn, .int .i64 n1, .int .i64 n2, .string ⟨#[]⟩] 81 by
    subst hV2
    exact ⟨(chain H1.out.1 hb2).setCell (p := ⟨w.heap.size + 1, 2, none⟩) (Nat.le_succ _) _, (H1.out.2.1.below hb2).other _ _ _ (by omega), (H1.out.2.2.below hb2).set 2 _⟩)
  clear hb2 H1 hV1 z1 g1
  go_wp2_with fail
  refine (HC.out.2.2.1 _).mono ?_
  rintro e w3 ⟨rfl, hb3⟩
  have z3 : w3.cell? ⟨w.heap.size + 1, 3, none⟩ = some (.string ⟨#[]⟩) := (H2.out.2.2.below hb3).cell 3
  have g3 := (H2.out.2.2.below hb3).frozen 3
  obtain ⟨V3, hV3⟩ : ∃ V3, w3.setCell ⟨w.heap.size + 1, 3, none⟩ (.string ⟨t3.toArray⟩) = V3 := ⟨_, rfl⟩
  have H3 := Ythkjodlddhdeiaa.base.Shut.mk (show Below w.heap.size w V3 ∧ Row V3 w.heap.size #[.int .i64 0, .int .i64 0, .int .i64 0, .string ⟨#[]⟩] 81 ∧ Row V3 (w.heap.size + 1) #[.int .i64 turn, .int .i64 n1, .int .i64 n2, .string ⟨t3.toArray⟩] 81 by
    subst hV3
    exact ⟨(chain H2.out.1 hb3).setCell (p := ⟨w.heap.size + 1, 3, none⟩) (Nat.le_succ _) _, (H2.out.2.1.below hb3).other _ _ _ (by omega), (H2.out.2.2.below hb3).set 3 _⟩)
  clear hb3 H2 hV2 z2 g2
  have a0 : V3.cell? ⟨w.heap.size + 1, 0, none⟩ = some (.int .i64 turn) := H3.out.2.2.cell 0
  have a1 : V3.cell? ⟨w.heap.size + 1, 1, none⟩ = some (.int .i64 n1) := H3.out.2.2.cell 1
  have a2 : V3.cell? ⟨w.heap.size + 1, 2, none⟩ = some (.int .i64 n2) := H3.out.2.2.cell 2
  have a3 : V3.cell? ⟨w.heap.size + 1, 3, none⟩ = some (.string ⟨t3.toArray⟩) := H3.out.2.2.cell 3
  have b0 : V3.cell? ⟨w.heap.size, 0, none⟩ = some (.int .i64 0) := H3.out.2.1.cell 0
  have b1 : V3.cell? ⟨w.heap.size, 1, none⟩ = some (.int .i64 0) := H3.out.2.1.cell 1
  have b2 : V3.cell? ⟨w.heap.size, 2, none⟩ = some (.int .i64 0) := H3.out.2.1.cell 2
  have b3 : V3.cell? ⟨w.heap.size, 3, none⟩ = some (.string ⟨#[]⟩) := H3.out.2.1.cell 3
  have d0 := H3.out.2.1.frozen 0
  have d1 := H3.out.2.1.frozen 1
  have d2 := H3.out.2.1.frozen 2
  have d3 := H3.out.2.1.frozen 3
  by_cases h1 : e1 = 0
  · by_cases h2 : e2 = 0
    · by_cases h3 : e3 = 0
      · rcases hr3 with rfl | ⟨c, l, rfl⟩
        · subst h1 h2 h3
          cases r with
          | false =>
            have HF : L = Lb.zero ∧ E = 4 := by have h := HP.out; rw [if_neg (fun h => Bool.noConfusion h.2.2.2.2)] at h; exact ⟨congrArg Prod.fst h, congrArg Prod.snd h⟩
            obtain ⟨rfl, rfl⟩ := HF
            clear HP
            go_wp2_with fail
            refine (HC.out.2.2.2 _).mono ?_
            rintro e w4 ⟨rfl, hb4⟩
            have i0 : w4.cell? ⟨w.heap.size, 0, none⟩ = some (.int .i64 0) := (H3.out.2.1.below hb4).cell 0
            have j0 := (H3.out.2.1.below hb4).frozen 0
            have i1 : w4.cell? ⟨w.heap.size, 1, none⟩ = some (.int .i64 0) := (H3.out.2.1.below hb4).cell 1
            have j1 := (H3.out.2.1.below hb4).frozen 1
            have i2 : w4.cell? ⟨w.heap.size, 2, none⟩ = some (.int .i64 0) := (H3.out.2.1.below hb4).cell 2
            have j2 := (H3.out.2.1.below hb4).frozen 2
            have i3 : w4.cell? ⟨w.heap.size, 3, none⟩ = some (.string ⟨#[]⟩) := (H3.out.2.1.below hb4).cell 3
            have j3 := (H3.out.2.1.below hb4).frozen 3
            have H4 := Ythkjodlddhdeiaa.base.Shut.mk (And.intro (chain H3.out.1 hb4) (H3.out.2.1.below hb4))
            clear hb4
            go_wp2
            exact bodyPost_ret (v := .tuple #[Lb.zero.v, .int .i64 4]) (res_lb (p := 4) (u := 5) rfl _ _ w.heap.size Lb.zero rfl (H4.out.2.lay _ _ _ _ rfl)) rfl ⟨rfl, lay_below H4.out.1 (Nat.le_refl _) _ _ _ _⟩
          | true =>
            have HF : L = ⟨turn, n1, n2, ⟨t3.toArray⟩⟩ ∧ E = 0 := by have h := HP.out; rw [if_pos ⟨rfl, rfl, rfl, rfl, rfl⟩] at h; exact ⟨congrArg Prod.fst h, congrArg Prod.snd h⟩
            obtain ⟨rfl, rfl⟩ := HF
            clear HP
            go_wp2_with fail
            refine (HC.out.2.2.2 _).mono ?_
            rintro e w4 ⟨rfl, hb4⟩
            have i0 : w4.cell? ⟨w.heap.size, 0, none⟩ = some (.int .i64 0) := (H3.out.2.1.below hb4).cell 0
            have j0 := (H3.out.2.1.below hb4).frozen 0
            have i1 : w4.cell? ⟨w.heap.size, 1, none⟩ = some (.int .i64 0) := (H3.out.2.1.below hb4).cell 1
            have j1 := (H3.out.2.1.below hb4).frozen 1
            have i2 : w4.cell? ⟨w.heap.size, 2, none⟩ = some (.int .i64 0) := (H3.out.2.1.below hb4).cell 2
            have j2 := (H3.out.2.1.below hb4).frozen 2
            have i3 : w4.cell? ⟨w.heap.size, 3, none⟩ = some (.string ⟨#[]⟩) := (H3.out.2.1.below hb4).cell 3
            have j3 := (H3.out.2.1.below hb4).frozen 3
            have m0 : w4.cell? ⟨w.heap.size + 1, 0, none⟩ = some (.int .i64 turn) := (H3.out.2.2.below hb4).cell 0
            have m1 : w4.cell? ⟨w.heap.size + 1, 1, none⟩ = some (.int .i64 n1) := (H3.out.2.2.below hb4).cell 1
            have m2 : w4.cell? ⟨w.heap.size + 1, 2, none⟩ = some (.int .i64 n2) := (H3.out.2.2.below hb4).cell 2
            have m3 : w4.cell? ⟨w.heap.size + 1, 3, none⟩ = some (.string ⟨t3.toArray⟩) := (H3.out.2.2.below hb4).cell 3
            have H4 := Ythkjodlddhdeiaa.base.Shut.mk (And.intro (chain H3.out.1 hb4) (H3.out.2.1.below hb4))
            clear hb4
            go_wp2
            exact bodyPost_ret (v := .tuple #[Lb.v ⟨turn, n1, n2, ⟨t3.toArray⟩⟩, .int .i64 0]) (res_lb (p := 4) (u := 5) rfl _ _ w.heap.size ⟨turn, n1, n2, ⟨t3.toArray⟩⟩ rfl (H4.out.2.lay _ _ _ _ rfl)) rfl ⟨rfl, lay_below H4.out.1 (Nat.le_refl _) _ _ _ _⟩
        · have hne : ¬ (ByteArray.mk (c :: l).toArray = ⟨#[]⟩) := fun h => by have := congrArg ByteArray.size h; simp [ByteArray.size] at this
          subst h1 h2 h3
          have HF : L = Lb.zero ∧ E = 4 := by have h := HP.out; rw [if_neg (fun h => by cases h.2.2.2.1)] at h; exact ⟨congrArg Prod.fst h, congrArg Prod.snd h⟩
          obtain ⟨rfl, rfl⟩ := HF
          clear HP
          go_wp2
          exact bodyPost_ret (v := .tuple #[Lb.zero.v, .int .i64 4]) (res_lb (p := 4) (u := 5) rfl _ _ w.heap.size Lb.zero rfl (H3.out.2.1.lay _ _ _ _ rfl)) rfl ⟨rfl, lay_below H3.out.1 (Nat.le_refl _) _ _ _ _⟩
      · subst h1 h2
        have HF : L = Lb.zero ∧ E = 4 := by have h := HP.out; rw [if_neg (fun h => h3 h.2.2.1)] at h; exact ⟨congrArg Prod.fst h, congrArg Prod.snd h⟩
        obtain ⟨rfl, rfl⟩ := HF
        clear HP
        go_wp2
        exact bodyPost_ret (v := .tuple #[Lb.zero.v, .int .i64 4]) (res_lb (p := 4) (u := 5) rfl _ _ w.heap.size Lb.zero rfl (H3.out.2.1.lay _ _ _ _ rfl)) rfl ⟨rfl, lay_below H3.out.1 (Nat.le_refl _) _ _ _ _⟩
    · subst h1
      have HF : L = Lb.zero ∧ E = 4 := by have h := HP.out; rw [if_neg (fun h => h2 h.2.1)] at h; exact ⟨congrArg Prod.fst h, congrArg Prod.snd h⟩
      obtain ⟨rfl, rfl⟩ := HF
      clear HP
      go_wp2
      exact bodyPost_ret (v := .tuple #[Lb.zero.v, .int .i64 4]) (res_lb (p := 4) (u := 5) rfl _ _ w.heap.size Lb.zero rfl (H3.out.2.1.lay _ _ _ _ rfl)) rfl ⟨rfl, lay_below H3.out.1 (Nat.le_refl _) _ _ _ _⟩
  · have HF : L = Lb.zero ∧ E = 4 := by have h := HP.out; rw [if_neg (fun h => h1 h.1)] at h; exact ⟨congrArg Prod.fst h, congrArg Prod.snd h⟩
    obtain ⟨rfl, rfl⟩ := HF
    clear HP
    go_wp2
    exact bodyPost_ret (v := .tuple #[Lb.zero.v, .int .i64 4]) (res_lb (p := 4) (u := 5) rfl _ _ w.heap.size Lb.zero rfl (H3.out.2.1.lay _ _ _ _ rfl)) rfl ⟨rfl, lay_below H3.out.1 (Nat.le_refl _) _ _ _ _⟩
end Go.Proofs.Ythkjodlddhdeiaa.label
