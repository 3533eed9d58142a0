/- The walk of NodeBack. -/
import Derived.Test.YtobdfocfkomagaaNodeTakes
import Derived.Test.YtobdfocfkomagaaNodeSmall
namespace Go.Proofs.Ytobdfocfkomagaa.node
open Go.ChangeShapes Go.WideShapes Go.ChangeAt Go.RowKit
open Ytobdfocfkomagaa.base (size_mk chain newer drewn same ba_ext)

/-- the second half of the law: a page is taken, and put -/
structure Tail (w : World) (page : ByteArray) : Prop where
  take : ∀ u : World, Calls Try.prog 40 #[.string page] u (Taken u (takeN 160 page.data.toList))
set_option maxRecDepth 100000 in
set_option maxHeartbeats 3200000 in
theorem nodeBack_walk (leaf : Bool) (A : Option Addr) (n c : Nat) (ps : PL) (hn : ps.length = n) (page : ByteArray) (w : World) (hr : PReads w A ps) :
    Calls Try.prog 11 #[nv leaf A n c, .string page] w fun e w' => e = .returned (.bool true) ∧ Below w.heap.size w w' := by
  have hb := newer (same w) (.cells #[.bool leaf, .slice A n c] 49)
  have hx := Row.new w #[.bool leaf, .slice A n c] 49
  obtain ⟨q, hq⟩ : ∃ q, w.heap.size = q := ⟨_, rfl⟩
  obtain ⟨V, hV⟩ : ∃ V, w.alloc (.cells #[.bool leaf, .slice A n c] 49) = V := ⟨_, rfl⟩
  rw [hV, hq] at hx
  rw [hV] at hb
  obtain ⟨x0, x1⟩ := row_two' hx
  have hrV := hr.keep hb
  have hsm := small_walk leaf A n c ps hn V hrV
  have HB := Ytobdfocfkomagaa.base.Shut.mk (And.intro hb hx)
  cases hS : smallB ps with
  | false =>
    rw [hS] at hsm
    have H := Ytobdfocfkomagaa.base.Shut.mk hsm
    clear hsm hb hx hr hrV hn hS
    go_enter Try.func11, Try.ntmps11
    go_wp2_with fail
    refine H.out.mono ?_
    rintro e w1 ⟨rfl, hb1⟩
    have H1 := Ytobdfocfkomagaa.base.Shut.mk (chain HB.out.1 hb1)
    clear hb1
    go_wp2_with fail
    refine (lives_walk _).mono ?_
    rintro e w2 ⟨rfl, hb2⟩
    have H2 := Ytobdfocfkomagaa.base.Shut.mk (chain H1.out hb2)
    clear hb2
    go_wp2
    go_ret
    exact ⟨rfl, H2.out⟩
  | true =>
    rw [hS] at hsm
    by_cases h1000 : 1000 < page.size
    · have h1000' : (1000 : Int) < page.size := by omega
      have H := Ytobdfocfkomagaa.base.Shut.mk hsm
      clear hsm hb hx hr hrV hn hS h1000
      go_enter Try.func11, Try.ntmps11
      go_wp2_with fail
      refine H.out.mono ?_
      rintro e w1 ⟨rfl, hb1⟩
      have H1 := Ytobdfocfkomagaa.base.Shut.mk (chain HB.out.1 hb1)
      clear hb1
      go_wp2_with fail
      refine (lives_walk _).mono ?_
      rintro e w2 ⟨rfl, hb2⟩
      have H2 := Ytobdfocfkomagaa.base.Shut.mk (chain H1.out hb2)
      clear hb2
      go_wp2
      go_ret
      exact ⟨rfl, H2.out⟩
    · have h1000' : ¬ (1000 : Int) < page.size := by omega
      have hs := small_nice hS
      have hn2 : n ≤ 1000 := by rw [← hn]; exact hs.len
      have hpu := fun (u : World) (hu : Below V.heap.size V u) => put_walk leaf A n c ps hn hs u (hrV.keep hu)
      have htk := fun u : World => take_walk page (by omega) u
      have hlen := take_len page.data.toList
      have hsm2 := fun (B : Option Addr) (m d : Nat) (hm : ps.length = m) (u : World) (h1 : PReads u B ps) (h2 : PReads u A ps) => same_walk leaf leaf B A m d n c ps ps hm hn (by omega) u h1 h2
      simp only [same_refl] at hsm2
      have H := Ytobdfocfkomagaa.base.Shut.mk (And.intro hsm (And.intro htk (And.intro hsm2 (And.intro hpu (And.intro hrV (And.intro hlen hn2))))))
      have HC : Ytobdfocfkomagaa.base.Shut (checkN ⟨leaf, ps⟩ = 0 → (putN ⟨leaf, ps⟩).2 = 0 ∧ (putN ⟨leaf, ps⟩).1.length = 480 ∧ ∀ u : World, Calls Try.prog 40 #[.string ⟨(putN ⟨leaf, ps⟩).1.toArray⟩] u (Taken u (⟨leaf, ps⟩, 0))) := ⟨fun h => by
        obtain ⟨e1, e2, _⟩ := put_ok h
        have el : (putN ⟨leaf, ps⟩).1.length = 480 := by rw [e1]; simp only; rw [List.length_append, text_len, List.length_replicate]; omega
        refine ⟨by rw [e1], el, fun u => ?_⟩
        have := take_walk ⟨(putN ⟨leaf, ps⟩).1.toArray⟩ (by rw [size_mk]; omega) u
        rw [show (ByteArray.mk (putN ⟨leaf, ps⟩).1.toArray).data.toList = (putN ⟨leaf, ps⟩).1 by simp, put_take h] at this
        exact this⟩
      have HD : Ytobdfocfkomagaa.base.Shut (checkN ⟨leaf, ps⟩ ≠ 0 → (putN ⟨leaf, ps⟩).2 ≠ 0) := ⟨fun h => by rw [put_bad h]; exact h⟩
      clear hsm hb hx hr hrV hS h1000 hpu htk hlen hs hsm2
      have hmain : ∃ w0, Below w.heap.size w w0 ∧ True := ⟨w, same w, trivial⟩
      clear hmain
      go_enter Try.func11, Try.ntmps11
      go_wp2_with fail
      refine H.out.1.mono ?_
      rintro e w1 ⟨rfl, hb1⟩
      have H1 := Ytobdfocfkomagaa.base.Shut.mk hb1
      obtain ⟨y0, y1⟩ := row_two' (HB.out.2.below hb1)
      clear hb1 x0 x1
      go_wp2_with fail
      refine (H.out.2.2.2.1 _ H1.out).mono ?_
      rintro e w2 ⟨rfl, hb2⟩
      have H2 := Ytobdfocfkomagaa.base.Shut.mk (chain H1.out hb2)
      obtain ⟨z0, z1⟩ := row_two' (HB.out.2.below (chain H1.out hb2))
      clear hb2 y0 y1
      by_cases hC : checkN ⟨leaf, ps⟩ = 0
      · obtain ⟨k1, k2, k3⟩ := HC.out hC
        rw [k1]
        have hl2 : (ByteArray.mk (putN ⟨leaf, ps⟩).1.toArray).size = 480 := by rw [size_mk]; exact k2
        have HK := Ytobdfocfkomagaa.base.Shut.mk k3
        clear k1 k2 k3 HC HD hC
        generalize ByteArray.mk (putN ⟨leaf, ps⟩).1.toArray = PG at HK hl2 ⊢
        go_wp2_with fail
        refine (HK.out _).mono ?_
        rintro e w3 ⟨A3, n3, c3, rfl, hn3, hr3, hb3⟩
        simp only at hn3 hr3
        have hz3 := newer (same w3) (.cells #[.bool leaf, .slice A3 n3 c3] 49)
        obtain ⟨v0, v1⟩ := row_two' (HB.out.2.below (chain H2.out (chain hb3 hz3)))
        have H3 := Ytobdfocfkomagaa.base.Shut.mk (And.intro (chain H2.out (chain hb3 hz3)) (H.out.2.2.1 A3 n3 c3 hn3 _ (hr3.keep hz3) (H.out.2.2.2.2.1.keep (chain H2.out (chain hb3 hz3)))))
        clear hr3 hn3 hb3 hz3 z0 z1
        go_wp2_with fail
        refine H3.out.2.mono ?_
        rintro e w4 ⟨rfl, hb4⟩
        have H4 := Ytobdfocfkomagaa.base.Shut.mk (chain H3.out.1 hb4)
        obtain ⟨z0, z1⟩ := row_two' (HB.out.2.below (chain H3.out.1 hb4))
        clear hb4 v0 v1
        go_wp2_with fail
        have htk := H.out.2.1
        rcases take_ways page.data.toList with hT | ⟨m, hT⟩
        · rw [hT] at htk
          refine (htk _).mono ?_
          rintro e w5 ⟨A5, n5, c5, rfl, hn5, hr5, hb5⟩
          simp only [zeroN] at hn5 hr5
          obtain rfl : n5 = 0 := by simpa using hn5.symm
          have hz5 := newer (same w5) (.cells #[.bool false, .slice A5 0 c5] 49)
          have hsm := same_walk false false A5 none 0 c5 0 0 [] [] rfl rfl (by decide) (w5.alloc (.cells #[.bool false, .slice A5 0 c5] 49)) (fun h => absurd rfl h) (fun h => absurd rfl h)
          rw [same_refl] at hsm
          have H5 := Ytobdfocfkomagaa.base.Shut.mk (And.intro hsm (chain (chain H4.out hb5) hz5))
          clear hn5 hr5 hb5 hz5 hsm z0 z1 htk hT
          simp only [zeroN]
          go_wp2_with fail
          refine H5.out.1.mono ?_
          rintro e w6 ⟨rfl, hb6⟩
          have H6 := Ytobdfocfkomagaa.base.Shut.mk (chain H5.out.2 hb6)
          clear hb6
          go_wp2_with fail
          refine (lives_walk _).mono ?_
          rintro e w7 ⟨rfl, hb7⟩
          have H7 := Ytobdfocfkomagaa.base.Shut.mk (chain HB.out.1 (chain H6.out hb7))
          clear hb7
          go_wp2
          go_ret
          exact ⟨rfl, H7.out⟩
        · rw [hT] at htk
          have hP := take_put hT
          have hC := put_check hP
          have hN := (right_nice hC).1
          obtain ⟨l2, qs⟩ := m
          refine (htk _).mono ?_
          rintro e w5 ⟨A5, n5, c5, rfl, hn5, hr5, hb5⟩
          simp only at hn5 hr5 hN
          have hz5 := newer (same w5) (.cells #[.bool l2, .slice A5 n5 c5] 49)
          have hpu := put_walk l2 A5 n5 c5 qs hn5 hN (w5.alloc (.cells #[.bool l2, .slice A5 n5 c5] 49)) (hr5.keep hz5)
          have hrow := Row.new w5 #[.bool l2, .slice A5 n5 c5] 49
          have hck := fun (u : World) (hu : Below (w5.alloc (.cells #[.bool l2, .slice A5 n5 c5] 49)).heap.size (w5.alloc (.cells #[.bool l2, .slice A5 n5 c5] 49)) u) => check_walk l2 A5 n5 c5 qs hn5 hN u ((hr5.keep hz5).keep hu)
          rw [hP, show (ByteArray.mk (page.data.toList, (0 : Int)).1.toArray) = page from mk_data page] at hpu
          rw [hC] at hck
          have H5 := Ytobdfocfkomagaa.base.Shut.mk (And.intro hpu (And.intro hck (And.intro hrow (chain (chain H4.out hb5) hz5))))
          clear hn5 hr5 hb5 hz5 hpu hck hrow z0 z1 htk hT hP hC hN
          go_wp2_with fail
          refine H5.out.1.mono ?_
          rintro e w6 ⟨rfl, hb6⟩
          obtain ⟨v0, v1⟩ := row_two' (H5.out.2.2.1.below hb6)
          have H6 := Ytobdfocfkomagaa.base.Shut.mk hb6
          clear hb6
          go_wp2_with fail
          refine (H5.out.2.1 _ H6.out).mono ?_
          rintro e w7 ⟨rfl, hb7⟩
          have H7 := Ytobdfocfkomagaa.base.Shut.mk (chain H5.out.2.2.2 (chain H6.out hb7))
          clear hb7 v0 v1
          go_wp2_with fail
          refine (lives_walk _).mono ?_
          rintro e w8 ⟨rfl, hb8⟩
          have H8 := Ytobdfocfkomagaa.base.Shut.mk (chain HB.out.1 (chain H7.out hb8))
          clear hb8
          go_wp2
          go_ret
          exact ⟨rfl, H8.out⟩
      · have k1 := HD.out hC
        clear hC HC HD
        generalize (putN ⟨leaf, ps⟩).2 = C at k1 ⊢
        go_wp2_with fail
        have htk := H.out.2.1
        rcases take_ways page.data.toList with hT | ⟨m, hT⟩
        · rw [hT] at htk
          refine (htk _).mono ?_
          rintro e w5 ⟨A5, n5, c5, rfl, hn5, hr5, hb5⟩
          simp only [zeroN] at hn5 hr5
          obtain rfl : n5 = 0 := by simpa using hn5.symm
          have hz5 := newer (same w5) (.cells #[.bool false, .slice A5 0 c5] 49)
          have hsm := same_walk false false A5 none 0 c5 0 0 [] [] rfl rfl (by decide) (w5.alloc (.cells #[.bool false, .slice A5 0 c5] 49)) (fun h => absurd rfl h) (fun h => absurd rfl h)
          rw [same_refl] at hsm
          have H5 := Ytobdfocfkomagaa.base.Shut.mk (And.intro hsm (chain (chain H2.out hb5) hz5))
          clear hn5 hr5 hb5 hz5 hsm z0 z1 htk hT
          simp only [zeroN]
          go_wp2_with fail
          refine H5.out.1.mono ?_
          rintro e w6 ⟨rfl, hb6⟩
          have H6 := Ytobdfocfkomagaa.base.Shut.mk (chain H5.out.2 hb6)
          clear hb6
          go_wp2_with fail
          refine (lives_walk _).mono ?_
          rintro e w7 ⟨rfl, hb7⟩
          have H7 := Ytobdfocfkomagaa.base.Shut.mk (chain HB.out.1 (chain H6.out hb7))
          clear hb7
          go_wp2
          go_ret
          exact ⟨rfl, H7.out⟩
        · rw [hT] at htk
          have hP := take_put hT
          have hC := put_check hP
          have hN := (right_nice hC).1
          obtain ⟨l2, qs⟩ := m
          refine (htk _).mono ?_
          rintro e w5 ⟨A5, n5, c5, rfl, hn5, hr5, hb5⟩
          simp only at hn5 hr5 hN
          have hz5 := newer (same w5) (.cells #[.bool l2, .slice A5 n5 c5] 49)
          have hpu := put_walk l2 A5 n5 c5 qs hn5 hN (w5.alloc (.cells #[.bool l2, .slice A5 n5 c5] 49)) (hr5.keep hz5)
          have hrow := Row.new w5 #[.bool l2, .slice A5 n5 c5] 49
          have hck := fun (u : World) (hu : Below (w5.alloc (.cells #[.bool l2, .slice A5 n5 c5] 49)).heap.size (w5.alloc (.cells #[.bool l2, .slice A5 n5 c5] 49)) u) => check_walk l2 A5 n5 c5 qs hn5 hN u ((hr5.keep hz5).keep hu)
          rw [hP, show (ByteArray.mk (page.data.toList, (0 : Int)).1.toArray) = page from mk_data page] at hpu
          rw [hC] at hck
          have H5 := Ytobdfocfkomagaa.base.Shut.mk (And.intro hpu (And.intro hck (And.intro hrow (chain (chain H2.out hb5) hz5))))
          clear hn5 hr5 hb5 hz5 hpu hck hrow z0 z1 htk hT hP hC hN
          go_wp2_with fail
          refine H5.out.1.mono ?_
          rintro e w6 ⟨rfl, hb6⟩
          obtain ⟨v0, v1⟩ := row_two' (H5.out.2.2.1.below hb6)
          have H6 := Ytobdfocfkomagaa.base.Shut.mk hb6
          clear hb6
          go_wp2_with fail
          refine (H5.out.2.1 _ H6.out).mono ?_
          rintro e w7 ⟨rfl, hb7⟩
          have H7 := Ytobdfocfkomagaa.base.Shut.mk (chain H5.out.2.2.2 (chain H6.out hb7))
          clear hb7 v0 v1
          go_wp2_with fail
          refine (lives_walk _).mono ?_
          rintro e w8 ⟨rfl, hb8⟩
          have H8 := Ytobdfocfkomagaa.base.Shut.mk (chain HB.out.1 (chain H7.out hb8))
          clear hb8
          go_wp2
          go_ret
          exact ⟨rfl, H8.out⟩
end Go.Proofs.Ytobdfocfkomagaa.node
