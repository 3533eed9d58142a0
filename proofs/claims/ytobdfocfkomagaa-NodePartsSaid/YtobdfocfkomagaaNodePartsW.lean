/- The walk of node.Parts. -/
import Derived.Test.YtobdfocfkomagaaNodePartsB
import Derived.Test.YtobdfocfkomagaaNodeRight
namespace Go.Proofs.Ytobdfocfkomagaa.node
open Go.ChangeShapes Go.WideShapes Go.ChangeAt Go.RowKit
open Ytobdfocfkomagaa.base (size_mk chain newer drewn same ba_ext)

/-- a stretch of the pairs -/
theorem PReads.seg {w : World} {b off : Nat} {ps : PL} (h : PReads w (some ⟨b, off, none⟩) ps) (f k : Nat) : PReads w (some ⟨b, off + f * 2, none⟩) ((ps.take k).drop f) := by
  intro hne
  have hps : ps ≠ [] := by intro e; rw [e] at hne; simp at hne
  obtain ⟨b', off', hA, hlt, hc⟩ := h hps
  cases hA
  refine ⟨b, off + f * 2, rfl, hlt, fun i p hi => ?_⟩
  rw [List.getElem?_drop, List.getElem?_take] at hi
  split at hi
  · have := hc (f + i) p hi
    rw [show off + (f + i) * 2 = off + f * 2 + i * 2 by omega] at this
    exact this
  · cases hi
/-- what Parts tells of a right node -/
def Parted (w : World) (leaf : Bool) (ps : PL) (e : Ending) (w' : World) : Prop := ∃ P o cap, EvenOf (cutP 478 ps [] 0 []) P ∧ e = .returned (sv o P.length cap) ∧ NReads w' (some ⟨o, 0, none⟩) leaf P ∧ Below w.heap.size w w'
theorem wide_right {leaf : Bool} {ps : PL} (h : rightN ⟨leaf, ps⟩ = true) {k : Nat} (hk : k < ps.length) : wideP (at0 ps k) ≤ 212 ∧ (at0 ps k).1.size ≤ 300 ∧ (at0 ps k).2.size ≤ 600 := by
  have := right_fits h (at0 ps k) (by rw [at0_get (List.getElem?_eq_getElem hk)]; exact List.getElem_mem hk)
  have h2 := wide_le (x := at0 ps k) ⟨this.2.1, this.2.2⟩
  omega
/-- how it stands between two pairs -/
structure CutAt (V wr : World) (leaf : Bool) (ps : PL) (v : Value) (k fr : Nat) (D : List Pt) (now : PL) : Prop where
  parts : PartsAt V wr leaf v D
  now_ : now = (ps.take k).drop fr
  cut : cutP 478 ps [] 0 [] = cutP 478 (ps.drop k) now (sumW now) (D.map (·.p))
  fit : sumW now ≤ 478
  few : D.length ≤ k
  some_ : k = 0 ∨ fr < k
def shutP (ats : Array TypeId) (ty : TypeId) (args : Array Value) : Sem Value := Builtin.append_ ats ty args
theorem p_shut (ats : Array TypeId) (ty : TypeId) (args : Array Value) : Builtin.append_ ats ty args = shutP ats ty args := rfl
attribute [local go_sem ↓] p_shut
set_option maxRecDepth 100000 in
set_option maxHeartbeats 3200000 in
theorem parts_walk (leaf : Bool) (A : Option Addr) (n c : Nat) (ps : PL) (hn : ps.length = n) (hnc : n ≤ c) (h60 : n ≤ 60) (hrt : rightN ⟨leaf, ps⟩ = true) (w : World) (hr : PReads w A ps) :
    Calls Try.prog 27 #[nv leaf A n c] w (Parted w leaf ps) := by
  have hn0 : 0 < n := by rw [← hn]; exact (right_of hrt).1
  have hs : Nice ps := ⟨by omega, fun k => by
    by_cases hk : k < ps.length
    · have := (wide_right hrt hk).2; omega
    · unfold at0; rw [List.getD_eq_getElem?_getD, List.getElem?_eq_none (by omega)]; simp [ByteArray.size]⟩
  obtain ⟨b, off, rfl, -, -⟩ := hr (by intro e; rw [e] at hn; simp at hn; omega)
  have hb := newer (same w) (.cells #[.bool leaf, .slice (some ⟨b, off, none⟩) n c] 49)
  have hx := Row.new w #[.bool leaf, .slice (some ⟨b, off, none⟩) n c] 49
  obtain ⟨q, hq⟩ : ∃ q, w.heap.size = q := ⟨_, rfl⟩
  obtain ⟨V, hV⟩ : ∃ V, w.alloc (.cells #[.bool leaf, .slice (some ⟨b, off, none⟩) n c] 49) = V := ⟨_, rfl⟩
  rw [hV, hq] at hx
  rw [hV] at hb
  have x0 : V.cell? ⟨q, 0, none⟩ = some (.bool leaf) := hx.cell 0
  have x1 : V.cell? ⟨q, 1, none⟩ = some (.slice (some ⟨b, off, none⟩) n c) := hx.cell 1
  have hrV := hr.keep hb
  have h1 := right_walk leaf (some ⟨b, off, none⟩) n c ps hn hs V hrV
  rw [hrt] at h1
  have h2 := fun u : World => head_walk leaf (some ⟨b, off, none⟩) n c n (by omega) u
  have h2l : (headL leaf n).length = 2 := head_two (by omega)
  have h3 : ∀ (k : Nat), k < n → ∀ u : World, Calls Try.prog 63 #[.agg #[.string (at0 ps k).1, .string (at0 ps k).2]] u fun e w' => e = .returned (.int .i64 (wideP (at0 ps k) : Int)) ∧ Below u.heap.size u w' := fun k hk u => wide_walk (at0 ps k) (hs.sizes k) u
  have h4 := fun (f k : Nat) (hfk : f < k) (hkn : k ≤ n) (u : World) (hu : Below V.heap.size V u) => clone_walk u b (off + f * 2) (k - f) (c - f) ((ps.take k).drop f) (by rw [List.length_drop, List.length_take]; omega) (by omega) (by omega) ((hrV.keep hu).seg f k)
  have h5 := fun (k : Nat) (hk : k < n) (u : World) (hu : Below V.heap.size V u) => (hrV.keep hu).at_ (k := k) (by omega)
  have h6 := fun (k : Nat) (hk : k < n) => wide_right hrt (k := k) (by omega)
  have H := Ytobdfocfkomagaa.base.Shut.mk (And.intro h1 (And.intro h2 (And.intro h2l (And.intro h3 (And.intro h4 (And.intro h5 (And.intro hb (And.intro hx (And.intro h6 (And.intro hn hrt))))))))))
  have hk0 : CutAt V V leaf ps (.slice none 0 0) 0 0 [] [] := ⟨PartsAt.start V leaf, by simp, rfl, Nat.zero_le _, Nat.zero_le _, .inl rfl⟩
  have HK0 := Ytobdfocfkomagaa.base.Shut.mk hk0
  clear h1 h2 h2l h3 h4 h5 h6 hb hx hr hrV hs hrt hk0 hn
  go_enter Try.func27, Try.ntmps27
  go_wp2_with fail
  refine H.out.1.mono ?_
  rintro e w1 ⟨rfl, hb1⟩
  have y0 : w1.cell? ⟨q, 0, none⟩ = some (.bool leaf) := (H.out.2.2.2.2.2.2.2.1.below hb1).cell 0
  have y1 : w1.cell? ⟨q, 1, none⟩ = some (.slice (some ⟨b, off, none⟩) n c) := (H.out.2.2.2.2.2.2.2.1.below hb1).cell 1
  have H1 := Ytobdfocfkomagaa.base.Shut.mk hb1
  clear hb1 x0 x1
  go_wp2_with fail
  refine (H.out.2.1 _).mono ?_
  rintro e w2 ⟨s, rfl, hs1, hb2⟩
  have hsz : s.size = 2 := by rw [hs1, size_mk, H.out.2.2.1]
  have hB2 := chain H1.out hb2
  have z0 : w2.cell? ⟨q, 0, none⟩ = some (.bool leaf) := (H.out.2.2.2.2.2.2.2.1.below hB2).cell 0
  have z1 : w2.cell? ⟨q, 1, none⟩ = some (.slice (some ⟨b, off, none⟩) n c) := (H.out.2.2.2.2.2.2.2.1.below hB2).cell 1
  have HK2 := Ytobdfocfkomagaa.base.Shut.mk (show CutAt V w2 leaf ps (.slice none 0 0) 0 0 [] [] from ⟨HK0.out.parts.keep hB2, HK0.out.now_, HK0.out.cut, HK0.out.fit, HK0.out.few, HK0.out.some_⟩)
  clear hb2 hs1 y0 y1 hB2
  go_wp2
  clear z0 z1
  go_loopw [3, 4, 5, 23] (fun v f s i wr => ∃ (k fr : Nat) (D : List Pt) (now : PL), k ≤ n ∧ fr ≤ k ∧ i = .int .i64 k ∧ f = .int .i64 fr ∧ s = .int .i64 (sumW now : Int) ∧ Ytobdfocfkomagaa.base.Shut (CutAt V wr leaf ps v k fr D now)) (fun _ _ _ i _ => n - (intOf i).toNat)
  case atStart => exact ⟨0, 0, [], [], Nat.zero_le _, Nat.le_refl _, rfl, rfl, rfl, HK2⟩
  case round =>
    obtain ⟨k, fr, D, now, hk, hfk, rfl, rfl, rfl, HR⟩ := hrel
    by_cases hlt : k < n
    · have hlt' : (k : Int) < n := by omega
      obtain ⟨b', off', hA, c0, c1, -⟩ := H.out.2.2.2.2.2.1 k hlt wr HR.out.parts.below
      cases hA
      have hwd := H.out.2.2.2.1 k hlt
      have hw6 := (H.out.2.2.2.2.2.2.2.2.1 k hlt).1
      have hxs : ps[k]? = some (at0 ps k) := by rw [at0_get (List.getElem?_eq_getElem (by rw [H.out.2.2.2.2.2.2.2.2.2.1]; exact hlt))]; exact List.getElem?_eq_getElem _
      have hdrop : ps.drop k = at0 ps k :: ps.drop (k + 1) := by rw [List.drop_eq_getElem_cons (by rw [H.out.2.2.2.2.2.2.2.2.2.1]; exact hlt)]; rw [List.getElem?_eq_getElem (by rw [H.out.2.2.2.2.2.2.2.2.2.1]; exact hlt)] at hxs; rw [Option.some.inj hxs]
      have hfit := HR.out.fit
      obtain ⟨sn, hsn⟩ : ∃ sn, sumW now = sn := ⟨_, rfl⟩
      obtain ⟨wd, hwd2⟩ : ∃ wd, wideP (at0 ps k) = wd := ⟨_, rfl⟩
      have HS := Ytobdfocfkomagaa.base.Shut.mk (And.intro hdrop (And.intro hsn (And.intro hwd2 hwd)))
      rw [hwd2] at hwd hw6
      rw [hsn] at hfit
      have HW := Ytobdfocfkomagaa.base.Shut.mk hwd
      have hqk : Row wr q #[.bool leaf, .slice (some ⟨b, off, none⟩) n c] 49 := H.out.2.2.2.2.2.2.2.1.below HR.out.parts.below
      have HQ := Ytobdfocfkomagaa.base.Shut.mk hqk
      have wr1 : IntKind.i64.wrap ((sn : Int) + wd) = ((sn + wd : Nat) : Int) := by rw [IntKind.wrap_i64]; omega
      clear hdrop hwd hwd2 hxs hqk
      generalize (at0 ps k).1 = kx at c0 HW
      generalize (at0 ps k).2 = vx at c1 HW
      rw [hsn]
      clear hsn
      go_wp2_with fail
      refine (HW.out _).mono ?_
      rintro e w3 ⟨rfl, hb3⟩
      obtain ⟨bx, hbx⟩ : ∃ bx, wr.heap.size = bx := ⟨_, rfl⟩
      have hrx := (Row.new wr #[.string kx, .string vx] 60).below hb3
      rw [hbx] at hrx
      have hB3 := chain (newer (same wr) _) hb3
      have u0 := hrx.cell 0
      have u1 := hrx.cell 1
      have H3 := Ytobdfocfkomagaa.base.Shut.mk (And.intro hB3 hrx)
      clear hb3 hB3 hrx c0 c1
      by_cases hgt : 478 < sn + wd
      · have hgt' : (478 : Int) < (sn : Int) + wd := by omega
        have hfk2 : fr < k := by
          rcases HR.out.some_ with h | h
          · exfalso
            have := HR.out.now_
            rw [h] at this
            simp at this
            have h2 := HS.out.2.1
            rw [this, sumW_nil] at h2
            omega
          · exact h
        have hB3 := chain HR.out.parts.below H3.out.1
        have hBd := chain hB3 (drewn (same w3))
        have z0 := (HQ.out.below H3.out.1).cell 0
        have z1 := (HQ.out.below H3.out.1).cell 1
        have hcl := H.out.2.2.2.2.1 fr k hfk2 hk w3.drew hBd
        have hq3 : Row w3.drew q #[.bool leaf, .slice (some ⟨b, off, none⟩) n c] 49 := HQ.out.below (chain H3.out.1 (drewn (same w3)))
        have hPd := HR.out.parts.keep (chain H3.out.1 (drewn (same w3)))
        have hapq := fun (u : World) (g6 cap6 : Nat) (hu : Below w3.drew.heap.size w3.drew u) (ho : u.ownsRow w3.drew.heap.size 60 2 (sv g6 (k - fr) cap6) (k - fr) (cellsP ((ps.take k).drop fr))) => hPd.more (by have := HR.out.few; omega) hu ho
        have H4 := Ytobdfocfkomagaa.base.Shut.mk (And.intro hcl (And.intro hapq (And.intro hq3 hBd)))
        have s1 : (fr : Int) ≤ k := by omega
        have s2 : (k : Int) ≤ c := by omega
        have s3 : ¬ c = fr := by omega
        clear hB3 hBd hcl hapq hq3 hPd u0 u1
        go_wp2
        go_region_held3 (fun w' => w'.cell? ⟨q, 0, none⟩ = some (.bool leaf) ∧ w'.cell? ⟨q, 1, none⟩ = some (.slice (some ⟨b, off, none⟩) n c))
          (first | exact two_keep ‹_› ‹_› | assumption | go_keep)
          (first | (go_at_call 64; (with_reducible refine Calls.mono H4.out.1 ?_); rintro e w5 ⟨g6, cap6, rfl, hown5, hb5⟩; obtain ⟨v7, w7, hrun7, hp7, hv7, hk7⟩ := H4.out.2.1 w5 g6 cap6 hb5 hown5; have hkk := two_keep (Ytobdfocfkomagaa.base.Shut.mk hp7.below) (u := V) ⟨H.out.2.2.2.2.2.2.2.1.cell 0, H.out.2.2.2.2.2.2.2.1.cell 1⟩; have H7 := Ytobdfocfkomagaa.base.Shut.mk (And.intro hp7 (hk7 bx _ _ ((H3.out.2.below (drewn (same w3))).below hb5) (by decide))); rw [p_shut] at hrun7; have H5 := Ytobdfocfkomagaa.base.Shut.mk hb5; clear hb5 hown5 hp7 hv7 hk7))
        have u0 := H7.out.2.cell 0
        have u1 := H7.out.2.cell 1
        clear hkk
        go_wp2_with fail
        refine (HW.out _).mono ?_
        rintro e w8 ⟨rfl, hb8⟩
        have HN := Ytobdfocfkomagaa.base.Shut.mk (show CutAt V w8 leaf ps v7 (k + 1) k (D ++ [⟨g6, k - fr, cap6, (ps.take k).drop fr⟩]) [at0 ps k] from by
          have e1 : sumW [at0 ps k] = wd := by rw [sumW_cons, sumW_nil, HS.out.2.2.1, Nat.add_zero]
          refine ⟨H7.out.1.keep hb8, ?_, ?_, by omega, by have := HR.out.few; rw [List.length_append, List.length_singleton]; omega, .inr (by omega)⟩
          · rw [List.take_add_one, List.drop_append_of_le_length (by rw [List.length_take, H.out.2.2.2.2.2.2.2.2.2.1]; omega), List.drop_of_length_le (by rw [List.length_take]; omega), List.nil_append]
            have := at0_get (l := ps) (i := k) (List.getElem?_eq_getElem (by rw [H.out.2.2.2.2.2.2.2.2.2.1]; exact hlt))
            rw [List.getElem?_eq_getElem (by rw [H.out.2.2.2.2.2.2.2.2.2.1]; exact hlt), this]
            rfl
          · rw [HR.out.cut, HS.out.1, cutP, if_pos (by rw [HS.out.2.1, HS.out.2.2.1]; exact hgt), e1, HS.out.2.2.1, List.map_append, HR.out.now_]; rfl)
        have HE := Ytobdfocfkomagaa.base.Shut.mk (show sumW [at0 ps k] = wd by rw [sumW_cons, sumW_nil, HS.out.2.2.1, Nat.add_zero])
        clear hb8 u0 u1
        go_wp2
        go_roundw
        case rel => exact ⟨k + 1, k, _, _, by omega, by omega, by go_num, rfl, by rw [HE.out], HN⟩
        case measure => simp [intOf]; omega
      · have hgt' : ¬ (478 : Int) < (sn : Int) + wd := by omega
        go_wp2_with fail
        refine (HW.out _).mono ?_
        rintro e w4 ⟨rfl, hb4⟩
        have HN := Ytobdfocfkomagaa.base.Shut.mk (show CutAt V w4 leaf ps u3 (k + 1) fr D (now ++ [at0 ps k]) from by
          have e1 : sumW (now ++ [at0 ps k]) = sn + wd := by rw [sumW_append, sumW_cons, sumW_nil, HS.out.2.1, HS.out.2.2.1, Nat.add_zero]
          refine ⟨HR.out.parts.keep (chain H3.out.1 hb4), ?_, ?_, by omega, by have := HR.out.few; omega, .inr (by omega)⟩
          · rw [HR.out.now_, List.take_add_one, List.drop_append_of_le_length (by rw [List.length_take, H.out.2.2.2.2.2.2.2.2.2.1]; omega)]
            congr 1
            have := at0_get (l := ps) (i := k) (List.getElem?_eq_getElem (by rw [H.out.2.2.2.2.2.2.2.2.2.1]; exact hlt))
            rw [List.getElem?_eq_getElem (by rw [H.out.2.2.2.2.2.2.2.2.2.1]; exact hlt), this]
            rfl
          · rw [HR.out.cut, HS.out.1, cutP, if_neg (by rw [HS.out.2.1, HS.out.2.2.1]; exact hgt), e1, HS.out.2.1, HS.out.2.2.1])
        have HE := Ytobdfocfkomagaa.base.Shut.mk (show sumW (now ++ [at0 ps k]) = sn + wd by rw [sumW_append, sumW_cons, sumW_nil, HS.out.2.1, HS.out.2.2.1, Nat.add_zero])
        clear hb4 u0 u1
        go_wp2
        go_roundw
        case rel => exact ⟨k + 1, fr, D, _, by omega, by omega, by go_num, rfl, by rw [HE.out]; go_num, HN⟩
        case measure => simp [intOf]; omega
    · obtain rfl : k = n := by omega
      have hfk2 : fr < k := by
        rcases HR.out.some_ with h | h
        · omega
        · exact h
      have hqk : Row wr q #[.bool leaf, .slice (some ⟨b, off, none⟩) k c] 49 := H.out.2.2.2.2.2.2.2.1.below HR.out.parts.below
      have z0 := hqk.cell 0
      have z1 := hqk.cell 1
      have hBd := chain HR.out.parts.below (drewn (same wr))
      have hcl := H.out.2.2.2.2.1 fr k hfk2 (Nat.le_refl _) wr.drew hBd
      have hq3 : Row wr.drew q #[.bool leaf, .slice (some ⟨b, off, none⟩) k c] 49 := hqk.below (drewn (same wr))
      have hPd := HR.out.parts.keep (drewn (same wr))
      have hapq := fun (u : World) (g6 cap6 : Nat) (hu : Below wr.drew.heap.size wr.drew u) (ho : u.ownsRow wr.drew.heap.size 60 2 (sv g6 (k - fr) cap6) (k - fr) (cellsP ((ps.take k).drop fr))) => hPd.more (by have := HR.out.few; omega) hu ho
      have H4 := Ytobdfocfkomagaa.base.Shut.mk (And.intro hcl (And.intro hapq hq3))
      have s1 : (fr : Int) ≤ k := by omega
      have s2 : (k : Int) ≤ c := by omega
      have s3 : ¬ c = fr := by omega
      clear hBd hcl hapq hq3 hPd hqk hlt
      go_wp2
      go_region_held3 (fun w' => w'.cell? ⟨q, 0, none⟩ = some (.bool leaf) ∧ w'.cell? ⟨q, 1, none⟩ = some (.slice (some ⟨b, off, none⟩) k c))
        (first | exact two_keep ‹_› ‹_› | assumption | go_keep)
        (first | (go_at_call 64; (with_reducible refine Calls.mono H4.out.1 ?_); rintro e w5 ⟨g6, cap6, rfl, hown5, hb5⟩; obtain ⟨v7, w7, hrun7, hp7, hv7, hk7⟩ := H4.out.2.1 w5 g6 cap6 hb5 hown5; have hkk := two_keep (Ytobdfocfkomagaa.base.Shut.mk hp7.below) (u := V) ⟨H.out.2.2.2.2.2.2.2.1.cell 0, H.out.2.2.2.2.2.2.2.1.cell 1⟩; obtain ⟨o7, c7, rfl⟩ := hv7; have H7 := Ytobdfocfkomagaa.base.Shut.mk hp7; rw [p_shut] at hrun7; have H5 := Ytobdfocfkomagaa.base.Shut.mk hb5; clear hb5 hown5 hp7 hk7))
      have hD : (D ++ [(⟨g6, k - fr, cap6, (ps.take k).drop fr⟩ : Pt)]).map (·.p) = cutP 478 ps [] 0 [] := by
        rw [HR.out.cut, show ps.drop k = [] from List.drop_of_length_le (by rw [H.out.2.2.2.2.2.2.2.2.2.1]; exact Nat.le_refl _), cutP, List.map_append, HR.out.now_]; rfl
      have hflat : ((D ++ [(⟨g6, k - fr, cap6, (ps.take k).drop fr⟩ : Pt)]).map (·.p)).flatten = ps := by rw [hD, cut_flat]; rfl
      have hfits := cut_fits 478 ps [] 0 [] (fun x hx => by
        obtain ⟨j, hj, rfl⟩ := List.getElem_of_mem hx
        have := (H.out.2.2.2.2.2.2.2.2.1 j (by rw [← H.out.2.2.2.2.2.2.2.2.2.1]; exact hj)).1
        rw [at0_get (List.getElem?_eq_getElem hj)] at this
        omega) rfl (by decide) (.inr (by intro e; have := H.out.2.2.2.2.2.2.2.2.2.1; rw [e] at this; simp at this; omega)) (fun p hp => by cases hp) (fun _ => rfl)
      have hev := even_all V w7 leaf o7 c7 (D ++ [⟨g6, k - fr, cap6, (ps.take k).drop fr⟩]) (by have h := H7.out; rw [show D.length + 1 = (D ++ [(⟨g6, k - fr, cap6, (ps.take k).drop fr⟩ : Pt)]).length by simp] at h; exact h) (by simp) (by have := HR.out.few; rw [List.length_append, List.length_singleton]; omega)
        (fun d hd => (hfits _ (by rw [← hD]; exact List.mem_map_of_mem hd)).1) (by rw [hflat, H.out.2.2.2.2.2.2.2.2.2.1]; exact h60)
        (fun x hx => by
          rw [hflat] at hx
          obtain ⟨j, hj, rfl⟩ := List.getElem_of_mem hx
          have := (H.out.2.2.2.2.2.2.2.2.1 j (by rw [← H.out.2.2.2.2.2.2.2.2.2.1]; exact hj)).2
          rw [at0_get (List.getElem?_eq_getElem hj)] at this
          exact this)
      rw [hD] at hev
      have hlen : (D ++ [(⟨g6, k - fr, cap6, (ps.take k).drop fr⟩ : Pt)]).length = D.length + 1 := by simp
      rw [hlen] at hev
      have HV := Ytobdfocfkomagaa.base.Shut.mk hev
      clear hD hflat hfits hev hlen hkk
      go_wp2_with fail
      refine HV.out.mono ?_
      rintro e w9 ⟨rfl, P, hP, hPl, hPr, hPb⟩
      have HP := Ytobdfocfkomagaa.base.Shut.mk (show Parted w leaf ps (.returned (.slice (some ⟨o7, 0, none⟩) (D.length + 1) c7)) w9 from ⟨P, o7, c7, hP, by rw [hPl], hPr, chain H.out.2.2.2.2.2.2.1 hPb⟩)
      clear hP hPl hPr hPb
      go_wp2
      go_ret
      exact HP.out
end Go.Proofs.Ytobdfocfkomagaa.node
