/- The walk of NodeParts. -/
import Derived.Test.YtobdfocfkomagaaNodePartsQ
import Derived.Test.YtobdfocfkomagaaNodeFew
import Derived.Test.YtobdfocfkomagaaNodeSame
import Derived.Test.YtobdfocfkomagaaNodeSmall
import Derived.Test.YtobdfocfkomagaaNodeRRight
namespace Go.Proofs.Ytobdfocfkomagaa.node
open Go.ChangeShapes Go.WideShapes Go.ChangeAt Go.RowKit
open Ytobdfocfkomagaa.base (size_mk chain newer drewn same ba_ext)

set_option maxRecDepth 100000 in
set_option maxHeartbeats 1600000 in
theorem parts_bad (leaf : Bool) (A : Option Addr) (n c : Nat) (ps : PL) (hn : ps.length = n) (hs : Nice ps) (hrt : rightN ⟨leaf, ps⟩ = false) (w : World) (hr : PReads w A ps) :
    Calls Try.prog 27 #[nv leaf A n c] w fun e w' => e = .returned (.slice none 0 0) ∧ Below w.heap.size w w' := by
  have hb := newer (same w) (.cells #[.bool leaf, .slice A n c] 49)
  have hx := Row.new w #[.bool leaf, .slice A n c] 49
  obtain ⟨q, hq⟩ : ∃ q, w.heap.size = q := ⟨_, rfl⟩
  obtain ⟨V, hV⟩ : ∃ V, w.alloc (.cells #[.bool leaf, .slice A n c] 49) = V := ⟨_, rfl⟩
  rw [hV, hq] at hx
  rw [hV] at hb
  have x0 : V.cell? ⟨q, 0, none⟩ = some (.bool leaf) := hx.cell 0
  have x1 : V.cell? ⟨q, 1, none⟩ = some (.slice A n c) := hx.cell 1
  have h1 := right_walk leaf A n c ps hn hs V (hr.keep hb)
  rw [hrt] at h1
  have H := Ytobdfocfkomagaa.base.Shut.mk (And.intro h1 hb)
  clear h1 hb hx hr hrt hs hn
  go_enter Try.func27, Try.ntmps27
  go_wp2_with fail
  refine H.out.1.mono ?_
  rintro e w1 ⟨rfl, hb1⟩
  have H1 := Ytobdfocfkomagaa.base.Shut.mk (chain H.out.2 hb1)
  clear hb1
  go_wp2
  go_ret
  exact ⟨rfl, H1.out⟩
set_option maxRecDepth 100000 in
set_option maxHeartbeats 400000 in
theorem fewest_walk (leaf : Bool) (A : Option Addr) (n c : Nat) (ps : PL) (hn : ps.length = n) (hnc : n ≤ c) (h60 : n ≤ 60) (hrt : rightN ⟨leaf, ps⟩ = true) (w : World) (hr : PReads w A ps) :
    Calls Try.prog 31 #[nv leaf A n c] w fun e w' => e = .returned (.int .i64 ((cutP 478 ps [] 0 []).length : Int)) ∧ Below w.heap.size w w' := by
  have hb := newer (same w) (.cells #[.bool leaf, .slice A n c] 49)
  have hx := Row.new w #[.bool leaf, .slice A n c] 49
  obtain ⟨q, hq⟩ : ∃ q, w.heap.size = q := ⟨_, rfl⟩
  obtain ⟨V, hV⟩ : ∃ V, w.alloc (.cells #[.bool leaf, .slice A n c] 49) = V := ⟨_, rfl⟩
  rw [hV, hq] at hx
  rw [hV] at hb
  have x0 : V.cell? ⟨q, 0, none⟩ = some (.bool leaf) := hx.cell 0
  have x1 : V.cell? ⟨q, 1, none⟩ = some (.slice A n c) := hx.cell 1
  have h1 := few_walk leaf A n c ps hn hnc h60 hrt V (hr.keep hb)
  have H := Ytobdfocfkomagaa.base.Shut.mk (And.intro h1 hb)
  clear h1 hb hx hr hrt hn
  go_enter Try.func31, Try.ntmps31
  go_wp2_with fail
  refine H.out.1.mono ?_
  rintro e w1 ⟨rfl, hb1⟩
  have H1 := Ytobdfocfkomagaa.base.Shut.mk (chain H.out.2 hb1)
  clear hb1
  go_wp2
  go_ret
  exact ⟨rfl, H1.out⟩
theorem small_len {ps : PL} (h : smallB ps = true) : ps.length ≤ 60 := by
  by_cases hl : ps.length ≤ 60
  · exact hl
  · rw [small_long (by omega)] at h; cases h
/-- how the law's loop stands -/
structure AllAt (V wr : World) (P : List PL) (i : Nat) (Aa : Option Addr) (la ca : Nat) : Prop where
  below : Below V.heap.size V wr
  own : wr.ownsRow V.heap.size 60 2 (.slice Aa la ca) la (cellsP (P.take i).flatten)
theorem three_keep {o q i j : Nat} {a b c : Value} {u w' : World} (hb : Below u.heap.size u w') (h : u.cell? ⟨o, i, none⟩ = some a ∧ u.cell? ⟨o, j, none⟩ = some b ∧ u.cell? ⟨q, 0, none⟩ = some c) :
    w'.cell? ⟨o, i, none⟩ = some a ∧ w'.cell? ⟨o, j, none⟩ = some b ∧ w'.cell? ⟨q, 0, none⟩ = some c :=
  have k := fun {p : Addr} {v : Value} (h : u.cell? p = some v) => (hb.cell (World.block_lt_of_cell? u p h)).trans h
  ⟨k h.1, k h.2.1, k h.2.2⟩
/-- a part's pairs laid behind the others -/
theorem AllAt.more {V wr : World} {P : List PL} {i : Nat} {Aa : Option Addr} {la ca : Nat} (h : AllAt V wr P i Aa la ca) {p : PL} (hp : P[i]? = some p) {g n c : Nat} (hn : p.length = n) (hr : PReads wr (some ⟨g, 0, none⟩) p) (hlen : P.flatten.length ≤ 60) :
    ∃ A' c' w', (Builtin.append_ #[47, 47] 47 #[.slice Aa la ca, sv g n c]).run Try.prog wr = .ok (.slice A' (la + n) c') w' ∧ AllAt V w' P (i + 1) A' (la + n) c' := by
  obtain ⟨i0, z, hi, hz, hs, hb, hc⟩ := pair_info
  have hla : (P.take i).flatten.length = la := (own_reads h.own).1
  have htk : (P.take (i + 1)).flatten = (P.take i).flatten ++ p := by rw [List.take_add_one, hp]; simp
  have hle : la + n ≤ 60 := by
    have h1 : (P.take (i + 1)).flatten.length ≤ P.flatten.length := by
      conv => rhs; rw [← List.take_append_drop (i + 1) P]
      rw [List.flatten_append, List.length_append]; omega
    rw [htk, List.length_append, hla, hn] at h1
    omega
  have hnew : ∀ j u, (cellsP p)[j]? = some u → wr.cell? ((⟨g, 0, none⟩ : Addr).add j) = some u := by
    intro j u hj
    rw [Addr.add_mid]
    obtain ⟨k, x, hx, hk⟩ := cellsP_at p j u hj
    obtain ⟨b', off', hA, _, hcell⟩ := hr (by intro e; rw [e] at hx; simp at hx)
    cases hA
    rcases hk with ⟨rfl, rfl⟩ | ⟨rfl, rfl⟩
    · exact (hcell k x hx).1
    · rw [← Nat.add_assoc]; exact (hcell k x hx).2
  obtain ⟨v', w', hrun, hown, hgrow, _⟩ := run_append_own (P := Try.prog) (w := wr) V.heap.size 47 47 60 i0 z 2 32 Try.underlying47 hi hz hs hb hc (by decide) _ la _ h.own ⟨g, 0, none⟩ n c (cellsP p) (by rw [cellsP_len, hn]) hnew (cellsP_one p) (by unfold maxLen; omega) (by omega) h.below.size
  rw [← cellsP_app, ← htk] at hown
  have hform : ∃ A' c', v' = .slice A' (la + n) c' := by
    obtain ⟨_, ⟨hv, h0⟩ | ⟨g', cap, cur, hv, _⟩⟩ := hown
    · exact ⟨none, 0, by rw [hv, h0]⟩
    · exact ⟨_, _, hv⟩
  obtain ⟨A', c', rfl⟩ := hform
  exact ⟨A', c', w', hrun, ⟨h.below.grown hgrow h.below.size (fun k hk => (h.own.lt k hk).1), hown⟩⟩
def shutL (ats : Array TypeId) (ty : TypeId) (args : Array Value) : Sem Value := Builtin.append_ ats ty args
theorem l_shut (ats : Array TypeId) (ty : TypeId) (args : Array Value) : Builtin.append_ ats ty args = shutL ats ty args := rfl
attribute [local go_sem ↓] l_shut
set_option maxRecDepth 100000 in
set_option maxHeartbeats 3200000 in
theorem nodeParts_walk (leaf : Bool) (A : Option Addr) (n c : Nat) (ps : PL) (hn : ps.length = n) (hnc : n ≤ c) (w : World) (hr : PReads w A ps) :
    Calls Try.prog 6 #[nv leaf A n c] w fun e w' => e = .returned (.bool true) ∧ Below w.heap.size w w' := by
  have hb := newer (same w) (.cells #[.bool leaf, .slice A n c] 49)
  have hx := Row.new w #[.bool leaf, .slice A n c] 49
  obtain ⟨q, hq⟩ : ∃ q, w.heap.size = q := ⟨_, rfl⟩
  obtain ⟨V, hV⟩ : ∃ V, w.alloc (.cells #[.bool leaf, .slice A n c] 49) = V := ⟨_, rfl⟩
  rw [hV, hq] at hx
  rw [hV] at hb
  have x0 : V.cell? ⟨q, 0, none⟩ = some (.bool leaf) := hx.cell 0
  have x1 : V.cell? ⟨q, 1, none⟩ = some (.slice A n c) := hx.cell 1
  have hrV := hr.keep hb
  have hsm := small_walk leaf A n c ps hn V hrV
  have HB := Ytobdfocfkomagaa.base.Shut.mk (And.intro hb hx)
  cases hS : smallB ps with
  | false =>
    rw [hS] at hsm
    have H := Ytobdfocfkomagaa.base.Shut.mk hsm
    clear hsm hb hx hr hrV hn hS
    go_enter Try.func6, Try.ntmps6
    go_wp2_with fail
    refine H.out.mono ?_
    rintro e w1 ⟨rfl, hb1⟩
    have H1 := Ytobdfocfkomagaa.base.Shut.mk (chain HB.out.1 hb1)
    clear hb1
    go_wp2_with fail
    refine (lives_walk _).mono ?_
    rintro e w2 ⟨rfl, hb2⟩
    have H2 := Ytobdfocfkomagaa.base.Shut.mk (chain H1.out hb2)
    clear hb2
    go_wp2
    go_ret
    exact ⟨rfl, H2.out⟩
  | true =>
    rw [hS] at hsm
    have hs := small_nice hS
    have h60 : n ≤ 60 := by rw [← hn]; exact small_len hS
    have hri := fun (u : World) (hu : Below V.heap.size V u) => rright_walk leaf A n c ps hn hs u (hrV.keep hu)
    cases hrt : rightN ⟨leaf, ps⟩ with
    | false =>
      have hpb := fun (u : World) (hu : Below V.heap.size V u) => parts_bad leaf A n c ps hn hs hrt u (hrV.keep hu)
      rw [hrt] at hri
      have H := Ytobdfocfkomagaa.base.Shut.mk (And.intro hsm (And.intro hpb hri))
      clear hsm hb hx hr hrV hn hS hs hpb hri hrt
      go_enter Try.func6, Try.ntmps6
      go_wp2_with fail
      refine H.out.1.mono ?_
      rintro e w1 ⟨rfl, hb1⟩
      have y0 := (HB.out.2.below hb1).cell 0
      have y1 := (HB.out.2.below hb1).cell 1
      have H1 := Ytobdfocfkomagaa.base.Shut.mk hb1
      clear hb1 x0 x1
      go_wp2_with fail
      refine (H.out.2.1 _ H1.out).mono ?_
      rintro e w2 ⟨rfl, hb2⟩
      have hB2 := chain H1.out hb2
      have z0 := (HB.out.2.below hB2).cell 0
      have z1 := (HB.out.2.below hB2).cell 1
      have H2 := Ytobdfocfkomagaa.base.Shut.mk hB2
      clear hb2 hB2 y0 y1
      go_wp2_with fail
      refine (H.out.2.2 _ H2.out).mono ?_
      rintro e w3 ⟨rfl, hb3⟩
      have H3 := Ytobdfocfkomagaa.base.Shut.mk (chain HB.out.1 (chain H2.out hb3))
      clear hb3 z0 z1
      go_wp2_with fail
      refine (lives_walk _).mono ?_
      rintro e w4 ⟨rfl, hb4⟩
      have H4 := Ytobdfocfkomagaa.base.Shut.mk (chain H3.out hb4)
      clear hb4
      go_wp2
      go_ret
      exact ⟨rfl, H4.out⟩
    | true =>
      have hpw := fun (u : World) (hu : Below V.heap.size V u) => parts_walk leaf A n c ps hn hnc h60 hrt u (hrV.keep hu)
      have hfw := fun (u : World) (hu : Below V.heap.size V u) => fewest_walk leaf A n c ps hn hnc h60 hrt u (hrV.keep hu)
      have hck := fun (u : World) (hu : Below V.heap.size V u) => rcheck_walk leaf A n c ps hn hs u (hrV.keep hu)
      have hok := fun (P : List PL) => parts_ok (leaf := leaf) (ps := ps) (P := P) hrt (by omega)
      rw [hrt] at hri
      have H := Ytobdfocfkomagaa.base.Shut.mk (And.intro hsm (And.intro hpw (And.intro hri (And.intro hck (And.intro hfw (And.intro hok (And.intro hrV (And.intro hn hrt))))))))
      clear hsm hb hx hr hrV hn hS hs hpw hri hrt hfw hck hok
      go_enter Try.func6, Try.ntmps6
      go_wp2_with fail
      refine H.out.1.mono ?_
      rintro e w1 ⟨rfl, hb1⟩
      have y0 := (HB.out.2.below hb1).cell 0
      have y1 := (HB.out.2.below hb1).cell 1
      have H1 := Ytobdfocfkomagaa.base.Shut.mk hb1
      clear hb1 x0 x1
      go_wp2_with fail
      refine (H.out.2.1 _ H1.out).mono ?_
      rintro e w2 ⟨P, o, cap, hP, rfl, hPr, hb2⟩
      have hB2 := chain H1.out hb2
      have z0 := (HB.out.2.below hB2).cell 0
      have z1 := (HB.out.2.below hB2).cell 1
      obtain ⟨p1, p2, p3, p4, p5⟩ := H.out.2.2.2.2.2.1 P hP
      have H2 := Ytobdfocfkomagaa.base.Shut.mk (And.intro hB2 (And.intro hPr (And.intro p1 (And.intro p2 (And.intro p4 p5)))))
      clear hb2 hB2 y0 y1 hP hPr p1 p2 p4 p5
      go_wp2_with fail
      refine (H.out.2.2.1 _ H2.out.1).mono ?_
      rintro e w3 ⟨rfl, hb3⟩
      have h0 := Ytobdfocfkomagaa.base.Shut.mk (show AllAt w3 w3 P 0 none 0 0 from ⟨same w3, ⟨rfl, .inl ⟨rfl, rfl⟩⟩⟩)
      have H3 := Ytobdfocfkomagaa.base.Shut.mk (And.intro (H2.out.2.1.keep hb3) (chain H2.out.1 hb3))
      clear hb3 z0 z1
      go_wp2
      go_loopw [4, 5] (fun al i wr => ∃ (k : Nat) (Aa : Option Addr) (la ca : Nat), k ≤ P.length ∧ i = .int .i64 k ∧ al = .slice Aa la ca ∧ Ytobdfocfkomagaa.base.Shut (AllAt w3 wr P k Aa la ca)) (fun _ i _ => P.length - (intOf i).toNat)
      case atStart => exact ⟨0, none, 0, 0, Nat.zero_le _, rfl, rfl, h0⟩
      case round =>
        obtain ⟨k, Aa, la, ca, hk, rfl, rfl, HR⟩ := hrel
        by_cases hlt : k < P.length
        · have hlt' : (k : Int) < P.length := by omega
          obtain ⟨p, hp⟩ : ∃ p, P[k]? = some p := ⟨_, List.getElem?_eq_getElem hlt⟩
          have hpm := List.mem_of_getElem? hp
          obtain ⟨o', hA, -, hcells⟩ := H3.out.1.keep HR.out.below (by intro e; rw [e] at hlt; simp at hlt)
          cases hA
          obtain ⟨g, m, cg, e0, e1, hm, hrp⟩ := hcells k p hp
          have hpk := H2.out.2.2.2.2.1 p hpm
          have hnice := ok_nice hpk.2.1
          have hck := rcheck_walk leaf (some ⟨g, 0, none⟩) m cg p hm hnice wr.drew (hrp.keep (drewn (same wr)))
          rw [hpk.2.1] at hck
          have hqk : Row wr q #[.bool leaf, .slice A n c] 49 := (HB.out.2.below H3.out.2).below HR.out.below
          have z0 := hqk.cell 0
          have HX := Ytobdfocfkomagaa.base.Shut.mk (And.intro hp (And.intro hm (And.intro hrp (And.intro hck (And.intro hqk (And.intro e0 (And.intro e1 z0)))))))
          clear hcells hpm hpk hnice hck hqk hp hrp hm
          go_wp2
          go_region_held3 (fun w' => w'.cell? ⟨o, k * 2, none⟩ = some (.bool leaf) ∧ w'.cell? ⟨o, k * 2 + 1, none⟩ = some (sv g m cg) ∧ w'.cell? ⟨q, 0, none⟩ = some (.bool leaf))
            (first | assumption | go_keep)
            (first | (go_at_call 29; (with_reducible refine Calls.mono HX.out.2.2.2.1 ?_); rintro e w5 ⟨rfl, hb5⟩; have H5 := Ytobdfocfkomagaa.base.Shut.mk (chain (drewn (same wr)) hb5); have hk5 := three_keep H5.out (And.intro e0 (And.intro e1 z0)); clear hb5))
          have HA := Ytobdfocfkomagaa.base.Shut.mk (show AllAt w3 w5 P k Aa la ca from ⟨chain HR.out.below H5.out, own_keep HR.out.own (fun g _ hg => H5.out.block g hg)⟩)
          have hfl : P.flatten.length ≤ 60 := by rw [H2.out.2.2.1, H.out.2.2.2.2.2.2.2.1]; exact h60
          obtain ⟨A', c', w8, hrun, hall'⟩ := HA.out.more (c := cg) HX.out.1 HX.out.2.1 (HX.out.2.2.1.keep H5.out) hfl
          rw [l_shut] at hrun
          have H8 := Ytobdfocfkomagaa.base.Shut.mk hall'
          clear hall' e0 e1 z0 hfl
          obtain ⟨d0, d1, d2⟩ := hk5
          go_wp2
          go_roundw
          case rel => exact ⟨k + 1, _, _, _, by omega, by go_num, rfl, H8⟩
          case measure => simp [intOf]; omega
        · obtain rfl : k = P.length := by omega
          have hla := (own_reads HR.out.own).1
          rw [List.take_length, H2.out.2.2.1, H.out.2.2.2.2.2.2.2.1] at hla
          have hBw := chain H3.out.2 HR.out.below
          have hqk : Row wr q #[.bool leaf, .slice A n c] 49 := HB.out.2.below hBw
          have hck := H.out.2.2.2.1 wr hBw
          have z0 := hqk.cell 0
          have z1 := hqk.cell 1
          have hown := HR.out.own
          rw [List.take_length, H2.out.2.2.1] at hown
          have hP1 := H2.out.2.2.2.2.2
          have hPl := H2.out.2.2.2.1
          obtain ⟨C, hC⟩ : ∃ C, checkN ⟨leaf, ps⟩ = C := ⟨_, rfl⟩
          rw [hC] at hck hP1
          have HE := Ytobdfocfkomagaa.base.Shut.mk (And.intro hck (And.intro hown (And.intro hBw (And.intro hqk (And.intro hP1 (And.intro hPl hla))))))
          clear hck hown hBw hqk hP1 hPl hla hlt hC
          have hgo : (C = 0 ∧ (P.length : Int) = 1) ∨ ¬ C = 0 := by
            by_cases hc : C = 0
            · exact .inl ⟨hc, by have := HE.out.2.2.2.2.1 hc; omega⟩
            · exact .inr hc
          rcases hgo with ⟨hc, h1⟩ | hc
          · subst hc
            go_wp2_with fail
            refine HE.out.1.mono ?_
            rintro e5 w5 ⟨rfl, hb5⟩
            have hq5 := HE.out.2.2.2.1.below hb5
            have y0 := hq5.cell 0
            have y1 := hq5.cell 1
            have hsp := samePairs_walk Aa A la ca n c ps ps (own_reads (ps := ps) HE.out.2.1).1 H.out.2.2.2.2.2.2.2.1 (by have := HE.out.2.2.2.2.2.2; omega) w5 (own_reads (ps := ps) (own_keep HE.out.2.1 (fun g _ hg => hb5.block g hg))).2 (H.out.2.2.2.2.2.2.1.keep (chain HE.out.2.2.1 hb5))
            rw [show samePB ps ps = true from decide_eq_true rfl] at hsp
            have H5 := Ytobdfocfkomagaa.base.Shut.mk (And.intro hsp (chain HE.out.2.2.1 hb5))
            clear hb5 hq5 hsp z0 z1
            go_wp2_with fail
            refine H5.out.1.mono ?_
            rintro e6 w6 ⟨rfl, hb6⟩
            have hB6 := chain H5.out.2 hb6
            have hq6 := HB.out.2.below hB6
            have z0 := hq6.cell 0
            have z1 := hq6.cell 1
            have hfw := H.out.2.2.2.2.1 w6 hB6
            rw [← HE.out.2.2.2.2.2.1] at hfw
            have H6 := Ytobdfocfkomagaa.base.Shut.mk (And.intro hfw hB6)
            clear hb6 hB6 hq6 hfw y0 y1
            go_wp2_with fail
            refine H6.out.1.mono ?_
            rintro e7 w7 ⟨rfl, hb7⟩
            have H7 := Ytobdfocfkomagaa.base.Shut.mk (chain H6.out.2 hb7)
            have wl : IntKind.i64.wrap ((P.length : Int) + 1) = (P.length : Int) + 1 := by rw [IntKind.wrap_i64]; omega
            have wl2 : (P.length : Int) ≤ (P.length : Int) + 1 := by omega
            clear hb7 z0 z1
            go_wp2_with fail
            refine (lives_walk _).mono ?_
            rintro e8 w8 ⟨rfl, hb8⟩
            have H8 := Ytobdfocfkomagaa.base.Shut.mk (chain HB.out.1 (chain H7.out hb8))
            clear hb8
            go_wp2
            go_ret
            exact ⟨rfl, H8.out⟩
          · go_wp2_with fail
            refine HE.out.1.mono ?_
            rintro e5 w5 ⟨rfl, hb5⟩
            have hq5 := HE.out.2.2.2.1.below hb5
            have y0 := hq5.cell 0
            have y1 := hq5.cell 1
            have hsp := samePairs_walk Aa A la ca n c ps ps (own_reads (ps := ps) HE.out.2.1).1 H.out.2.2.2.2.2.2.2.1 (by have := HE.out.2.2.2.2.2.2; omega) w5 (own_reads (ps := ps) (own_keep HE.out.2.1 (fun g _ hg => hb5.block g hg))).2 (H.out.2.2.2.2.2.2.1.keep (chain HE.out.2.2.1 hb5))
            rw [show samePB ps ps = true from decide_eq_true rfl] at hsp
            have H5 := Ytobdfocfkomagaa.base.Shut.mk (And.intro hsp (chain HE.out.2.2.1 hb5))
            clear hb5 hq5 hsp z0 z1
            go_wp2_with fail
            refine H5.out.1.mono ?_
            rintro e6 w6 ⟨rfl, hb6⟩
            have hB6 := chain H5.out.2 hb6
            have hq6 := HB.out.2.below hB6
            have z0 := hq6.cell 0
            have z1 := hq6.cell 1
            have hfw := H.out.2.2.2.2.1 w6 hB6
            rw [← HE.out.2.2.2.2.2.1] at hfw
            have H6 := Ytobdfocfkomagaa.base.Shut.mk (And.intro hfw hB6)
            clear hb6 hB6 hq6 hfw y0 y1
            go_wp2_with fail
            refine H6.out.1.mono ?_
            rintro e7 w7 ⟨rfl, hb7⟩
            have H7 := Ytobdfocfkomagaa.base.Shut.mk (chain H6.out.2 hb7)
            have wl : IntKind.i64.wrap ((P.length : Int) + 1) = (P.length : Int) + 1 := by rw [IntKind.wrap_i64]; omega
            have wl2 : (P.length : Int) ≤ (P.length : Int) + 1 := by omega
            clear hb7 z0 z1
            go_wp2_with fail
            refine (lives_walk _).mono ?_
            rintro e8 w8 ⟨rfl, hb8⟩
            have H8 := Ytobdfocfkomagaa.base.Shut.mk (chain HB.out.1 (chain H7.out hb8))
            clear hb8
            go_wp2
            go_ret
            exact ⟨rfl, H8.out⟩
end Go.Proofs.Ytobdfocfkomagaa.node
