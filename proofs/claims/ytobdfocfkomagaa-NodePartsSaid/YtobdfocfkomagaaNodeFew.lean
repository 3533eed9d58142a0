/- The walk of the reference's Fewest. -/
import Derived.Test.YtobdfocfkomagaaNodePartsW
import Derived.Test.YtobdfocfkomagaaNodeRPut
import Derived.Test.YtobdfocfkomagaaAnyInv
namespace Go.Proofs.Ytobdfocfkomagaa.node
open Go.ChangeShapes Go.WideShapes Go.ChangeAt Go.RowKit
open Ytobdfocfkomagaa.base (size_mk chain newer drewn same ba_ext wp_region_inv dep_of wpOp_run ready_lt)

/-- what is held in the statement that lays a pair behind, whatever has come up -/
structure FewI (wr : World) (q q1 : Nat) (leaf : Bool) (b off n c k : Nat) (An : Option Addr) (cm : Nat) (now : PL) (kx vx : ByteArray) (b0 b1 b2 b3 b4 b5 b6 b7 b8 b9 b10 b11 b12 b13 b14 b15 : Bool) (t17 t18 t19 t20 t21 t22 t23 t24 t25 t26 t27 t28 t29 t30 t6 : Value) (w : World) : Prop where
  B : Below wr.heap.size wr w
  cl14 : b14 = false → b15 = false
  cl12 : b12 = false → b13 = false ∧ b15 = false
  p0 : b0 = true → t17 = .pointer (some ⟨q, 0, none⟩)
  p1 : b1 = true → t18 = .bool leaf
  p2 : b2 = true → ∃ e, t19 = .slice (some ⟨e, 0, none⟩) 0 0
  p3 : b3 = true → t20 = .pointer (some ⟨q1, 1, none⟩)
  p4 : b4 = true → t21 = .slice An now.length cm
  p5 : b5 = true → (now = [] ∧ ∃ e, t22 = .slice (some ⟨e, 0, none⟩) 0 0) ∨ (now ≠ [] ∧ ∃ g c, t22 = sv g now.length c ∧ (b12 = false → w.ownsRow wr.heap.size 60 2 (sv g now.length c) now.length (cellsP now)))
  p6 : b6 = true → t23 = .pointer (some ⟨q, 1, none⟩)
  p7 : b7 = true → t24 = .slice (some ⟨b, off, none⟩) n c
  p8 : b8 = true → t25 = .int .i64 (k : Int)
  p9 : b9 = true → t26 = .pointer (some ⟨b, off + k * 2, none⟩)
  p10 : b10 = true → t27 = .agg #[.string kx, .string vx]
  p11 : b11 = true → ∃ y, t28 = .slice (some ⟨y, 0, none⟩) 1 1 ∧ (b12 = false → Row w y #[.string kx, .string vx] 60)
  p12 : b12 = true → ∃ g c, t29 = sv g (now.length + 1) c ∧ w.ownsRow wr.heap.size 60 2 (sv g (now.length + 1) c) (now.length + 1) (cellsP (now ++ [(kx, vx)]))
  p13 : b13 = true → t30 = .agg #[.bool leaf, t29]
  p14 : b14 = true → ∃ M, t6 = .pointer (some ⟨M, 0, none⟩) ∧ wr.heap.size ≤ M ∧ ∃ c0 c1, Row w M #[c0, c1] 49
  p15 : b15 = true → ∃ M, t6 = .pointer (some ⟨M, 0, none⟩) ∧ Row w M #[.bool leaf, t29] 49
/-- what lies ahead stays when something new is made -/
theorem FewI.below {wr : World} {q q1 : Nat} {leaf : Bool} {b off n c k : Nat} {An : Option Addr} {cm : Nat} {now : PL} {kx vx : ByteArray} {b0 b1 b2 b3 b4 b5 b6 b7 b8 b9 b10 b11 b12 b13 b14 b15 : Bool} {t17 t18 t19 t20 t21 t22 t23 t24 t25 t26 t27 t28 t29 t30 t6 : Value} {w w' : World} (h : FewI wr q q1 leaf b off n c k An cm now kx vx b0 b1 b2 b3 b4 b5 b6 b7 b8 b9 b10 b11 b12 b13 b14 b15 t17 t18 t19 t20 t21 t22 t23 t24 t25 t26 t27 t28 t29 t30 t6 w) (hb : Below w.heap.size w w') : FewI wr q q1 leaf b off n c k An cm now kx vx b0 b1 b2 b3 b4 b5 b6 b7 b8 b9 b10 b11 b12 b13 b14 b15 t17 t18 t19 t20 t21 t22 t23 t24 t25 t26 t27 t28 t29 t30 t6 w' :=
  { h with
    B := chain h.B hb
    p5 := fun e => (h.p5 e).imp id fun ⟨h1, g, c, h2, h3⟩ => ⟨h1, g, c, h2, fun e2 => own_keep (h3 e2) (fun g _ hg => hb.block g hg)⟩
    p11 := fun e => (h.p11 e).imp fun y ⟨h1, h2⟩ => ⟨h1, fun e2 => (h2 e2).below hb⟩
    p12 := fun e => (h.p12 e).imp fun g ⟨c, h1, h2⟩ => ⟨c, h1, own_keep h2 (fun g _ hg => hb.block g hg)⟩
    p14 := fun e => (h.p14 e).imp fun M ⟨h1, h2, c0, c1, h3⟩ => ⟨h1, h2, c0, c1, h3.below hb⟩
    p15 := fun e => (h.p15 e).imp fun M ⟨h1, h2⟩ => ⟨h1, h2.below hb⟩ }
/-- the first append: onto a row that has no cell -/
theorem first_run (w : World) (e : Nat) (An : Option Addr) (cm : Nat) (now : PL) (hm : now.length ≤ 60) (hr : PReads w An now) {N : Nat} (hN : N ≤ w.heap.size) :
    (now = [] ∧ (Builtin.append_ #[47, 47] 47 #[.slice (some ⟨e, 0, none⟩) 0 0, .slice An now.length cm]).run Try.prog w = .ok (.slice (some ⟨e, 0, none⟩) 0 0) w) ∨
    (now ≠ [] ∧ ∃ g9 c9 w9, (Builtin.append_ #[47, 47] 47 #[.slice (some ⟨e, 0, none⟩) 0 0, .slice An now.length cm]).run Try.prog w = .ok (sv g9 now.length c9) w9 ∧ w9.ownsRow N 60 2 (sv g9 now.length c9) now.length (cellsP now) ∧ Below w.heap.size w w9) := by
  obtain ⟨i, z, hi, hz, hs, hb, hc⟩ := pair_info
  by_cases hne : now = []
  · subst hne
    refine .inl ⟨rfl, ?_⟩
    cases An with
    | none => simp [Builtin.append_, run_underlying Try.underlying47, sizeOf, typeInfo, hi, Builtin.lenOf, Builtin.firstCells, loadCells, loadCellsFrom, storeCells]
    | some a => simp [Builtin.append_, run_underlying Try.underlying47, sizeOf, typeInfo, hi, Builtin.lenOf, Builtin.firstCells, loadCells, loadCellsFrom, storeCells]
  · refine .inr ⟨hne, ?_⟩
    obtain ⟨b, off, rfl, hlt, hcell⟩ := hr hne
    have hpos := List.length_pos_iff.2 hne
    have hnew : ∀ j u, (cellsP now)[j]? = some u → w.cell? ((⟨b, off, none⟩ : Addr).add j) = some u := by
      intro j u hj
      rw [Addr.add_mid]
      obtain ⟨i, p, hp, ⟨rfl, rfl⟩ | ⟨rfl, rfl⟩⟩ := cellsP_at now j u hj
      · exact (hcell i p hp).1
      · rw [← Nat.add_assoc]; exact (hcell i p hp).2
    have hrun := run_append_grow (P := Try.prog) w 47 47 60 i z Try.underlying47 hi hz ⟨e, 0, none⟩ 0 0 [] (by simp) (fun j u hj => by simp at hj) ⟨b, off, none⟩ now.length cm (cellsP now) (by rw [cellsP_len, hs]) hnew (by omega) (by omega) (growslice_fits (by omega) (by rw [hb]; omega))
    rw [Nat.zero_add] at hrun
    refine ⟨_, _, _, hrun, ⟨cellsP_len now, .inr ⟨w.heap.size, _, _, rfl, hN, heap_alloc_new w.drew _, grownCap_ge w now.length 0 _, grownCap_le_maxLen w now.length 0 _ (by unfold maxLen; omega), ?_, ?_⟩⟩, newer (drewn (same w)) _⟩
    · have := grownCap_ge w now.length 0 60
      simp only [Array.size_append, List.size_toArray, size_zeroCells, hc, cellsP_len, List.length_nil, Nat.zero_add]
      omega
    · simp only [Array.toList_append, List.append_assoc]
      rw [← cellsP_len]
      simp
theorem second_of (w wr : World) {g9 c9 m : Nat} {w9 : World} {v : Value} {xs : List Value} (hB : Below wr.heap.size wr w) (hgrow : w.grownBy w9 v.ownBlock) (hv : ∀ k, v.ownBlock = some k → wr.heap.size ≤ k ∧ ∀ cs, ¬ Row w k cs 49) :
    Below wr.heap.size wr w9 ∧ ∀ M cs, Row w M cs 49 → Row w9 M cs 49 :=
  ⟨hB.grown hgrow hB.size (fun k hk => (hv k hk).1), fun M cs hM => (hgrow.block M hM.lt (fun e => (hv M e.symm).2 cs hM)).trans hM⟩
theorem second_nil (w wr : World) (e y : Nat) (now : PL) (hnil : now = []) (x : Pair) (hy : Row w y #[.string x.1, .string x.2] 60) (hB : Below wr.heap.size wr w) :
    ∃ g9 c9 w9, (Builtin.append_ #[47, 47] 47 #[.slice (some ⟨e, 0, none⟩) 0 0, .slice (some ⟨y, 0, none⟩) 1 1]).run Try.prog w = .ok (sv g9 (now.length + 1) c9) w9 ∧ w9.ownsRow wr.heap.size 60 2 (sv g9 (now.length + 1) c9) (now.length + 1) (cellsP (now ++ [x])) ∧ Below wr.heap.size wr w9 ∧ ∀ M cs, Row w M cs 49 → Row w9 M cs 49 := by
  subst hnil
  have hr : PReads w (some ⟨y, 0, none⟩) [x] := fun _ => ⟨y, 0, rfl, hy.lt, fun i p hi => by
    cases i with
    | zero => obtain rfl : x = p := by simpa using hi
              exact ⟨hy.cell 0, hy.cell 1⟩
    | succ i => simp at hi⟩
  rcases first_run w e (some ⟨y, 0, none⟩) 1 [x] (by simp) hr hB.size with ⟨h, _⟩ | ⟨_, g9, c9, w9, hrun, hown, hb9⟩
  · cases h
  · exact ⟨g9, c9, w9, hrun, hown, chain hB hb9, fun M cs hM => hM.below hb9⟩
theorem second_run (w wr : World) (g c y : Nat) (now : PL) (hm : now.length ≤ 60) (x : Pair) (ho : w.ownsRow wr.heap.size 60 2 (sv g now.length c) now.length (cellsP now)) (hy : Row w y #[.string x.1, .string x.2] 60) (hB : Below wr.heap.size wr w) :
    ∃ g9 c9 w9, (Builtin.append_ #[47, 47] 47 #[sv g now.length c, .slice (some ⟨y, 0, none⟩) 1 1]).run Try.prog w = .ok (sv g9 (now.length + 1) c9) w9 ∧ w9.ownsRow wr.heap.size 60 2 (sv g9 (now.length + 1) c9) (now.length + 1) (cellsP (now ++ [x])) ∧ Below wr.heap.size wr w9 ∧ ∀ M cs, Row w M cs 49 → Row w9 M cs 49 := by
  obtain ⟨i, z, hi, hz, hs, hb, hc⟩ := pair_info
  obtain ⟨v', w6, hrun, hown, hgrow, hnn⟩ := run_append_own (P := Try.prog) (w := w) wr.heap.size 47 47 60 i z 2 32 Try.underlying47 hi hz hs hb hc (by decide) _ now.length (cellsP now) ho ⟨y, 0, none⟩ 1 1 (cellsP [x]) rfl (World.news_of_block (cs := #[.string x.1, .string x.2]) (t := 60) (fr := (0, 0)) hy) (cellsP_one _) (by unfold maxLen; omega) (by omega) hB.size
  rw [← cellsP_app] at hown
  obtain ⟨cur, hrw, hge, _⟩ := own_row ho
  have h2 := second_of w wr (g9 := 0) (c9 := 0) (m := 0) (xs := []) hB hgrow (fun k hk => by
    have : k = g := by simpa [Value.ownBlock] using hk.symm
    subst this
    exact ⟨hge, fun cs h => row_apart hrw h (by decide) rfl⟩)
  have hown' := hown
  obtain ⟨_, ⟨_, h0⟩ | ⟨g6, cap6, cur6, rfl, _⟩⟩ := hown'
  · omega
  · exact ⟨g6, cap6, w6, hrun, hown, h2.1, h2.2⟩
def shutF : Sem Value := Instr.buildSlice 47 0 #[]
theorem f_shut : Instr.buildSlice 47 0 #[] = shutF := rfl
def shutG (ats : Array TypeId) (ty : TypeId) (args : Array Value) : Sem Value := Builtin.append_ ats ty args
theorem g_shut (ats : Array TypeId) (ty : TypeId) (args : Array Value) : Builtin.append_ ats ty args = shutG ats ty args := rfl
attribute [local go_sem ↓] f_shut g_shut
theorem nice_of {leaf : Bool} {ps qs : PL} (h : ∀ x ∈ qs, x ∈ ps) (hrt : rightN ⟨leaf, ps⟩ = true) (hl : qs.length ≤ 61) : Nice qs := ⟨by omega, fun k => by
  by_cases hk : k < qs.length
  · have := right_fits hrt _ (h _ (List.getElem_mem hk))
    rw [at0_get (List.getElem?_eq_getElem hk)]
    omega
  · unfold at0; rw [List.getD_eq_getElem?_getD, List.getElem?_eq_none (by omega)]; simp [ByteArray.size]⟩
theorem PReads.moveo {w u : World} {k off : Nat} {ps : PL} (hr : PReads w (some ⟨k, off, none⟩) ps) (he : u.heap[k]? = w.heap[k]?) : PReads u (some ⟨k, off, none⟩) ps := by
  intro hne
  obtain ⟨b, o, hA, hlt, hc⟩ := hr hne
  cases hA
  have hlt' : k < u.heap.size := by
    by_cases h : k < u.heap.size
    · exact h
    · rw [Array.getElem?_eq_none (by omega), Array.getElem?_eq_getElem hlt] at he; cases he
  refine ⟨k, off, rfl, hlt', fun i p hi => ?_⟩
  have := hc i p hi
  rw [cell_move he, cell_move he]
  exact this
/-- how the count stands between two pairs -/
structure FewAt (V wr : World) (leaf : Bool) (ps : PL) (q1 : Nat) (k cnt : Nat) (now : PL) (An : Option Addr) (cm : Nat) : Prop where
  below : Below V.heap.size V wr
  box : Row wr q1 #[.bool leaf, .slice An now.length cm] 49
  reads : PReads wr An now
  cut : ∃ done : List PL, done.length = cnt ∧ cutP 478 ps [] 0 [] = cutP 478 (ps.drop k) now (sumW now) done
  fit : sumW now ≤ 478
  sub : ∀ x ∈ now, x ∈ ps
  few : now.length ≤ k
  cntk : cnt ≤ k
set_option maxRecDepth 100000 in
set_option maxHeartbeats 3200000 in
theorem few_walk (leaf : Bool) (A : Option Addr) (n c : Nat) (ps : PL) (hn : ps.length = n) (hnc : n ≤ c) (h60 : n ≤ 60) (hrt : rightN ⟨leaf, ps⟩ = true) (w : World) (hr : PReads w A ps) :
    Calls Try.prog 66 #[nv leaf A n c] w fun e w' => e = .returned (.int .i64 ((cutP 478 ps [] 0 []).length : Int)) ∧ Below w.heap.size w w' := by
  have hn0 : 0 < n := by rw [← hn]; exact (right_of hrt).1
  obtain ⟨b, off, rfl, -, -⟩ := hr (by intro e; rw [e] at hn; simp at hn; omega)
  have hb := newer (same w) (.cells #[.bool leaf, .slice (some ⟨b, off, none⟩) n c] 49)
  have hx := Row.new w #[.bool leaf, .slice (some ⟨b, off, none⟩) n c] 49
  obtain ⟨q, hq⟩ : ∃ q, w.heap.size = q := ⟨_, rfl⟩
  obtain ⟨V, hV⟩ : ∃ V, w.alloc (.cells #[.bool leaf, .slice (some ⟨b, off, none⟩) n c] 49) = V := ⟨_, rfl⟩
  rw [hV, hq] at hx
  rw [hV] at hb
  have x0 : V.cell? ⟨q, 0, none⟩ = some (.bool leaf) := hx.cell 0
  have x1 : V.cell? ⟨q, 1, none⟩ = some (.slice (some ⟨b, off, none⟩) n c) := hx.cell 1
  have hrV := hr.keep hb
  have hn1 := newer (same V) (.cells #[.bool leaf, .slice none 0 0] 49)
  have hF0 : FewAt V (V.alloc (.cells #[.bool leaf, .slice none 0 0] 49)) leaf ps V.heap.size 0 0 [] none 0 := ⟨hn1, Row.new _ _ _, (fun h => absurd rfl h), ⟨[], rfl, rfl⟩, Nat.zero_le _, (fun _ hx => absurd hx List.not_mem_nil), Nat.le_refl _, Nat.le_refl _⟩
  have H := Ytobdfocfkomagaa.base.Shut.mk (And.intro hF0 (And.intro hrV (And.intro hb (And.intro hx (And.intro hn hrt)))))
  clear hF0 hrV hb hx hn hrt hn1 hr
  go_enter Try.func66, Try.ntmps66
  go_wp2
  clear x0 x1
  go_loopw [3, 5] (fun cn i wr => ∃ (k cnt : Nat) (now : PL) (An : Option Addr) (cm : Nat), k ≤ n ∧ i = .int .i64 k ∧ cn = .int .i64 cnt ∧ Ytobdfocfkomagaa.base.Shut (FewAt V wr leaf ps V.heap.size k cnt now An cm)) (fun _ i _ => n - (intOf i).toNat)
  case atStart => exact ⟨0, 0, [], none, 0, Nat.zero_le _, rfl, rfl, ⟨H.out.1⟩⟩
  case round =>
    obtain ⟨k, cnt, now, An, cm, hk, rfl, rfl, HR⟩ := hrel
    have hqk : Row wr q #[.bool leaf, .slice (some ⟨b, off, none⟩) n c] 49 := H.out.2.2.2.1.below HR.out.below
    have z0 := hqk.cell 0
    have z1 := hqk.cell 1
    by_cases hlt : k < n
    · have hlt' : (k : Int) < n := by omega
      have hkp : k < ps.length := by rw [H.out.2.2.2.2.1]; exact hlt
      obtain ⟨b', off', hA, c0, c1, -⟩ := (H.out.2.1.keep HR.out.below).at_ hkp
      cases hA
      have n1 : wr.cell? ⟨V.heap.size, 1, none⟩ = some (.slice An now.length cm) := HR.out.box.cell 1
      have rN := HR.out.reads
      have hm : now.length ≤ 60 := by have := HR.out.few; omega
      generalize hkx : (at0 ps k).1 = kx at c0
      generalize hvx : (at0 ps k).2 = vx at c1
      have HX := Ytobdfocfkomagaa.base.Shut.mk (And.intro hkx hvx)
      clear hkx hvx hqk
      go_wp2
      have HN := Ytobdfocfkomagaa.base.Shut.mk n1
      refine wp_region_inv (fun listed a w6 => ∃ b0 b1 b2 b3 b4 b5 b6 b7 b8 b9 b10 b11 b12 b13 b14 b15 : Bool, ∃ t17 t18 t19 t20 t21 t22 t23 t24 t25 t26 t27 t28 t29 t30 t6 : Value, listed = #[b0, b1, b2, b3, b4, b5, b6, b7, b8, b9, b10, b11, b12, b13, b14, b15] ∧ a = { tmps := #[nv leaf (some ⟨b, off, none⟩) n c, .pointer (some ⟨q, 0, none⟩), (.int .i64 0), (.int .i64 (cnt : Int)), .pointer (some ⟨V.heap.size, 0, none⟩), .int .i64 (k : Int), t6, .pointer (some ⟨q, 0, none⟩), .bool leaf, .agg #[.bool leaf, .slice none 0 0], .int .i64 (k : Int), .pointer (some ⟨q, 1, none⟩), .slice (some ⟨b, off, none⟩) n c, .int .i64 (n : Int), .bool true, u15, u16, t17, t18, t19, t20, t21, t22, t23, t24, t25, t26, t27, t28, t29, t30, u31, u32, u33, u34, u35, u36, u37, u38, u39, u40, u41, u42, u43, undef, undef], defers := [] } ∧ FewI wr q V.heap.size leaf b off n c k An cm now kx vx b0 b1 b2 b3 b4 b5 b6 b7 b8 b9 b10 b11 b12 b13 b14 b15 t17 t18 t19 t20 t21 t22 t23 t24 t25 t26 t27 t28 t29 t30 t6 w6) (by kernel_rfl) ?_ ?_ ?_ ?_
      · rintro _ _ _ ⟨b0, b1, b2, b3, b4, b5, b6, b7, b8, b9, b10, b11, b12, b13, b14, b15, t17, t18, t19, t20, t21, t22, t23, t24, t25, t26, t27, t28, t29, t30, t6, rfl, _, _⟩
        rfl
      · refine ⟨false, false, false, false, false, false, false, false, false, false, false, false, false, false, false, false, u17, u18, u19, u20, u21, u22, u23, u24, u25, u26, u27, u28, u29, u30, u6, rfl, rfl, ⟨drewn (same wr), fun _ => rfl, fun _ => ⟨rfl, rfl⟩, ?_, ?_, ?_, ?_, ?_, ?_, ?_, ?_, ?_, ?_, ?_, ?_, ?_, ?_, ?_, ?_⟩⟩ <;> (intro e; cases e)
      · rintro _ _ w6 ⟨b0, b1, b2, b3, b4, b5, b6, b7, b8, b9, b10, b11, b12, b13, b14, b15, t17, t18, t19, t20, t21, t22, t23, t24, t25, t26, t27, t28, t29, t30, t6, rfl, rfl, hJ⟩ hr
        have hal := Ytobdfocfkomagaa.base.all_listed (by kernel_rfl) hr rfl
        have hb0 : b0 = true := hal 0 (by decide)
        have hb1 : b1 = true := hal 1 (by decide)
        have hb2 : b2 = true := hal 2 (by decide)
        have hb3 : b3 = true := hal 3 (by decide)
        have hb4 : b4 = true := hal 4 (by decide)
        have hb5 : b5 = true := hal 5 (by decide)
        have hb6 : b6 = true := hal 6 (by decide)
        have hb7 : b7 = true := hal 7 (by decide)
        have hb8 : b8 = true := hal 8 (by decide)
        have hb9 : b9 = true := hal 9 (by decide)
        have hb10 : b10 = true := hal 10 (by decide)
        have hb11 : b11 = true := hal 11 (by decide)
        have hb12 : b12 = true := hal 12 (by decide)
        have hb13 : b13 = true := hal 13 (by decide)
        have hb14 : b14 = true := hal 14 (by decide)
        have hb15 : b15 = true := hal 15 (by decide)
        clear hal hr
        obtain rfl := hJ.p0 hb0
        obtain rfl := hJ.p1 hb1
        obtain rfl := hJ.p3 hb3
        obtain rfl := hJ.p4 hb4
        obtain rfl := hJ.p6 hb6
        obtain rfl := hJ.p7 hb7
        obtain rfl := hJ.p8 hb8
        obtain rfl := hJ.p9 hb9
        obtain rfl := hJ.p10 hb10
        obtain ⟨g9, c9, rfl, hown⟩ := hJ.p12 hb12
        obtain rfl := hJ.p13 hb13
        obtain ⟨M, rfl, hMge, -⟩ := hJ.p14 hb14
        obtain ⟨M', hM', hMr⟩ := hJ.p15 hb15
        cases hM'
        have hB6 := hJ.B
        clear hb0 hb1 hb2 hb3 hb4 hb5 hb6 hb7 hb8 hb9 hb10 hb11 hb12 hb13 hb14 hb15
        obtain ⟨sw, hsw⟩ : ∃ sw, sumW (now ++ [(kx, vx)]) = sw := ⟨_, rfl⟩
        have hxin : (kx, vx) ∈ ps := by rw [← HX.out.1, ← HX.out.2, at0_get (List.getElem?_eq_getElem hkp)]; exact List.getElem_mem hkp
        have hsz := fun (u : World) (hu : Below w6.heap.size w6 u) => rsize_walk leaf (some ⟨g9, 0, none⟩) (now.length + 1) c9 (now ++ [(kx, vx)]) (by simp) (nice_of (ps := ps) (fun x hx => by
          rcases List.mem_append.1 hx with h | h
          · exact HR.out.sub x h
          · obtain rfl : x = (kx, vx) := by simpa using h
            exact hxin) H.out.2.2.2.2.2 (by simp; omega)) u (own_reads (ps := now ++ [(kx, vx)]) (own_keep hown (fun g _ hg => hu.block g hg))).2
        rw [sumW_size (by simp; omega), hsw] at hsz
        have m0 := hMr.cell 0
        have m1 := hMr.cell 1
        have hdrop : ps.drop k = (kx, vx) :: ps.drop (k + 1) := by
          rw [List.drop_eq_getElem_cons hkp, ← HX.out.1, ← HX.out.2, at0_get (List.getElem?_eq_getElem hkp)]
        have hseg : (ps.take (k + 1)).drop k = [(kx, vx)] := by
          rw [List.take_add_one, List.drop_append_of_le_length (by rw [List.length_take]; omega), List.drop_of_length_le (by rw [List.length_take]; omega), List.nil_append, List.getElem?_eq_getElem hkp, ← HX.out.1, ← HX.out.2, at0_get (List.getElem?_eq_getElem hkp)]
          rfl
        have hswe : sw = sumW now + wideP (kx, vx) := by rw [← hsw, sumW_append, sumW_cons, sumW_nil, Nat.add_zero]
        have hwx : wideP (kx, vx) ≤ 478 := by
          rw [← HX.out.1, ← HX.out.2]
          exact Nat.le_trans (wide_right H.out.2.2.2.2.2 hkp).1 (by decide)
        have hbV : b < V.heap.size := by
          obtain ⟨b'', off'', hA, hlt'', _⟩ := H.out.2.1 (by intro e; rw [e] at hkp; simp at hkp)
          cases hA; exact hlt''
        have hVw := HR.out.box.lt
        have HS := Ytobdfocfkomagaa.base.Shut.mk (And.intro hsz (And.intro hB6 (And.intro hown (And.intro hMr (And.intro hMge (And.intro hdrop (And.intro hseg (And.intro hswe (And.intro hbV (And.intro hVw (And.intro hxin hwx)))))))))))
        have hcnt := HR.out.cntk
        clear hsz hB6 hown hMr hJ z0 z1 n1 c0 c1 hMge hdrop hseg hswe hbV hVw hxin hwx
        go_wp2_with fail
        refine (HS.out.1 _ (same w6)).mono ?_
        rintro e7 w7 ⟨rfl, hb7⟩
        have hM7 := HS.out.2.2.2.1.below hb7
        have hq7 := (H.out.2.2.2.1.below HR.out.below).below (chain HS.out.2.1 hb7)
        have h17 := HR.out.box.below (chain HS.out.2.1 hb7)
        have v0 := hM7.cell 0
        have v1 := hM7.cell 1
        have v2 := hM7.frozen 1
        have z1 := hq7.cell 1
        have n0 := h17.cell 0
        have n1 := h17.cell 1
        have n2 := h17.frozen 0
        have n3 := h17.frozen 1
        have hne1 : ¬ M = V.heap.size := by have := HS.out.2.2.2.2.1; have := HS.out.2.2.2.2.2.2.2.2.2.1; omega
        have hne2 : ¬ V.heap.size = M := fun e => hne1 e.symm
        have hB7 := chain HR.out.below (chain HS.out.2.1 hb7)
        have hMV : V.heap.size ≤ M := by have := HS.out.2.2.2.2.1; have := HS.out.2.2.2.2.2.2.2.2.2.1; omega
        have H7 := Ytobdfocfkomagaa.base.Shut.mk (And.intro hb7 (And.intro hM7 (And.intro h17 (And.intro hB7 hMV))))
        clear hb7 hM7 hq7 h17 m0 m1 hB7 hMV
        have wcnt : IntKind.i64.wrap ((cnt : Int) + 1) = (cnt : Int) + 1 := by rw [IntKind.wrap_i64]; omega
        have wk : IntKind.i64.wrap ((k : Int) + 1) = (k : Int) + 1 := by rw [IntKind.wrap_i64]; omega
        have s1 : (k : Int) + 1 ≤ c := by omega
        have s3 : ¬ c = k := by omega
        have s4 : k + 1 - k = 1 := by omega
        have s5 : ((k : Int) + 1).toNat = k + 1 := by omega
        by_cases hgt : 478 < sw
        · have hgt1 : (480 : Int) < 2 + (sw : Int) := by omega
          go_wp2
          refine ⟨⟨k + 1, cnt + 1, [(kx, vx)], some ⟨b, off + k * 2, none⟩, c - k, by omega, by go_num, by go_num, ⟨?_⟩⟩, by simp [intOf]; omega⟩
          refine ⟨((H7.out.2.2.2.1.setCell (p := ⟨M, 1, none⟩) H7.out.2.2.2.2 _).setCell (p := ⟨V.heap.size, 0, none⟩) (Nat.le_refl _) _).setCell (p := ⟨V.heap.size, 1, none⟩) (Nat.le_refl _) _, (H7.out.2.2.1.other M 1 _ hne2).two _ _ rfl, ?_, ?_, ?_, ?_, by simp, by omega⟩
          · have h1 := (H.out.2.1.keep H7.out.2.2.2.1).seg k (k + 1)
            rw [HS.out.2.2.2.2.2.2.1] at h1
            have hb1 : b ≠ M := by have := HS.out.2.2.2.2.2.2.2.2.1; have := H7.out.2.2.2.2; omega
            have hb2 : b ≠ V.heap.size := by have := HS.out.2.2.2.2.2.2.2.2.1; omega
            exact h1.moveo (((Below.heap_setCell _ ⟨V.heap.size, 1, none⟩ _ b (by simpa using hb2)).trans (Below.heap_setCell _ ⟨V.heap.size, 0, none⟩ _ b (by simpa using hb2))).trans (Below.heap_setCell _ ⟨M, 1, none⟩ _ b (by simpa using hb1)))
          · obtain ⟨done, hd, hc⟩ := HR.out.cut
            refine ⟨done ++ [now], by simp [hd], ?_⟩
            rw [hc, HS.out.2.2.2.2.2.1, cutP, if_pos (by rw [← HS.out.2.2.2.2.2.2.2.1]; exact hgt), sumW_cons, sumW_nil]; simp only [Nat.add_zero]
          · rw [sumW_cons, sumW_nil, Nat.add_zero]; exact HS.out.2.2.2.2.2.2.2.2.2.2.2
          · intro x hx
            obtain rfl : x = (kx, vx) := by simpa using hx
            exact HS.out.2.2.2.2.2.2.2.2.2.2.1
        · have hgt1 : ¬ (480 : Int) < 2 + (sw : Int) := by omega
          go_wp2
          refine ⟨⟨k + 1, cnt, now ++ [(kx, vx)], some ⟨g9, 0, none⟩, c9, by omega, by go_num, rfl, ⟨?_⟩⟩, by simp [intOf]; omega⟩
          have hbx := H7.out.2.2.1.two (.bool leaf) (sv g9 (now.length + 1) c9) rfl
          refine ⟨(H7.out.2.2.2.1.setCell (p := ⟨V.heap.size, 0, none⟩) (Nat.le_refl _) _).setCell (p := ⟨V.heap.size, 1, none⟩) (Nat.le_refl _) _, by rw [List.length_append]; exact hbx, ?_, ?_, ?_, ?_, by have := HR.out.few; rw [List.length_append, List.length_singleton]; omega, by omega⟩
          · have h1 := ((own_reads (ps := now ++ [(kx, vx)]) HS.out.2.2.1).2).keep H7.out.1
            have hb2 : g9 ≠ V.heap.size := row_apart ((own_row HS.out.2.2.1).choose_spec.1.below H7.out.1) H7.out.2.2.1 (by decide)
            exact h1.moveo ((Below.heap_setCell _ ⟨V.heap.size, 1, none⟩ _ g9 (by simpa using hb2)).trans (Below.heap_setCell _ ⟨V.heap.size, 0, none⟩ _ g9 (by simpa using hb2)))
          · obtain ⟨done, hd, hc⟩ := HR.out.cut
            refine ⟨done, hd, ?_⟩
            rw [hc, HS.out.2.2.2.2.2.1, cutP, if_neg (by rw [← HS.out.2.2.2.2.2.2.2.1]; exact hgt), sumW_append, sumW_cons, sumW_nil]; simp only [Nat.add_zero]
          · rw [hsw]; omega
          · intro x hx
            rcases List.mem_append.1 hx with h | h
            · exact HR.out.sub x h
            · obtain rfl : x = (kx, vx) := by simpa using h
              exact HS.out.2.2.2.2.2.2.2.2.2.2.1
      · rintro _ _ w6 i ⟨b0, b1, b2, b3, b4, b5, b6, b7, b8, b9, b10, b11, b12, b13, b14, b15, t17, t18, t19, t20, t21, t22, t23, t24, t25, t26, t27, t28, t29, t30, t6, rfl, rfl, hJ⟩ hi
        have hi16 : i < 16 := ready_lt hi
        have hcs : i = 0 ∨ i = 1 ∨ i = 2 ∨ i = 3 ∨ i = 4 ∨ i = 5 ∨ i = 6 ∨ i = 7 ∨ i = 8 ∨ i = 9 ∨ i = 10 ∨ i = 11 ∨ i = 12 ∨ i = 13 ∨ i = 14 ∨ i = 15 := by omega
        clear hi16
        rcases hcs with rfl | rfl | rfl | rfl | rfl | rfl | rfl | rfl | rfl | rfl | rfl | rfl | rfl | rfl | rfl | rfl
        · refine wpOp_run rfl rfl (fun K2 hK2 => ?_)
          have HK2 := Ytobdfocfkomagaa.base.Shut.mk hK2; clear hK2
          have HJ := Ytobdfocfkomagaa.base.Shut.mk hJ
          clear hJ hi
          go_wp2
          exact HK2.out _ _ ⟨true, b1, b2, b3, b4, b5, b6, b7, b8, b9, b10, b11, b12, b13, b14, b15, _, _, _, _, _, _, _, _, _, _, _, _, _, _, _, rfl, rfl, { HJ.out with p0 := fun _ => rfl }⟩
        · have hb0 : b0 = true := dep_of hi rfl (m := 0) rfl rfl
          obtain rfl := hJ.p0 hb0
          have y := (hJ.B.cell (World.block_lt_of_cell? wr _ z0)).trans z0
          refine wpOp_run rfl rfl (fun K2 hK2 => ?_)
          have HK2 := Ytobdfocfkomagaa.base.Shut.mk hK2; clear hK2
          have HJ := Ytobdfocfkomagaa.base.Shut.mk hJ
          clear hJ hi
          go_wp2
          exact HK2.out _ _ ⟨b0, true, b2, b3, b4, b5, b6, b7, b8, b9, b10, b11, b12, b13, b14, b15, _, _, _, _, _, _, _, _, _, _, _, _, _, _, _, rfl, rfl, { HJ.out with p1 := fun _ => rfl }⟩
        · have hnw := newer (same w6) (.cells #[] 60)
          obtain ⟨inf, zz, hinf, -⟩ := pair_info
          have hemp := run_empty 47 60 inf Try.underlying47 hinf w6
          rw [f_shut] at hemp
          refine wpOp_run rfl rfl (fun K2 hK2 => ?_)
          have HK2 := Ytobdfocfkomagaa.base.Shut.mk hK2; clear hK2
          have HJ := Ytobdfocfkomagaa.base.Shut.mk (hJ.below hnw)
          clear hJ hi hnw hinf
          go_wp2
          exact HK2.out _ _ ⟨b0, b1, true, b3, b4, b5, b6, b7, b8, b9, b10, b11, b12, b13, b14, b15, _, _, _, _, _, _, _, _, _, _, _, _, _, _, _, rfl, rfl, { HJ.out with p2 := fun _ => ⟨_, rfl⟩ }⟩
        · refine wpOp_run rfl rfl (fun K2 hK2 => ?_)
          have HK2 := Ytobdfocfkomagaa.base.Shut.mk hK2; clear hK2
          have HJ := Ytobdfocfkomagaa.base.Shut.mk hJ
          clear hJ hi
          go_wp2
          exact HK2.out _ _ ⟨b0, b1, b2, true, b4, b5, b6, b7, b8, b9, b10, b11, b12, b13, b14, b15, _, _, _, _, _, _, _, _, _, _, _, _, _, _, _, rfl, rfl, { HJ.out with p3 := fun _ => rfl }⟩
        · have hb3 : b3 = true := dep_of hi rfl (m := 0) rfl rfl
          obtain rfl := hJ.p3 hb3
          have y := (hJ.B.cell (World.block_lt_of_cell? wr _ n1)).trans n1
          refine wpOp_run rfl rfl (fun K2 hK2 => ?_)
          have HK2 := Ytobdfocfkomagaa.base.Shut.mk hK2; clear hK2
          have HJ := Ytobdfocfkomagaa.base.Shut.mk hJ
          clear hJ hi
          go_wp2
          exact HK2.out _ _ ⟨b0, b1, b2, b3, true, b5, b6, b7, b8, b9, b10, b11, b12, b13, b14, b15, _, _, _, _, _, _, _, _, _, _, _, _, _, _, _, rfl, rfl, { HJ.out with p4 := fun _ => rfl }⟩
        · have hb2 : b2 = true := dep_of hi rfl (m := 0) rfl rfl
          have hb4 : b4 = true := dep_of hi rfl (m := 1) rfl rfl
          obtain ⟨e, rfl⟩ := hJ.p2 hb2
          obtain rfl := hJ.p4 hb4
          rcases first_run w6 e An cm now hm (rN.keep hJ.B) hJ.B.size with ⟨hnil, hrun⟩ | ⟨hne, g9, c9, w9, hrun, hown, hb9⟩
          · rw [g_shut] at hrun
            refine wpOp_run rfl rfl (fun K2 hK2 => ?_)
            have HK2 := Ytobdfocfkomagaa.base.Shut.mk hK2; clear hK2
            have HJ := Ytobdfocfkomagaa.base.Shut.mk (And.intro hJ hnil)
            clear hJ hi hnil
            go_wp2
            exact HK2.out _ _ ⟨b0, b1, b2, b3, b4, true, b6, b7, b8, b9, b10, b11, b12, b13, b14, b15, _, _, _, _, _, _, _, _, _, _, _, _, _, _, _, rfl, rfl, { HJ.out.1 with p5 := fun _ => .inl ⟨HJ.out.2, _, rfl⟩ }⟩
          · rw [g_shut] at hrun
            refine wpOp_run rfl rfl (fun K2 hK2 => ?_)
            have HK2 := Ytobdfocfkomagaa.base.Shut.mk hK2; clear hK2
            have HJ := Ytobdfocfkomagaa.base.Shut.mk (And.intro (hJ.below hb9) hown)
            clear hJ hi hown hb9
            go_wp2
            exact HK2.out _ _ ⟨b0, b1, b2, b3, b4, true, b6, b7, b8, b9, b10, b11, b12, b13, b14, b15, _, _, _, _, _, _, _, _, _, _, _, _, _, _, _, rfl, rfl, { HJ.out.1 with p5 := fun _ => .inr ⟨hne, _, _, rfl, fun _ => HJ.out.2⟩ }⟩
        · refine wpOp_run rfl rfl (fun K2 hK2 => ?_)
          have HK2 := Ytobdfocfkomagaa.base.Shut.mk hK2; clear hK2
          have HJ := Ytobdfocfkomagaa.base.Shut.mk hJ
          clear hJ hi
          go_wp2
          exact HK2.out _ _ ⟨b0, b1, b2, b3, b4, b5, true, b7, b8, b9, b10, b11, b12, b13, b14, b15, _, _, _, _, _, _, _, _, _, _, _, _, _, _, _, rfl, rfl, { HJ.out with p6 := fun _ => rfl }⟩
        · have hb6 : b6 = true := dep_of hi rfl (m := 0) rfl rfl
          obtain rfl := hJ.p6 hb6
          have y := (hJ.B.cell (World.block_lt_of_cell? wr _ z1)).trans z1
          refine wpOp_run rfl rfl (fun K2 hK2 => ?_)
          have HK2 := Ytobdfocfkomagaa.base.Shut.mk hK2; clear hK2
          have HJ := Ytobdfocfkomagaa.base.Shut.mk hJ
          clear hJ hi
          go_wp2
          exact HK2.out _ _ ⟨b0, b1, b2, b3, b4, b5, b6, true, b8, b9, b10, b11, b12, b13, b14, b15, _, _, _, _, _, _, _, _, _, _, _, _, _, _, _, rfl, rfl, { HJ.out with p7 := fun _ => rfl }⟩
        · refine wpOp_run rfl rfl (fun K2 hK2 => ?_)
          have HK2 := Ytobdfocfkomagaa.base.Shut.mk hK2; clear hK2
          have HJ := Ytobdfocfkomagaa.base.Shut.mk hJ
          clear hJ hi
          go_wp2
          exact HK2.out _ _ ⟨b0, b1, b2, b3, b4, b5, b6, b7, true, b9, b10, b11, b12, b13, b14, b15, _, _, _, _, _, _, _, _, _, _, _, _, _, _, _, rfl, rfl, { HJ.out with p8 := fun _ => rfl }⟩
        · have hb7 : b7 = true := dep_of hi rfl (m := 0) rfl rfl
          have hb8 : b8 = true := dep_of hi rfl (m := 1) rfl rfl
          obtain rfl := hJ.p7 hb7
          obtain rfl := hJ.p8 hb8
          refine wpOp_run rfl rfl (fun K2 hK2 => ?_)
          have HK2 := Ytobdfocfkomagaa.base.Shut.mk hK2; clear hK2
          have HJ := Ytobdfocfkomagaa.base.Shut.mk hJ
          clear hJ hi
          go_wp2
          exact HK2.out _ _ ⟨b0, b1, b2, b3, b4, b5, b6, b7, b8, true, b10, b11, b12, b13, b14, b15, _, _, _, _, _, _, _, _, _, _, _, _, _, _, _, rfl, rfl, { HJ.out with p9 := fun _ => rfl }⟩
        · have hb9 : b9 = true := dep_of hi rfl (m := 0) rfl rfl
          obtain rfl := hJ.p9 hb9
          have y0 := (hJ.B.cell (World.block_lt_of_cell? wr _ c0)).trans c0
          have y1 := (hJ.B.cell (World.block_lt_of_cell? wr _ c1)).trans c1
          refine wpOp_run rfl rfl (fun K2 hK2 => ?_)
          have HK2 := Ytobdfocfkomagaa.base.Shut.mk hK2; clear hK2
          have HJ := Ytobdfocfkomagaa.base.Shut.mk hJ
          clear hJ hi
          go_wp2
          exact HK2.out _ _ ⟨b0, b1, b2, b3, b4, b5, b6, b7, b8, b9, true, b11, b12, b13, b14, b15, _, _, _, _, _, _, _, _, _, _, _, _, _, _, _, rfl, rfl, { HJ.out with p10 := fun _ => rfl }⟩
        · have hb10 : b10 = true := dep_of hi rfl (m := 0) rfl rfl
          obtain rfl := hJ.p10 hb10
          have hnw := newer (same w6) (.cells #[.string kx, .string vx] 60)
          have hrw := Row.new w6 #[.string kx, .string vx] 60
          refine wpOp_run rfl rfl (fun K2 hK2 => ?_)
          have HK2 := Ytobdfocfkomagaa.base.Shut.mk hK2; clear hK2
          have HJ := Ytobdfocfkomagaa.base.Shut.mk (And.intro (hJ.below hnw) hrw)
          clear hJ hi hnw hrw
          go_wp2
          exact HK2.out _ _ ⟨b0, b1, b2, b3, b4, b5, b6, b7, b8, b9, b10, true, b12, b13, b14, b15, _, _, _, _, _, _, _, _, _, _, _, _, _, _, _, rfl, rfl, { HJ.out.1 with p11 := fun _ => ⟨_, rfl, fun _ => HJ.out.2⟩ }⟩
        · have hb5 : b5 = true := dep_of hi rfl (m := 0) rfl rfl
          have hb11 : b11 = true := dep_of hi rfl (m := 1) rfl rfl
          have hb12 : b12 = false := by { have := Ytobdfocfkomagaa.base.ready_false hi rfl; simpa using this }
          obtain ⟨y, rfl, hy⟩ := hJ.p11 hb11
          have hcase : ∃ v5, t22 = v5 ∧ ∃ g9 c9 w9, (Builtin.append_ #[47, 47] 47 #[v5, .slice (some ⟨y, 0, none⟩) 1 1]).run Try.prog w6 = .ok (sv g9 (now.length + 1) c9) w9 ∧ w9.ownsRow wr.heap.size 60 2 (sv g9 (now.length + 1) c9) (now.length + 1) (cellsP (now ++ [(kx, vx)])) ∧ Below wr.heap.size wr w9 ∧ ∀ M cs, Row w6 M cs 49 → Row w9 M cs 49 := by
            rcases hJ.p5 hb5 with ⟨hnil, e, rfl⟩ | ⟨hne, g, c, rfl, ho⟩
            · exact ⟨_, rfl, second_nil w6 wr e y now hnil (kx, vx) (hy hb12) hJ.B⟩
            · exact ⟨_, rfl, second_run w6 wr g c y now hm (kx, vx) (ho hb12) (hy hb12) hJ.B⟩
          obtain ⟨v5, rfl, g9, c9, w9, hrun, hown, hB9, hM⟩ := hcase
          rw [g_shut] at hrun
          refine wpOp_run rfl rfl (fun K2 hK2 => ?_)
          have HK2 := Ytobdfocfkomagaa.base.Shut.mk hK2; clear hK2
          have HJ := Ytobdfocfkomagaa.base.Shut.mk (And.intro hJ (And.intro hown (And.intro hB9 hM)))
          clear hJ hi hown hB9 hM hy
          go_wp2
          exact HK2.out _ _ ⟨b0, b1, b2, b3, b4, b5, b6, b7, b8, b9, b10, b11, true, b13, b14, b15, _, _, _, _, _, _, _, _, _, _, _, _, _, _, _, rfl, rfl, { HJ.out.1 with
              B := HJ.out.2.2.1
              cl12 := (fun e => by cases e)
              p5 := fun e => (HJ.out.1.p5 e).imp id fun ⟨h1, g, c, h2, _⟩ => ⟨h1, g, c, h2, fun e2 => by cases e2⟩
              p11 := fun e => ⟨_, rfl, fun e2 => by cases e2⟩
              p12 := fun _ => ⟨_, _, rfl, HJ.out.2.1⟩
              p13 := fun e => absurd ((HJ.out.1.cl12 hb12).1.symm.trans e) (by decide)
              p14 := fun e => (HJ.out.1.p14 e).imp fun M ⟨h1, h2, c0, c1, h3⟩ => ⟨h1, h2, c0, c1, HJ.out.2.2.2 _ _ h3⟩
              p15 := fun e => absurd ((HJ.out.1.cl12 hb12).2.symm.trans e) (by decide) }⟩
        · have hb1 : b1 = true := dep_of hi rfl (m := 0) rfl rfl
          have hb12 : b12 = true := dep_of hi rfl (m := 1) rfl rfl
          obtain rfl := hJ.p1 hb1
          obtain ⟨g9, c9, rfl, -⟩ := hJ.p12 hb12
          refine wpOp_run rfl rfl (fun K2 hK2 => ?_)
          have HK2 := Ytobdfocfkomagaa.base.Shut.mk hK2; clear hK2
          have HJ := Ytobdfocfkomagaa.base.Shut.mk hJ
          clear hJ hi
          go_wp2
          exact HK2.out _ _ ⟨b0, b1, b2, b3, b4, b5, b6, b7, b8, b9, b10, b11, b12, true, b14, b15, _, _, _, _, _, _, _, _, _, _, _, _, _, _, _, rfl, rfl, { HJ.out with cl12 := (fun e => absurd (hb12.symm.trans e) (by decide)), p13 := fun _ => rfl }⟩
        · have hnw := newer (same w6) (.cells zc 49)
          have hrw := Row.new w6 zc 49
          refine wpOp_run rfl rfl (fun K2 hK2 => ?_)
          have HK2 := Ytobdfocfkomagaa.base.Shut.mk hK2; clear hK2
          have HJ := Ytobdfocfkomagaa.base.Shut.mk (And.intro (hJ.below hnw) (And.intro hrw hJ.B.size))
          have hb14 : b14 = false := by { have := Ytobdfocfkomagaa.base.ready_false hi rfl; simpa using this }
          have hb15 := hJ.cl14 hb14
          clear hJ hi hnw hrw
          go_wp2
          exact HK2.out _ _ ⟨b0, b1, b2, b3, b4, b5, b6, b7, b8, b9, b10, b11, b12, b13, true, b15, _, _, _, _, _, _, _, _, _, _, _, _, _, _, _, rfl, rfl, { HJ.out.1 with cl14 := (fun e => by cases e), p14 := fun _ => ⟨_, rfl, HJ.out.2.2, _, _, HJ.out.2.1⟩, p15 := fun e => absurd (hb15.symm.trans e) (by decide) }⟩
        · have hb14 : b14 = true := dep_of hi rfl (m := 0) rfl rfl
          have hb13 : b13 = true := dep_of hi rfl (m := 1) rfl rfl
          have hb12 : b12 = true := dep_of hi rfl (m := 2) rfl rfl
          obtain ⟨g9, c9, rfl, -⟩ := hJ.p12 hb12
          obtain ⟨M, rfl, hMge, u0, u1, hMr⟩ := hJ.p14 hb14
          obtain rfl := hJ.p13 hb13
          have m0 := hMr.cell 0
          have m1 := hMr.cell 1
          have f0 := hMr.frozen 0
          have f1 := hMr.frozen 1
          have hset := hMr.two (.bool leaf) (sv g9 (now.length + 1) c9) rfl
          refine wpOp_run rfl rfl (fun K2 hK2 => ?_)
          have HK2 := Ytobdfocfkomagaa.base.Shut.mk hK2; clear hK2
          have HJ := Ytobdfocfkomagaa.base.Shut.mk (And.intro hJ (And.intro hset (two_below hJ.B hMge (.bool leaf) (sv g9 (now.length + 1) c9))))
          have HMr := Ytobdfocfkomagaa.base.Shut.mk hMr
          clear hJ hi hset hMr
          go_wp2
          exact HK2.out _ _ ⟨b0, b1, b2, b3, b4, b5, b6, b7, b8, b9, b10, b11, b12, b13, b14, true, _, _, _, _, _, _, _, _, _, _, _, _, _, _, _, rfl, rfl, { HJ.out.1 with
              B := HJ.out.2.2
              cl14 := (fun e => absurd (hb14.symm.trans e) (by decide))
              cl12 := (fun e => absurd (hb12.symm.trans e) (by decide))
              p5 := fun e => (HJ.out.1.p5 e).imp id fun ⟨h1, g, c, h2, _⟩ => ⟨h1, g, c, h2, fun e2 => absurd (hb12.symm.trans e2) (by decide)⟩
              p11 := fun e => (HJ.out.1.p11 e).imp fun y ⟨h1, _⟩ => ⟨h1, fun e2 => absurd (hb12.symm.trans e2) (by decide)⟩
              p12 := fun e => (HJ.out.1.p12 e).imp fun g ⟨c, h1, h2⟩ => ⟨c, h1, own_move (own_move h2 (Below.heap_setCell _ ⟨M, 0, none⟩ _ g (by simpa using row_apart (own_row h2).choose_spec.1 HMr.out (by decide)))) (Below.heap_setCell _ ⟨M, 1, none⟩ _ g (by simpa using row_apart (own_row h2).choose_spec.1 HMr.out (by decide)))⟩
              p14 := fun e => ⟨_, rfl, hMge, _, _, HJ.out.2.1⟩
              p15 := fun e => ⟨_, rfl, HJ.out.2.1⟩ }⟩
    · obtain rfl : k = n := by omega
      have hlen : (cutP 478 ps [] 0 []).length = cnt + 1 := by
        obtain ⟨done, hd, hc⟩ := HR.out.cut
        rw [hc, List.drop_of_length_le (by rw [H.out.2.2.2.2.1]; exact Nat.le_refl _), cutP, List.length_append, hd]; rfl
      have hcn := HR.out.cntk
      have HL := Ytobdfocfkomagaa.base.Shut.mk hlen
      clear hlen hqk hlt
      go_wp2
      go_ret
      exact ⟨by rw [HL.out]; go_num, chain H.out.2.2.1 HR.out.below⟩
end Go.Proofs.Ytobdfocfkomagaa.node
