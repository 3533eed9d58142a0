/- The walk of slices.Insert of one element, of two cells, at any place. -/
import Derived.Test.YtobdfocfkomagaaTwo2
import Derived.BigRegion
import Derived.WalkMore
namespace Go.Proofs.Ytobdfocfkomagaa.insRule
open Go.ChangeShapes Go.WideShapes Go.ChangeAt Go.RowKit
open Ytobdfocfkomagaa.base (chain newer drewn same)

theorem info : ∃ i z, Try.prog.info? 77 = some i ∧ i.zero = some z ∧ i.size = 2 ∧ i.bytes ≤ 48 ∧ z.cells.size = 2 := by
  have h : (Try.prog.info? 77).map (fun i => (i.zero.map (·.cells.size), i.size, decide (i.bytes ≤ 48))) = some (some 2, 2, true) := by kernel_rfl
  obtain ⟨i, hi, hh⟩ := Option.map_eq_some_iff.1 h
  simp only [Prod.mk.injEq, decide_eq_true_eq] at hh
  obtain ⟨z, hz, hc⟩ := Option.map_eq_some_iff.1 hh.1
  exact ⟨i, z, hi, hz, hh.2.1, hh.2.2, hc⟩
theorem size2 : (Try.prog.info? 77).map (·.size) = some 2 := by kernel_rfl
theorem size_run (w : World) : (Go.sizeOf 77).run Try.prog w = .ok 2 w := by
  obtain ⟨i, z, hi, hz, hs, _⟩ := info
  simp [sizeOf, typeInfo, hi, hs]
def shutC (ats : Array TypeId) (ty : TypeId) (args : Array Value) : Sem Value := Builtin.copy_ ats ty args
theorem c_shut (ats : Array TypeId) (ty : TypeId) (args : Array Value) : Builtin.copy_ ats ty args = shutC ats ty args := rfl
def shutA (ats : Array TypeId) (ty : TypeId) (args : Array Value) : Sem Value := Builtin.append_ ats ty args
theorem a_shut (ats : Array TypeId) (ty : TypeId) (args : Array Value) : Builtin.append_ ats ty args = shutA ats ty args := rfl
attribute [local go_sem ↓] c_shut a_shut
theorem row_cell {w : World} {g : Nat} {C : List Value} {t : TypeId} (h : w.heap[g]? = some (.cells C.toArray t (0, 0))) (j : Nat) : w.cell? ⟨g, j, none⟩ = C[j]? := by
  rw [cell_of_row w g j _ t _ h]; simp
/-- what an insertion tells -/
def Ins (w : World) (base : Nat) (A : Option Addr) (n c : Nat) (ys : List Value) (e : Ending) (w' : World) : Prop :=
  ∃ g' c', e = .returned (.slice (some ⟨g', 0, none⟩) (n + 1) c') ∧ w'.ownsRow base 77 2 (.slice (some ⟨g', 0, none⟩) (n + 1) c') (n + 1) ys ∧ w.grownBy w' (Value.slice A n c).ownBlock
/-- and where it lies -/
def InsW (w : World) (base : Nat) (A : Option Addr) (n c : Nat) (ys : List Value) (e : Ending) (w' : World) : Prop :=
  ∃ g' c', e = .returned (.slice (some ⟨g', 0, none⟩) (n + 1) c') ∧ w'.ownsRow base 77 2 (.slice (some ⟨g', 0, none⟩) (n + 1) c') (n + 1) ys ∧ w.grownBy w' (Value.slice A n c).ownBlock ∧ (some g' = (Value.slice A n c).ownBlock ∨ w.heap.size ≤ g')
theorem InsW.weak {w : World} {base : Nat} {A : Option Addr} {n c : Nat} {ys : List Value} {e : Ending} {w' : World} (h : InsW w base A n c ys e w') : Ins w base A n c ys e w' := by
  obtain ⟨g', c', h1, h2, h3, _⟩ := h
  exact ⟨g', c', h1, h2, h3⟩
set_option maxRecDepth 100000 in
set_option maxHeartbeats 1600000 in
theorem end_walk (w : World) (base : Nat) (A : Option Addr) (n c vb : Nat) (u0 u1 : Value) (xs : List Value) (hown : w.ownsRow base 77 2 (.slice A n c) n xs) (hn : n ≤ 100000)
    (hv : w.heap[vb]? = some (.cells #[u0, u1] 77 (0, 0))) (h0 : u0.oneCell' = true) (h1 : u1.oneCell' = true) (hbase : base ≤ w.heap.size) :
    Calls Try.prog 48 #[.slice A n c, .int .i64 (n : Int), .slice (some ⟨vb, 0, none⟩) 1 1] w (Ins w base A n c (xs ++ [u0, u1])) := by
  obtain ⟨i, z, hi, hz, hs, hb, hc⟩ := info
  obtain ⟨v', w6, hrun, hown6, hgrow, hnn⟩ := run_append_own (P := Try.prog) (w := w) base 25 25 77 i z 2 i.bytes Try.underlying25 hi hz hs rfl hc (by decide) _ n xs hown ⟨vb, 0, none⟩ 1 1 [u0, u1] rfl
    (World.news_of_block (cs := #[u0, u1]) (t := 77) (fr := (0, 0)) hv) (fun u hu => by simp at hu; rcases hu with rfl | rfl <;> assumption) (by unfold maxLen; omega)
    (by have := Nat.mul_le_mul_left (n + 1) hb; omega) hbase
  have hform : ∃ g' c', v' = .slice (some ⟨g', 0, none⟩) (n + 1) c' := by
    obtain ⟨_, ⟨_, h⟩ | ⟨g, cap, cur, rfl, _⟩⟩ := hown6
    · omega
    · exact ⟨g, cap, rfl⟩
  obtain ⟨g', c', rfl⟩ := hform
  have H := Ytobdfocfkomagaa.base.Shut.mk (show Ins w base A n c (xs ++ [u0, u1]) (.returned (.slice (some ⟨g', 0, none⟩) (n + 1) c')) w6 from ⟨g', c', rfl, hown6, hgrow⟩)
  rw [a_shut] at hrun
  have hform : (A = none ∧ n = 0 ∧ c = 0) ∨ ∃ g, A = some ⟨g, 0, none⟩ ∧ n ≤ c := by
    obtain ⟨_, ⟨h, h'⟩ | ⟨g, cap, cur, h, _, _, hle, _⟩⟩ := hown
    · cases h; exact .inl ⟨rfl, rfl, rfl⟩
    · cases h; exact .inr ⟨g, rfl, hle⟩
  clear hi hz hs hb hc hown6 hgrow hnn hown hv hbase
  rcases hform with ⟨rfl, rfl, rfl⟩ | ⟨g, rfl, hle⟩
  · go_enter Try.func48, Try.ntmps48
    go_wp2
    go_ret
    exact H.out
  · by_cases hcn : c = n
    · subst hcn
      go_enter Try.func48, Try.ntmps48
      go_wp2
      go_ret
      exact H.out
    · have hle' : (n : Int) ≤ c := by omega
      go_enter Try.func48, Try.ntmps48
      go_wp2
      go_ret
      exact H.out
set_option maxRecDepth 100000 in
set_option maxHeartbeats 1600000 in
theorem shift_walk (w : World) (base g n c i vb : Nat) (u0 u1 : Value) (xs : List Value) (hown : w.ownsRow base 77 2 (.slice (some ⟨g, 0, none⟩) n c) n xs) (hx1 : ∀ u ∈ xs, u.oneCell' = true) (hi : i < n) (hn : n ≤ 100000) (hroom : n + 1 ≤ c)
    (hv : w.heap[vb]? = some (.cells #[u0, u1] 77 (0, 0))) (hne : g ≠ vb) (h0 : u0.oneCell' = true) (h1 : u1.oneCell' = true) :
    Calls Try.prog 48 #[.slice (some ⟨g, 0, none⟩) n c, .int .i64 (i : Int), .slice (some ⟨vb, 0, none⟩) 1 1] w (InsW w base (some ⟨g, 0, none⟩) n c (xs.take (i * 2) ++ [u0, u1] ++ xs.drop (i * 2))) := by
  obtain ⟨cur, hbg, hg, hnc, hcm, hcs, htk, hxl⟩ : ∃ cur, base ≤ g ∧ w.heap[g]? = some (.cells cur 77 (0, 0)) ∧ n ≤ c ∧ c ≤ maxLen ∧ cur.size = c * 2 ∧ cur.toList.take (n * 2) = xs ∧ xs.length = n * 2 := by
    obtain ⟨hl, ⟨h, h'⟩ | ⟨g, cap, cur, h, h1, h2, h3, h4, h5, h6⟩⟩ := hown
    · cases h
    · cases h; exact ⟨cur, h1, h2, h3, h4, h5, h6, hl⟩
  obtain ⟨C, rfl⟩ : ∃ C : List Value, cur = C.toArray := ⟨cur.toList, by simp⟩
  simp only [List.size_toArray] at hcs htk
  have hsh := two.shift_list C xs [u0, u1] i n c 2 hcs htk (by omega) hroom rfl _ rfl _ rfl
  obtain ⟨L1, hL1⟩ : ∃ L1, C.take ((i + 1) * 2) ++ xs.drop (i * 2) ++ C.drop ((i + 1) * 2 + (xs.drop (i * 2)).length) = L1 := ⟨_, rfl⟩
  rw [hL1] at hsh
  obtain ⟨L2, hL2⟩ : ∃ L2, L1.take (i * 2) ++ [u0, u1] ++ L1.drop (i * 2 + [u0, u1].length) = L2 := ⟨_, rfl⟩
  rw [hL2] at hsh
  have hov : ∀ (lb cb : Nat), (callFunc 77 #[.slice (some ⟨vb, 0, none⟩) 1 1, .slice (some ⟨g, (i + 1) * 2, none⟩) lb cb]).run Try.prog w = .ok (.value (.bool false)) w := fun lb cb => by
    rw [run_callFunc_extern Try.func77 (by kernel_rfl) (by kernel_rfl) (by kernel_rfl) (e := Extern.SlicesOverlaps.overlaps #[25, 25] #[4]) (by kernel_rfl),
      Lib.run_overlaps_apart w 25 4 77 Try.underlying25 2 size_run ⟨vb, 0, none⟩ ⟨g, (i + 1) * 2, none⟩ 1 1 lb cb (Ne.symm hne) 77 77 2 (c * 2) (by simp [World.shape?, hv]) (by simp [World.shape?, hg, hcs]) (by omega) (by simp [World.frozen?, hv]) (by simp [World.frozen?, hv])]
    rfl
  have hcp1 : ∀ (sc dc : Nat), (Builtin.copy_ #[25, 25] 3 #[.slice (some ⟨g, (i + 1) * 2, none⟩) (n - i) dc, .slice (some ⟨g, i * 2, none⟩) (n + 1 - i) sc]).run Try.prog w.drew = .ok (goInt (n - i : Nat)) (w.drew.setRow g L1.toArray) := fun sc dc => by
    have := two.run_copy_many (P := Try.prog) w.drew 25 25 3 77 2 g ((i + 1) * 2) (n - i) dc ⟨g, i * 2, none⟩ (n + 1 - i) sc C.toArray 77 (xs.drop (i * 2)) Try.underlying25 size2 hg
      (by rw [List.length_drop, hxl, show Nat.min (n + 1 - i) (n - i) = n - i from Nat.min_eq_right (by omega)]; omega)
      (fun j v hj => by
        rw [Addr.add_lit, List.getElem?_drop] at *
        rw [← htk, List.getElem?_take] at hj
        split at hj
        · rw [row_cell (w := w.drew) hg]; exact hj
        · cases hj)
      (by rw [List.length_drop, hxl, List.size_toArray, hcs]; omega) (fun v hv => hx1 v (List.mem_of_mem_drop hv))
    rw [show Nat.min (n + 1 - i) (n - i) = n - i from Nat.min_eq_right (by omega)] at this
    rw [this]
    simp only
    rw [hL1]
  have hW1 : (w.drew.setRow g L1.toArray).heap[g]? = some (.cells L1.toArray 77 (0, 0)) := setRow_heap w.drew g C.toArray _ _ (0, 0) hg
  have hW1v : (w.drew.setRow g L1.toArray).heap[vb]? = some (.cells #[u0, u1] 77 (0, 0)) := (setRow_other w.drew g vb L1.toArray (Ne.symm hne)).trans hv
  have hcp2 : ∀ (dc : Nat), (Builtin.copy_ #[25, 25] 3 #[.slice (some ⟨g, i * 2, none⟩) (n + 1 - i) dc, .slice (some ⟨vb, 0, none⟩) 1 1]).run Try.prog (w.drew.setRow g L1.toArray) = .ok (goInt (1 : Nat)) (w.drew.setRow g L2.toArray) := fun dc => by
    have := two.run_copy_many (P := Try.prog) (w.drew.setRow g L1.toArray) 25 25 3 77 2 g (i * 2) (n + 1 - i) dc ⟨vb, 0, none⟩ 1 1 L1.toArray 77 [u0, u1] Try.underlying25 size2 hW1
      (by rw [show Nat.min 1 (n + 1 - i) = 1 from Nat.min_eq_left (by omega)]; rfl)
      (World.news_of_block (cs := #[u0, u1]) (t := 77) (fr := (0, 0)) hW1v)
      (by simp only [List.size_toArray, List.length_cons, List.length_nil]; omega) (fun u hu => by simp at hu; rcases hu with rfl | rfl <;> assumption)
    rw [show Nat.min 1 (n + 1 - i) = 1 from Nat.min_eq_left (by omega)] at this
    rw [this]
    simp only
    rw [hL2, setRow_setRow]
  have H := Ytobdfocfkomagaa.base.Shut.mk (show InsW w base (some ⟨g, 0, none⟩) n c (xs.take (i * 2) ++ [u0, u1] ++ xs.drop (i * 2)) (.returned (.slice (some ⟨g, 0, none⟩) (n + 1) c)) (w.drew.setRow g L2.toArray) from
    ⟨g, c, rfl, ⟨by rw [← hsh.2.2, List.length_take, hsh.2.1]; omega, .inr ⟨g, c, L2.toArray, rfl, hbg, setRow_heap w.drew g C.toArray _ _ (0, 0) hg, hroom, hcm, by simpa using hsh.2.1, by simpa using hsh.2.2⟩⟩,
      ⟨rfl, rfl, rfl, by rw [setRow_size]; exact Nat.le_refl _, fun k _ hk => setRow_other w.drew g k _ (fun e => hk (by simp [Value.ownBlock, e]))⟩, .inl rfl⟩)
  simp only [c_shut] at hcp1 hcp2
  have hcm' : c ≤ 9223372036854775807 := by unfold maxLen at hcm; omega
  have i1 : (i : Int) ≤ n := by omega
  have i2 : ¬ (i : Int) = n := by omega
  have i3 : ¬ c = i := by omega
  have i4 : (n : Int) + 1 ≤ c := by omega
  have i5 : ¬ c = i + 1 := by omega
  have i6 : (i : Int) + 1 ≤ n + 1 := by omega
  have i7 : (i : Int) ≤ n + 1 := by omega
  have i8 : ((i : Int) + 1).toNat = i + 1 := by omega
  have i9 : n + 1 - (i + 1) = n - i := by omega
  have w1 : IntKind.i64.wrap ((n : Int) + 1) = n + 1 := by rw [IntKind.wrap_i64]; omega
  have w2 : IntKind.i64.wrap ((i : Int) + 1) = i + 1 := by rw [IntKind.wrap_i64]; omega
  clear hsh hL1 hL2 hW1 hW1v hown hx1 hg hcs htk hxl hv hbg hcm hnc hne
  go_enter Try.func48, Try.ntmps48
  go_wp2_with (simp only [hov])
  go_big_region
  go_wp2
  go_ret
  exact H.out
set_option maxRecDepth 100000 in
set_option maxHeartbeats 1600000 in
theorem grow_walk (w : World) (base g n c i vb : Nat) (u0 u1 : Value) (xs : List Value) (hown : w.ownsRow base 77 2 (.slice (some ⟨g, 0, none⟩) n c) n xs) (hx1 : ∀ u ∈ xs, u.oneCell' = true) (hi : i < n) (hn : n ≤ 100000) (hroom : c < n + 1)
    (hv : w.heap[vb]? = some (.cells #[u0, u1] 77 (0, 0))) (h0 : u0.oneCell' = true) (h1 : u1.oneCell' = true) (hbase : base ≤ w.heap.size) :
    Calls Try.prog 48 #[.slice (some ⟨g, 0, none⟩) n c, .int .i64 (i : Int), .slice (some ⟨vb, 0, none⟩) 1 1] w (InsW w base (some ⟨g, 0, none⟩) n c (xs.take (i * 2) ++ [u0, u1] ++ xs.drop (i * 2))) := by
  obtain ⟨cur, hbg, hg, hnc, hcm, hcs, htk, hxl⟩ : ∃ cur, base ≤ g ∧ w.heap[g]? = some (.cells cur 77 (0, 0)) ∧ n ≤ c ∧ c ≤ maxLen ∧ cur.size = c * 2 ∧ cur.toList.take (n * 2) = xs ∧ xs.length = n * 2 := by
    obtain ⟨hl, ⟨h, h'⟩ | ⟨g, cap, cur, h, h1, h2, h3, h4, h5, h6⟩⟩ := hown
    · cases h
    · cases h; exact ⟨cur, h1, h2, h3, h4, h5, h6, hl⟩
  obtain ⟨C, rfl⟩ : ∃ C : List Value, cur = C.toArray := ⟨cur.toList, by simp⟩
  simp only [List.size_toArray] at hcs htk
  obtain ⟨inf, z, hinf, hz, hs, hb, hc⟩ := info
  have hglt : g < w.heap.size := (Array.getElem?_eq_some_iff.1 hg).1
  have hvlt : vb < w.heap.size := (Array.getElem?_eq_some_iff.1 hv).1
  have hol : (xs.take (i * 2)).length = i * 2 := by rw [List.length_take, hxl]; omega
  have hap : ∀ ty, (Builtin.append_ #[25, 3] ty #[.slice (some ⟨g, 0, none⟩) i c, .int .i64 ((n + 1 - i : Nat) : Int)]).run Try.prog w = _ := fun ty =>
    Lib.run_append_grow_zeros (P := Try.prog) w 25 3 ty 77 inf z .i64 .i64 Try.underlying25 Try.underlying3 hinf hz (some ⟨g, 0, none⟩) i c (xs.take (i * 2))
      (by
        rw [hs]
        exact run_firstCells_some (P := Try.prog) w.drew 2 i ⟨g, 0, none⟩ i c (xs.take (i * 2)) hol (fun j v hj => by
          rw [Addr.add_lit, Nat.zero_add, row_cell (w := w.drew) hg]
          rw [List.getElem?_take] at hj
          split at hj
          · rw [← htk, List.getElem?_take] at hj
            split at hj
            · exact hj
            · cases hj
          · cases hj))
      (n + 1 - i) (by omega) (by rw [hs]; decide) (by omega) (by omega) (by have := Nat.mul_le_mul_left (n + 1 - i) hb; omega) (growslice_fits (by omega) (by have := Nat.mul_le_mul_left (i + (n + 1 - i)) hb; omega))
  have hsum : i + (n + 1 - i) = n + 1 := by omega
  rw [hsum] at hap
  obtain ⟨c', hc'⟩ : ∃ c', grownCap w (n + 1) c 77 = c' := ⟨_, rfl⟩
  have hcge : n + 1 ≤ c' := by rw [← hc']; exact grownCap_ge w (n + 1) c _
  have hcle : c' ≤ maxLen := by rw [← hc']; exact grownCap_le_maxLen w (n + 1) c _ (by unfold maxLen; omega)
  rw [hc'] at hap
  obtain ⟨R0, hR0, hR0l, hR0t⟩ : ∃ R0 : List Value, (xs.take (i * 2)).toArray ++ Builtin.zeroCells z.cells (n + 1 - i) ++ Builtin.zeroCells z.cells (c' - (n + 1)) = R0.toArray ∧ R0.length = c' * 2 ∧ R0.take (i * 2) = xs.take (i * 2) := by
    refine ⟨xs.take (i * 2) ++ (Builtin.zeroCells z.cells (n + 1 - i)).toList ++ (Builtin.zeroCells z.cells (c' - (n + 1))).toList, by simp, ?_, ?_⟩
    · rw [List.length_append, List.length_append, hol, Array.length_toList, Array.length_toList, size_zeroCells, size_zeroCells, hc]; omega
    · rw [List.append_assoc, List.take_append_of_le_length (by omega), List.take_of_length_le (by omega)]
  rw [hR0] at hap
  have hgl := two.grow_list R0 xs [u0, u1] i n c' 2 hR0l hxl hR0t (by omega) hcge rfl _ rfl _ rfl
  obtain ⟨R1, hR1⟩ : ∃ R1, R0.take (i * 2) ++ [u0, u1] ++ R0.drop (i * 2 + [u0, u1].length) = R1 := ⟨_, rfl⟩
  rw [hR1] at hgl
  obtain ⟨R2, hR2⟩ : ∃ R2, R1.take ((i + 1) * 2) ++ xs.drop (i * 2) ++ R1.drop ((i + 1) * 2 + (xs.drop (i * 2)).length) = R2 := ⟨_, rfl⟩
  rw [hR2] at hgl
  obtain ⟨W, hW⟩ : ∃ W, w.drew.alloc (.cells R0.toArray 77) = W := ⟨_, rfl⟩
  have hWg : W.heap[w.heap.size]? = some (.cells R0.toArray 77 (0, 0)) := by rw [← hW]; exact heap_alloc_new w.drew _
  have hWo : ∀ k, k < w.heap.size → W.heap[k]? = w.heap[k]? := fun k hk => by rw [← hW]; exact heap_alloc_old w.drew _ hk
  have hWs : W.heap.size = w.heap.size + 1 := by rw [← hW]; exact World.size_alloc _ _
  have hWz : W.os = w.os ∧ W.tape = w.tape ∧ W.output = w.output := by rw [← hW]; exact ⟨rfl, rfl, rfl⟩
  rw [hW] at hap
  obtain ⟨g', hg'⟩ : ∃ g', w.heap.size = g' := ⟨_, rfl⟩
  rw [hg'] at hap hWg
  have hcp1 : ∀ (dc : Nat), (Builtin.copy_ #[25, 25] 3 #[.slice (some ⟨g', i * 2, none⟩) (n + 1 - i) dc, .slice (some ⟨vb, 0, none⟩) 1 1]).run Try.prog W = .ok (goInt (1 : Nat)) (W.setRow g' R1.toArray) := fun dc => by
    have := two.run_copy_many (P := Try.prog) W 25 25 3 77 2 g' (i * 2) (n + 1 - i) dc ⟨vb, 0, none⟩ 1 1 R0.toArray 77 [u0, u1] Try.underlying25 size2 hWg
      (by rw [show Nat.min 1 (n + 1 - i) = 1 from Nat.min_eq_left (by omega)]; rfl)
      (World.news_of_block (cs := #[u0, u1]) (t := 77) (fr := (0, 0)) ((hWo vb hvlt).trans hv))
      (by simp only [List.size_toArray, List.length_cons, List.length_nil]; omega) (fun u hu => by simp at hu; rcases hu with rfl | rfl <;> assumption)
    rw [show Nat.min 1 (n + 1 - i) = 1 from Nat.min_eq_left (by omega)] at this
    rw [this]
    simp only
    rw [hR1]
  obtain ⟨X, hX⟩ : ∃ X, W.setRow g' R1.toArray = X := ⟨_, rfl⟩
  have hXg : X.heap[g']? = some (.cells R1.toArray 77 (0, 0)) := by rw [← hX]; exact setRow_heap W g' R0.toArray _ _ (0, 0) hWg
  have hXo : ∀ k, k < w.heap.size → X.heap[k]? = w.heap[k]? := fun k hk => by rw [← hX, setRow_other W g' k _ (by omega)]; exact hWo k hk
  have hXs : X.heap.size = w.heap.size + 1 := by rw [← hX, setRow_size]; exact hWs
  have hXz : X.os = w.os ∧ X.tape = w.tape ∧ X.output = w.output := by rw [← hX]; exact hWz
  rw [hX] at hcp1
  have hcp2 : ∀ (sc dc : Nat), (Builtin.copy_ #[25, 25] 3 #[.slice (some ⟨g', (i + 1) * 2, none⟩) (n - i) dc, .slice (some ⟨g, i * 2, none⟩) (n - i) sc]).run Try.prog X.drew = .ok (goInt (n - i : Nat)) (X.drew.setRow g' R2.toArray) := fun sc dc => by
    have := two.run_copy_many (P := Try.prog) X.drew 25 25 3 77 2 g' ((i + 1) * 2) (n - i) dc ⟨g, i * 2, none⟩ (n - i) sc R1.toArray 77 (xs.drop (i * 2)) Try.underlying25 size2 hXg
      (by rw [List.length_drop, hxl, show Nat.min (n - i) (n - i) = n - i from Nat.min_self _]; omega)
      (fun j v hj => by
        rw [Addr.add_lit, List.getElem?_drop] at *
        rw [← htk, List.getElem?_take] at hj
        split at hj
        · rw [row_cell (w := X.drew) ((hXo g hglt).trans hg)]; exact hj
        · cases hj)
      (by rw [List.length_drop, hxl, List.size_toArray]; omega) (fun v hv => hx1 v (List.mem_of_mem_drop hv))
    rw [show Nat.min (n - i) (n - i) = n - i from Nat.min_self _] at this
    rw [this]
    simp only
    rw [hR2]
  have H := Ytobdfocfkomagaa.base.Shut.mk (show InsW w base (some ⟨g, 0, none⟩) n c (xs.take (i * 2) ++ [u0, u1] ++ xs.drop (i * 2)) (.returned (.slice (some ⟨g', 0, none⟩) (n + 1) c')) (X.drew.setRow g' R2.toArray) from
    ⟨g', c', rfl, ⟨by rw [← hgl.2.2, List.length_take, hgl.2.1]; omega, .inr ⟨g', c', R2.toArray, rfl, by omega, setRow_heap X.drew g' R1.toArray _ _ (0, 0) hXg, hcge, hcle, by simpa using hgl.2.1, by simpa using hgl.2.2⟩⟩,
      ⟨hXz.1, hXz.2.1, hXz.2.2, by rw [setRow_size]; show w.heap.size ≤ X.heap.size; omega, fun k hk _ => by rw [setRow_other X.drew g' k _ (by omega)]; exact hXo k hk⟩, .inr (by omega)⟩)
  simp only [c_shut] at hcp1 hcp2
  simp only [a_shut] at hap
  have i1 : (i : Int) ≤ n := by omega
  have i2 : ¬ (i : Int) = n := by omega
  have i3 : ¬ c = i := by omega
  have i4 : (c : Int) < (n : Int) + 1 := by omega
  have i5 : ¬ c' = i + 1 := by omega
  have i6 : (i : Int) + 1 ≤ n + 1 := by omega
  have i7 : (i : Int) ≤ n + 1 := by omega
  have i8 : ((i : Int) + 1).toNat = i + 1 := by omega
  have i9 : n + 1 - (i + 1) = n - i := by omega
  have i10 : (i : Int) ≤ c := by omega
  have i11 : ¬ c' = i := by omega
  have i12 : n + 1 ≤ c' := hcge
  have i13 : ((n + 1 - i : Nat) : Int) = (n : Int) + 1 - i := by omega
  have w1 : IntKind.i64.wrap ((n : Int) + 1) = n + 1 := by rw [IntKind.wrap_i64]; omega
  have w2 : IntKind.i64.wrap ((i : Int) + 1) = i + 1 := by rw [IntKind.wrap_i64]; omega
  have w3 : IntKind.i64.wrap ((n : Int) + 1 - i) = (n : Int) + 1 - i := by rw [IntKind.wrap_i64]; omega
  rw [i13] at hap
  clear i13 hgl hR0 hR0l hR0t hR1 hR2 hW hWg hWo hWs hWz hX hXg hXo hXs hXz hown hx1 hg hcs htk hxl hv hbg hcm hnc hinf hz hs hb hc hol hc' hcle hglt hvlt hg' hsum
  go_enter Try.func48, Try.ntmps48
  go_wp2
  go_big_region
  go_wp2
  go_ret
  exact H.out
/-- an element put ahead of another one -/
theorem front_walk (w : World) (base g n c i vb : Nat) (u0 u1 : Value) (xs : List Value) (hown : w.ownsRow base 77 2 (.slice (some ⟨g, 0, none⟩) n c) n xs) (hx1 : ∀ u ∈ xs, u.oneCell' = true) (hi : i < n) (hn : n ≤ 100000)
    (hv : w.heap[vb]? = some (.cells #[u0, u1] 77 (0, 0))) (hne : g ≠ vb) (h0 : u0.oneCell' = true) (h1 : u1.oneCell' = true) (hbase : base ≤ w.heap.size) :
    Calls Try.prog 48 #[.slice (some ⟨g, 0, none⟩) n c, .int .i64 (i : Int), .slice (some ⟨vb, 0, none⟩) 1 1] w (InsW w base (some ⟨g, 0, none⟩) n c (xs.take (i * 2) ++ [u0, u1] ++ xs.drop (i * 2))) := by
  by_cases hr : n + 1 ≤ c
  · exact shift_walk w base g n c i vb u0 u1 xs hown hx1 hi hn hr hv hne h0 h1
  · exact grow_walk w base g n c i vb u0 u1 xs hown hx1 hi hn (by omega) hv h0 h1 hbase
/-- an element put at any place of a row of one's own -/
theorem insert_walk (w : World) (base : Nat) (A : Option Addr) (n c i vb : Nat) (u0 u1 : Value) (xs : List Value) (hown : w.ownsRow base 77 2 (.slice A n c) n xs) (hx1 : ∀ u ∈ xs, u.oneCell' = true) (hi : i ≤ n) (hn : n ≤ 100000)
    (hv : w.heap[vb]? = some (.cells #[u0, u1] 77 (0, 0))) (hne : (Value.slice A n c).ownBlock ≠ some vb) (h0 : u0.oneCell' = true) (h1 : u1.oneCell' = true) (hbase : base ≤ w.heap.size) :
    Calls Try.prog 48 #[.slice A n c, .int .i64 (i : Int), .slice (some ⟨vb, 0, none⟩) 1 1] w (Ins w base A n c (xs.take (i * 2) ++ [u0, u1] ++ xs.drop (i * 2))) := by
  by_cases hin : i = n
  · subst hin
    have hl : xs.length = i * 2 := hown.1
    rw [List.take_of_length_le (by omega), List.drop_of_length_le (by omega), List.append_nil]
    exact end_walk w base A i c vb u0 u1 xs hown hn hv h0 h1 hbase
  · have hA : ∃ g, A = some ⟨g, 0, none⟩ := by
      obtain ⟨_, ⟨h, h'⟩ | ⟨g, cap, cur, h, _⟩⟩ := hown
      · omega
      · cases h; exact ⟨g, rfl⟩
    obtain ⟨g, rfl⟩ := hA
    exact (front_walk w base g n c i vb u0 u1 xs hown hx1 (by omega) hn hv (fun e => hne (by rw [e]; rfl)) h0 h1 hbase).mono fun _ _ h => h.weak
end Go.Proofs.Ytobdfocfkomagaa.insRule
