/- The walk of slices.Delete of one element, of two cells. -/
import Derived.Test.YtobdfocfkomagaaInsRule
namespace Go.Proofs.Ytobdfocfkomagaa.insRule
open Go.ChangeShapes Go.WideShapes Go.ChangeAt Go.RowKit
open Ytobdfocfkomagaa.base (chain newer drewn same)

theorem del_list (C xs zz : List Value) (i n c k : Nat) (hC : C.length = c * k) (hx : C.take (n * k) = xs) (hi : i < n) (hc : n ≤ c) (hz : zz.length = k)
    (L1 : List Value) (h1 : L1 = C.take (i * k) ++ xs.drop ((i + 1) * k) ++ C.drop (i * k + (xs.drop ((i + 1) * k)).length)) (L2 : List Value) (h2 : L2 = L1.take ((n - 1) * k) ++ zz ++ L1.drop ((n - 1) * k + zz.length)) :
    L1.length = c * k ∧ L2.length = c * k ∧ L2.take ((n - 1) * k) = xs.take (i * k) ++ xs.drop ((i + 1) * k) := by
  obtain ⟨m, rfl⟩ : ∃ m, n = m + 1 := ⟨n - 1, by omega⟩
  rw [Nat.add_sub_cancel] at *
  have e1 : (i + 1) * k = i * k + k := by rw [Nat.add_mul, Nat.one_mul]
  have e2 : (m + 1) * k = m * k + k := by rw [Nat.add_mul, Nat.one_mul]
  have e3 : i * k ≤ m * k := Nat.mul_le_mul_right _ (by omega)
  have e4 : (m + 1) * k ≤ c * k := Nat.mul_le_mul_right _ hc
  have hxl : xs.length = (m + 1) * k := by rw [← hx, List.length_take]; omega
  have hdl : (xs.drop ((i + 1) * k)).length = m * k - i * k := by rw [List.length_drop, hxl]; omega
  have hL1 : L1.length = c * k := by
    rw [h1, List.length_append, List.length_append, List.length_take, hdl, List.length_drop]; omega
  have hpre : C.take (i * k) = xs.take (i * k) := by rw [← hx, List.take_take, show min (i * k) ((m + 1) * k) = i * k by omega]
  have hml : (xs.take (i * k) ++ xs.drop ((i + 1) * k)).length = m * k := by rw [List.length_append, List.length_take, hdl, hxl]; omega
  have ht : L1.take (m * k) = xs.take (i * k) ++ xs.drop ((i + 1) * k) := by
    rw [h1, hpre, ← hml, List.take_left]
  refine ⟨hL1, ?_, ?_⟩
  · rw [h2, List.length_append, List.length_append, List.length_take, List.length_drop, hz, hL1]; omega
  · rw [h2, ht, List.append_assoc, ← hml, List.take_left]
theorem run_clear_one (w : World) (g o c : Nat) (cur : Array Value) (z : Value) (inf : TypeInfo) (hinf : Try.prog.info? 77 = some inf) (hz : inf.zero = some z) (hzs : z.cells.size = 2) (h1 : ∀ u ∈ z.cells.toList, u.oneCell' = true) (hg : w.heap[g]? = some (.cells cur 77 (0, 0))) (hfit : o + 2 ≤ cur.size) (ty : TypeId) :
    (Builtin.clear_ #[25] ty #[.slice (some ⟨g, o, none⟩) 1 c]).run Try.prog w = .ok (.tuple #[]) (w.setRow g (cur.toList.take o ++ z.cells.toList ++ cur.toList.drop (o + z.cells.toList.length)).toArray) := by
  have hzc : (Builtin.zeroCells z.cells 1).toList = z.cells.toList := by
    apply congrArg
    apply Array.ext
    · simp [Builtin.zeroCells]
    · intro j h1 h2
      have : j < z.cells.size := by simpa [Builtin.zeroCells] using h2
      simp [Builtin.zeroCells, Nat.mod_eq_of_lt this, this]
  have hst := run_storeCells_at Try.prog g o 77 z.cells.toList 0 cur w hg (by rw [Array.length_toList, hzs]; omega) h1
  simp only [Nat.add_zero] at hst
  simp [Builtin.clear_, run_underlying Try.underlying25, zeroValue, typeInfo, hinf, hz, hzc, hst]
def shutD (ats : Array TypeId) (ty : TypeId) (args : Array Value) : Sem Value := Builtin.clear_ ats ty args
theorem d_shut (ats : Array TypeId) (ty : TypeId) (args : Array Value) : Builtin.clear_ ats ty args = shutD ats ty args := rfl
attribute [local go_sem ↓] d_shut a_shut
/-- what a deletion tells -/
def Del (w : World) (base g n c : Nat) (ys : List Value) (e : Ending) (w' : World) : Prop :=
  e = .returned (.slice (some ⟨g, 0, none⟩) (n - 1) c) ∧ w'.ownsRow base 77 2 (.slice (some ⟨g, 0, none⟩) (n - 1) c) (n - 1) ys ∧ w.grownBy w' (some g)
theorem zero_one : ∃ inf z, Try.prog.info? 77 = some inf ∧ inf.zero = some z ∧ inf.size = 2 ∧ z.cells.size = 2 ∧ ∀ u ∈ z.cells.toList, u.oneCell' = true := by
  have h : (Try.prog.info? 77).map (fun i => (i.zero.map (fun z => (z.cells.size, z.cells.toList.all (·.oneCell'))), i.size)) = some (some (2, true), 2) := by kernel_rfl
  obtain ⟨i, hi, hh⟩ := Option.map_eq_some_iff.1 h
  simp only [Prod.mk.injEq] at hh
  obtain ⟨z, hz, hc⟩ := Option.map_eq_some_iff.1 hh.1
  simp only [Prod.mk.injEq] at hc
  exact ⟨i, z, hi, hz, hh.2, hc.1, List.all_eq_true.1 hc.2⟩
set_option maxRecDepth 100000 in
set_option maxHeartbeats 1600000 in
theorem delete_walk (w : World) (base g n c i : Nat) (xs : List Value) (hown : w.ownsRow base 77 2 (.slice (some ⟨g, 0, none⟩) n c) n xs) (hx1 : ∀ u ∈ xs, u.oneCell' = true) (hi : i < n) (hn : n ≤ 100000) :
    Calls Try.prog 49 #[.slice (some ⟨g, 0, none⟩) n c, .int .i64 (i : Int), .int .i64 ((i : Int) + 1)] w (Del w base g n c (xs.take (i * 2) ++ xs.drop ((i + 1) * 2))) := by
  obtain ⟨cur, hbg, hg, hnc, hcm, hcs, htk, hxl⟩ : ∃ cur, base ≤ g ∧ w.heap[g]? = some (.cells cur 77 (0, 0)) ∧ n ≤ c ∧ c ≤ maxLen ∧ cur.size = c * 2 ∧ cur.toList.take (n * 2) = xs ∧ xs.length = n * 2 := by
    obtain ⟨hl, ⟨h, h'⟩ | ⟨g, cap, cur, h, h1, h2, h3, h4, h5, h6⟩⟩ := hown
    · cases h
    · cases h; exact ⟨cur, h1, h2, h3, h4, h5, h6, hl⟩
  obtain ⟨C, rfl⟩ : ∃ C : List Value, cur = C.toArray := ⟨cur.toList, by simp⟩
  simp only [List.size_toArray] at hcs htk
  obtain ⟨inf, z, hinf, hz, hs, hzs, hz1⟩ := zero_one
  have hzl : z.cells.toList.length = 2 := by rw [Array.length_toList, hzs]
  have hsh := del_list C xs z.cells.toList i n c 2 hcs htk hi hnc hzl _ rfl _ rfl
  obtain ⟨L1, hL1⟩ : ∃ L1, C.take (i * 2) ++ xs.drop ((i + 1) * 2) ++ C.drop (i * 2 + (xs.drop ((i + 1) * 2)).length) = L1 := ⟨_, rfl⟩
  rw [hL1] at hsh
  obtain ⟨L2, hL2⟩ : ∃ L2, L1.take ((n - 1) * 2) ++ z.cells.toList ++ L1.drop ((n - 1) * 2 + z.cells.toList.length) = L2 := ⟨_, rfl⟩
  rw [hL2] at hsh
  have hap : ∀ (off : Nat) (sc : Nat), (i + 1 < n → off = (i + 1) * 2) → (Builtin.append_ #[25, 25] 25 #[.slice (some ⟨g, 0, none⟩) i c, .slice (some ⟨g, off, none⟩) (n - (i + 1)) sc]).run Try.prog w.drew = .ok (.slice (some ⟨g, 0, none⟩) (n - 1) c) (w.drew.setRow g L1.toArray) := fun off sc hoff => by
    have := run_append_room (P := Try.prog) w.drew 25 25 77 inf Try.underlying25 hinf g i c C.toArray hg ⟨g, off, none⟩ (n - (i + 1)) sc (xs.drop ((i + 1) * 2)) (by rw [List.length_drop, hxl, hs]; omega)
      (fun j u hj => by
        rw [Addr.add_lit, List.getElem?_drop] at *
        have hlt := (List.getElem?_eq_some_iff.1 hj).1
        rw [hoff (by omega)]
        rw [← htk, List.getElem?_take] at hj
        split at hj
        · rw [row_cell (w := w.drew) hg]; exact hj
        · cases hj)
      (fun v hv => hx1 v (List.mem_of_mem_drop hv)) (by omega) (by rw [List.length_drop, hxl, hs, List.size_toArray, hcs]; omega)
    rw [this, hs, show i + (n - (i + 1)) = n - 1 by omega]
    simp only
    rw [hL1]
  have hW1 : (w.drew.setRow g L1.toArray).heap[g]? = some (.cells L1.toArray 77 (0, 0)) := setRow_heap w.drew g C.toArray _ _ (0, 0) hg
  have hcl : ∀ (ty : TypeId) (cc : Nat), (Builtin.clear_ #[25] ty #[.slice (some ⟨g, (n - 1) * 2, none⟩) 1 cc]).run Try.prog (w.drew.setRow g L1.toArray) = .ok (.tuple #[]) (w.drew.setRow g L2.toArray) := fun ty cc => by
    have := run_clear_one (w.drew.setRow g L1.toArray) g ((n - 1) * 2) cc L1.toArray z inf hinf hz hzs hz1 hW1 (by rw [List.size_toArray, hsh.1]; omega) ty
    rw [this]
    simp only
    rw [hL2, setRow_setRow]
  have H := Ytobdfocfkomagaa.base.Shut.mk (show Del w base g n c (xs.take (i * 2) ++ xs.drop ((i + 1) * 2)) (.returned (.slice (some ⟨g, 0, none⟩) (n - 1) c)) (w.drew.setRow g L2.toArray) from
    ⟨rfl, ⟨by rw [← hsh.2.2, List.length_take, hsh.2.1]; omega, .inr ⟨g, c, L2.toArray, rfl, hbg, setRow_heap w.drew g C.toArray _ _ (0, 0) hg, by omega, hcm, by simpa using hsh.2.1, by simpa using hsh.2.2⟩⟩,
      ⟨rfl, rfl, rfl, by rw [setRow_size]; exact Nat.le_refl _, fun k _ hk => setRow_other w.drew g k _ (fun e => hk (by rw [e]))⟩⟩)
  simp only [a_shut] at hap
  simp only [d_shut] at hcl
  have hcm' : c ≤ 9223372036854775807 := by unfold maxLen at hcm; omega
  have hof := hap ((i + 1) * 2) (c - (i + 1)) (fun _ => rfl)
  have HAP := Ytobdfocfkomagaa.base.Shut.mk hap
  have i1 : (i : Int) ≤ (i : Int) + 1 := by omega
  have i2 : ¬ (i : Int) = (i : Int) + 1 := by omega
  have i4 : (i : Int) + 1 ≤ n := by omega
  have i5 : (n : Int) ≤ c := by omega
  have i6 : (i : Int) ≤ c := by omega
  have i7 : (i : Int) ≤ n := by omega
  have i8 : ((i : Int) + 1).toNat = i + 1 := by omega
  have i9 : n - (n - 1) = 1 := by omega
  have i10 : ((n - 1 : Nat) : Int) ≤ n := by omega
  have i11 : ¬ c = n - 1 := by omega
  clear hap hsh hL1 hL2 hW1 hown hx1 hg hcs htk hxl hbg hcm hnc hinf hz hs hzs hz1 hzl
  by_cases hlast : i + 1 = n
  · subst hlast
    have hap0 : ∀ off sc : Nat, (shutA #[25, 25] 25 #[.slice (some ⟨g, 0, none⟩) i c, .slice (some ⟨g, off, none⟩) 0 sc]).run Try.prog w.drew = .ok (.slice (some ⟨g, 0, none⟩) i c) (w.drew.setRow g L1.toArray) := fun off sc => by
      have := HAP.out off sc (fun h => by omega)
      rw [Nat.sub_self, Nat.add_sub_cancel] at this
      exact this
    rw [Nat.add_sub_cancel] at hcl
    by_cases hcn : c = i + 1
    · subst hcn
      clear hof
      go_enter Try.func49, Try.ntmps49
      go_wp2
      go_big_region
      go_wp2
      go_ret
      exact H.out
    · clear hof
      have i12 : ¬ c = i := by omega
      go_enter Try.func49, Try.ntmps49
      go_wp2
      go_big_region
      go_wp2
      go_ret
      exact H.out
  · have i3 : ¬ c = i + 1 := by omega
    go_enter Try.func49, Try.ntmps49
    go_wp2
    go_big_region
    go_wp2
    go_ret
    exact H.out
end Go.Proofs.Ytobdfocfkomagaa.insRule
