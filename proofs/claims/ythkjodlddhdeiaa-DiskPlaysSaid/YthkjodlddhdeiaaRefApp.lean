/- Append to a row of the reference's disk. -/
import Derived.Test.YthkjodlddhdeiaaRefWalk
import Derived.Laws.AppendOwn
namespace Go.Proofs.Ythkjodlddhdeiaa.disk
open Go.ChangeShapes Go.WideShapes Go.ChangeAt Go.RowKit
open Ythkjodlddhdeiaa.base

theorem rloose_info : ∃ i z, Try.prog.info? 137 = some i ∧ i.zero = some z ∧ i.size = 2 ∧ i.bytes = 24 ∧ z.cells.size = 2 := by
  have h : (Try.prog.info? 137).map (fun i => (i.zero.map (·.cells.size), i.size, i.bytes)) = some (some 2, 2, 24) := by kernel_rfl
  obtain ⟨i, hi, hh⟩ := Option.map_eq_some_iff.1 h
  simp only [Prod.mk.injEq] at hh
  obtain ⟨z, hz, hc⟩ := Option.map_eq_some_iff.1 hh.1
  exact ⟨i, z, hi, hz, hh.2.1, hh.2.2, hc⟩
theorem rstr_info : ∃ i z, Try.prog.info? 9 = some i ∧ i.zero = some z ∧ i.size = 1 ∧ i.bytes = 16 ∧ z.cells.size = 1 := by
  have h : (Try.prog.info? 9).map (fun i => (i.zero.map (·.cells.size), i.size, i.bytes)) = some (some 1, 1, 16) := by kernel_rfl
  obtain ⟨i, hi, hh⟩ := Option.map_eq_some_iff.1 h
  simp only [Prod.mk.injEq] at hh
  obtain ⟨z, hz, hc⟩ := Option.map_eq_some_iff.1 hh.1
  exact ⟨i, z, hi, hz, hh.2.1, hh.2.2, hc⟩
theorem own_slice {w : World} {base n size : Nat} {e : TypeId} {v : Value} {xs : List Value} (h : w.ownsRow base e size v n xs) : ∃ a cap, v = .slice a n cap ∧ n ≤ cap ∧ (0 < n → ∃ g, a = some ⟨g, 0, none⟩) := by
  obtain ⟨_, ⟨rfl, rfl⟩ | ⟨g, cap, cur, rfl, _, _, hc, _⟩⟩ := h
  · exact ⟨none, 0, rfl, Nat.le_refl _, fun h => absurd h (by decide)⟩
  · exact ⟨_, cap, rfl, hc, fun _ => ⟨g, rfl⟩⟩
theorem append_gen (T E : TypeId) (size bytes : Nat) (hT : Try.prog.underlying T = some (.slice E)) (hI : ∃ i z, Try.prog.info? E = some i ∧ i.zero = some z ∧ i.size = size ∧ i.bytes = bytes ∧ z.cells.size = size) (hs : 0 < size) (hb : bytes ≤ 1000)
    {U : World} {base n q : Nat} {lv : Value} {xs : List Value} (h : U.ownsRow base E size lv n xs) (hn : n ≤ 1000000) (hbase : base ≤ U.heap.size) (C : List Value) (hC : C.length = size) (h1 : ∀ u ∈ C, u.oneCell' = true)
    (hnew : ∀ j u, C[j]? = some u → U.cell? ((⟨q, 0, none⟩ : Addr).add j) = some u) :
    ∃ g6 cap6 w6, (Builtin.append_ #[T, T] T #[lv, .slice (some ⟨q, 0, none⟩) 1 1]).run Try.prog U = .ok (.slice (some ⟨g6, 0, none⟩) (n + 1) cap6) w6 ∧ w6.ownsRow base E size (.slice (some ⟨g6, 0, none⟩) (n + 1) cap6) (n + 1) (xs ++ C) ∧ U.grownBy w6 lv.ownBlock := by
  obtain ⟨i, z, hi, hz, hs', hb', hc⟩ := hI
  obtain ⟨v', w6, hrun, hown, hgrow, _⟩ := run_append_own (P := Try.prog) (w := U) base T T E i z size bytes hT hi hz hs' hb' hc hs lv n xs h ⟨q, 0, none⟩ 1 1 C (by rw [hC, Nat.one_mul]) hnew h1 (by unfold maxLen; omega) (by
    have : (n + 1) * bytes ≤ 1000001 * 1000 := Nat.mul_le_mul (by omega) hb
    omega) hbase
  obtain ⟨a, cap, rfl, _, hg⟩ := own_slice hown
  obtain ⟨g, rfl⟩ := hg (by omega)
  exact ⟨g, cap, w6, hrun, hown, hgrow⟩
/-- rows that are none of the grown one's -/
theorem grown_row {U w6 : World} {base b n m size size' : Nat} {E e : TypeId} {lv x : Value} {xs ys : List Value} (h : U.ownsRow base E size lv n xs) (hg : U.grownBy w6 lv.ownBlock) (hr : U.ownsRow b e size' x m ys) (he : e ≠ E) : w6.ownsRow b e size' x m ys :=
  row_kept hr (fun g hgx => by
    obtain ⟨_, cur, hc⟩ := row_type hr g hgx
    refine hg.block g (lt_of_obj hc) (fun e2 => ?_)
    obtain ⟨_, cur', hc'⟩ := row_type h g e2.symm
    exact he (obj_type hc hc'))
theorem grown_obj {U w6 : World} {base n size g : Nat} {E t : TypeId} {lv : Value} {xs : List Value} {cs : Array Value} (h : U.ownsRow base E size lv n xs) (hg : U.grownBy w6 lv.ownBlock) (ho : U.heap[g]? = some (.cells cs t (0, 0))) (ht : t ≠ E) : w6.heap[g]? = some (.cells cs t (0, 0)) := by
  rw [hg.block g (lt_of_obj ho) (fun e2 => ?_)]
  · exact ho
  · obtain ⟨_, cur', hc'⟩ := row_type h g e2.symm
    exact ht (obj_type ho hc')
theorem OnlyT.grown {U w6 : World} {base n size : Nat} {E : TypeId} {ts : List TypeId} {lv : Value} {xs : List Value} (h : U.ownsRow base E size lv n xs) (hg : U.grownBy w6 lv.ownBlock) (hE : E ∈ ts) : OnlyT base ts U w6 :=
  ⟨hg.os, hg.tape, hg.output, hg.size, fun k hk hn => hg.block k hk (fun e2 => by
    obtain ⟨hb, cur', hc'⟩ := row_type h k e2.symm
    rcases hn with hn | hn
    · omega
    · exact hn _ _ hc' hE)⟩
/-- its loose writes, one more -/
theorem RAt.appended {U w6 : World} {base r b : Nat} {D : Dk} {z : Int} {lv v' : Value} (h : RAt U base r b D z) (hlv : U.cell? ⟨r, 1, none⟩ = some lv) (hg : U.grownBy w6 lv.ownBlock) (W' : List (Nat × List UInt8)) (S' : List UInt8) (hS : S'.length = D.n * 512)
    (hW : ∀ p ∈ W', p.1 < D.n ∧ p.2.length = 512) (hrow : w6.ownsRow base 137 2 v' W'.length (W'.flatMap looseS)) :
    RAt (w6.setCell ⟨r, 1, none⟩ v') base r b { D with W := W', S := S' } z ∧ OnlyT base rT U (w6.setCell ⟨r, 1, none⟩ v') ∧ w6.cell? ⟨r, 1, none⟩ = some lv ∧ w6.frozen? ⟨r, 1, none⟩ = false := by
  obtain ⟨cb, lv0, g1, g2, g3⟩ := h.fields
  obtain rfl : lv0 = lv := by
    rw [cell_of_row U r 1 _ _ _ g1] at hlv
    exact Option.some.inj hlv
  have k1 := grown_obj g3 hg g1 (by decide)
  have k2 := grown_row g3 hg g2 (by decide)
  have key : ∀ {size n : Nat} {e : TypeId} {v : Value} {xs : List Value}, w6.ownsRow base e size v n xs → e ≠ 56 → (w6.setCell ⟨r, 1, none⟩ v').ownsRow base e size v n xs := by
    intro size n e v xs hr he
    refine row_kept hr (fun g hg => ?_)
    obtain ⟨_, cur, hc⟩ := row_type hr g hg
    refine Below.heap_setCell _ _ _ _ (fun e2 => ?_)
    have e3 : g = r := e2
    subst e3
    exact he (obj_type hc k1)
  have hw := h.wf
  refine ⟨⟨⟨hw.n1, hw.n2, hw.F, hS, hW, hw.low, hw.high⟩, h.fuse, h.zlow, h.zhigh, h.low, ⟨cb, v', heap_setCell_same _ _ 1 _ _ _ k1, key k2 (by decide), key hrow (by decide)⟩⟩, ?_, ?_, ?_⟩
  · refine (OnlyT.grown g3 hg (by decide)).trans (OnlyT.of_only (Only.cell w6 r 1 v') (fun k hk => ?_))
    obtain rfl : k = r := by simpa using hk
    exact ⟨h.low.1, _, _, k1, by decide⟩
  · rw [cell_of_row w6 r 1 _ _ _ k1]; rfl
  · unfold World.frozen?; simp only [k1]; simp
end Go.Proofs.Ythkjodlddhdeiaa.disk
