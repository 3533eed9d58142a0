/- An argument that is a slice of strings, opened. -/
import Derived.Test.YthkjodlddhdeiaaOctSame
import Derived.SliceStrings
namespace Go.Proofs.Ythkjodlddhdeiaa.oct
open Go.ChangeShapes Go.WideShapes Go.ChangeAt Go.RowKit
open Ythkjodlddhdeiaa.base (ba_ext)

theorem mk_eta (s : ByteArray) : (⟨s.data.toList.toArray⟩ : ByteArray) = s := by cases s; simp
theorem spot_none {w : World} {a : Addr} {v : Value} (h : w.cell? a = some v) : a.spot = none := by
  unfold World.cell? at h
  cases hs : a.spot with
  | none => rfl
  | some x =>
    rw [hs] at h
    split at h <;> simp at h
theorem cells_str : Try.prog.cellsOf 9 = 1 := by kernel_rfl
set_option maxRecDepth 100000 in
theorem open_strs {H : Type} {enc : TypeId × Value → H} {W : World} {base b0 : Nat} {v : Value} {d : DataW H} {ps : List MemPlace} {r : Reach}
    (hval : Value.okWide Try.prog W r b0 53 v) (h : DataW.Trod enc Try.prog W base (fun _ => true) true 53 v d ps) :
    ∃ (A : Option Addr) (cap : Nat) (ss : List ByteArray), v = .slice A ss.length cap ∧ ss.length ≤ maxLen ∧ (∀ s ∈ ss, s.size ≤ maxLen) ∧ Reads W A ss := by
  obtain ⟨a0, len, cap, rfl⟩ := okWide_slice Try.underlying53 hval
  obtain ⟨fuel, hf⟩ := h
  rcases open_strings Try.underlying53 Try.underlying9 cells_str hf with ⟨hcs, hx⟩ | ⟨a, len', cap', ss, hcs, _, hl, hm, hz, hx, hcell, hws⟩
  · simp [Value.cells] at hcs
    obtain ⟨rfl, rfl, rfl⟩ := hcs
    exact ⟨none, 0, [], rfl, by simp, by simp, fun h => absurd rfl h⟩
  · simp [Value.cells] at hcs
    obtain ⟨rfl, rfl, rfl⟩ := hcs
    simp only [if_true] at hz
    have hlen : (ss.take len).length = len := by rw [List.length_take]; omega
    refine ⟨some a, cap, ss.take len, by rw [hlen], by rw [hlen]; omega, fun s hs => hws s (List.mem_of_mem_take hs), fun hne => ?_⟩
    have h0 : 0 < ss.length := by
      have := List.length_pos_iff.2 hne
      omega
    have hc0 := hcell 0 h0
    have ha0 : a.add 0 = a := by simp [Addr.add]
    rw [ha0] at hc0
    have hsp := spot_none hc0
    obtain ⟨b, off, sp⟩ := a
    simp only at hsp
    subst hsp
    refine ⟨b, off, rfl, World.block_lt_of_cell? W ⟨b, off, none⟩ hc0, fun i s hi => ?_⟩
    obtain ⟨hlt, hs⟩ := List.getElem?_eq_some_iff.1 hi
    rw [List.getElem_take] at hs
    have hil : i < ss.length := by rw [List.length_take] at hlt; omega
    have hc := hcell i hil
    have hadd : (⟨b, off, none⟩ : Addr).add i = ⟨b, off + i, none⟩ := by unfold Addr.add; split <;> simp_all
    rw [hadd] at hc
    rw [hc]
    simp [List.getD, List.getElem?_eq_getElem hil, hs]
set_option maxRecDepth 100000 in
theorem open_strs_cap {H : Type} {enc : TypeId × Value → H} {W : World} {base b0 : Nat} {v : Value} {d : DataW H} {ps : List MemPlace} {r : Reach}
    (hval : Value.okWide Try.prog W r b0 53 v) (h : DataW.Trod enc Try.prog W base (fun _ => true) true 53 v d ps) :
    ∃ (A : Option Addr) (cap : Nat) (ss : List ByteArray), v = .slice A ss.length cap ∧ ss.length ≤ maxLen ∧ (∀ s ∈ ss, s.size ≤ maxLen) ∧ Reads W A ss ∧ ss.length ≤ cap := by
  obtain ⟨a0, len, cap, rfl⟩ := okWide_slice Try.underlying53 hval
  obtain ⟨fuel, hf⟩ := h
  rcases open_strings Try.underlying53 Try.underlying9 cells_str hf with ⟨hcs, hx⟩ | ⟨a, len', cap', ss, hcs, _, hl, hm, hz, hx, hcell, hws⟩
  · simp [Value.cells] at hcs
    obtain ⟨rfl, rfl, rfl⟩ := hcs
    exact ⟨none, 0, [], rfl, by simp, by simp, fun h => absurd rfl h, Nat.le_refl _⟩
  · simp [Value.cells] at hcs
    obtain ⟨rfl, rfl, rfl⟩ := hcs
    simp only [if_true] at hz
    have hlen : (ss.take len).length = len := by rw [List.length_take]; omega
    refine ⟨some a, cap, ss.take len, by rw [hlen], by rw [hlen]; omega, fun s hs => hws s (List.mem_of_mem_take hs), fun hne => ?_, by rw [hlen]; exact hl⟩
    have h0 : 0 < ss.length := by
      have := List.length_pos_iff.2 hne
      omega
    have hc0 := hcell 0 h0
    have ha0 : a.add 0 = a := by simp [Addr.add]
    rw [ha0] at hc0
    have hsp := spot_none hc0
    obtain ⟨b, off, sp⟩ := a
    simp only at hsp
    subst hsp
    refine ⟨b, off, rfl, World.block_lt_of_cell? W ⟨b, off, none⟩ hc0, fun i s hi => ?_⟩
    obtain ⟨hlt, hs⟩ := List.getElem?_eq_some_iff.1 hi
    rw [List.getElem_take] at hs
    have hil : i < ss.length := by rw [List.length_take] at hlt; omega
    have hc := hcell i hil
    have hadd : (⟨b, off, none⟩ : Addr).add i = ⟨b, off + i, none⟩ := by unfold Addr.add; split <;> simp_all
    rw [hadd] at hc
    rw [hc]
    simp [List.getD, List.getElem?_eq_getElem hil, hs]
end Go.Proofs.Ythkjodlddhdeiaa.oct
