/- Slices of strings: of the call's own, and as they read. -/
import Derived.Test.YtobdfocfkomagaaBase
namespace Go.Proofs.Ytobdfocfkomagaa.oct
open Go.ChangeShapes Go.WideShapes Go.ChangeAt Go.RowKit
open Ytobdfocfkomagaa.base (still drewnN rest_eq Shut size_mk ret_int ret_str ret_bool ba_ext run_string own_string run_string_new chain newer drewn same bytesOf bytesOf_one)

theorem info_str : (Try.prog.info? 9).map (fun i => (i.zero, i.size, i.bytes)) = some (some (.string ⟨#[]⟩), 1, 16) := by kernel_rfl
def strs (ss : List ByteArray) : List Value := ss.map Value.string
theorem strs_snoc (ss : List ByteArray) (s : ByteArray) : strs (ss ++ [s]) = strs ss ++ [.string s] := by simp [strs]
/-- a slice at A reads as these strings -/
def Reads (w : World) (A : Option Addr) (ss : List ByteArray) : Prop := ss ≠ [] → ∃ b off, A = some ⟨b, off, none⟩ ∧ b < w.heap.size ∧ ∀ i s, ss[i]? = some s → w.cell? ⟨b, off + i, none⟩ = some (.string s)
theorem Reads.of_own {w : World} {base n cap : Nat} {A : Option Addr} {ss : List ByteArray} (h : w.ownsRow base 9 1 (.slice A n cap) n (strs ss)) : Reads w A ss := by
  intro hne
  have hl : ss.length = n := by have := h.1; simpa [strs] using this
  have hn : 0 < n := by rw [← hl]; exact List.length_pos_iff.2 hne
  obtain ⟨g, cap', hv, _, hlt⟩ := h.form hn
  injection hv with hA
  subst hA
  refine ⟨g, 0, rfl, hlt, fun i s hi => ?_⟩
  have hx := h.cells (g := g) rfl i (.string s) (by simp [strs, hi])
  have hadd : (⟨g, 0, none⟩ : Addr).add i = ⟨g, 0 + i, none⟩ := by unfold Addr.add; split <;> simp_all
  rwa [hadd] at hx
theorem Reads.keep {w w' : World} {A : Option Addr} {ss : List ByteArray} (h : Reads w A ss) (hb : Below w.heap.size w w') : Reads w' A ss := by
  intro hne
  obtain ⟨b, off, hA, hlt, hc⟩ := h hne
  exact ⟨b, off, hA, Nat.lt_of_lt_of_le hlt hb.size, fun i s hi => by rw [hb.cell (p := ⟨b, off + i, none⟩) hlt]; exact hc i s hi⟩
end Go.Proofs.Ytobdfocfkomagaa.oct
