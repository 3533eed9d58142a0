/- An array of bytes of the call's own: a text copied into it. -/
import Derived.Test.YtobdfocfkomagaaBase
import Derived.Laws.CopyRow
import Derived.Laws.IdiomCopy
namespace Go.Proofs.Ytobdfocfkomagaa.base
open Go.ChangeShapes Go.WideShapes Go.ChangeAt Go.RowKit

/-- block g is an array of bytes of the call's own -/
structure RowB (w : World) (base g : Nat) (t : TypeId) (l : List UInt8) : Prop where
  low : base ≤ g
  row : w.heap[g]? = some (.cells (bytesOf l).toArray t (0, 0))
/-- s laid over l, from place o on -/
def over (l : List UInt8) (o : Nat) (s : List UInt8) : List UInt8 := l.take o ++ s ++ l.drop (o + s.length)
theorem over_len (l : List UInt8) (o : Nat) (s : List UInt8) (h : o + s.length ≤ l.length) : (over l o s).length = l.length := by
  unfold over; simp; omega
theorem RowB.lt {w : World} {base g : Nat} {t : TypeId} {l : List UInt8} (h : RowB w base g t l) : g < w.heap.size := (Array.getElem?_eq_some_iff.1 h.row).1
theorem RowB.below {w w' : World} {base g : Nat} {t : TypeId} {l : List UInt8} (h : RowB w base g t l) (hb : Below w.heap.size w w') : RowB w' base g t l :=
  ⟨h.low, by rw [hb.block g h.lt]; exact h.row⟩
theorem RowB.cell {w : World} {base g : Nat} {t : TypeId} {l : List UInt8} (h : RowB w base g t l) (i : Nat) (c : UInt8) (hi : l[i]? = some c) : w.cell? ⟨g, i, none⟩ = some (.int .u8 (c.toNat : Int)) := by
  rw [cell_of_row w g i _ t (0, 0) h.row]
  simp [bytesOf, hi]
theorem RowB.text {w : World} {base g n cap : Nat} {t : TypeId} {l : List UInt8} (h : RowB w base g t l) (hn : l.length = n) : (convert 105 9 (.slice (some ⟨g, 0, none⟩) n cap)).run Try.prog w = .ok (.string ⟨l.toArray⟩) w :=
  run_string w g 0 n cap l hn (fun i c hi => by rw [Nat.zero_add]; exact h.cell i c hi)
theorem min_take (s : ByteArray) (n : Nat) : (s.data.toList.take n).length = Nat.min s.size n := by
  rw [List.length_take]
  have : s.data.toList.length = s.size := by simp
  rw [this]
  show min n s.size = min s.size n
  omega
/-- copy(dst, s), s a text: what has room goes over -/
theorem run_copy_over {P : Program} (w : World) (dT sT ty elem : TypeId) (base g o dLen dCap : Nat) (s : ByteArray) (t : TypeId) (L : List UInt8)
    (hu : P.underlying dT = some (.slice elem)) (hs : (P.info? elem).map (·.size) = some 1) (hR : RowB w base g t L) (hfit : o + dLen ≤ L.length) :
    ∃ w', (Builtin.copy_ #[dT, sT] ty #[.slice (some ⟨g, o, none⟩) dLen dCap, .string s]).run P w = .ok (goInt (Nat.min s.size dLen)) w' ∧
      RowB w' base g t (over L o (s.data.toList.take dLen)) ∧ (∀ B u, B ≤ base → Below B u w → Below B u w') := by
  have hlen : (bytesOf (s.data.toList.take dLen)).length = Nat.min s.size dLen := by unfold bytesOf; rw [List.length_map, min_take]
  have hm : Nat.min s.size dLen ≤ dLen := Nat.min_le_right _ _
  have hLl : (bytesOf L).length = L.length := by simp [bytesOf]
  have hst := run_storeCells_at P g o t (bytesOf (s.data.toList.take dLen)) 0 (bytesOf L).toArray w hR.row (by rw [hlen]; simp [hLl]; omega) (bytesOf_one _)
  have htk : List.take (Nat.min s.size dLen) (List.map (fun b : UInt8 => Value.int IntKind.u8 (b.toNat : Int)) s.data.toList) = bytesOf (s.data.toList.take dLen) := by
    unfold bytesOf
    rw [← List.map_take]
    congr 1
    have hsl : s.data.toList.length = s.size := by simp
    by_cases h : s.size ≤ dLen
    · rw [show Nat.min s.size dLen = s.size from Nat.min_eq_left h, List.take_of_length_le (by omega), List.take_of_length_le (by omega)]
    · rw [show Nat.min s.size dLen = dLen from Nat.min_eq_right (by omega)]
  rw [hlen] at hst
  simp only [Nat.add_zero] at hst
  have hsame : ((bytesOf L).toArray.toList.take o ++ bytesOf (s.data.toList.take dLen) ++ (bytesOf L).toArray.toList.drop (o + Nat.min s.size dLen)) = bytesOf (over L o (s.data.toList.take dLen)) := by
    unfold over bytesOf
    rw [min_take]
    simp [List.map_take, List.map_drop]
  cases hq : P.info? elem with
  | none => simp [hq] at hs
  | some i =>
    refine ⟨w.setRow g (bytesOf (over L o (s.data.toList.take dLen))).toArray, ?_, ⟨hR.low, setRow_heap w g _ _ t _ hR.row⟩, fun B u hB hb => below_setRow hb (Nat.le_trans hB hR.low) _⟩
    simp [Builtin.copy_, run_underlying hu, Builtin.lenOf, Builtin.firstCells, sizeOf, typeInfo, hq]
    rw [htk, hst, hsame]
    simp [Result.andThen]
/-- .. as a step of a region that draws its order -/
theorem step_copy_over {P : Program} {ops : Array Oper} {o : Oper} {a : Act} {w : World} {K : Act → World → Prop} {Q : Exit → Act → World → Prop} {E : Prop}
    (hg : o.guard = none) (d x : Operand) (dT sT : TypeId) (hop : o.op = Op.call { callee := Callee.builtin Builtin.copy, args := #[d, x], argTypes := #[dT, sT] })
    (elem : TypeId) (hu : P.underlying dT = some (.slice elem)) (hs : (P.info? elem).map (·.size) = some 1) (base g off dLen dCap : Nat)
    (hd : a.eval d = .slice (some ⟨g, off, none⟩) dLen dCap) (s : ByteArray) (hx : a.eval x = .string s) (t : TypeId) (L : List UInt8) (hR : RowB w base g t L) (hfit : off + dLen ≤ L.length)
    (B : Nat) (u : World) (hB : B ≤ base) (hb : Below B u w)
    (hK : ∀ w', RowB w' base g t (over L off (s.data.toList.take dLen)) → Below B u w' → K (a.put o.dst (goInt (Nat.min s.size dLen))) w') :
    if Region.wanted o (yielded ops a.tmps) = true then Oper.wp P o a w K Q else E := by
  have hw : Region.wanted o (yielded ops a.tmps) = true := by simp [Region.wanted, hg]
  rw [if_pos hw]
  obtain ⟨w', hrun, hR', hb'⟩ := run_copy_over (P := P) w dT sT o.type elem base g off dLen dCap s t L hu hs hR hfit
  unfold Oper.wp
  simp [execOp, hop, resolve, invoke, builtin, hd, hx, hrun, Result.andThen]
  exact hK w' hR' (hb' B u hB hb)
end Go.Proofs.Ytobdfocfkomagaa.base
