/- Rows of elements of several cells: copy, and what an insertion leaves. -/
import Derived.Test.YtobdfocfkomagaaBase
import Derived.Laws.CopyRow
import Derived.Laws.AppendOwn
import Derived.Laws.OwnMore
import Derived.Lib.AppendZerosOnto
import Derived.Lib.Overlaps
namespace Go.Proofs.Ytobdfocfkomagaa.two
open Go Go.Lib
variable {P : Program}

theorem run_copy_many (w : World) (dT sT ty elem : TypeId) (sz g o dLen dCap : Nat) (a : Addr) (sLen sCap : Nat) (cur : Array Value) (t : TypeId) (cs : List Value)
    (hu : P.underlying dT = some (.slice elem)) (hs : (P.info? elem).map (·.size) = some sz)
    (hg : w.heap[g]? = some (.cells cur t (0, 0))) (hn : cs.length = Nat.min sLen dLen * sz)
    (hsrc : ∀ j v, cs[j]? = some v → w.cell? (a.add j) = some v) (hfit : o + cs.length ≤ cur.size) (h1 : ∀ v ∈ cs, v.oneCell' = true) :
    (Builtin.copy_ #[dT, sT] ty #[.slice (some ⟨g, o, none⟩) dLen dCap, .slice (some a) sLen sCap]).run P w =
      .ok (goInt (Nat.min sLen dLen : Nat)) (w.setRow g (cur.toList.take o ++ cs ++ cur.toList.drop (o + cs.length)).toArray) := by
  have hl := run_loadCells_list (P := P) w a cs hsrc
  have hst := run_storeCells_at P g o t cs 0 cur w hg (by simpa using hfit) h1
  cases hq : P.info? elem with
  | none => simp [hq] at hs
  | some i =>
    have hi : i.size = sz := by simpa [hq] using hs
    simp [Builtin.copy_, run_underlying hu, Builtin.lenOf, Builtin.firstCells, sizeOf, typeInfo, hq, hi, ← hn, hl, hst]

/-- there is room: what stood from place i on moves up, then the new cells are laid -/
theorem shift_list (C xs vs : List Value) (i n c k : Nat) (hC : C.length = c * k) (hx : C.take (n * k) = xs) (hi : i ≤ n) (hc : n + 1 ≤ c) (hv : vs.length = k)
    (L1 : List Value) (h1 : L1 = C.take ((i + 1) * k) ++ xs.drop (i * k) ++ C.drop ((i + 1) * k + (xs.drop (i * k)).length)) (L2 : List Value) (h2 : L2 = L1.take (i * k) ++ vs ++ L1.drop (i * k + vs.length)) :
    L1.length = c * k ∧ L2.length = c * k ∧ L2.take ((n + 1) * k) = xs.take (i * k) ++ vs ++ xs.drop (i * k) := by
  have e1 : (i + 1) * k = i * k + k := by rw [Nat.add_mul, Nat.one_mul]
  have e2 : (n + 1) * k = n * k + k := by rw [Nat.add_mul, Nat.one_mul]
  have e3 : i * k ≤ n * k := Nat.mul_le_mul_right _ hi
  have e4 : (n + 1) * k ≤ c * k := Nat.mul_le_mul_right _ hc
  have hxl : xs.length = n * k := by rw [← hx, List.length_take]; omega
  have hdl : (xs.drop (i * k)).length = n * k - i * k := by rw [List.length_drop, hxl]
  have hL1 : L1.length = c * k := by
    rw [h1, List.length_append, List.length_append, List.length_take, hdl, List.length_drop]
    omega
  have ht : L1.take (i * k) = xs.take (i * k) := by
    rw [h1, List.append_assoc, List.take_append_of_le_length (by rw [List.length_take]; omega), List.take_take, show min (i * k) ((i + 1) * k) = i * k by omega, ← hx, List.take_take, show min (i * k) (n * k) = i * k by omega]
  have hd : L1.drop (i * k + vs.length) = xs.drop (i * k) ++ C.drop ((i + 1) * k + (xs.drop (i * k)).length) := by
    rw [h1, List.append_assoc, hv, ← e1, List.drop_append_of_le_length (by rw [List.length_take]; omega), List.drop_of_length_le (by rw [List.length_take]; omega), List.nil_append]
  have hL2 : L2 = (xs.take (i * k) ++ vs ++ xs.drop (i * k)) ++ C.drop ((i + 1) * k + (xs.drop (i * k)).length) := by
    rw [h2, ht, hd]
    simp only [List.append_assoc]
  have hml : (xs.take (i * k) ++ vs ++ xs.drop (i * k)).length = (n + 1) * k := by
    rw [List.length_append, List.length_append, List.length_take, hdl, hv, hxl]; omega
  refine ⟨hL1, ?_, ?_⟩
  · rw [hL2, List.length_append, hml, List.length_drop, hdl]; omega
  · rw [hL2, ← hml, List.take_left]
/-- there is none: a new row -/
theorem grow_list (R0 xs vs : List Value) (i n c k : Nat) (hR : R0.length = c * k) (hxl : xs.length = n * k) (hx : R0.take (i * k) = xs.take (i * k)) (hi : i ≤ n) (hc : n + 1 ≤ c) (hv : vs.length = k)
    (R1 : List Value) (h1 : R1 = R0.take (i * k) ++ vs ++ R0.drop (i * k + vs.length)) (R2 : List Value) (h2 : R2 = R1.take ((i + 1) * k) ++ xs.drop (i * k) ++ R1.drop ((i + 1) * k + (xs.drop (i * k)).length)) :
    R1.length = c * k ∧ R2.length = c * k ∧ R2.take ((n + 1) * k) = xs.take (i * k) ++ vs ++ xs.drop (i * k) := by
  have e1 : (i + 1) * k = i * k + k := by rw [Nat.add_mul, Nat.one_mul]
  have e2 : (n + 1) * k = n * k + k := by rw [Nat.add_mul, Nat.one_mul]
  have e3 : i * k ≤ n * k := Nat.mul_le_mul_right _ hi
  have e4 : (n + 1) * k ≤ c * k := Nat.mul_le_mul_right _ hc
  have hdl : (xs.drop (i * k)).length = n * k - i * k := by rw [List.length_drop, hxl]
  have hR1 : R1.length = c * k := by
    rw [h1, List.length_append, List.length_append, List.length_take, List.length_drop, hv]
    omega
  have ht : R1.take ((i + 1) * k) = xs.take (i * k) ++ vs := by
    rw [h1, hx, List.take_append_of_le_length (by rw [List.length_append, List.length_take, hv]; omega), List.take_of_length_le (by rw [List.length_append, List.length_take, hv]; omega)]
  have hml : (xs.take (i * k) ++ vs ++ xs.drop (i * k)).length = (n + 1) * k := by
    rw [List.length_append, List.length_append, List.length_take, hdl, hv, hxl]; omega
  rw [ht] at h2
  refine ⟨hR1, ?_, ?_⟩
  · rw [h2, List.length_append, hml, List.length_drop, hdl, hR1]; omega
  · rw [h2, ← hml, List.take_left]
end Go.Proofs.Ytobdfocfkomagaa.two
