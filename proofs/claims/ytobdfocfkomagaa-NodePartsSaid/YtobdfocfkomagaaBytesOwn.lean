/- A row of bytes of the call's own, with or without the mark of a converted text: reading it, appending a text to it. -/
import Derived.Test.YtobdfocfkomagaaBase
import Derived.Deep.AppendSrc
import Derived.Laws.CopyRow
import Derived.Laws.IdiomCopy
namespace Go.Proofs.Ytobdfocfkomagaa.base
open Go.ChangeShapes Go.WideShapes Go.ChangeAt Go.RowKit

theorem setCells_row (g : Nat) (t : TypeId) (fz : Nat × Nat) : ∀ (vs : List Value) (o : Nat) (cur : Array Value) (w : World), w.heap[g]? = some (.cells cur t fz) → o + vs.length ≤ cur.size →
    w.setCells g o vs = w.setRow g (cur.toList.take o ++ vs ++ cur.toList.drop (o + vs.length)).toArray
  | [], o, cur, w, h, _ => by
    rw [World.setCells]
    have : (cur.toList.take o ++ [] ++ cur.toList.drop (o + ([] : List Value).length)).toArray = cur := by simp
    rw [this, setRow_self w g cur t fz h]
  | v :: r, o, cur, w, h, hl => by
    rw [World.setCells, setCell_eq_setRow w g o cur t fz v h]
    rw [setCells_row g t fz r (o + 1) (cur.setIfInBounds o v) _ (setRow_heap w g cur _ t fz h) (by simp at hl ⊢; omega), setRow_setRow]
    congr 2
    rw [Array.toList_setIfInBounds, List.length_cons, ← list_seg_step cur.toList o v r (by simpa using hl)]

/-- block g is a row of bytes of the call's own, its first n are l; no cell of it is frozen -/
structure OwnB (w : World) (base g n cap : Nat) (l : List UInt8) : Prop where
  low : base ≤ g
  len : l.length = n
  le : n ≤ cap
  max : cap ≤ maxLen
  row : ∃ cur fz, w.heap[g]? = some (.cells cur 5 fz) ∧ cur.size = cap ∧ cur.toList.take n = bytesOf l ∧ (fz = (0, 0) ∨ cap ≤ fz.1)
theorem OwnB.lt {w : World} {base g n cap : Nat} {l : List UInt8} (h : OwnB w base g n cap l) : g < w.heap.size := by
  obtain ⟨cur, fz, hh, _⟩ := h.row
  exact (Array.getElem?_eq_some_iff.1 hh).1
theorem OwnB.kept {w w' : World} {base g n cap : Nat} {l : List UInt8} (h : OwnB w base g n cap l) (hb : w'.heap[g]? = w.heap[g]?) : OwnB w' base g n cap l := by
  obtain ⟨cur, fz, hh, r⟩ := h.row
  exact ⟨h.low, h.len, h.le, h.max, cur, fz, by rw [hb]; exact hh, r⟩
theorem OwnB.below {w w' : World} {base g n cap : Nat} {l : List UInt8} (h : OwnB w base g n cap l) (hb : Below w.heap.size w w') : OwnB w' base g n cap l := h.kept (hb.block g h.lt)
theorem OwnB.cell {w : World} {base g n cap : Nat} {l : List UInt8} (h : OwnB w base g n cap l) (i : Nat) (c : UInt8) (hi : l[i]? = some c) : w.cell? ⟨g, i, none⟩ = some (.int .u8 (c.toNat : Int)) := by
  obtain ⟨cur, fz, hh, hs, ht, _⟩ := h.row
  have hin : i < n := by have := (List.getElem?_eq_some_iff.1 hi).1; have := h.len; omega
  rw [cell_of_row w g i cur 5 fz hh]
  have h2 : (bytesOf l)[i]? = some (.int .u8 (c.toNat : Int)) := by simp [bytesOf, hi]
  rw [← ht, List.getElem?_take, if_pos hin] at h2
  simpa using h2
theorem OwnB.frozen {w : World} {base g n cap : Nat} {l : List UInt8} (h : OwnB w base g n cap l) (i : Nat) (hi : i < cap) : w.frozen? ⟨g, i, none⟩ = false := by
  obtain ⟨cur, fz, hh, hs, ht, hf⟩ := h.row
  unfold World.frozen?
  simp only [hh]
  rcases hf with rfl | hf
  · simp
  · obtain ⟨lo, hi'⟩ := fz
    have : ¬ lo ≤ i := by simp only at hf; omega
    simp [this]
theorem OwnB.text {w : World} {base g n cap : Nat} {l : List UInt8} (h : OwnB w base g n cap l) : (convert 105 9 (.slice (some ⟨g, 0, none⟩) n cap)).run Try.prog w = .ok (.string ⟨l.toArray⟩) w :=
  run_string w g 0 n cap l h.len (fun i c hi => by rw [Nat.zero_add]; exact h.cell i c hi)
theorem bcap_ge (u : World) (l : List UInt8) : l.length ≤ bcap u l := by unfold bcap; rw [size_mk]; exact grownCap_ge _ _ _ _
theorem bytesRow_size (l : List UInt8) (c : Nat) (h : l.length ≤ c) : (bytesRow ⟨l.toArray⟩ c).size = c := by unfold bytesRow; simp [ByteArray.size]; omega
theorem OwnB.new (u : World) (base : Nat) (l : List UInt8) (hbase : base ≤ u.heap.size) (hm : l.length ≤ maxLen) : OwnB (bw u l) base u.heap.size l.length (bcap u l) l := by
  have hge := bcap_ge u l
  have hsz := bytesRow_size l (bcap u l) hge
  refine ⟨hbase, rfl, hge, ?_, bytesRow ⟨l.toArray⟩ (bcap u l), ((bytesRow ⟨l.toArray⟩ (bcap u l)).size, (bytesRow ⟨l.toArray⟩ (bcap u l)).size + 1), ?_, hsz, ?_, .inr (by rw [hsz]; exact Nat.le_refl _)⟩
  · unfold bcap; rw [size_mk]; exact grownCap_le_maxLen _ _ _ _ hm
  · exact heap_alloc_new u.drew _
  · unfold bytesRow bytesOf
    simp [ByteArray.size, List.take_append]

/-- 'append(b, s...)', b such a row, s a text -/
theorem run_append_text (w : World) (ty base g n cap : Nat) (l : List UInt8) (h : OwnB w base g n cap l) (t : List UInt8) (hm : n + t.length ≤ 140737488355328) (hbase : base ≤ w.heap.size) :
    ∃ g' cap' w', (Builtin.append_ #[105, 9] ty #[.slice (some ⟨g, 0, none⟩) n cap, .string ⟨t.toArray⟩]).run Try.prog w = .ok (.slice (some ⟨g', 0, none⟩) (n + t.length) cap') w' ∧
      OwnB w' base g' (n + t.length) cap' (l ++ t) ∧ w.grownBy w' (some g) := by
  have hi0 : (Try.prog.info? 5).map (fun i => (i.zero, i.size, i.bytes)) = some (some (.int .u8 0), 1, 1) := by kernel_rfl
  obtain ⟨i0, hi, hz0, hz1, hz2⟩ := info_parts hi0
  have hsrc : Src Try.prog i0.size 9 (.string ⟨t.toArray⟩) t.length (bytesOf t) w := by
    have := Src.ofString (P := Try.prog) w Try.underlying9 ⟨t.toArray⟩
    rw [hz1]
    rw [size_mk] at this
    exact this
  have hbl : (bytesOf t).length = t.length := by simp [bytesOf]
  obtain ⟨cur, fz, hh, hs, ht, hf⟩ := h.row
  by_cases hroom : n + t.length ≤ cap
  · have hr := run_append_room_src (P := Try.prog) w 105 9 ty 5 i0 Try.underlying105 hi g 0 n cap _ _ _ hsrc hroom
      (fun j hj => by
        rw [hz1, Nat.zero_add, Nat.mul_one, cell_of_row w g (n + j) cur _ fz hh]
        rw [hbl] at hj
        simp [show n + j < cur.size by omega])
      (fun j hj => by rw [hz1, Nat.zero_add, Nat.mul_one]; rw [hbl] at hj; exact h.frozen _ (by omega))
    have hfit : n + (bytesOf t).length ≤ cur.size := by rw [hbl]; omega
    rw [hz1, Nat.zero_add, Nat.mul_one, setCells_row g _ fz (bytesOf t) n cur w hh hfit] at hr
    refine ⟨g, cap, _, hr, ⟨h.low, by simp [h.len], hroom, h.max, _, fz, setRow_heap w g cur _ _ fz hh, ?_, ?_, hf⟩, ⟨rfl, rfl, rfl, by simp, fun k _ hk => setRow_other w g k _ (fun e => hk (by rw [e]))⟩⟩
    · simp only [List.size_toArray, List.length_append, List.length_take, List.length_drop, Array.length_toList]
      omega
    · rw [ht]
      have e1 : (bytesOf l ++ bytesOf t).length = n + t.length := by simp [bytesOf, h.len]
      have e2 : bytesOf (l ++ t) = bytesOf l ++ bytesOf t := by simp [bytesOf]
      rw [e2, ← e1, List.take_left]
  · have hcap0 : ∀ w' : World, w'.heap[g]? = w.heap[g]? → (Builtin.firstCells i0.size n (.slice (some ⟨g, 0, none⟩) n cap)).run Try.prog w' = .ok (bytesOf l).toArray w' := fun w' hw' => by
      refine run_firstCells_some w' i0.size n ⟨g, 0, none⟩ n cap (bytesOf l) (by rw [hz1, Nat.mul_one]; simp [bytesOf, h.len]) (fun j u hu => ?_)
      have hadd : (⟨g, 0, none⟩ : Addr).add j = ⟨g, j, none⟩ := by unfold Addr.add; split <;> simp_all
      rw [hadd, cell_of_row w' g j cur 5 fz (by rw [hw']; exact hh)]
      rw [← ht, List.getElem?_take] at hu
      split at hu
      · simpa using hu
      · cases hu
    have hr := run_append_grow_src (P := Try.prog) w 105 9 ty 5 i0 _ Try.underlying105 hi hz0 (some ⟨g, 0, none⟩) n cap (bytesOf l) (hcap0 w.drew rfl) _ _ _ hsrc (by omega) (by omega)
      (by rw [hz2]; exact growslice_fits (by omega) (by omega))
    have hge := grownCap_ge w (n + t.length) cap 5
    have hcm : grownCap w (n + t.length) cap 5 ≤ maxLen := grownCap_le_maxLen w _ _ _ (by unfold maxLen; omega)
    have e1 : (bytesOf l ++ bytesOf t).length = n + t.length := by simp [bytesOf, h.len]
    have e2 : bytesOf (l ++ t) = bytesOf l ++ bytesOf t := by simp [bytesOf]
    refine ⟨w.heap.size, _, _, hr, ⟨hbase, by simp [h.len], hge, hcm, _, (0, 0), heap_alloc_new w.drew _, ?_, ?_, .inl rfl⟩, ⟨rfl, rfl, rfl, by simp, fun k hk _ => Below.heap_alloc w.drew _ k hk⟩⟩
    · simp only [Array.size_append, List.size_toArray, size_zeroCells, e1]
      show n + t.length + (grownCap w (n + t.length) cap 5 - (n + t.length)) * 1 = _
      omega
    · simp only [Array.toList_append]
      rw [e2, ← e1, List.take_left]
/-- the operation, for the walk -/
theorem wpList_append_text (w : World) {ops : Array Oper} {rest : List Oper} {o : Oper} {a : Act} {Q : Exit → Act → World → Prop} (hgd : o.guard = none) (sl x : Operand)
    (ho : o.op = .call { callee := .builtin .append, args := #[sl, x], argTypes := #[105, 9] })
    (base g n cap : Nat) (l t : List UInt8) (hs : a.eval sl = .slice (some ⟨g, 0, none⟩) n cap) (hx : a.eval x = .string ⟨t.toArray⟩) (h : OwnB w base g n cap l) (hm : n + t.length ≤ 140737488355328) (hbase : base ≤ w.heap.size)
    (hK : ∀ g' cap' w', OwnB w' base g' (n + t.length) cap' (l ++ t) → w.grownBy w' (some g) → wpList Try.prog ops Q rest (a.put o.dst (.slice (some ⟨g', 0, none⟩) (n + t.length) cap')) w') : wpList Try.prog ops Q (o :: rest) a w := by
  refine wpList_plain hgd fun K hK' => ?_
  obtain ⟨g', cap', w', hr, h2, h3⟩ := run_append_text w o.type base g n cap l h t hm hbase
  unfold Oper.wp execOp
  simp only [ho, resolve, invoke, builtin, Sem.run_bind, Sem.run_pure, Result.andThen_ok, List.map_toArray, List.map_cons, List.map_nil, hs, hx, hr]
  exact hK' _ _ (hK g' cap' w' h2 h3)
end Go.Proofs.Ytobdfocfkomagaa.base
