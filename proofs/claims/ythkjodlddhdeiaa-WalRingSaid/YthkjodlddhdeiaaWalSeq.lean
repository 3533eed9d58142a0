/- A list of texts that the law keeps: taken from the front, appended to behind. -/
import Derived.Test.YthkjodlddhdeiaaWalNil
import Derived.Test.YthkjodlddhdeiaaOpenStrs
namespace Go.Proofs.Ythkjodlddhdeiaa.wal
open Go.ChangeShapes Go.WideShapes Go.ChangeAt Go.RowKit
open Ythkjodlddhdeiaa.base Ythkjodlddhdeiaa.disk
open Ythkjodlddhdeiaa.oct (Reads)

structure Seq (w : World) (base : Nat) (A : Option Addr) (n cap : Nat) (ss : List ByteArray) : Prop where
  len : ss.length = n
  le : n ≤ cap
  row : (A = none ∧ cap = 0) ∨ ∃ g o cur, A = some ⟨g, o, none⟩ ∧ base ≤ g ∧ w.heap[g]? = some (.cells cur 9 (0, 0)) ∧ o + cap ≤ cur.size ∧ ∀ j s, ss[j]? = some s → cur[o + j]? = some (.string s)
theorem Seq.nil (w : World) (base : Nat) : Seq w base none 0 0 [] := ⟨rfl, Nat.le_refl _, .inl ⟨rfl, rfl⟩⟩
theorem Seq.kept {w w' : World} {base n cap : Nat} {A : Option Addr} {ss : List ByteArray} (h : Seq w base A n cap ss) (hk : ∀ g o cur, A = some ⟨g, o, none⟩ → w.heap[g]? = some (.cells cur 9 (0, 0)) → w'.heap[g]? = w.heap[g]?) : Seq w' base A n cap ss := by
  refine ⟨h.len, h.le, ?_⟩
  rcases h.row with h1 | ⟨g, o, cur, h1, h2, h3, h4, h5⟩
  · exact .inl h1
  · exact .inr ⟨g, o, cur, h1, h2, by rw [hk g o cur h1 h3]; exact h3, h4, h5⟩
theorem Seq.below {w w' : World} {base n cap : Nat} {A : Option Addr} {ss : List ByteArray} (h : Seq w base A n cap ss) (hb : Below w.heap.size w w') : Seq w' base A n cap ss :=
  h.kept fun g _ _ _ hg => hb.block g (lt_of_obj hg)
theorem Seq.reads {w : World} {base n cap : Nat} {A : Option Addr} {ss : List ByteArray} (h : Seq w base A n cap ss) : Reads w A ss := by
  intro hne
  rcases h.row with ⟨_, h0⟩ | ⟨g, o, cur, h1, h2, h3, h4, h5⟩
  · have := h.le
    have h6 := h.len
    exact absurd (List.eq_nil_of_length_eq_zero (by omega)) hne
  · exact ⟨g, o, h1, lt_of_obj h3, fun i s hi => by rw [cell_of_row _ _ _ _ _ _ h3]; exact h5 i s hi⟩
theorem Seq.tail {w : World} {base n cap : Nat} {A : Option Addr} {ss : List ByteArray} (h : Seq w base A n cap ss) (hn : 1 ≤ n) : Seq w base (fromA A cap 1) (n - 1) (cap - 1) (ss.drop 1) := by
  have hl := h.len
  have hle := h.le
  refine ⟨by rw [List.length_drop, hl], by omega, ?_⟩
  rcases h.row with ⟨_, h0⟩ | ⟨g, o, cur, h1, h2, h3, h4, h5⟩
  · omega
  · unfold fromA
    by_cases hc : cap = 1
    · rw [if_pos hc]
      refine .inr ⟨g, o, cur, h1, h2, h3, by omega, fun j s hj => ?_⟩
      rw [List.getElem?_drop] at hj
      have := (List.getElem?_eq_some_iff.1 hj).1
      omega
    · rw [if_neg hc, h1]
      refine .inr ⟨g, o + 1, cur, by simp [Addr.add_mid], h2, h3, by omega, fun j s hj => ?_⟩
      rw [List.getElem?_drop] at hj
      rw [show o + 1 + j = o + (1 + j) from by omega]
      exact h5 _ _ hj
theorem seq_own {w : World} {base base' n cap : Nat} {A : Option Addr} {ss : List ByteArray} (h : w.ownsRow base' 9 1 (.slice A n cap) n (oct.strs ss)) (hb : base ≤ base') : Seq w base A n cap ss := by
  obtain ⟨hl, ⟨h1, h2⟩ | ⟨g, c, cur, h1, h2, h3, h4, h5, h6, h7⟩⟩ := h
  · simp only [Value.slice.injEq] at h1
    obtain ⟨rfl, rfl, rfl⟩ := h1
    obtain rfl : ss = [] := List.eq_nil_of_length_eq_zero (by simpa [oct.strs] using hl)
    exact Seq.nil _ _
  · simp only [Value.slice.injEq] at h1
    obtain ⟨rfl, _, rfl⟩ := h1
    refine ⟨by simpa [oct.strs] using hl, h4, .inr ⟨g, 0, cur, rfl, Nat.le_trans hb h2, h3, by omega, fun j s hj => ?_⟩⟩
    have hlen : ss.length = n := by simpa [oct.strs] using hl
    have hjn : j < n := by have := (List.getElem?_eq_some_iff.1 hj).1; omega
    have h8 : (oct.strs ss)[j]? = some (.string s) := by simp [oct.strs, hj]
    rw [← h7, List.getElem?_take, if_pos (by omega)] at h8
    rw [Nat.zero_add]
    simpa using h8
/-- append of one text that was laid last -/
theorem seq_append {W : World} {base n cap : Nat} {A : Option Addr} {ss : List ByteArray} (h : Seq W base A n cap ss) (hn : n ≤ 1000000) (hbase : base ≤ W.heap.size) (s : ByteArray) :
    ∃ A' cap' w6, (Builtin.append_ #[53, 53] 53 #[.slice A n cap, .slice (some ⟨W.heap.size, 0, none⟩) 1 1]).run Try.prog (W.alloc (.cells #[.string s] 9)) = .ok (.slice A' (n + 1) cap') w6 ∧
      Seq w6 base A' (n + 1) cap' (ss ++ [s]) ∧ (∀ l : List Nat, (∀ g o, A = some ⟨g, o, none⟩ → g ∈ l) → Only l W w6) := by
  obtain ⟨i, hi, hz, hs, hb⟩ := info_parts oct.info_str
  have hnew : ∀ j u, [Value.string s][j]? = some u → (W.alloc (.cells #[.string s] 9)).cell? ((⟨W.heap.size, 0, none⟩ : Addr).add j) = some u :=
    World.news_of_block (cs := #[.string s]) (t := 9) (fr := (0, 0)) (heap_alloc_new W _)
  have happ : oct.strs ss ++ [.string s] = oct.strs (ss ++ [s]) := by simp [oct.strs]
  have hone : ∀ u ∈ [Value.string s], u.oneCell' = true := by simp [Value.oneCell']
  have hl := h.len
  have hle := h.le
  rcases h.row with ⟨hA, h0⟩ | ⟨g, o, cur, hA, hg2, hg3, hg4, hg5⟩
  · subst hA
    obtain rfl : cap = 0 := h0
    obtain rfl : n = 0 := by omega
    obtain rfl : ss = [] := List.eq_nil_of_length_eq_zero hl
    obtain ⟨v', w6, hrun, hown, hgrow, _⟩ := run_append_own (P := Try.prog) (w := W.alloc (.cells #[.string s] 9)) W.heap.size 53 53 9 i _ 1 16 Try.underlying53 hi hz hs hb rfl (by decide) (.slice none 0 0) 0 [] (World.ownsRow_nil _ _ _ _) ⟨W.heap.size, 0, none⟩ 1 1 [.string s] rfl hnew hone (by decide) (by decide) (by simp)
    obtain ⟨A', cap', rfl⟩ := row_val hown
    have hbl : Below W.heap.size W w6 := (newer (same W) _).grown hgrow (by simp) (fun k hk => by cases hk)
    exact ⟨A', cap', w6, hrun, seq_own (ss := [s]) hown hbase, fun l _ => Only.of_below l hbl⟩
  · subst hA
    have hgW : g < W.heap.size := lt_of_obj hg3
    have hg3' : (W.alloc (.cells #[.string s] 9)).heap[g]? = some (.cells cur 9 (0, 0)) := by rw [Below.heap_alloc _ _ _ hgW]; exact hg3
    by_cases hroom : n + 1 ≤ cap
    · have hlt : o + n < cur.size := by omega
      have hcell : (W.alloc (.cells #[.string s] 9)).cell? ⟨g, o + n, none⟩ = some cur[o + n] := by rw [cell_of_row _ _ _ _ _ _ hg3', Array.getElem?_eq_getElem hlt]
      have hrun := run_append_room_cells (P := Try.prog) (W.alloc (.cells #[.string s] 9)) 53 53 9 i Try.underlying53 hi g o n cap ⟨W.heap.size, 0, none⟩ 1 1 [.string s] (by rw [hs]; rfl) hnew hone hroom
        (fun j hj => by
          have : j = 0 := by simpa using hj
          rw [this, hs, Nat.mul_one, Nat.add_zero, hcell]; rfl)
        (fun j hj => by unfold World.frozen?; simp only [hg3']; simp)
      rw [hs, Nat.mul_one] at hrun
      have hset : (W.alloc (.cells #[.string s] 9)).setCells g (o + n) [.string s] = (W.alloc (.cells #[.string s] 9)).setCell ⟨g, o + n, none⟩ (.string s) := rfl
      rw [hset] at hrun
      have hheap := heap_setCell_same _ _ (o + n) _ _ (.string s) hg3'
      refine ⟨some ⟨g, o, none⟩, cap, _, hrun, ⟨by simp [hl], hroom, .inr ⟨g, o, _, rfl, hg2, hheap, by simp; omega, fun j t hj => ?_⟩⟩, fun l hal => ?_⟩
      · by_cases hjn : j < n
        · rw [List.getElem?_append_left (by omega)] at hj
          rw [Array.getElem?_setIfInBounds, if_neg (by omega)]
          exact hg5 j t hj
        · have hj2 : j < (ss ++ [s]).length := (List.getElem?_eq_some_iff.1 hj).1
          have hjj : j = n := by simp [hl] at hj2; omega
          subst hjj
          rw [List.getElem?_append_right (by omega), hl, Nat.sub_self] at hj
          cases hj
          rw [Array.getElem?_setIfInBounds, if_pos rfl, if_pos hlt]
      · refine (Only.of_below l (newer (same W) _)).trans ((Only.cell _ _ _ _).mono (fun k hk => ?_))
        have hkg : k = g := by simpa using hk
        rw [hkg]
        exact hal g o rfl
    · have hnc : n = cap := by omega
      subst hnc
      obtain ⟨v', w6, hrun, hown, hgrow⟩ := run_append_arg_grows (P := Try.prog) (W.alloc (.cells #[.string s] 9)) 53 53 9 i _ 1 16 Try.underlying53 hi hz hs hb rfl (by decide) ⟨g, o, none⟩ n n (oct.strs ss) (by simp [oct.strs, hl]) (fun j u hj => by
          rw [Addr.add_mid, cell_of_row _ _ _ _ _ _ hg3']
          unfold oct.strs at hj
          rw [List.getElem?_map] at hj
          obtain ⟨t, ht, rfl⟩ := Option.map_eq_some_iff.1 hj
          exact hg5 j t ht) ⟨W.heap.size, 0, none⟩ 1 1 [.string s] rfl hnew (by omega) (by unfold maxLen; omega) (by omega)
      rw [happ] at hown
      obtain ⟨A', cap', rfl⟩ := row_val hown
      have hbl : Below W.heap.size W w6 := (newer (same W) _).grown hgrow (by simp) (fun k hk => by cases hk)
      exact ⟨A', cap', w6, hrun, seq_own hown (by simp; omega), fun l _ => Only.of_below l hbl⟩
/-- one text of an argument -/
theorem run_sub (A : Option Addr) (n cap k : Nat) (h : k < n) (hc : n ≤ cap) (w : World) : (Instr.slice 53 (.slice A n cap) (some (.int .i64 (k : Int))) (some (.int .i64 ((k : Int) + 1))) none).run Try.prog w = .ok (.slice (A.map (·.add k)) 1 (cap - k)) w := by
  have h1 : (k : Int) + 1 ≤ (cap : Int) := by omega
  have h2 : (0 : Int) ≤ (k : Int) + 1 := by omega
  have h3 : ((k : Int) + 1).toNat = k + 1 := by omega
  have h4 : (k : Int) ≤ (k : Int) + 1 := by omega
  have h5 : ¬ cap = k := by omega
  simp [Instr.slice, run_underlying Try.underlying53, Instr.sliceBounds, Instr.sliceBound, asIntOf, h1, h2, h3, h4, h5, str_size]
theorem reads_sub {w : World} {A : Option Addr} {ss : List ByteArray} (h : Reads w A ss) (k : Nat) (s : ByteArray) (hk : ss[k]? = some s) : Reads w (A.map (·.add k)) [s] := by
  intro _
  obtain ⟨b, off, rfl, hlt, hc⟩ := h (fun e => by rw [e] at hk; simp at hk)
  refine ⟨b, off + k, by simp [Addr.add_mid], hlt, fun i t hi => ?_⟩
  have hi0 : i = 0 := by have := (List.getElem?_eq_some_iff.1 hi).1; simp at this; exact this
  subst hi0
  cases hi
  exact hc k s hk
end Go.Proofs.Ythkjodlddhdeiaa.wal
