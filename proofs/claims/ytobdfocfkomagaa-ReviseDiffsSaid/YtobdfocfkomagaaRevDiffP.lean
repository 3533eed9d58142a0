/- The changes between two lists of rules (plain). -/
import Derived.Test.YtobdfocfkomagaaRevLay
namespace Go.Proofs.Ytobdfocfkomagaa.rev
/-- the changes between two rests, from a place on -/
def diffL : List RI → List RI → Nat → List CI
  | [], [], _ => []
  | x :: s, [], a => ⟨false, a, x⟩ :: diffL s [] a
  | [], y :: t, a => ⟨true, a, y⟩ :: diffL [] t (a + 1)
  | x :: s, y :: t, a => if sameR x y then diffL s t (a + 1) else if lcsR (x :: s) t ≤ lcsR s (y :: t) then ⟨false, a, x⟩ :: diffL s (y :: t) a else ⟨true, a, y⟩ :: diffL (x :: s) t (a + 1)
termination_by s t => s.length + t.length
theorem diffL_len : ∀ (s t : List RI) (a : Nat), (diffL s t a).length ≤ s.length + t.length
  | [], [], _ => by simp [diffL]
  | x :: s, [], a => by rw [diffL]; have := diffL_len s [] a; simp at *; omega
  | [], y :: t, a => by rw [diffL]; have := diffL_len [] t (a + 1); simp at *; omega
  | x :: s, y :: t, a => by
    have h1 := diffL_len s t (a + 1)
    have h2 := diffL_len s (y :: t) a
    have h3 := diffL_len (x :: s) t (a + 1)
    rw [diffL]
    simp only [List.length_cons] at *
    split
    · omega
    · split <;> (simp only [List.length_cons]; omega)
termination_by s t => s.length + t.length
/-- each change of a difference has a rule of one of both lists, and a small place -/
theorem diffL_mem : ∀ (s t : List RI) (a : Nat) (c : CI), c ∈ diffL s t a → (c.r ∈ s ∨ c.r ∈ t) ∧ 0 ≤ c.at_ ∧ c.at_ ≤ a + t.length
  | [], [], _, c, h => by simp [diffL] at h
  | x :: s, [], a, c, h => by
    rw [diffL] at h
    rcases List.mem_cons.1 h with rfl | h
    · exact ⟨.inl (by simp), by simp, by simp⟩
    · have := diffL_mem s [] a c h
      exact ⟨this.1.imp (List.mem_cons_of_mem _) id, this.2⟩
  | [], y :: t, a, c, h => by
    rw [diffL] at h
    rcases List.mem_cons.1 h with rfl | h
    · exact ⟨.inr (by simp), by simp, by simp; omega⟩
    · have := diffL_mem [] t (a + 1) c h
      exact ⟨this.1.imp id (List.mem_cons_of_mem _), this.2.1, by simp only [List.length_cons]; omega⟩
  | x :: s, y :: t, a, c, h => by
    rw [diffL] at h
    split at h
    · have := diffL_mem s t (a + 1) c h
      exact ⟨this.1.imp (List.mem_cons_of_mem _) (List.mem_cons_of_mem _), this.2.1, by simp only [List.length_cons]; omega⟩
    · split at h
      · rcases List.mem_cons.1 h with rfl | h
        · exact ⟨.inl (by simp), by simp, by simp; omega⟩
        · have := diffL_mem s (y :: t) a c h
          exact ⟨this.1.imp (List.mem_cons_of_mem _) id, this.2⟩
      · rcases List.mem_cons.1 h with rfl | h
        · exact ⟨.inr (by simp), by simp, by simp; omega⟩
        · have := diffL_mem (x :: s) t (a + 1) c h
          exact ⟨this.1.imp id (List.mem_cons_of_mem _), this.2.1, by simp only [List.length_cons]; omega⟩
termination_by s t => s.length + t.length
def Dc (rs ss : List RI) (i k : Nat) : List CI := diffL (rs.drop i) (ss.drop k) k
theorem Dc_len (rs ss : List RI) (i k : Nat) : (Dc rs ss i k).length ≤ (rs.length - i) + (ss.length - k) := by
  have := diffL_len (rs.drop i) (ss.drop k) k
  simpa [Dc, List.length_drop] using this
theorem Dc_end (rs ss : List RI) : Dc rs ss rs.length ss.length = [] := by simp [Dc, diffL]
theorem Dc_dels {rs ss : List RI} {i : Nat} {x : RI} (hx : rs[i]? = some x) : Dc rs ss i ss.length = ⟨false, (ss.length : Nat), x⟩ :: Dc rs ss (i + 1) ss.length := by
  obtain ⟨h1, rfl⟩ := List.getElem?_eq_some_iff.1 hx
  unfold Dc
  rw [List.drop_eq_getElem_cons h1, List.drop_length, diffL]
theorem Dc_puts {rs ss : List RI} {k : Nat} {y : RI} (hy : ss[k]? = some y) : Dc rs ss rs.length k = ⟨true, (k : Nat), y⟩ :: Dc rs ss rs.length (k + 1) := by
  obtain ⟨h1, rfl⟩ := List.getElem?_eq_some_iff.1 hy
  unfold Dc
  rw [List.drop_eq_getElem_cons h1, List.drop_length, diffL]
theorem Dc_same {rs ss : List RI} {i k : Nat} {x y : RI} (hx : rs[i]? = some x) (hy : ss[k]? = some y) (h : sameR x y = true) : Dc rs ss i k = Dc rs ss (i + 1) (k + 1) := by
  obtain ⟨h1, rfl⟩ := List.getElem?_eq_some_iff.1 hx
  obtain ⟨h2, rfl⟩ := List.getElem?_eq_some_iff.1 hy
  unfold Dc
  rw [List.drop_eq_getElem_cons h1, List.drop_eq_getElem_cons h2, diffL, if_pos h]
theorem Dc_del {rs ss : List RI} {i k : Nat} {x y : RI} (hx : rs[i]? = some x) (hy : ss[k]? = some y) (h : sameR x y = false) (hl : Lc rs ss i (k + 1) ≤ Lc rs ss (i + 1) k) : Dc rs ss i k = ⟨false, (k : Nat), x⟩ :: Dc rs ss (i + 1) k := by
  obtain ⟨h1, rfl⟩ := List.getElem?_eq_some_iff.1 hx
  obtain ⟨h2, rfl⟩ := List.getElem?_eq_some_iff.1 hy
  unfold Lc at hl
  unfold Dc
  rw [List.drop_eq_getElem_cons h1, List.drop_eq_getElem_cons h2] at *
  rw [diffL, if_neg (by simp [h]), if_pos hl]
theorem Dc_put {rs ss : List RI} {i k : Nat} {x y : RI} (hx : rs[i]? = some x) (hy : ss[k]? = some y) (h : sameR x y = false) (hl : ¬ Lc rs ss i (k + 1) ≤ Lc rs ss (i + 1) k) : Dc rs ss i k = ⟨true, (k : Nat), y⟩ :: Dc rs ss i (k + 1) := by
  obtain ⟨h1, rfl⟩ := List.getElem?_eq_some_iff.1 hx
  obtain ⟨h2, rfl⟩ := List.getElem?_eq_some_iff.1 hy
  unfold Lc at hl
  unfold Dc
  rw [List.drop_eq_getElem_cons h1, List.drop_eq_getElem_cons h2] at *
  rw [diffL, if_neg (by simp [h]), if_neg hl]
end Go.Proofs.Ytobdfocfkomagaa.rev
