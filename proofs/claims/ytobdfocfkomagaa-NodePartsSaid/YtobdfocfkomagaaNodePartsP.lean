/- Parts, plainly. -/
import Derived.Test.YtobdfocfkomagaaNodeBackP
namespace Go.Proofs.Ytobdfocfkomagaa.node
open Go
open Ytobdfocfkomagaa.oct (num num_len num_pos)

/-- the pairs from 'from' on, cut as soon as a part is full; the parts that are done ahead -/
def cutP (room : Nat) : PL → PL → Nat → List PL → List PL
  | [], now, _, done => done ++ [now]
  | x :: r, now, size, done => if room < size + wideP x then cutP room r [x] (wideP x) (done ++ [now]) else cutP room r (now ++ [x]) (size + wideP x) done
def sumW (l : PL) : Nat := (l.map wideP).sum
theorem sumW_nil : sumW [] = 0 := rfl
theorem sumW_cons (x : ByteArray × ByteArray) (l : PL) : sumW (x :: l) = wideP x + sumW l := by unfold sumW; rw [List.map_cons, List.sum_cons]
theorem sumW_append (a b : PL) : sumW (a ++ b) = sumW a + sumW b := by unfold sumW; rw [List.map_append, List.sum_append]
theorem num_one {c : Nat} (h : c ≤ 63) : (num (c : Int)).length = 1 := by
  unfold num oct.code
  rw [if_neg (by omega), Int.toNat_natCast]
  show (oct.numF 10 (2 * c)).length = 1
  unfold oct.numF
  rw [if_pos (by omega)]
  rfl
theorem head_two {leaf : Bool} {c : Nat} (h : c ≤ 63) : (headL leaf c).length = 2 := by unfold headL; rw [List.length_cons, num_one h]
theorem num_two {c : Nat} (h : c ≤ 160) : (num (c : Int)).length ≤ 2 := by
  unfold num oct.code
  rw [if_neg (by omega), Int.toNat_natCast]
  show (oct.numF 10 (2 * c)).length ≤ 2
  unfold oct.numF
  split
  · simp
  · unfold oct.numF
    rw [if_pos (by omega)]
    simp
theorem wide_le {x : ByteArray × ByteArray} (h : x.1.size ≤ 48 ∧ x.2.size ≤ 160) : wideP x ≤ 212 := by
  unfold wideP
  have := num_two (show x.1.size ≤ 160 by omega)
  have := num_two h.2
  omega
/-- what the cut is: all pairs in order, no part too big, none empty -/
theorem cut_flat (room : Nat) : ∀ (l now : PL) (size : Nat) (done : List PL), (cutP room l now size done).flatten = done.flatten ++ now ++ l
  | [], now, _, done => by rw [cutP]; simp
  | x :: r, now, size, done => by
    rw [cutP]
    split
    · rw [cut_flat room r]; simp
    · rw [cut_flat room r]; simp
theorem cut_fits (room : Nat) : ∀ (l now : PL) (size : Nat) (done : List PL), (∀ x ∈ l, wideP x ≤ room) → size = sumW now → size ≤ room → (now ≠ [] ∨ l ≠ []) → (∀ p ∈ done, p ≠ [] ∧ sumW p ≤ room) → (now = [] → done = []) →
    ∀ p ∈ cutP room l now size done, p ≠ [] ∧ sumW p ≤ room
  | [], now, size, done, _, hs, hr, hne, hd, _ => by
    rw [cutP]
    intro p hp
    rcases List.mem_append.1 hp with hp | hp
    · exact hd p hp
    · rw [List.mem_singleton.1 hp]
      refine ⟨?_, by omega⟩
      rcases hne with h | h
      · exact h
      · exact absurd rfl h
  | x :: r, now, size, done, hw, hs, hr, _, hd, h0 => by
    have hx := hw x (List.mem_cons_self ..)
    rw [cutP]
    split
    · rename_i hcut
      refine cut_fits room r [x] (wideP x) (done ++ [now]) (fun y hy => hw y (List.mem_cons_of_mem _ hy)) (by rw [sumW_cons, sumW_nil]; omega) hx (.inl (by simp)) (fun p hp => ?_) (fun h => by cases h)
      rcases List.mem_append.1 hp with hp | hp
      · exact hd p hp
      · rw [List.mem_singleton.1 hp]
        refine ⟨fun e => ?_, by omega⟩
        subst e
        rw [sumW_nil] at hs
        omega
    · refine cut_fits room r (now ++ [x]) (size + wideP x) done (fun y hy => hw y (List.mem_cons_of_mem _ hy)) (by rw [sumW_append, sumW_cons, sumW_nil]; omega) (by omega) (.inl (by simp)) hd (fun h => by simp at h)
theorem cut_one (room : Nat) : ∀ (l now : PL) (size : Nat), size + sumW l ≤ room → cutP room l now size [] = [now ++ l]
  | [], now, _, _ => by rw [cutP]; simp
  | x :: r, now, size, h => by
    rw [sumW_cons] at h
    rw [cutP, if_neg (by omega), cut_one room r _ _ (by omega)]
    simp
/-- how few -/
theorem cut_count (room : Nat) : ∀ (l now : PL) (size : Nat) (done done' : List PL), done.length = done'.length → (cutP room l now size done).length = (cutP room l now size done').length
  | [], now, _, done, done', h => by rw [cutP, cutP]; simp [h]
  | x :: r, now, size, done, done', h => by
    rw [cutP, cutP]
    split
    · exact cut_count room r _ _ _ _ (by simp [h])
    · exact cut_count room r _ _ _ _ h
/-- pairs moved from the one to the other -/
def evenP : Nat → PL → PL → PL × PL
  | 0, a, b => (a, b)
  | k + 1, a, b => match a.getLast? with
    | none => (a, b)
    | some x => if a.length ≤ 1 then (a, b) else if sumW a < sumW b + 2 * wideP x then (a, b) else evenP k a.dropLast (x :: b)
theorem getLast_split {a : PL} {x : ByteArray × ByteArray} (h : a.getLast? = some x) : a = a.dropLast ++ [x] := by
  have hne : a ≠ [] := fun e => by rw [e] at h; cases h
  have := List.dropLast_concat_getLast hne
  rw [List.getLast?_eq_some_getLast hne] at h
  cases h
  exact this.symm
theorem even_ok (room : Nat) : ∀ (k : Nat) (a b : PL), a ≠ [] → b ≠ [] → sumW a ≤ room → sumW b ≤ room → (evenP k a b).1 ++ (evenP k a b).2 = a ++ b ∧ (evenP k a b).1 ≠ [] ∧ (evenP k a b).2 ≠ [] ∧ sumW (evenP k a b).1 ≤ room ∧ sumW (evenP k a b).2 ≤ room
  | 0, a, b, h1, h2, h3, h4 => by rw [evenP]; exact ⟨rfl, h1, h2, h3, h4⟩
  | k + 1, a, b, h1, h2, h3, h4 => by
    rw [evenP]
    split
    · exact ⟨rfl, h1, h2, h3, h4⟩
    · rename_i x hx
      split
      · exact ⟨rfl, h1, h2, h3, h4⟩
      · split
        · exact ⟨rfl, h1, h2, h3, h4⟩
        · rename_i hl hs
          have e := getLast_split hx
          have hsa : sumW a = sumW a.dropLast + wideP x := by
            have e2 := congrArg sumW e
            rw [sumW_append, sumW_cons, sumW_nil] at e2
            omega
          have hd : a.dropLast ≠ [] := by
            intro e2
            have := congrArg List.length e2
            rw [List.length_dropLast] at this
            simp at this
            omega
          have ih := even_ok room k a.dropLast (x :: b) hd (by simp) (by omega) (by rw [sumW_cons]; omega)
          refine ⟨?_, ih.2⟩
          rw [ih.1]
          conv => rhs; rw [e]
          simp
end Go.Proofs.Ytobdfocfkomagaa.node
