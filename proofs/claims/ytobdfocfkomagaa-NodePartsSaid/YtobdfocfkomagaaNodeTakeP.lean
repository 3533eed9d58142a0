/- A page's node, plainly; a longer bound on keys finds no other node. -/
import Derived.Test.YtobdfocfkomagaaNodePlain
namespace Go.Proofs.Ytobdfocfkomagaa.node
open Go
open Ytobdfocfkomagaa.oct (num text takeText take num_len num_pos takeText_len takeText_text take_num num_take)

/-- so many pairs; none: there is an error -/
def loopN (most : Int) : Nat → List (ByteArray × ByteArray) → List UInt8 → Option (List (ByteArray × ByteArray))
  | 0, acc, _ => some acc
  | m + 1, acc, r => match takeText r most with
    | (k, r1, e) => if e ≠ 0 then none else match takeText r1 160 with
      | (v, r2, f) => if f ≠ 0 then none else loopN most m (acc ++ [(⟨k.toArray⟩, ⟨v.toArray⟩)]) r2
def zeroN : Nd := ⟨false, []⟩
def endN (leaf : Bool) (page : List UInt8) : Option (List (ByteArray × ByteArray)) → Nd × Int
  | none => (zeroN, 4)
  | some l => if putN ⟨leaf, l⟩ = (page, 0) then (⟨leaf, l⟩, 0) else (zeroN, 4)
def takeN (most : Int) (page : List UInt8) : Nd × Int :=
  if page.length ≠ 480 then (zeroN, 4) else match take (page.drop 1) with
  | (count, r, e) => if e ≠ 0 then (zeroN, 4) else endN (page.head? == some 1) page (loopN most (min count 480).toNat [] r)
theorem loop_pre (most : Int) : ∀ (m : Nat) (acc : List (ByteArray × ByteArray)) (r : List UInt8) (l : List (ByteArray × ByteArray)), loopN most m acc r = some l → ∃ t, l = acc ++ t
  | 0, acc, _, l, h => ⟨[], by rw [loopN] at h; cases h; simp⟩
  | m + 1, acc, r, l, h => by
    rw [loopN] at h
    generalize takeText r most = q at h
    obtain ⟨k, r1, e⟩ := q
    simp only at h
    split at h
    · cases h
    · generalize takeText r1 160 = q at h
      obtain ⟨v, r2, f⟩ := q
      simp only at h
      split at h
      · cases h
      · obtain ⟨t, rfl⟩ := loop_pre most m _ _ _ h
        exact ⟨(⟨k.toArray⟩, ⟨v.toArray⟩) :: t, by simp⟩
theorem takeText_most (r : List UInt8) : (∃ e, e ≠ 0 ∧ takeText r 160 = ([], [], e) ∧ ∃ e', e' ≠ 0 ∧ takeText r 48 = ([], [], e')) ∨ (∃ k r1, takeText r 160 = (k, r1, 0) ∧ k.length ≤ 48 ∧ takeText r 48 = (k, r1, 0)) ∨ (∃ k r1, takeText r 160 = (k, r1, 0) ∧ 48 < k.length ∧ takeText r 48 = ([], [], 5)) := by
  unfold takeText
  generalize take r = q
  obtain ⟨n, x, e⟩ := q
  simp only
  by_cases he : e ≠ 0
  · rw [if_pos he, if_pos he]
    exact .inl ⟨e, he, rfl, e, he, rfl⟩
  · rw [if_neg he, if_neg he]
    by_cases hn : n < 0
    · rw [if_pos hn, if_pos hn]; exact .inl ⟨4, by decide, rfl, 4, by decide, rfl⟩
    · rw [if_neg hn, if_neg hn]
      by_cases h1 : 160 < n
      · rw [if_pos h1, if_pos (by omega)]; exact .inl ⟨5, by decide, rfl, 5, by decide, rfl⟩
      · rw [if_neg h1]
        by_cases h2 : (x.length : Int) < n
        · rw [if_pos h2]
          by_cases h3 : 48 < n
          · rw [if_pos h3]; exact .inl ⟨3, by decide, rfl, 5, by decide, rfl⟩
          · rw [if_neg h3]; exact .inl ⟨3, by decide, rfl, 3, by decide, rfl⟩
        · rw [if_neg h2]
          have hlen : (x.take n.toNat).length = n.toNat := by rw [List.length_take]; omega
          by_cases h3 : 48 < n
          · rw [if_pos h3]; exact .inr (.inr ⟨_, _, rfl, by rw [hlen]; omega, rfl⟩)
          · rw [if_neg h3]; exact .inr (.inl ⟨_, _, rfl, by rw [hlen]; omega, rfl⟩)
theorem loop_most : ∀ (m : Nat) (acc : List (ByteArray × ByteArray)) (r : List UInt8), loopN 160 m acc r = loopN 48 m acc r ∨ (loopN 48 m acc r = none ∧ ∀ l, loopN 160 m acc r = some l → ∃ x ∈ l, 48 < x.1.size)
  | 0, acc, r => .inl (by rw [loopN, loopN])
  | m + 1, acc, r => by
    rw [loopN, loopN]
    rcases takeText_most r with ⟨e, he, h1, e', he', h2⟩ | ⟨k, r1, h1, hk, h2⟩ | ⟨k, r1, h1, hk, h2⟩
    · rw [h1, h2]
      simp only
      rw [if_pos he, if_pos he']
      exact .inl rfl
    · rw [h1, h2]
      simp only [ne_eq, not_true_eq_false, if_false]
      generalize takeText r1 160 = q
      obtain ⟨v, r2, f⟩ := q
      simp only
      by_cases hf : f = 0
      · rw [if_neg (fun h => h hf), if_neg (fun h => h hf)]
        exact loop_most m _ _
      · rw [if_pos hf, if_pos hf]
        exact .inl rfl
    · rw [h1, h2]
      simp only [ne_eq, not_true_eq_false, if_false]
      refine .inr ⟨rfl, fun l hl => ?_⟩
      generalize takeText r1 160 = q at hl
      obtain ⟨v, r2, f⟩ := q
      simp only at hl
      split at hl
      · cases hl
      · obtain ⟨t, rfl⟩ := loop_pre _ _ _ _ _ hl
        refine ⟨(⟨k.toArray⟩, ⟨v.toArray⟩), by simp, ?_⟩
        show 48 < (ByteArray.mk k.toArray).size
        simpa [ByteArray.size] using hk
theorem long_key {leaf : Bool} {l : List (ByteArray × ByteArray)} {x : ByteArray × ByteArray} (hx : x ∈ l) (hk : 48 < x.1.size) : checkN ⟨leaf, l⟩ = 2 := by
  obtain ⟨i, hi, rfl⟩ := List.getElem_of_mem hx
  have : okAt ⟨leaf, l⟩ i = false := by
    unfold okAt fitsP
    rw [at0_get (List.getElem?_eq_getElem hi)]
    rw [decide_eq_false (by omega), Bool.false_and]
  unfold checkN
  rw [if_pos (right_false hi this)]
theorem end_long {leaf : Bool} {page : List UInt8} {o : Option (List (ByteArray × ByteArray))} (h : ∀ l, o = some l → ∃ x ∈ l, 48 < x.1.size) : endN leaf page o = (zeroN, 4) := by
  cases o with
  | none => rfl
  | some l =>
    obtain ⟨x, hx, hk⟩ := h l rfl
    unfold endN
    simp only
    rw [put_bad (by rw [long_key hx hk]; decide), long_key hx hk, if_neg (fun e => by cases (congrArg Prod.snd e))]
theorem take_most (page : List UInt8) : takeN 160 page = takeN 48 page := by
  unfold takeN
  split
  · rfl
  · generalize take (page.drop 1) = q
    obtain ⟨count, r, e⟩ := q
    simp only
    split
    · rfl
    · rcases loop_most (min count 480).toNat [] r with h | ⟨h1, h2⟩
      · rw [h]
      · rw [h1, end_long h2]
        rfl
end Go.Proofs.Ytobdfocfkomagaa.node
