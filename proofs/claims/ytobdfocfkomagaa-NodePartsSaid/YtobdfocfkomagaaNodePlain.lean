/- Nodes, plainly: what is right, the bytes, where a key stands. -/
import Derived.Test.YtobdfocfkomagaaOctText
import Derived.Lib.Bytealg
namespace Go.Proofs.Ytobdfocfkomagaa.node
open Go
open Ytobdfocfkomagaa.oct (num text takeText take num_len num_pos)

structure Nd where
  leaf : Bool
  l : List (ByteArray × ByteArray)
abbrev PL := List (ByteArray × ByteArray)
/-- the order of texts -/
def lessL : List UInt8 → List UInt8 → Bool := Op.bytesLess
theorem lessL_def (a b : List UInt8) : Op.bytesLess a b = lessL a b := rfl
theorem lessL_nil_nil : lessL [] [] = false := by unfold lessL; simp [Op.bytesLess]
theorem lessL_nil_cons (b : UInt8) (ys : List UInt8) : lessL [] (b :: ys) = true := by unfold lessL; simp [Op.bytesLess]
theorem lessL_cons_nil (a : UInt8) (xs : List UInt8) : lessL (a :: xs) [] = false := by unfold lessL; simp [Op.bytesLess]
theorem lessL_cons (a b : UInt8) (xs ys : List UInt8) : lessL (a :: xs) (b :: ys) = if a < b then true else if b < a then false else lessL xs ys := by
  show Op.bytesLess (a :: xs) (b :: ys) = _
  rw [Op.bytesLess]
  by_cases h1 : a < b
  · simp [h1]
  · by_cases h2 : b < a
    · have hne : a ≠ b := fun e => by rw [e, UInt8.lt_iff_toNat_lt] at h2; omega
      simp [h1, h2, hne]
    · have e : a = b := by
        simp only [UInt8.lt_iff_toNat_lt] at h1 h2
        exact UInt8.toNat_inj.1 (by omega)
      subst e
      simp [h1, lessL]
theorem less_irrefl : ∀ a : List UInt8, lessL a a = false
  | [] => lessL_nil_nil
  | a :: xs => by
    have h : ¬ a < a := by rw [UInt8.lt_iff_toNat_lt]; omega
    rw [lessL_cons, if_neg h, if_neg h]
    exact less_irrefl xs
theorem less_trans : ∀ a b c : List UInt8, lessL a b = true → lessL b c = true → lessL a c = true
  | [], [], _, h, _ => by rw [lessL_nil_nil] at h; cases h
  | [], _ :: _, [], _, h => by rw [lessL_cons_nil] at h; cases h
  | [], _ :: _, c :: zs, _, _ => lessL_nil_cons c zs
  | a :: xs, [], _, h, _ => by rw [lessL_cons_nil] at h; cases h
  | _ :: _, b :: ys, [], _, h => by rw [lessL_cons_nil] at h; cases h
  | a :: xs, b :: ys, c :: zs, h, k => by
    rw [lessL_cons] at h k ⊢
    simp only [UInt8.lt_iff_toNat_lt] at h k ⊢
    by_cases h1 : a.toNat < b.toNat
    · by_cases k1 : b.toNat < c.toNat
      · rw [if_pos (by omega)]
      · rw [if_neg k1] at k
        by_cases k2 : c.toNat < b.toNat
        · rw [if_pos k2] at k; cases k
        · rw [if_pos (by omega)]
    · rw [if_neg h1] at h
      by_cases h2 : b.toNat < a.toNat
      · rw [if_pos h2] at h; cases h
      · rw [if_neg h2] at h
        by_cases k1 : b.toNat < c.toNat
        · rw [if_pos (by omega)]
        · rw [if_neg k1] at k
          by_cases k2 : c.toNat < b.toNat
          · rw [if_pos k2] at k; cases k
          · rw [if_neg k2] at k
            rw [if_neg (by omega), if_neg (by omega)]
            exact less_trans xs ys zs h k
theorem less_total : ∀ a b : List UInt8, lessL a b = false → lessL b a = false → a = b
  | [], [], _, _ => rfl
  | [], b :: ys, h, _ => by rw [lessL_nil_cons] at h; cases h
  | a :: xs, [], _, h => by rw [lessL_nil_cons] at h; cases h
  | a :: xs, b :: ys, h, k => by
    rw [lessL_cons] at h k
    simp only [UInt8.lt_iff_toNat_lt] at h k
    by_cases h1 : a.toNat < b.toNat
    · rw [if_pos h1] at h; cases h
    · by_cases h2 : b.toNat < a.toNat
      · rw [if_pos h2] at k; cases k
      · rw [if_neg h1, if_neg h2] at h
        rw [if_neg h2, if_neg h1] at k
        rw [UInt8.toNat_inj.1 (show a.toNat = b.toNat by omega), less_total xs ys h k]
/-- strings.Compare -/
theorem compare_less : ∀ a b : List UInt8, Lib.compareBytes a b = if lessL a b = true then -1 else if a = b then 0 else 1
  | [], [] => by rw [lessL_nil_nil]; rfl
  | [], b :: ys => by rw [lessL_nil_cons]; rfl
  | a :: xs, [] => by rw [lessL_cons_nil]; rfl
  | a :: xs, b :: ys => by
    have ih := compare_less xs ys
    rw [lessL_cons]
    unfold Lib.compareBytes
    by_cases h1 : a < b
    · rw [if_pos h1, if_pos h1, if_pos rfl]
    · rw [if_neg h1, if_neg h1]
      by_cases h2 : b < a
      · have hne : a ≠ b := fun e => by rw [e, UInt8.lt_iff_toNat_lt] at h2; omega
        rw [if_pos h2, if_pos h2, if_neg (by decide), if_neg (fun e => hne (List.cons.inj e).1)]
      · rw [if_neg h2, if_neg h2, ih]
        have e : a = b := by
          simp only [UInt8.lt_iff_toNat_lt] at h1 h2
          exact UInt8.toNat_inj.1 (by omega)
        subst e
        by_cases h3 : lessL xs ys = true
        · rw [if_pos h3, if_pos h3]
        · rw [if_neg h3, if_neg h3]
          by_cases h4 : xs = ys
          · rw [if_pos h4, if_pos (by rw [h4])]
          · rw [if_neg h4, if_neg (fun e => h4 (List.cons.inj e).2)]
def less (a b : ByteArray) : Bool := lessL a.toList b.toList
theorem toList_inj {a b : ByteArray} (h : a.toList = b.toList) : a = b := by
  rw [ByteArray.toList_eq, ByteArray.toList_eq] at h
  cases a; cases b
  simpa using h
/-- a pair may be a node's -/
def fitsP (leaf : Bool) (x : ByteArray × ByteArray) : Bool := decide (1 ≤ x.1.size ∧ x.1.size ≤ 48 ∧ ((leaf = true ∧ x.2.size ≤ 160) ∨ (leaf = false ∧ x.2.size = 4)))
def at0 (l : List (ByteArray × ByteArray)) (i : Nat) : ByteArray × ByteArray := l.getD i (⟨#[]⟩, ⟨#[]⟩)
def okAt (n : Nd) (i : Nat) : Bool := fitsP n.leaf (at0 n.l i) && (i == 0 || less (at0 n.l (i - 1)).1 (at0 n.l i).1)
def rightN (n : Nd) : Bool := (List.range n.l.length).all (okAt n) && decide (0 < n.l.length)
theorem at0_get {l : List (ByteArray × ByteArray)} {i : Nat} {x : ByteArray × ByteArray} (h : l[i]? = some x) : at0 l i = x := by unfold at0; rw [List.getD_eq_getElem?_getD, h]; rfl
theorem right_false {n : Nd} {k : Nat} (hk : k < n.l.length) (h : okAt n k = false) : rightN n = false := by
  unfold rightN
  have : (List.range n.l.length).all (okAt n) = false := by
    rw [List.all_eq_false]
    exact ⟨k, List.mem_range.2 hk, by rw [h]; decide⟩
  rw [this]; rfl
theorem right_all {n : Nd} (h : ∀ k, k < n.l.length → okAt n k = true) : rightN n = decide (0 < n.l.length) := by
  unfold rightN
  have : (List.range n.l.length).all (okAt n) = true := by
    rw [List.all_eq_true]
    exact fun k hk => h k (List.mem_range.1 hk)
  rw [this]; rfl
theorem right_of {n : Nd} (h : rightN n = true) : 0 < n.l.length ∧ ∀ k, k < n.l.length → okAt n k = true := by
  unfold rightN at h
  simp only [Bool.and_eq_true, decide_eq_true_eq, List.all_eq_true, List.mem_range] at h
  exact ⟨h.2, h.1⟩
/-- the bytes -/
def wideP (x : ByteArray × ByteArray) : Nat := (num (x.1.size : Int)).length + x.1.size + (num (x.2.size : Int)).length + x.2.size
def headL (leaf : Bool) (count : Nat) : List UInt8 := (if leaf then 1 else 2) :: num (count : Int)
def pairL (x : ByteArray × ByteArray) : List UInt8 := text x.1.data.toList ++ text x.2.data.toList
def textTo (n : Nd) (k : Nat) : List UInt8 := headL n.leaf n.l.length ++ (n.l.take k).flatMap pairL
def textN (n : Nd) : List UInt8 := headL n.leaf n.l.length ++ n.l.flatMap pairL
def sizeTo (n : Nd) (k : Nat) : Nat := (headL n.leaf n.l.length).length + ((n.l.take k).map wideP).sum
def sizeN (n : Nd) : Nat := (headL n.leaf n.l.length).length + (n.l.map wideP).sum
theorem pair_len (x : ByteArray × ByteArray) : (pairL x).length = wideP x := by
  have e1 : x.1.data.toList.length = x.1.size := by simp
  have e2 : x.2.data.toList.length = x.2.size := by simp
  unfold pairL wideP text
  rw [List.length_append, List.length_append, List.length_append, e1, e2]
  omega
theorem flat_len (l : List (ByteArray × ByteArray)) : (l.flatMap pairL).length = (l.map wideP).sum := by
  induction l with
  | nil => rfl
  | cons x r ih => rw [List.flatMap_cons, List.length_append, ih, pair_len, List.map_cons, List.sum_cons]
theorem text_len (n : Nd) : (textN n).length = sizeN n := by unfold textN sizeN; rw [List.length_append, flat_len]
theorem textTo_len (n : Nd) (k : Nat) : (textTo n k).length = sizeTo n k := by unfold textTo sizeTo; rw [List.length_append, flat_len]
theorem textTo_zero (n : Nd) : textTo n 0 = headL n.leaf n.l.length := by unfold textTo; simp
theorem sizeTo_zero (n : Nd) : sizeTo n 0 = (headL n.leaf n.l.length).length := by unfold sizeTo; simp
theorem textTo_snoc (n : Nd) {k : Nat} {x : ByteArray × ByteArray} (h : n.l[k]? = some x) : textTo n (k + 1) = textTo n k ++ pairL x := by
  obtain ⟨hk, e⟩ := List.getElem?_eq_some_iff.1 h
  unfold textTo
  rw [List.take_succ_eq_append_getElem hk, List.flatMap_append, e]
  simp
theorem sizeTo_snoc (n : Nd) {k : Nat} {x : ByteArray × ByteArray} (h : n.l[k]? = some x) : sizeTo n (k + 1) = sizeTo n k + wideP x := by
  rw [← textTo_len, textTo_snoc n h, List.length_append, textTo_len, pair_len]
theorem textTo_all (n : Nd) : textTo n n.l.length = textN n := by unfold textTo textN; rw [List.take_length]
theorem sizeTo_all (n : Nd) : sizeTo n n.l.length = sizeN n := by unfold sizeTo sizeN; rw [List.take_length]
theorem sizeTo_le (n : Nd) (k : Nat) : sizeTo n k ≤ sizeN n := by
  unfold sizeTo sizeN
  have : ∀ (l : List Nat) (k : Nat), (l.take k).sum ≤ l.sum := by
    intro l
    induction l with
    | nil => intro k; simp
    | cons a r ih =>
      intro k
      cases k with
      | zero => simp
      | succ k => simp only [List.take_succ_cons, List.sum_cons]; have := ih k; omega
  have := this (n.l.map wideP) k
  rw [← List.map_take] at this
  omega
def checkN (n : Nd) : Int := if rightN n = false then 2 else if 480 < sizeN n then 5 else 0
def putN (n : Nd) : List UInt8 × Int := if checkN n = 0 then (textN n ++ List.replicate (480 - sizeN n) 0, 0) else ([], checkN n)
theorem put_ok {n : Nd} (h : checkN n = 0) : putN n = (textN n ++ List.replicate (480 - sizeN n) 0, 0) ∧ sizeN n ≤ 480 ∧ rightN n = true := by
  refine ⟨if_pos h, ?_⟩
  unfold checkN at h
  split at h
  · cases h
  · split at h
    · cases h
    · exact ⟨by omega, by simpa using ‹¬ rightN n = false›⟩
theorem put_bad {n : Nd} (h : checkN n ≠ 0) : putN n = ([], checkN n) := if_neg h
/-- where a key stands: the last pair that isn't behind it -/
def leqB (a b : ByteArray) : Bool := less a b || a.toList == b.toList
def atK (l : List (ByteArray × ByteArray)) (key : ByteArray) : Nat → Int
  | 0 => -1
  | k + 1 => if leqB (at0 l k).1 key = true then (k : Int) else atK l key k
theorem sorted {n : Nd} (h : rightN n = true) : ∀ j i, i < j → j < n.l.length → less (at0 n.l i).1 (at0 n.l j).1 = true := by
  have hk := (right_of h).2
  intro j
  induction j with
  | zero => intro i hi; omega
  | succ j ih =>
    intro i hi hj
    have h1 := hk (j + 1) hj
    unfold okAt at h1
    simp only [Bool.and_eq_true, Bool.or_eq_true, beq_iff_eq, Nat.add_one_ne_zero, false_or, Nat.add_sub_cancel] at h1
    by_cases e : i = j
    · rw [e]; exact h1.2
    · exact less_trans _ _ _ (ih i (by omega) (by omega)) h1.2
/-- the boundary that a binary search finds -/
def findB (l : List (ByteArray × ByteArray)) (key : ByteArray) (i : Nat) : Int × Bool := if i < l.length ∧ (at0 l i).1 = key then ((i : Int), true) else ((i : Int) - 1, false)
theorem find_same {n : Nd} (hs : rightN n = true) (key : ByteArray) (i : Nat) (hi : i ≤ n.l.length) (h1 : ∀ t, t < i → less (at0 n.l t).1 key = true) (h2 : ∀ t, i ≤ t → t < n.l.length → less (at0 n.l t).1 key = false) :
    (findB n.l key i).1 = atK n.l key n.l.length ∧ (findB n.l key i).2 = (decide (0 ≤ atK n.l key n.l.length) && decide ((at0 n.l (atK n.l key n.l.length).toNat).1 = key)) := by
  have low : ∀ k, k ≤ i → atK n.l key k = (k : Int) - 1 := by
    intro k hk
    cases k with
    | zero => rfl
    | succ k =>
      unfold atK
      rw [if_pos (by unfold leqB; rw [h1 k (by omega)]; rfl)]
      omega
  have hnl : ∀ t, i ≤ t → t < n.l.length → (at0 n.l t).1 ≠ key → leqB (at0 n.l t).1 key = false := by
    intro t a b c
    unfold leqB
    rw [h2 t a b, Bool.false_or]
    exact beq_eq_false_iff_ne.2 (fun e => c (toList_inj e))
  by_cases hc : i < n.l.length ∧ (at0 n.l i).1 = key
  · have hafter : ∀ t, i < t → t < n.l.length → (at0 n.l t).1 ≠ key := by
      intro t a b e
      have := sorted hs t i a b
      rw [hc.2, e] at this
      unfold less at this
      rw [less_irrefl] at this
      cases this
    have hi1 : atK n.l key (i + 1) = (i : Int) := by
      unfold atK
      rw [if_pos (by unfold leqB; rw [hc.2]; simp)]
    have up : ∀ k, i + 1 ≤ k → k ≤ n.l.length → atK n.l key k = (i : Int) := by
      intro k
      induction k with
      | zero => intro h; omega
      | succ k ih =>
        intro a b
        by_cases e : k = i
        · rw [e]; exact hi1
        · unfold atK
          rw [if_neg (by rw [hnl k (by omega) (by omega) (hafter k (by omega) (by omega))]; decide)]
          exact ih (by omega) (by omega)
    have e := up n.l.length (by omega) (Nat.le_refl _)
    unfold findB
    rw [if_pos hc, e]
    refine ⟨rfl, ?_⟩
    show true = _
    rw [Int.toNat_natCast, hc.2]
    simp
  · have up : ∀ k, i ≤ k → k ≤ n.l.length → atK n.l key k = (i : Int) - 1 := by
      intro k
      induction k with
      | zero => intro a _; have : i = 0 := by omega
                subst this; rfl
      | succ k ih =>
        intro a b
        by_cases e : k + 1 = i
        · rw [e]; exact low i (Nat.le_refl _)
        · unfold atK
          have hne : (at0 n.l k).1 ≠ key := by
            by_cases e2 : k = i
            · subst e2; exact fun e3 => hc ⟨by omega, e3⟩
            · intro e3
              have := sorted hs k i (by omega) (by omega)
              rw [e3] at this
              rw [h2 i (Nat.le_refl _) (by omega)] at this
              cases this
          rw [if_neg (by rw [hnl k (by omega) (by omega) hne]; decide)]
          exact ih (by omega) (by omega)
    have e := up n.l.length hi (Nat.le_refl _)
    unfold findB
    rw [if_neg hc, e]
    refine ⟨rfl, ?_⟩
    show false = _
    by_cases h0 : i = 0
    · subst h0; rfl
    · have hlt := h1 (i - 1) (by omega)
      have hne : (at0 n.l (i - 1)).1 ≠ key := by
        intro e3
        rw [e3] at hlt
        unfold less at hlt
        rw [less_irrefl] at hlt
        cases hlt
      have e4 : ((i : Int) - 1).toNat = i - 1 := by omega
      rw [e4, decide_eq_false hne, Bool.and_false]
end Go.Proofs.Ytobdfocfkomagaa.node
