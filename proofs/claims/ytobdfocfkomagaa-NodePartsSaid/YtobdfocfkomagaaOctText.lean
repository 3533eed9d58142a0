/- Texts and lists of texts: plain facts, and the walks of octet.size, TakeText, TakeTexts, Texts and of the reference's. -/
import Derived.Test.YtobdfocfkomagaaOctTxt
import Derived.Test.YtobdfocfkomagaaOctTake
namespace Go.Proofs.Ytobdfocfkomagaa.oct
open Go.ChangeShapes Go.WideShapes Go.ChangeAt Go.RowKit
open Ytobdfocfkomagaa.base (still drewnN rest_eq Shut size_mk ret_int ret_str ret_bool ba_ext run_string own_string run_string_new chain newer drewn same bytesOf bytesOf_one)

/-- the text that bytes begin with -/
def takeText (l : List UInt8) (most : Int) : List UInt8 × List UInt8 × Int :=
  match take l with
  | (n, r, e) => if e ≠ 0 then ([], [], e) else if n < 0 then ([], [], 4) else if most < n then ([], [], 5) else if (r.length : Int) < n then ([], [], 3) else (r.take n.toNat, r.drop n.toNat, 0)
/-- a length, or how many there are -/
def sizeOfs (l : List UInt8) (most : Int) : Int × List UInt8 × Int :=
  match take l with
  | (n, r, e) => if e ≠ 0 then (0, [], e) else if n < 0 then (0, [], 4) else if most < n then (0, [], 5) else (n, r, 0)
/-- n texts more behind those that were taken -/
def loopT (most : Int) : Nat → List ByteArray → List UInt8 → List ByteArray × List UInt8 × Int
  | 0, acc, r => (acc, r, 0)
  | n + 1, acc, r => match takeText r most with
    | (t, r', e) => if e ≠ 0 then ([], [], e) else loopT most n (acc ++ [⟨t.toArray⟩]) r'
def takeTexts (l : List UInt8) (count most : Int) : List ByteArray × List UInt8 × Int :=
  match sizeOfs l count with
  | (n, r, e) => if e ≠ 0 then ([], [], e) else loopT most n.toNat [] r

theorem take_len {l r : List UInt8} {n : Int} (h : take l = (n, r, 0)) : r.length + 1 ≤ l.length := by
  have h1 := (num_take h).1
  have h2 := num_pos n
  rw [h1, List.length_append]
  omega
theorem takeText_len {l t r : List UInt8} {most : Int} (h : takeText l most = (t, r, 0)) : r.length + t.length + 1 ≤ l.length := by
  unfold takeText at h
  generalize ht : take l = q at h
  obtain ⟨n, x, e⟩ := q
  simp only at h
  split at h
  · simp at h; omega
  · split at h
    · simp at h
    · split at h
      · simp at h
      · split at h
        · simp at h
        · simp only [Prod.mk.injEq, and_true] at h
          obtain ⟨rfl, rfl⟩ := h
          have he : e = 0 := by omega
          subst he
          have := take_len ht
          simp only [List.length_drop, List.length_take]
          omega
theorem takeText_text (l behind : List UInt8) (most : Int) (hl : l.length ≤ 9223372036854775807) (h : (l.length : Int) ≤ most) : takeText (text l ++ behind) most = (l, behind, 0) := by
  unfold takeText text
  rw [List.append_assoc, take_num _ (by omega)]
  simp only [ne_eq, not_true_eq_false, if_false]
  rw [if_neg (by omega), if_neg (by omega), if_neg (by rw [List.length_append]; omega)]
  simp
/-- a list's bytes -/
def textsOf (ss : List ByteArray) : List UInt8 := (ss.map fun s => text s.data.toList).flatten
def texts (ss : List ByteArray) : List UInt8 := num (ss.length : Int) ++ textsOf ss
theorem textsOf_snoc (ss : List ByteArray) (s : ByteArray) : textsOf (ss ++ [s]) = textsOf ss ++ text s.data.toList := by unfold textsOf; simp
theorem loopT_texts (most : Int) (behind : List UInt8) : ∀ (ss acc : List ByteArray), (∀ s ∈ ss, s.size ≤ 9223372036854775807 ∧ (s.size : Int) ≤ most) → loopT most ss.length acc (textsOf ss ++ behind) = (acc ++ ss, behind, 0) := by
  intro ss
  induction ss with
  | nil => intro acc _; simp [loopT, textsOf]
  | cons s ss ih =>
    intro acc h
    have hs := h s (by simp)
    rw [List.length_cons, loopT]
    have e : textsOf (s :: ss) ++ behind = text s.data.toList ++ (textsOf ss ++ behind) := by unfold textsOf; simp
    have e2 : s.data.toList.length = s.size := by simp
    rw [e, takeText_text _ _ _ (by omega) (by omega)]
    simp only [ne_eq, not_true_eq_false, if_false]
    rw [ih _ (fun t ht => h t (by simp [ht]))]
    simp
theorem takeTexts_texts (ss : List ByteArray) (behind : List UInt8) (count most : Int) (hn : ss.length ≤ 9223372036854775807) (hc : (ss.length : Int) ≤ count) (h : ∀ s ∈ ss, s.size ≤ 9223372036854775807 ∧ (s.size : Int) ≤ most) :
    takeTexts (texts ss ++ behind) count most = (ss, behind, 0) := by
  unfold takeTexts sizeOfs texts
  rw [List.append_assoc, take_num _ (by omega)]
  have h1 : ¬ ((ss.length : Int) < 0) := by omega
  have h2 : ¬ (count < (ss.length : Int)) := by omega
  simp only [ne_eq, not_true_eq_false, if_false, if_neg h1, if_neg h2]
  rw [Int.toNat_natCast, loopT_texts most behind ss [] h]
  rfl
end Go.Proofs.Ytobdfocfkomagaa.oct
