/- Plain facts about the bytes of numbers: a number's code, its bytes, the number that bytes begin with. No program here. -/
import Derived.WalkKit
namespace Go.Proofs.Ytobdfocfkomagaa.oct
open Go

/-- the code of a number -/
def code (n : Int) : Nat := if n < 0 then 2 * (-1 - n).toNat + 1 else 2 * n.toNat
/-- the number of a code -/
def number (c : Nat) : Int := if c % 2 = 1 then -1 - ((c / 2 : Nat) : Int) else ((c / 2 : Nat) : Int)
/-- a code's bytes, at most k of them -/
def numF : Nat → Nat → List UInt8
  | 0, _ => []
  | k + 1, c => if c < 128 then [UInt8.ofNat c] else UInt8.ofNat (128 + c % 128) :: numF k (c / 128)
/-- a number's bytes -/
def num (n : Int) : List UInt8 := numF 10 (code n)
/-- the number that bytes begin with: the number, what is left, the error (3: short, 4: no form); i bytes of code c were read -/
def takeN : List UInt8 → Nat → Nat → Int × List UInt8 × Int
  | [], _, _ => (0, [], 3)
  | b :: r, i, c =>
    if (0 < i ∧ b.toNat = 0) ∨ (i = 9 ∧ 1 < b.toNat) then (0, [], 4)
    else if b.toNat < 128 then (number (c + b.toNat * 128 ^ i), r, 0)
    else takeN r (i + 1) (c + (b.toNat % 128) * 128 ^ i)
def take (l : List UInt8) : Int × List UInt8 × Int := takeN l 0 0

theorem code_lt {n : Int} (h : -9223372036854775808 ≤ n ∧ n ≤ 9223372036854775807) : code n < 18446744073709551616 := by
  unfold code; split <;> omega
theorem number_code (n : Int) : number (code n) = n := by
  unfold number code; split <;> split <;> omega
theorem code_number (c : Nat) : code (number c) = c := by
  unfold number code; split <;> split <;> omega
theorem number_bd {c : Nat} (h : c < 18446744073709551616) : -9223372036854775808 ≤ number c ∧ number c ≤ 9223372036854775807 := by
  unfold number; split <;> omega
theorem numF_len (k c : Nat) : (numF k c).length ≤ k := by
  induction k generalizing c with
  | zero => simp [numF]
  | succ k ih =>
    unfold numF
    split
    · simp
    · have := ih (c / 128)
      simp; omega
theorem num_len (n : Int) : (num n).length ≤ 10 := numF_len _ _
theorem numF_pos (k c : Nat) : 0 < (numF (k + 1) c).length := by
  unfold numF; split <;> simp
theorem num_pos (n : Int) : 0 < (num n).length := numF_pos _ _
theorem u8_of {n : Nat} (h : n < 256) : (UInt8.ofNat n).toNat = n := by
  rw [UInt8.toNat_ofNat']; exact Nat.mod_eq_of_lt h
theorem pow128 (i : Nat) : 128 ^ (i + 1) = 128 * 128 ^ i := by rw [Nat.pow_succ, Nat.mul_comm]
/-- what was written is read, with whatever stands behind -/
theorem takeN_numF (r : List UInt8) : ∀ (k i c a : Nat), i + k = 10 → (0 < i → 0 < c) → c * 128 ^ i < 18446744073709551616 → takeN (numF k c ++ r) i a = (number (a + c * 128 ^ i), r, 0) := by
  intro k
  induction k with
  | zero =>
    intro i c a hi hc hb
    obtain rfl : i = 10 := by omega
    have := hc (by omega)
    omega
  | succ k ih =>
    intro i c a hi hc hb
    unfold numF
    by_cases h : c < 128
    · rw [if_pos h]
      show takeN (UInt8.ofNat c :: r) i a = _
      unfold takeN
      rw [u8_of (by omega), if_neg, if_pos h]
      rintro (⟨h1, h2⟩ | ⟨rfl, h2⟩)
      · have := hc h1; omega
      · omega
    · rw [if_neg h]
      show takeN (UInt8.ofNat (128 + c % 128) :: (numF k (c / 128) ++ r)) i a = _
      unfold takeN
      have hm : c % 128 < 128 := Nat.mod_lt _ (by decide)
      rw [u8_of (by omega), if_neg, if_neg (by omega)]
      · have e1 : (128 + c % 128) % 128 = c % 128 := by omega
        have e2 : c = 128 * (c / 128) + c % 128 := by omega
        have e3 : c / 128 * 128 ^ (i + 1) + (c % 128) * 128 ^ i = c * 128 ^ i := by
          rw [pow128, ← Nat.mul_assoc, ← Nat.add_mul]
          congr 1; omega
        rw [e1, ih (i + 1) (c / 128) _ (by omega) (fun _ => by omega) (by omega)]
        congr 2
        omega
      · rintro (⟨_, h2⟩ | ⟨rfl, _⟩)
        · omega
        · have : 128 ≤ c := by omega
          have h3 : 128 * 128 ^ 9 ≤ c * 128 ^ 9 := Nat.mul_le_mul_right _ this
          omega
/-- what is read has just the bytes that were read -/
theorem numF_takeN : ∀ (l : List UInt8) (i a : Nat) (n : Int) (r : List UInt8), i ≤ 9 → a < 128 ^ i → takeN l i a = (n, r, 0) →
    ∃ c, l = numF (10 - i) c ++ r ∧ n = number (a + c * 128 ^ i) ∧ a + c * 128 ^ i < 18446744073709551616 ∧ (0 < i → 0 < c) := by
  intro l
  induction l with
  | nil => intro i a n r _ _ h; simp [takeN] at h
  | cons b l ih =>
    intro i a n r hi ha h
    unfold takeN at h
    by_cases h1 : (0 < i ∧ b.toNat = 0) ∨ (i = 9 ∧ 1 < b.toNat)
    · rw [if_pos h1] at h; simp at h
    · rw [if_neg h1] at h
      have hb := b.toNat_lt
      have e10 : 10 - i = (9 - i) + 1 := by omega
      have hsmall : i ≤ 8 → 128 ^ (i + 1) ≤ 128 ^ 9 := fun h8 => Nat.pow_le_pow_right (by decide) (by omega)
      by_cases h2 : b.toNat < 128
      · rw [if_pos h2] at h
        simp only [Prod.mk.injEq, and_true] at h
        refine ⟨b.toNat, ?_, h.1.symm, ?_, fun h0 => ?_⟩
        · rw [← h.2, e10, numF, if_pos h2]
          simp
        · by_cases h9 : i = 9
          · subst h9
            have : b.toNat ≤ 1 := by omega
            have h3 : b.toNat * 128 ^ 9 ≤ 1 * 128 ^ 9 := Nat.mul_le_mul_right _ this
            omega
          · have h3 : b.toNat * 128 ^ i ≤ 127 * 128 ^ i := Nat.mul_le_mul_right _ (by omega)
            have h4 := hsmall (by omega)
            rw [pow128] at h4
            omega
        · omega
      · rw [if_neg h2] at h
        have h9 : i ≤ 8 := by omega
        have hm : b.toNat % 128 < 128 := Nat.mod_lt _ (by decide)
        have h3 : (b.toNat % 128) * 128 ^ i ≤ 127 * 128 ^ i := Nat.mul_le_mul_right _ (by omega)
        obtain ⟨c, hl, hn, hlt, hc⟩ := ih (i + 1) _ n r (by omega) (by rw [pow128]; omega) h
        have hcp := hc (by omega)
        refine ⟨c * 128 + b.toNat % 128, ?_, ?_, ?_, fun _ => by omega⟩
        · have e : 9 - i = 10 - (i + 1) := by omega
          have e1 : (c * 128 + b.toNat % 128) / 128 = c := by omega
          have e2 : (c * 128 + b.toNat % 128) % 128 = b.toNat % 128 := by omega
          rw [e10, numF, if_neg (by omega), e1, e2, hl, e]
          have e3 : UInt8.ofNat (128 + b.toNat % 128) = b := by
            apply UInt8.toNat.inj
            rw [u8_of (by omega)]; omega
          rw [e3]
          rfl
        · rw [hn]
          congr 1
          rw [pow128, Nat.add_mul, Nat.mul_assoc]
          omega
        · rw [pow128] at hlt
          rw [Nat.add_mul, Nat.mul_assoc]
          omega
theorem take_num (n : Int) (h : -9223372036854775808 ≤ n ∧ n ≤ 9223372036854775807) (r : List UInt8) : take (num n ++ r) = (n, r, 0) := by
  unfold take num
  rw [takeN_numF r 10 0 (code n) 0 rfl (fun h => by omega) (by have := code_lt h; omega)]
  simp [number_code]
theorem num_take {l r : List UInt8} {n : Int} (h : take l = (n, r, 0)) : l = num n ++ r ∧ -9223372036854775808 ≤ n ∧ n ≤ 9223372036854775807 := by
  obtain ⟨c, hl, hn, hlt, _⟩ := numF_takeN l 0 0 n r (by omega) (by decide) h
  simp only [Nat.pow_zero, Nat.mul_one, Nat.zero_add] at hn hlt
  refine ⟨?_, ?_⟩
  · rw [hl, hn]; unfold num; rw [code_number]
  · rw [hn]; exact number_bd hlt
/-- the errors of 'take' -/
theorem takeN_err : ∀ (l : List UInt8) (i c : Nat), (takeN l i c).2.2 ≠ 0 → takeN l i c = (0, [], 3) ∨ takeN l i c = (0, [], 4) := by
  intro l
  induction l with
  | nil => intro i c _; left; rfl
  | cons b l ih =>
    intro i c h
    unfold takeN at h ⊢
    split
    · right; rfl
    · rename_i h1
      rw [if_neg h1] at h
      split
      · rename_i h2; rw [if_pos h2] at h; exact absurd rfl h
      · rename_i h2; rw [if_neg h2] at h; exact ih _ _ h
theorem take_err {l : List UInt8} (h : (take l).2.2 ≠ 0) : take l = (0, [], 3) ∨ take l = (0, [], 4) := takeN_err _ _ _ h
end Go.Proofs.Ytobdfocfkomagaa.oct
