/- The numbers of the walks of package octet, in the walks' own forms. -/
import Derived.Test.YtobdfocfkomagaaOctPlain
namespace Go.Proofs.Ytobdfocfkomagaa.oct
open Go Go.RowKit

theorem u64_wrap (n : Int) : IntKind.u64.wrap n = n % 18446744073709551616 := by simp [IntKind.wrap, IntKind.bits, IntKind.signed]
theorem xor64_zero (x : Int) (h0 : 0 ≤ x) (h1 : x < 18446744073709551616) : bits .xor .u64 x 0 = x := by
  obtain ⟨m, rfl⟩ := Int.eq_ofNat_of_zero_le h0
  have := u64_xor_nat m 0 (by omega) (by omega)
  rw [Nat.xor_zero] at this
  exact this
theorem ofInt_ones : BitVec.ofInt 64 18446744073709551615 = BitVec.allOnes 64 := by decide
theorem ofInt_neg : BitVec.ofInt 64 (-1) = BitVec.allOnes 64 := by decide
theorem not_nat (m : Nat) (h : m < 18446744073709551616) : (BitVec.ofInt 64 (m : Int) ^^^ BitVec.allOnes 64).toNat = 18446744073709551615 - m := by
  rw [BitVec.xor_allOnes, BitVec.toNat_not, BitVec.ofInt_natCast, BitVec.toNat_ofNat]
  omega
theorem xor64_ones (x : Int) (h0 : 0 ≤ x) (h1 : x < 18446744073709551616) : bits .xor .u64 x 18446744073709551615 = 18446744073709551615 - x := by
  obtain ⟨m, rfl⟩ := Int.eq_ofNat_of_zero_le h0
  show IntKind.u64.wrap ((BitVec.ofInt 64 (m : Int) ^^^ BitVec.ofInt 64 18446744073709551615).toNat : Int) = _
  rw [ofInt_ones, not_nat m (by omega), u64_wrap]
  omega
theorem code_form (n : Int) (h0 : -9223372036854775808 ≤ n) (h1 : n ≤ 9223372036854775807) :
    bits .xor .u64 (IntKind.u64.wrap (IntKind.u64.wrap n * 2)) (IntKind.u64.wrap (n / 9223372036854775808)) = (code n : Int) := by
  rw [u64_wrap, u64_wrap, u64_wrap]
  unfold code
  by_cases h : n < 0
  · rw [if_pos h]
    have e1 : n % 18446744073709551616 * 2 % 18446744073709551616 = 2 * n + 18446744073709551616 := by omega
    have e2 : n / 9223372036854775808 % 18446744073709551616 = 18446744073709551615 := by omega
    rw [e1, e2, xor64_ones _ (by omega) (by omega)]
    omega
  · rw [if_neg h]
    have e1 : n % 18446744073709551616 * 2 % 18446744073709551616 = 2 * n := by omega
    have e2 : n / 9223372036854775808 % 18446744073709551616 = 0 := by omega
    rw [e1, e2, xor64_zero _ (by omega) (by omega)]
    omega
theorem and64_one (c : Nat) (h : c < 18446744073709551616) : bits .and .u64 (c : Int) 1 = ((c % 2 : Nat) : Int) := by
  have := u64_and_nat c 1 h (by omega)
  rw [Nat.and_one_is_mod] at this
  exact this
theorem xori_zero (x : Int) (h0 : 0 ≤ x) (h1 : x < 9223372036854775808) : bits .xor .i64 x 0 = x := by
  obtain ⟨m, rfl⟩ := Int.eq_ofNat_of_zero_le h0
  show IntKind.i64.wrap ((BitVec.ofInt 64 (m : Int) ^^^ 0#64).toNat : Int) = _
  rw [BitVec.xor_zero, BitVec.ofInt_natCast, BitVec.toNat_ofNat, IntKind.wrap_i64]
  omega
theorem xori_neg (x : Int) (h0 : 0 ≤ x) (h1 : x < 9223372036854775808) : bits .xor .i64 x (-1) = -1 - x := by
  obtain ⟨m, rfl⟩ := Int.eq_ofNat_of_zero_le h0
  show IntKind.i64.wrap ((BitVec.ofInt 64 (m : Int) ^^^ BitVec.ofInt 64 (-1)).toNat : Int) = _
  rw [ofInt_neg, not_nat m (by omega), IntKind.wrap_i64]
  omega
theorem number_form (c : Nat) (h : c < 18446744073709551616) : bits .xor .i64 ((c : Int) / (2 : Int)) (wrap64 (-wrap64 (bits .and .u64 (c : Int) 1))) = number c := by
  rw [and64_one c h]
  unfold number wrap64
  by_cases h2 : c % 2 = 1
  · rw [if_pos h2, h2]
    have e1 : ((-(((((1 : Nat) : Int) + 9223372036854775808) % 18446744073709551616 - 9223372036854775808)) + 9223372036854775808) % 18446744073709551616 - 9223372036854775808 : Int) = -1 := by decide
    rw [e1, xori_neg _ (by omega) (by omega)]; omega
  · have h0 : c % 2 = 0 := by omega
    rw [if_neg h2, h0]
    have e1 : ((-(((((0 : Nat) : Int) + 9223372036854775808) % 18446744073709551616 - 9223372036854775808)) + 9223372036854775808) % 18446744073709551616 - 9223372036854775808 : Int) = 0 := by decide
    rw [e1, xori_zero _ (by omega) (by omega)]; omega
theorem number_odd (c : Nat) (h : ((c : Int) % (2 : Int) == 1) = true) : -1 - (c : Int) / (2 : Int) = number c := by
  have h' : (c : Int) % 2 = 1 := by simpa using h
  unfold number
  rw [if_pos (by omega)]
  omega
theorem number_even (c : Nat) (h : ((c : Int) % (2 : Int) == 1) = false) : (c : Int) / (2 : Int) = number c := by
  have h' : ¬ (c : Int) % 2 = 1 := by simpa using h
  unfold number
  rw [if_neg (by omega)]
  omega
theorem code_neg (n : Int) (h : n < 0) : 2 * (-1 - n) + 1 = (code n : Int) := by unfold code; rw [if_pos h]; omega
theorem code_pos (n : Int) (h : ¬ n < 0) : 2 * n = (code n : Int) := by unfold code; rw [if_neg h]; omega
theorem low_form (c : Nat) (h : c < 256) : bits .and .u8 (c : Int) 127 = ((c % 128 : Nat) : Int) := by
  have := u8_and_nat c 127 h (by omega)
  rw [show (127 : Nat) = 2 ^ 7 - 1 from rfl, Nat.and_two_pow_sub_one_eq_mod] at this
  exact this
theorem low64_form (c : Nat) : bits .and .u8 ((c : Int) % 256) 127 = ((c % 128 : Nat) : Int) := by
  have h : ((c : Int) % 256) = ((c % 256 : Nat) : Int) := by omega
  rw [h, low_form _ (Nat.mod_lt _ (by decide))]
  omega
theorem drop_at (s : ByteArray) (k : Nat) (h : k < s.size) : s.data.toList.drop k = s[k] :: s.data.toList.drop (k + 1) := by
  have h' : k < s.data.toList.length := by simpa using h
  rw [List.drop_eq_getElem_cons h']
  rfl
theorem take_at (s : ByteArray) (k : Nat) (h : k < s.size) : s.data.toList.take (k + 1) = s.data.toList.take k ++ [s[k]] := by
  rw [List.take_succ_eq_append_getElem (by simpa using h)]; rfl
theorem nine_ways (k b : Nat) (h : ¬ ((0 < k ∧ b = 0) ∨ (k = 9 ∧ 1 < b))) :
    (k ≤ 0 ∧ ((k : Int) == 9) = false) ∨ (0 < k ∧ ((b : Int) == 0) = false ∧ ((k : Int) == 9) = false) ∨ (0 < k ∧ ((b : Int) == 0) = false ∧ ((k : Int) == 9) = true ∧ b ≤ 1) := by
  by_cases h0 : k = 0
  · left; exact ⟨by omega, by simp; omega⟩
  · right
    by_cases h9 : k = 9
    · right; exact ⟨by omega, by simp; omega, by simp; omega, by omega⟩
    · left; exact ⟨by omega, by simp; omega, by simp; omega⟩
theorem eight_ways (k b : Nat) (h : ¬ ((0 < k ∧ b = 0) ∨ (k = 9 ∧ 1 < b))) (hb : 128 ≤ b) (hk : k ≤ 9) :
    k ≤ 8 ∧ ((k ≤ 0 ∧ ((k : Int) == 9) = false) ∨ (0 < k ∧ ((b : Int) == 0) = false ∧ ((k : Int) == 9) = false)) := by
  have h8 : k ≤ 8 := by omega
  refine ⟨h8, ?_⟩
  by_cases h0 : k = 0
  · left; exact ⟨by omega, by simp; omega⟩
  · right; exact ⟨by omega, by simp; omega, by simp; omega⟩
theorem acc_name (c b k : Nat) (hc : c < 128 ^ k) (hk : k ≤ 9) (hb : k ≤ 8 ∨ b % 128 ≤ 1) : ∃ d : Nat, d = c + (b % 128) * 128 ^ k ∧ d < 18446744073709551616 ∧ (k ≤ 8 → d < 128 ^ (k + 1)) ∧
    bits .or .u64 (c : Int) (IntKind.u64.wrap ((b : Int) % (128 : Int) * (2 : Int) ^ (7 * k))) = (d : Int) := by
  have hm : b % 128 < 128 := Nat.mod_lt _ (by decide)
  have hp : (128 : Nat) ^ k = 2 ^ (7 * k) := by rw [Nat.pow_mul]
  have h1 : (b % 128) * 128 ^ k ≤ 127 * 128 ^ k := Nat.mul_le_mul_right _ (by omega)
  have h64 : c + (b % 128) * 128 ^ k < 18446744073709551616 := by
    rcases hb with h8 | hb
    · have : (128 : Nat) ^ (k + 1) ≤ 128 ^ 9 := Nat.pow_le_pow_right (by decide) (by omega)
      rw [pow128] at this
      omega
    · have h2 : (b % 128) * 128 ^ k ≤ 1 * 128 ^ k := Nat.mul_le_mul_right _ hb
      have : (128 : Nat) ^ k ≤ 128 ^ 9 := Nat.pow_le_pow_right (by decide) hk
      omega
  refine ⟨_, rfl, h64, fun _ => by rw [pow128]; omega, ?_⟩
  have e : ((b : Int) % (128 : Int) * (2 : Int) ^ (7 * k)) = (((b % 128) * 128 ^ k : Nat) : Int) := by
    rw [hp]
    simp
  rw [e, u64_wrap, Int.emod_eq_of_lt (by omega) (by omega), u64_or_nat _ _ (by omega) (by omega)]
  congr 1
  rw [Nat.or_comm, hp, Nat.mul_comm, ← Nat.two_pow_add_eq_or_of_lt (by rw [← hp]; exact hc), Nat.add_comm]
theorem racc_name (c b k p : Nat) (hp : p = 128 ^ k) (hc : c < 128 ^ k) (hk : k ≤ 9) (hb : k ≤ 8 ∨ b % 128 ≤ 1) : ∃ q d p' : Nat, d = c + (b % 128) * 128 ^ k ∧ d < 18446744073709551616 ∧ (k ≤ 8 → d < 128 ^ (k + 1)) ∧ (k ≤ 8 → p' = 128 ^ (k + 1)) ∧
    IntKind.u64.wrap ((b : Int) % (128 : Int) * (p : Int)) = (q : Int) ∧ IntKind.u64.wrap ((c : Int) + (q : Int)) = (d : Int) ∧ IntKind.u64.wrap ((p : Int) * (128 : Int)) = (p' : Int) := by
  obtain ⟨d, hd, h64, hl, _⟩ := acc_name c b k hc hk hb
  have h1 : (b % 128) * 128 ^ k ≤ d := by omega
  refine ⟨(b % 128) * 128 ^ k, d, (128 ^ (k + 1)) % 18446744073709551616, hd, h64, hl, ?_, ?_, ?_, ?_⟩
  · intro h8
    have : (128 : Nat) ^ (k + 1) ≤ 128 ^ 9 := Nat.pow_le_pow_right (by decide) (by omega)
    rw [Nat.mod_eq_of_lt (by omega)]
  · have e : ((b : Int) % (128 : Int) * (p : Int)) = (((b % 128) * 128 ^ k : Nat) : Int) := by rw [hp]; simp
    rw [e, u64_wrap, Int.emod_eq_of_lt (by omega) (by omega)]
  · rw [u64_wrap, Int.emod_eq_of_lt (by omega) (by omega)]; omega
  · have e : ((p : Int) * (128 : Int)) = ((128 ^ (k + 1) : Nat) : Int) := by rw [hp, pow128, Nat.mul_comm]; simp
    rw [e, u64_wrap]
    rfl
theorem vint {k : IntKind} {a b : Int} (h : a = b) : Value.int k a = .int k b := by rw [h]
theorem or_form (m : Nat) (h : m < 128) : bits .or .u8 (m : Int) 128 = (((UInt8.ofNat (128 + m)).toNat : Nat) : Int) := by
  have e := u8_or_nat m 128 (by omega) (by omega)
  have e2 : m ||| 128 = 128 + m := by
    rw [Nat.or_comm]
    exact (Nat.two_pow_add_eq_or_of_lt (i := 7) h 1).symm
  rw [e2] at e
  rw [u8_of (by omega)]
  exact e
theorem or_name (c : Nat) : ∃ v : UInt8, v = UInt8.ofNat (128 + c % 128) ∧ bits .or .u8 ((c : Int) % (128 : Int)) 128 = (v.toNat : Int) := ⟨_, rfl, or_form (c % 128) (Nat.mod_lt _ (by decide))⟩
theorem plus_name (c : Nat) : ∃ v : UInt8, v = UInt8.ofNat (128 + c % 128) ∧ (128 : Int) + (c : Int) % (128 : Int) = (v.toNat : Int) := ⟨_, rfl, by rw [u8_of (by have := Nat.mod_lt c (show 0 < 128 by decide); omega)]; omega⟩
theorem small_name (c : Nat) (h : c < 128) : ∃ v : UInt8, v = UInt8.ofNat c ∧ (c : Int) = (v.toNat : Int) := ⟨_, rfl, by rw [u8_of (by omega)]⟩
theorem wrap_div (c : Nat) (h : c < 18446744073709551616) : IntKind.u64.wrap ((c : Int) / (128 : Int)) = (c : Int) / (128 : Int) := by rw [u64_wrap]; omega
theorem low_name (c : Nat) (h : c < 128) : ∃ v : UInt8, v = UInt8.ofNat c ∧ (c : Int) % (128 : Int) = (v.toNat : Int) := ⟨_, rfl, by rw [u8_of (by omega)]; omega⟩
/-- what stands in the variables of 'Num' behind k rounds: the code's rest c, the bytes p -/
structure NumInv (c0 k c : Nat) (p : List UInt8) : Prop where
  eq : numF 10 c0 = p ++ numF (10 - k) c
  len : p.length = k
  le : c * 128 ^ k ≤ c0
  sm : c0 < 18446744073709551616
  k9 : k ≤ 9
theorem NumInv.start {c0 : Nat} (h : c0 < 18446744073709551616) : NumInv c0 0 c0 [] := ⟨rfl, rfl, by simp, h, by omega⟩
theorem NumInv.lt {c0 k c : Nat} {p : List UInt8} (h : NumInv c0 k c p) : c < 18446744073709551616 := by
  have h1 := h.le
  have h2 := h.sm
  have h3 : c * 1 ≤ c * 128 ^ k := Nat.mul_le_mul_left _ (Nat.pow_pos (by decide))
  omega
theorem NumInv.more {c0 k c : Nat} {p : List UInt8} (h : NumInv c0 k c p) (hc : 128 ≤ c) : NumInv c0 (k + 1) (c / 128) (p ++ [UInt8.ofNat (128 + c % 128)]) := by
  have h1 := h.le
  have h2 := h.sm
  have h9 : k ≤ 8 := by
    have := h.k9
    rcases Nat.lt_or_ge k 9 with h9 | h9
    · omega
    · obtain rfl : k = 9 := by omega
      have : 128 * 128 ^ 9 ≤ c * 128 ^ 9 := Nat.mul_le_mul_right _ hc
      omega
  refine ⟨?_, by simp [h.len], ?_, h2, by omega⟩
  · rw [h.eq, show 10 - k = (10 - (k + 1)) + 1 from by omega, numF, if_neg (by omega)]
    simp
  · rw [pow128, ← Nat.mul_assoc]
    have : c / 128 * 128 ≤ c := Nat.div_mul_le_self _ _
    exact Nat.le_trans (Nat.mul_le_mul_right _ this) h1
theorem NumInv.done {c0 k c : Nat} {p : List UInt8} (h : NumInv c0 k c p) (hc : c < 128) : p ++ [UInt8.ofNat c] = numF 10 c0 := by
  have := h.k9
  rw [h.eq, show 10 - k = (9 - k) + 1 from by omega, numF, if_pos hc]
end Go.Proofs.Ytobdfocfkomagaa.oct
