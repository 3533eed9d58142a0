/- Plain facts about the CRC-32C: a step by a bit, by a half byte out of a table, by a byte; it is linear; one turned bit turns it. No program here. -/
import Derived.WalkKit
namespace Go.Proofs.Ythkjodlddhdeiaa.crc
open Go

def poly : BitVec 32 := 0x82F63B78#32
/-- one bit -/
def st (c : BitVec 32) : BitVec 32 := (c >>> 1) ^^^ (poly &&& -(c &&& 1#32))
def st4 (c : BitVec 32) : BitVec 32 := st (st (st (st c)))
/-- the first j of four steps -/
def sts : Nat → BitVec 32 → BitVec 32
  | 0, c => c
  | n + 1, c => st (sts n c)
def tab (k : Nat) : BitVec 32 := sts 4 (BitVec.ofNat 32 k)
def byteOn (c : BitVec 32) (b : UInt8) : BitVec 32 := sts 8 (c ^^^ BitVec.ofNat 32 b.toNat)
def on (c : BitVec 32) (l : List UInt8) : BitVec 32 := l.foldl byteOn c

theorem neg_one (c : BitVec 32) : -(c &&& 1#32) = if c.getLsbD 0 then BitVec.allOnes 32 else 0#32 := by
  have h : c &&& 1#32 = if c.getLsbD 0 then 1#32 else 0#32 := by
    apply BitVec.eq_of_getLsbD_eq
    intro i hi
    by_cases h0 : i = 0
    · subst h0; rw [BitVec.getLsbD_and]; cases h : c.getLsbD 0 <;> simp
    · cases h : c.getLsbD 0 <;> simp [BitVec.getLsbD_and, BitVec.getLsbD_one, h0]
  rw [h]
  cases c.getLsbD 0 <;> decide
theorem st_eq (c : BitVec 32) : st c = if c.getLsbD 0 then (c >>> 1) ^^^ poly else c >>> 1 := by
  unfold st
  rw [neg_one]
  cases c.getLsbD 0
  · simp
  · simp only [if_true, BitVec.and_allOnes]
theorem st_xor (a b : BitVec 32) : st (a ^^^ b) = st a ^^^ st b := by
  simp only [st_eq, BitVec.getLsbD_xor]
  have hs : (a ^^^ b) >>> 1 = (a >>> 1) ^^^ (b >>> 1) := by
    apply BitVec.eq_of_getLsbD_eq; intro i hi; simp [BitVec.getLsbD_xor, BitVec.getLsbD_ushiftRight]
  rw [hs]
  generalize a >>> 1 = x
  generalize b >>> 1 = y
  have e1 : x ^^^ y ^^^ poly = x ^^^ (y ^^^ poly) := BitVec.xor_assoc ..
  have e2 : x ^^^ y ^^^ poly = (x ^^^ poly) ^^^ y := by rw [BitVec.xor_assoc, BitVec.xor_comm y, ← BitVec.xor_assoc]
  have e3 : x ^^^ y = (x ^^^ poly) ^^^ (y ^^^ poly) := by
    rw [BitVec.xor_comm y poly, ← BitVec.xor_assoc, BitVec.xor_assoc x, BitVec.xor_self, BitVec.xor_zero]
  cases a.getLsbD 0 <;> cases b.getLsbD 0
  · rfl
  · exact e1
  · exact e2
  · exact e3
theorem sts_xor (n : Nat) (a b : BitVec 32) : sts n (a ^^^ b) = sts n a ^^^ sts n b := by
  induction n with
  | zero => rfl
  | succ n ih => simp only [sts, ih, st_xor]
theorem sts_add (n m : Nat) (c : BitVec 32) : sts (n + m) c = sts n (sts m c) := by
  induction n with
  | zero => simp [sts]
  | succ n ih => rw [Nat.succ_add]; simp only [sts, ih]
theorem st_high (c : BitVec 32) (h : c.getLsbD 0 = false) : st c = c >>> 1 := by rw [st_eq, h]; simp
theorem sts4_high (c : BitVec 32) : sts 4 ((c >>> 4) <<< 4) = c >>> 4 := by
  have e : ∀ (j i : Nat), i + j < 4 → (((c >>> 4) <<< 4) >>> j).getLsbD i = false := by
    intro j i h
    simp [BitVec.getLsbD_ushiftRight, BitVec.getLsbD_shiftLeft]
    omega
  have s0 : st ((c >>> 4) <<< 4) = ((c >>> 4) <<< 4) >>> 1 := st_high _ (by simp)
  have s1 : st (((c >>> 4) <<< 4) >>> 1) = ((c >>> 4) <<< 4) >>> 2 := by rw [st_high _ (e 1 0 (by omega)), ← BitVec.shiftRight_add]
  have s2 : st (((c >>> 4) <<< 4) >>> 2) = ((c >>> 4) <<< 4) >>> 3 := by rw [st_high _ (e 2 0 (by omega)), ← BitVec.shiftRight_add]
  have s3 : st (((c >>> 4) <<< 4) >>> 3) = ((c >>> 4) <<< 4) >>> 4 := by rw [st_high _ (e 3 0 (by omega)), ← BitVec.shiftRight_add]
  simp only [sts, s0, s1, s2, s3]
  apply BitVec.eq_of_getLsbD_eq
  intro i hi
  simp [BitVec.getLsbD_ushiftRight, BitVec.getLsbD_shiftLeft]
  intro h
  exact BitVec.lt_of_getLsbD h |> fun h => by omega
theorem halves_eq (c : BitVec 32) : c = ((c >>> 4) <<< 4) ^^^ (c &&& 15#32) := by
  apply BitVec.eq_of_getLsbD_eq
  intro i hi
  have h15 : (15#32).getLsbD i = decide (i < 4) := by
    have : ∀ j : Fin 32, (15#32).getLsbD j.val = decide (j.val < 4) := by decide
    exact this ⟨i, hi⟩
  rw [BitVec.getLsbD_xor, BitVec.getLsbD_and, h15, BitVec.getLsbD_shiftLeft, BitVec.getLsbD_ushiftRight]
  by_cases h : i < 4
  · simp [h]
  · rw [show 4 + (i - 4) = i from by omega]; simp [h, hi]
/-- four steps at once, by the table -/
theorem sts4_tab (c : BitVec 32) : (c >>> 4) ^^^ tab (c &&& 15#32).toNat = sts 4 c := by
  have h : tab (c &&& 15#32).toNat = sts 4 (c &&& 15#32) := by unfold tab; rw [BitVec.ofNat_toNat, BitVec.setWidth_eq]
  rw [h]
  conv => rhs; rw [halves_eq c, sts_xor, sts4_high]

/- the numbers of the walks -/
theorem xor_nat (x y : BitVec 32) : bits .xor .u32 (x.toNat : Int) (y.toNat : Int) = ((x ^^^ y).toNat : Int) := by
  rw [u32_xor_nat _ _ x.isLt y.isLt, BitVec.toNat_xor]
theorem and_nat (x y : BitVec 32) : bits .and .u32 (x.toNat : Int) (y.toNat : Int) = ((x &&& y).toNat : Int) := by
  rw [u32_and_nat _ _ x.isLt y.isLt, BitVec.toNat_and]
theorem shr_nat (x : BitVec 32) (k : Nat) : ((x >>> k).toNat : Int) = (x.toNat : Int) / ((2 ^ k : Nat) : Int) := by
  rw [BitVec.toNat_ushiftRight, Nat.shiftRight_eq_div_pow]; rfl
theorem neg_nat (x : BitVec 32) : (-(x.toNat : Int)) % 4294967296 = ((-x).toNat : Int) := by
  rw [BitVec.toNat_neg]
  have := x.isLt
  by_cases h : x.toNat = 0
  · rw [h]; rfl
  · omega
theorem shr1 (x : BitVec 32) : (x.toNat : Int) / (2 : Int) = ((x >>> 1).toNat : Int) := (shr_nat x 1).symm
theorem shr4 (x : BitVec 32) : (x.toNat : Int) / (16 : Int) = ((x >>> 4).toNat : Int) := (shr_nat x 4).symm
theorem walk_st (c : BitVec 32) : bits .xor .u32 ((c.toNat : Int) / 2) (bits .and .u32 2197175160 (-bits .and .u32 (c.toNat : Int) 1 % 4294967296)) = ((st c).toNat : Int) := by
  have h1 : bits .and .u32 (c.toNat : Int) 1 = ((c &&& 1#32).toNat : Int) := and_nat c 1#32
  rw [h1, neg_nat, shr1, show (2197175160 : Int) = ((poly).toNat : Int) from rfl, and_nat, xor_nat]
  rfl
theorem byte_nat (b : UInt8) : ((b.toNat : Int) % 4294967296) = ((BitVec.ofNat 32 b.toNat).toNat : Int) := by
  have := b.toNat_lt
  rw [BitVec.toNat_ofNat]; omega
/-- all that one round of 'on' computes, named in the walk's own forms -/
theorem round_names (d : BitVec 32) (v : UInt8) : ∃ (x y z t1 t2 : BitVec 32) (i j : Nat), i < 16 ∧ j < 16 ∧ t1 = tab i ∧ t2 = tab j ∧ z = byteOn d v ∧
    bits .xor .u32 (d.toNat : Int) ((v.toNat : Int) % 4294967296) = (x.toNat : Int) ∧ bits .and .u32 (x.toNat : Int) 15 = (i : Int) ∧
    bits .xor .u32 ((x.toNat : Int) / 16) (t1.toNat : Int) = (y.toNat : Int) ∧ bits .and .u32 (y.toNat : Int) 15 = (j : Int) ∧
    bits .xor .u32 ((y.toNat : Int) / 16) (t2.toNat : Int) = (z.toNat : Int) := by
  have h15 : ∀ x : BitVec 32, (x &&& 15#32).toNat < 16 := fun x => by
    rw [BitVec.toNat_and]; exact Nat.lt_of_le_of_lt Nat.and_le_right (by decide)
  have hand : ∀ x : BitVec 32, bits .and .u32 (x.toNat : Int) 15 = (((x &&& 15#32).toNat : Nat) : Int) := fun x => and_nat x 15#32
  refine ⟨d ^^^ BitVec.ofNat 32 v.toNat, sts 4 (d ^^^ BitVec.ofNat 32 v.toNat), byteOn d v, _, _, _, _, h15 _, h15 _, rfl, rfl, rfl, ?_, hand _, ?_, hand _, ?_⟩
  · rw [byte_nat, xor_nat]
  · rw [shr4, xor_nat, sts4_tab]
  · rw [shr4, xor_nat, sts4_tab, ← sts_add]; rfl
theorem round_name (d : BitVec 32) (v : UInt8) : ∃ x : BitVec 32, x = d ^^^ BitVec.ofNat 32 v.toNat ∧ bits .xor .u32 (d.toNat : Int) ((v.toNat : Int) % 4294967296) = (x.toNat : Int) :=
  ⟨_, rfl, by rw [byte_nat, xor_nat]⟩
theorem on_snoc (c : BitVec 32) (l : List UInt8) (v : UInt8) : on c (l ++ [v]) = byteOn (on c l) v := by
  unfold on; rw [List.foldl_append]; rfl
/-- texts, one behind the other -/
def onL (c : BitVec 32) (ss : List ByteArray) : BitVec 32 := ss.foldl (fun c s => on c s.data.toList) c
theorem onL_snoc (c : BitVec 32) (l : List ByteArray) (s : ByteArray) : onL c (l ++ [s]) = on (onL c l) s.data.toList := by
  unfold onL; rw [List.foldl_append]; rfl
def ones : BitVec 32 := 4294967295#32
/-- the CRC of texts -/
def sumL (ss : List ByteArray) : BitVec 32 := onL ones ss ^^^ ones
def sum (l : List UInt8) : BitVec 32 := on ones l ^^^ ones
theorem sumL_one (s : ByteArray) : sumL [s] = sum s.data.toList := rfl
def more (n : Int) (l : List UInt8) : BitVec 32 := on (BitVec.ofInt 32 n ^^^ ones) l ^^^ ones
theorem xor_ones (d : BitVec 32) : bits .xor .u32 (d.toNat : Int) 4294967295 = ((d ^^^ ones).toNat : Int) := xor_nat d ones
theorem xor_ones' (d : BitVec 32) : ∃ z : BitVec 32, z = d ^^^ ones ∧ bits .xor .u32 (d.toNat : Int) 4294967295 = (z.toNat : Int) := ⟨_, rfl, xor_ones d⟩
theorem u64_mod (n : Int) : (IntKind.u64.wrap n).tmod 4294967296 = n % 4294967296 := by
  have h : IntKind.u64.wrap n = n % 18446744073709551616 := by simp [IntKind.wrap, IntKind.bits, IntKind.signed]
  rw [h, Int.tmod_eq_emod_of_nonneg (by omega)]
  omega
theorem more_in (n : Int) : ∃ x : BitVec 32, x = BitVec.ofInt 32 n ^^^ ones ∧ bits .xor .u32 (n % 4294967296) 4294967295 = (x.toNat : Int) := by
  refine ⟨_, rfl, ?_⟩
  have h : n % 4294967296 = ((BitVec.ofInt 32 n).toNat : Int) := by rw [BitVec.toNat_ofInt]; omega
  rw [h, xor_ones]
theorem wrap_u32 (d : BitVec 32) : (d.toNat : Int) % 4294967296 = (d.toNat : Int) := by have := d.isLt; omega
/-- one bit, as the reference does it -/
theorem st_even (c : BitVec 32) (h : ((c.toNat : Int) % 2 == 1) = false) : (st c).toNat = c.toNat / 2 := by
  have h1 : c.getLsbD 0 = false := by
    rw [BitVec.getLsbD, Nat.testBit_zero]; simp at h ⊢; omega
  rw [st_high c h1, BitVec.toNat_ushiftRight, Nat.shiftRight_eq_div_pow]
theorem st_odd (c : BitVec 32) (h : ((c.toNat : Int) % 2 == 1) = true) : bits .xor .u32 ((c.toNat : Int) / (2 : Int)) 2197175160 = ((st c).toNat : Int) := by
  have h1 : c.getLsbD 0 = true := by
    rw [BitVec.getLsbD, Nat.testBit_zero]; simp at h ⊢; omega
  rw [st_eq, h1, shr1]
  exact xor_nat (c >>> 1) poly
end Go.Proofs.Ythkjodlddhdeiaa.crc
