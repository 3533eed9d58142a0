/- CrcBit: a sealed text of which a byte is turned is not right; the walk of the law. -/
import Derived.Test.YtbijdnleiojkdaaCrcLaws
import Derived.Laws.IdiomStrings
namespace Go.Proofs.Ytbijdnleiojkdaa.crc
open Go.ChangeShapes Go.WideShapes Go.ChangeAt Go.RowKit
open Ytbijdnleiojkdaa.base (size_mk ret_str ret_bool ba_ext run_string own_string run_bw bw bcap bw_cell bw_below bw_size bw_frozen run_string_new chain newer drewn same bytesOf bytesOf_one)

theorem st_top (c : BitVec 32) : (st c).getLsbD 31 = c.getLsbD 0 := by
  rw [st_eq]
  have h1 : (c >>> 1).getLsbD 31 = false := by simp
  have h2 : poly.getLsbD 31 = true := by decide
  cases h : c.getLsbD 0
  · simp only [Bool.false_eq_true, if_false, h1]
  · simp only [if_true, BitVec.getLsbD_xor, h1, h2, Bool.false_xor]
theorem st_zero (c : BitVec 32) (h : st c = 0#32) : c = 0#32 := by
  have h0 : c.getLsbD 0 = false := by rw [← st_top, h]; rfl
  rw [st_high c h0] at h
  apply BitVec.eq_of_getLsbD_eq
  intro i hi
  match i with
  | 0 => rw [h0]; rfl
  | i + 1 =>
    have := congrArg (fun x : BitVec 32 => x.getLsbD i) h
    simpa [Nat.add_comm] using this
theorem sts_zero (n : Nat) (c : BitVec 32) (h : sts n c = 0#32) : c = 0#32 := by
  induction n with
  | zero => exact h
  | succ n ih => exact ih (st_zero _ h)
theorem xor_zero_eq {a b : BitVec 32} (h : a ^^^ b = 0#32) : a = b := by
  have : a ^^^ b ^^^ b = 0#32 ^^^ b := by rw [h]
  rwa [BitVec.xor_assoc, BitVec.xor_self, BitVec.xor_zero, BitVec.zero_xor] at this
theorem sts_inj (n : Nat) {a b : BitVec 32} (h : sts n a = sts n b) : a = b :=
  xor_zero_eq (sts_zero n _ (by rw [sts_xor, h, BitVec.xor_self]))
theorem ofNat8_inj {a b : UInt8} (h : BitVec.ofNat 32 a.toNat = BitVec.ofNat 32 b.toNat) : a = b := by
  apply UInt8.toNat.inj
  have := congrArg BitVec.toNat h
  have h1 := a.toNat_lt
  have h2 := b.toNat_lt
  rw [BitVec.toNat_ofNat, BitVec.toNat_ofNat] at this
  omega
theorem byteOn_inj {a b : BitVec 32} {v : UInt8} (h : byteOn a v = byteOn b v) : a = b := by
  have h1 := sts_inj 8 h
  have : a ^^^ BitVec.ofNat 32 v.toNat ^^^ BitVec.ofNat 32 v.toNat = b ^^^ BitVec.ofNat 32 v.toNat ^^^ BitVec.ofNat 32 v.toNat := by rw [h1]
  rwa [BitVec.xor_assoc, BitVec.xor_assoc, BitVec.xor_self, BitVec.xor_zero, BitVec.xor_zero] at this
theorem byteOn_inj8 {a : BitVec 32} {u v : UInt8} (h : byteOn a u = byteOn a v) : u = v := by
  have h1 := sts_inj 8 h
  have : a ^^^ (a ^^^ BitVec.ofNat 32 u.toNat) = a ^^^ (a ^^^ BitVec.ofNat 32 v.toNat) := by rw [h1]
  rw [← BitVec.xor_assoc, ← BitVec.xor_assoc, BitVec.xor_self, BitVec.zero_xor, BitVec.zero_xor] at this
  exact ofNat8_inj this
theorem on_inj (l : List UInt8) : ∀ {a b : BitVec 32}, on a l = on b l → a = b := by
  induction l with
  | nil => intro a b h; exact h
  | cons c l ih => intro a b h; exact byteOn_inj (ih h)
theorem on_set (l : List UInt8) : ∀ (c : BitVec 32) (i : Nat) (v : UInt8), i < l.length → on c (l.set i v) = on c l → l[i]? = some v := by
  induction l with
  | nil => intro c i v hi; simp at hi
  | cons x l ih =>
    intro c i v hi h
    match i with
    | 0 =>
      have := byteOn_inj8 (on_inj l (show on (byteOn c v) l = on (byteOn c x) l from h))
      simp [this]
    | i + 1 => exact ih (byteOn c x) i v (by simpa using hi) h
theorem byte4_inj {a b : BitVec 32} (h : byte4 a = byte4 b) : a = b := by
  have ha := a.isLt
  have hb := b.isLt
  unfold byte4 at h
  simp only [List.cons.injEq, and_true] at h
  obtain ⟨h1, h2, h3, h4⟩ := h
  have k1 := congrArg UInt8.toNat h1
  have k2 := congrArg UInt8.toNat h2
  have k3 := congrArg UInt8.toNat h3
  have k4 := congrArg UInt8.toNat h4
  simp only [UInt8.toNat_ofNat'] at k1 k2 k3 k4
  apply BitVec.eq_of_toNat_eq
  omega
theorem xor_ones_inj {a b : BitVec 32} (h : a ^^^ ones = b ^^^ ones) : a = b := by
  have : a ^^^ ones ^^^ ones = b ^^^ ones ^^^ ones := by rw [h]
  rwa [BitVec.xor_assoc, BitVec.xor_assoc, BitVec.xor_self, BitVec.xor_zero, BitVec.xor_zero] at this
/-- one byte of a sealed text turned: it is not right -/
theorem right_turned (l : List UInt8) (i : Nat) (v : UInt8) (hi : i < (sealed l).length) (hv : (sealed l)[i]? ≠ some v) : rightB ((sealed l).set i v) = false := by
  have h4 : (byte4 (sum l)).length = 4 := rfl
  have hlen : (sealed l).length = l.length + 4 := by unfold sealed; rw [List.length_append, h4]
  unfold rightB
  rw [List.length_set, hlen, decide_eq_true (by omega), Bool.true_and, Nat.add_sub_cancel, beq_eq_false_iff_ne]
  intro h
  by_cases hil : i < l.length
  · have e : (sealed l).set i v = l.set i v ++ byte4 (sum l) := by unfold sealed; rw [List.set_append_left _ _ hil]
    rw [e] at h
    have hl : l.length = (l.set i v).length := by simp
    rw [List.take_left' hl.symm] at h
    unfold sealed at h
    have := byte4_inj (List.append_cancel_left h)
    have h2 := on_set l ones i v hil (xor_ones_inj this)
    apply hv
    unfold sealed
    rw [List.getElem?_append_left hil, h2]
  · have e : ((sealed l).set i v).take l.length = l := by
      rw [List.take_set_of_le (by omega)]
      unfold sealed
      exact List.take_left
    rw [e] at h
    apply hv
    rw [h, List.getElem?_set_self (by omega)]

theorem mod_name (p : Int) (n : Nat) (hn : 0 < n) : ∃ i : Nat, i < n ∧ (IntKind.u64.wrap p).tmod (n : Int) = (i : Int) := by
  have h0 : 0 ≤ IntKind.u64.wrap p := by
    have h : IntKind.u64.wrap p = p % 18446744073709551616 := by simp [IntKind.wrap, IntKind.bits, IntKind.signed]
    rw [h]; omega
  obtain ⟨m, hm⟩ := Int.eq_ofNat_of_zero_le h0
  refine ⟨m % n, Nat.mod_lt _ hn, ?_⟩
  rw [hm, Int.tmod_eq_emod_of_nonneg (by omega)]
  rfl
theorem flip_name (c : UInt8) (j : Nat) (hj : j < 8) : ∃ v : UInt8, v ≠ c ∧ bits .xor .u8 (c.toNat : Int) ((2 : Int) ^ j % 256) = (v.toNat : Int) := by
  have hp : (2 : Nat) ^ j < 256 := Nat.pow_lt_pow_right (by decide) hj
  have h0 : 0 < (2 : Nat) ^ j := Nat.two_pow_pos j
  have hn : (UInt8.ofNat (2 ^ j)).toNat = 2 ^ j := by rw [UInt8.toNat_ofNat']; exact Nat.mod_eq_of_lt hp
  refine ⟨c ^^^ UInt8.ofNat (2 ^ j), ?_, ?_⟩
  · intro h
    have h1 : c ^^^ (c ^^^ UInt8.ofNat (2 ^ j)) = c ^^^ c := by rw [h]
    rw [← UInt8.xor_assoc, UInt8.xor_self, UInt8.zero_xor] at h1
    rw [h1] at hn
    have hn' : 0 = 2 ^ j := hn
    omega
  · have e : ((2 : Int) ^ j % 256) = ((2 ^ j : Nat) : Int) := by
      have : ((2 ^ j : Nat) : Int) = (2 : Int) ^ j := by simp
      omega
    rw [e, ← hn, u8_xor_nat _ _ c.toNat_lt (UInt8.toNat_lt _), ← UInt8.toNat_xor, hn]
set_option maxRecDepth 100000 in
set_option maxHeartbeats 800000 in
theorem crcBit_walk (s : ByteArray) (p q : Int) (_hs : s.size ≤ maxLen) (_hp : (Lit.int .i64 p).wf = true) (_hq : (Lit.int .i64 q).wf = true) (w : World) :
    Calls Try.prog 5 #[.string s, .int .i64 p, .int .i64 q] w
      fun e w' => e = .returned (.bool true) ∧ Below w.heap.size w w' := by
  by_cases hs2 : s.size ≤ 2000
  · generalize hL : sealed s.data.toList = L
    have hlen : L.length = s.size + 4 := by rw [← hL]; simp [sealed, byte4]
    have hR : rightB L = true := by rw [← hL]; exact right_sealed _
    have hT : ∀ i v, i < L.length → L[i]? ≠ some v → rightB (L.set i v) = false := by rw [← hL]; exact right_turned _
    have HR := Lib.hid hR
    have HT := Lib.hid hT
    have HL := Lib.hid hL
    have HN := Lib.hid hlen
    clear hR hT hL hlen
    have hcb := fun (u : World) => run_bw u L (s.size + 4) HN.out
    have hbs := fun (u : World) => run_string (bw u L) u.heap.size 0 (s.size + 4) (bcap u L) L HN.out (fun i c hi => by rw [Nat.zero_add]; exact bw_cell u L i c hi)
    go_enter Try.func5, Try.ntmps5
    go_wp2_with fail
    refine (seal_walk s _ (by omega)).mono ?_
    rintro e w1 ⟨rfl, hb1⟩
    rw [HL.out]
    go_wp2_with fail
    refine (right_walk _ _ (by rw [size_mk, HN.out]; omega)).mono ?_
    rintro e w2 ⟨rfl, hb2⟩
    have hr : rightB (ByteArray.mk L.toArray).data.toList = true := HR.out
    rw [hr]
    clear hr hcb hbs
    obtain ⟨i, hi, e1⟩ := mod_name p (s.size + 4) (by omega)
    obtain ⟨j, hj, e2⟩ := mod_name q 8 (by omega)
    have hi1 : i < L.length := by rw [HN.out]; exact hi
    obtain ⟨c, hc⟩ : ∃ c, L[i]? = some c := ⟨_, List.getElem?_eq_getElem hi1⟩
    have hcell : w2.cell? ⟨w1.heap.size, i, none⟩ = some (.int .u8 (c.toNat : Int)) := by
      rw [hb2.cell (p := ⟨w1.heap.size, i, none⟩) (by rw [bw_size]; simp)]
      exact bw_cell w1 L i c hc
    have hfz : w2.frozen? ⟨w1.heap.size, i, none⟩ = false := by
      rw [hb2.frozen (p := ⟨w1.heap.size, i, none⟩) (by rw [bw_size]; simp)]
      exact bw_frozen w1 L i hi1
    obtain ⟨v, hvc, e3⟩ := flip_name c j hj
    have hcv : (convert 23 9 (.slice (some ⟨w1.heap.size, 0, none⟩) (s.size + 4) (bcap w1 L))).run Try.prog (w2.setCell ⟨w1.heap.size, i, none⟩ (.int .u8 (v.toNat : Int))) =
        .ok (.string ⟨(L.set i v).toArray⟩) (w2.setCell ⟨w1.heap.size, i, none⟩ (.int .u8 (v.toNat : Int))) := by
      refine run_string _ _ 0 _ _ (L.set i v) (by rw [List.length_set]; exact HN.out) (fun k x hk => ?_)
      rw [Nat.zero_add]
      by_cases hki : i = k
      · subst hki
        rw [List.getElem?_set_self hi1] at hk
        obtain rfl := Option.some.inj hk
        exact World.cell?_setCell_same _ _ _ hcell
      · rw [List.getElem?_set_ne hki] at hk
        rw [World.cell?_setCell_other _ _ _ _ (by intro h; injection h with _ h; exact hki h), hb2.cell (p := ⟨w1.heap.size, k, none⟩) (by rw [bw_size]; simp)]
        exact bw_cell w1 L k x hk
    have hfin : rightB (ByteArray.mk (L.set i v).toArray).data.toList = false := HT.out i v hi1 (by rw [hc]; intro h; exact hvc (Option.some.inj h).symm)
    have HC := Lib.hid hc
    have HF := Lib.hid hfin
    clear hc hi1 hfin hvc
    simp only [Int.natCast_add, Int.cast_ofNat_Int] at e1 e2
    go_wp2_with fail
    refine (right_walk _ _ (by rw [size_mk, List.length_set, HN.out]; omega)).mono ?_
    rintro e w3 ⟨rfl, hb3⟩
    rw [HF.out]
    clear hcv
    go_wp2_with fail
    refine (lives_walk _).mono ?_
    rintro e w4 ⟨rfl, hb4⟩
    go_wp2
    go_ret
    refine ⟨rfl, ?_⟩
    have h2 : Below w.heap.size w w2 := chain hb1 (chain (bw_below w1 L) hb2)
    exact chain (h2.setCell (p := ⟨w1.heap.size, i, none⟩) hb1.size _) (chain hb3 hb4)
  · go_enter Try.func5, Try.ntmps5
    go_wp2_with fail
    refine (lives_walk _).mono ?_
    rintro e w7 ⟨rfl, hb7⟩
    go_wp2
    go_ret
    exact ⟨rfl, hb7⟩
end Go.Proofs.Ytbijdnleiojkdaa.crc
