/- CrcEven: the CRC is linear; the walk of the law. -/
import Derived.Test.YtbijdnleiojkdaaCrcLaws
import Derived.Deep.RegionLaw
namespace Go.Proofs.Ytbijdnleiojkdaa.crc
open Go.ChangeShapes Go.WideShapes Go.ChangeAt Go.RowKit
open Ytbijdnleiojkdaa.base (size_mk ret_str ret_bool ba_ext own_string run_string_new chain newer drewn same bytesOf bytesOf_one)

/-- the first k bytes of what comes of three texts by xor -/
def xs (a b c : List UInt8) (k : Nat) : List UInt8 := (List.range k).map fun i => a.getD i 0 ^^^ b.getD i 0 ^^^ c.getD i 0
theorem xs_len (a b c : List UInt8) (k : Nat) : (xs a b c k).length = k := by simp [xs]
theorem xs_succ (a b c : List UInt8) (k : Nat) : xs a b c (k + 1) = xs a b c k ++ [a.getD k 0 ^^^ b.getD k 0 ^^^ c.getD k 0] := by
  unfold xs; rw [List.range_succ, List.map_append]; rfl
theorem ofNat_xor8 (a b : UInt8) : BitVec.ofNat 32 (a ^^^ b).toNat = BitVec.ofNat 32 a.toNat ^^^ BitVec.ofNat 32 b.toNat := by
  apply BitVec.eq_of_toNat_eq
  have h1 := a.toNat_lt
  have h2 := b.toNat_lt
  rw [BitVec.toNat_xor, BitVec.toNat_ofNat, BitVec.toNat_ofNat, BitVec.toNat_ofNat, UInt8.toNat_xor,
    Nat.mod_eq_of_lt (by omega : a.toNat < 2 ^ 32), Nat.mod_eq_of_lt (by omega : b.toNat < 2 ^ 32)]
  exact Nat.mod_eq_of_lt (Nat.lt_of_lt_of_le (Nat.xor_lt_two_pow (n := 8) (by omega) (by omega)) (by decide))
theorem byteOn_xor3 (c1 c2 c3 : BitVec 32) (b1 b2 b3 : UInt8) : byteOn (c1 ^^^ c2 ^^^ c3) (b1 ^^^ b2 ^^^ b3) = byteOn c1 b1 ^^^ byteOn c2 b2 ^^^ byteOn c3 b3 := by
  unfold byteOn
  rw [ofNat_xor8, ofNat_xor8, ← sts_xor, ← sts_xor]
  congr 1
  ac_rfl
theorem take_getD (a : List UInt8) (k : Nat) (h : k < a.length) : a.take (k + 1) = a.take k ++ [a.getD k 0] := by
  rw [List.take_succ_eq_append_getElem h]; simp [h]
theorem on_xs (a b c : List UInt8) (c1 c2 c3 : BitVec 32) (k : Nat) (ha : k ≤ a.length) (hb : k ≤ b.length) (hc : k ≤ c.length) :
    on (c1 ^^^ c2 ^^^ c3) (xs a b c k) = on c1 (a.take k) ^^^ on c2 (b.take k) ^^^ on c3 (c.take k) := by
  induction k with
  | zero => rfl
  | succ k ih =>
    rw [xs_succ, on_snoc, ih (by omega) (by omega) (by omega), byteOn_xor3, take_getD a k (by omega), take_getD b k (by omega), take_getD c k (by omega), on_snoc, on_snoc, on_snoc]
theorem sum_xs (a b c : List UInt8) (hb : b.length = a.length) (hc : c.length = a.length) : sum (xs a b c a.length) = sum a ^^^ sum b ^^^ sum c := by
  have h := on_xs a b c ones ones ones a.length (by omega) (by omega) (by omega)
  rw [List.take_of_length_le (by omega), List.take_of_length_le (by omega), List.take_of_length_le (by omega)] at h
  have e : ones ^^^ ones ^^^ ones = ones := by decide
  rw [e] at h
  unfold sum
  rw [h]
  generalize on ones a = x
  generalize on ones b = y
  generalize on ones c = z
  generalize ones = o
  rw [show x ^^^ o ^^^ (y ^^^ o) ^^^ (z ^^^ o) = x ^^^ y ^^^ z ^^^ o ^^^ (o ^^^ o) from by ac_rfl, BitVec.xor_self, BitVec.xor_zero]
theorem xor8_name (x y z : UInt8) : ∃ v : UInt8, v = x ^^^ y ^^^ z ∧ bits .xor .u8 (bits .xor .u8 (x.toNat : Int) (y.toNat : Int)) (z.toNat : Int) = (v.toNat : Int) := by
  refine ⟨_, rfl, ?_⟩
  rw [u8_xor_nat _ _ x.toNat_lt y.toNat_lt, ← UInt8.toNat_xor, u8_xor_nat _ _ (x ^^^ y).toNat_lt z.toNat_lt, ← UInt8.toNat_xor]
theorem getD_byte (s : ByteArray) (k : Nat) (h : k < s.size) : s.data.toList.getD k 0 = s[k] := by
  have h' : k < s.data.toList.length := by simpa using h
  rw [List.getD_eq_getElem?_getD, List.getElem?_eq_getElem h']
  rfl
theorem xor64 (x y : BitVec 32) : bits .xor .i64 (x.toNat : Int) (y.toNat : Int) = ((x ^^^ y).toNat : Int) := by
  have hx := x.isLt
  have hy := y.isLt
  have hxy : x.toNat ^^^ y.toNat < 2 ^ 32 := Nat.xor_lt_two_pow hx hy
  show IntKind.i64.wrap ((BitVec.ofInt 64 (x.toNat : Int) ^^^ BitVec.ofInt 64 (y.toNat : Int)).toNat : Int) = _
  rw [BitVec.toNat_xor, BitVec.ofInt_natCast, BitVec.ofInt_natCast, BitVec.toNat_ofNat, BitVec.toNat_ofNat, BitVec.toNat_xor,
    Nat.mod_eq_of_lt (by omega : x.toNat < 2 ^ 64), Nat.mod_eq_of_lt (by omega : y.toNat < 2 ^ 64), IntKind.wrap_i64]
  omega
theorem xor64' (x y : BitVec 32) : ∃ z : BitVec 32, z = x ^^^ y ∧ bits .xor .i64 (x.toNat : Int) (y.toNat : Int) = (z.toNat : Int) := ⟨_, rfl, xor64 x y⟩
theorem info_u8 : (Try.prog.info? 5).map (fun i => (i.zero, i.size, i.bytes)) = some (some (.int .u8 0), 1, 1) := by kernel_rfl

set_option maxRecDepth 100000 in
set_option maxHeartbeats 800000 in
theorem crcEven_walk (a b c : ByteArray) (_ha : a.size ≤ maxLen) (_hb : b.size ≤ maxLen) (_hc : c.size ≤ maxLen) (w : World) :
    Calls Try.prog 3 #[.string a, .string b, .string c] w
      fun e w' => e = .returned (.bool true) ∧ Below w.heap.size w w' := by
  obtain ⟨i0, hi, hz0, hz1, hz2⟩ := info_parts info_u8
  by_cases ha2 : a.size ≤ 2000
  · by_cases hb2 : b.size = a.size
    · by_cases hc2 : c.size = a.size
      · have eb : ((b.size : Int) != (a.size : Int)) = false := by simp [hb2]
        have ec : ((c.size : Int) != (a.size : Int)) = false := by simp [hc2]
        have hb3 : b.size ≤ 2000 := by omega
        have hc3 : c.size ≤ 2000 := by omega
        have hbl : a.size ≤ b.size := by omega
        have hcl : a.size ≤ c.size := by omega
        have HB := Lib.hid hb2
        have HC := Lib.hid hc2
        clear hb2 hc2
        go_enter Try.func3, Try.ntmps3
        go_wp2
        clear eb ec
        go_loopw [7, 8] (fun v i wr => ∃ k : Nat, k ≤ a.size ∧ i = .int .i64 k ∧ wr.ownsRow w.heap.size 5 1 v k (bytesOf (xs a.data.toList b.data.toList c.data.toList k)) ∧ Below w.heap.size w wr) (fun _ i _ => a.size - (intOf i).toNat)
        case atStart => exact ⟨0, Nat.zero_le _, rfl, World.ownsRow_nil _ _ _ _, same w⟩
        case round =>
          obtain ⟨k, hk, rfl, hown, hb⟩ := hrel
          by_cases hlt : k < a.size
          · obtain ⟨v, hv, e1⟩ := xor8_name a[k] b[k] c[k]
            have hx : xs a.data.toList b.data.toList c.data.toList (k + 1) = xs a.data.toList b.data.toList c.data.toList k ++ [v] := by
              rw [xs_succ, getD_byte a k hlt, getD_byte b k (by omega), getD_byte c k (by omega), hv]
            generalize xs a.data.toList b.data.toList c.data.toList k = l at hx hown
            have HX := Lib.hid hx
            clear hx hv
            have hk1 : (k : Int) < (b.size : Int) := by omega
            have hk2 : (k : Int) < (c.size : Int) := by omega
            go_wp2_with fail
            go_region_law ((refine step_append_lies _ (by rfl) _ _ _ (by rfl) w.heap.size 5 i0 _ 1 1 Try.underlying23 hi hz0 hz1 hz2 rfl (by omega) _ k _ (by rfl) ((hown.alloc _).drew) ⟨wr.heap.size, 0, none⟩ 1 1 [.int .u8 (v.toNat : Int)] (by rfl) (by rfl) (World.news_of_block (cs := #[.int .u8 (v.toNat : Int)]) (t := 5) (fr := (0, 0)) (heap_alloc_new wr _)) (by simp [Value.oneCell']) (by omega) (by unfold maxLen; omega) (by omega) (by have := hb.size; simp; omega) (wr.heap.size + 1) (by simp) ?_; intro gg cap w1 hown1 hgrow hat hlt1))
            all_goals
              go_wp2
              go_roundw
              case rel => exact ⟨k + 1, by omega, by go_num, by rw [HX.out]; simpa [bytesOf] using hown1, (newer hb _).drew.grown hgrow (by have := hb.size; simp; omega) (fun g hg => (hown.lt g hg).1)⟩
              case measure => simp [intOf]; omega
          · obtain rfl : k = a.size := by omega
            have hfin := sum_xs a.data.toList b.data.toList c.data.toList (by simpa using HB.out) (by simpa using HC.out)
            have hl : a.data.toList.length = a.size := by simp
            rw [hl] at hfin
            have hln := xs_len a.data.toList b.data.toList c.data.toList a.size
            generalize xs a.data.toList b.data.toList c.data.toList a.size = l at hfin hown hln
            have HF := Lib.hid hfin
            have HL := Lib.hid hln
            clear hfin hl hln
            have hcv := own_string hown
            have hsz : (ByteArray.mk l.toArray).size ≤ maxLen := by rw [size_mk, HL.out]; unfold maxLen; omega
            go_wp2_with fail
            refine (sum_new _ ⟨l.toArray⟩ hsz).mono ?_
            rintro e w1 ⟨rfl, hb1⟩
            have hs : sum (ByteArray.mk l.toArray).data.toList = sum a.data.toList ^^^ sum b.data.toList ^^^ sum c.data.toList := HF.out
            rw [hs]
            clear hs hcv
            generalize hz : sum a.data.toList ^^^ sum b.data.toList ^^^ sum c.data.toList = z
            have HZ := Lib.hid hz
            clear hz
            go_wp2_with fail
            refine (sum_new _ a (by unfold maxLen; omega)).mono ?_
            rintro e w2 ⟨rfl, hb2⟩
            go_wp2_with fail
            refine (sum_new _ b (by unfold maxLen; omega)).mono ?_
            rintro e w3 ⟨rfl, hb3⟩
            obtain ⟨x12, hx12, e12⟩ := xor64' (sum a.data.toList) (sum b.data.toList)
            have HX12 := Lib.hid hx12
            clear hx12
            go_wp2_with fail
            refine (sum_new _ c (by unfold maxLen; omega)).mono ?_
            rintro e w4 ⟨rfl, hb4⟩
            have e34 := xor64 x12 (sum c.data.toList)
            rw [HX12.out, HZ.out, ← HX12.out] at e34
            go_wp2_with fail
            refine (lives_walk _).mono ?_
            rintro e w5 ⟨rfl, hb5⟩
            go_wp2
            go_ret
            exact ⟨rfl, chain hb (chain hb1 (chain hb2 (chain hb3 (chain hb4 hb5))))⟩
      · have eb : ((b.size : Int) != (a.size : Int)) = false := by simp [hb2]
        have ec : ((c.size : Int) != (a.size : Int)) = true := by simp; omega
        clear hb2
        go_enter Try.func3, Try.ntmps3
        go_wp2_with fail
        refine (lives_walk _).mono ?_
        rintro e w7 ⟨rfl, hb7⟩
        go_wp2
        go_ret
        exact ⟨rfl, hb7⟩
    · have eb : ((b.size : Int) != (a.size : Int)) = true := by simp; omega
      go_enter Try.func3, Try.ntmps3
      go_wp2_with fail
      refine (lives_walk _).mono ?_
      rintro e w7 ⟨rfl, hb7⟩
      go_wp2
      go_ret
      exact ⟨rfl, hb7⟩
  · go_enter Try.func3, Try.ntmps3
    go_wp2_with fail
    refine (lives_walk _).mono ?_
    rintro e w7 ⟨rfl, hb7⟩
    go_wp2
    go_ret
    exact ⟨rfl, hb7⟩
end Go.Proofs.Ytbijdnleiojkdaa.crc
