/- Numbers of fixed bytes: plain facts, and the walks of octet.Fixed, octet.Read and of the reference's. -/
import Derived.Test.YthkjodlddhdeiaaOctWalk
namespace Go.Proofs.Ythkjodlddhdeiaa.oct
open Go.ChangeShapes Go.WideShapes Go.ChangeAt Go.RowKit
open Ythkjodlddhdeiaa.base (still drewnN rest_eq Shut size_mk ret_int ret_str ret_bool ba_ext run_string own_string run_string_new chain newer drewn same bytesOf bytesOf_one)

/-- the lowest bytes of a code, the greatest ahead -/
def beN : Nat → Nat → List UInt8
  | 0, _ => []
  | i + 1, c => UInt8.ofNat (c / 256 ^ i % 256) :: beN i c
def u64of (n : Int) : Nat := (n % 18446744073709551616).toNat
def fixed (n bytes : Int) : List UInt8 := beN (min bytes.toNat 8) (u64of n)
/-- the code of bytes -/
def rd (l : List UInt8) : Nat := l.foldl (fun c b => c * 256 + b.toNat) 0
def readI (l : List UInt8) : Int := wrap64 (rd (l.take 8) : Int)
theorem beN_len (i c : Nat) : (beN i c).length = i := by induction i with | zero => rfl | succ i ih => simp [beN, ih]
theorem u64of_lt (n : Int) : u64of n < 18446744073709551616 := by unfold u64of; omega
theorem rd_snoc (l : List UInt8) (b : UInt8) : rd (l ++ [b]) = rd l * 256 + b.toNat := by unfold rd; rw [List.foldl_append]; rfl
theorem rd_lt (l : List UInt8) : rd l < 256 ^ l.length := by
  have : ∀ (r : List UInt8) , rd r.reverse < 256 ^ r.length := by
    intro r
    induction r with
    | nil => decide
    | cons b r ih =>
      rw [List.reverse_cons, rd_snoc, List.length_cons, Nat.pow_succ]
      have := b.toNat_lt
      omega
  simpa using this l.reverse
theorem rd_foldl (l : List UInt8) : ∀ a : Nat, l.foldl (fun c b => c * 256 + b.toNat) a = a * 256 ^ l.length + rd l := by
  induction l with
  | nil => intro a; simp [rd]
  | cons b l ih =>
    intro a
    unfold rd
    rw [List.foldl_cons, List.foldl_cons, ih, ih (0 * 256 + b.toNat), List.length_cons, Nat.pow_succ, Nat.zero_mul, Nat.zero_add, Nat.add_mul, Nat.mul_assoc, Nat.mul_comm (256 ^ l.length) 256, Nat.add_assoc]
theorem rd_beN (i c : Nat) : rd (beN i c) = c % 256 ^ i := by
  induction i with
  | zero => simp [beN, rd, Nat.mod_one]
  | succ i ih =>
    have h : rd (beN (i + 1) c) = (UInt8.ofNat (c / 256 ^ i % 256)).toNat * 256 ^ i + rd (beN i c) := by
      show (beN (i + 1) c).foldl (fun c b => c * 256 + b.toNat) 0 = _
      rw [beN, List.foldl_cons, rd_foldl, beN_len, Nat.zero_mul, Nat.zero_add]
    rw [h, ih, u8_of (Nat.mod_lt _ (by decide)), Nat.pow_succ, Nat.mod_mul, Nat.mul_comm, Nat.add_comm]
theorem read_fixed (n : Int) (h : -9223372036854775808 ≤ n ∧ n ≤ 9223372036854775807) : readI (fixed n 8) = n := by
  unfold readI fixed
  have e : min (8 : Int).toNat 8 = 8 := by decide
  rw [e, List.take_of_length_le (by rw [beN_len]; omega), rd_beN, Nat.mod_eq_of_lt (by have := u64of_lt n; omega)]
  unfold u64of wrap64
  omega
theorem pow256 (i : Nat) : (256 : Nat) ^ i = 2 ^ (8 * i) := by rw [Nat.pow_mul]
/-- a byte of a number, as octet.Fixed takes it -/
theorem byte_form (n : Int) (i : Nat) (hi : i ≤ 7) : (n / (2 : Int) ^ (8 * i)) % (256 : Int) = ((UInt8.ofNat (u64of n / 256 ^ i % 256)).toNat : Int) := by
  have hm : u64of n / 256 ^ i % 256 < 256 := Nat.mod_lt _ (by decide)
  rw [u8_of hm]
  unfold u64of
  rw [pow256]
  have hcases : i = 0 ∨ i = 1 ∨ i = 2 ∨ i = 3 ∨ i = 4 ∨ i = 5 ∨ i = 6 ∨ i = 7 := by omega
  rcases hcases with rfl | rfl | rfl | rfl | rfl | rfl | rfl | rfl <;> simp <;> omega
theorem zeros_set (m k : Nat) (hk : k < m) (b : UInt8) (l : List UInt8) :
    (bytesOf (List.replicate (m - k) 0 ++ l)).set (m - 1 - k) (.int .u8 (b.toNat : Int)) = bytesOf (List.replicate (m - (k + 1)) 0 ++ (b :: l)) := by
  unfold bytesOf
  rw [← List.map_set]
  congr 1
  have e : m - k = (m - (k + 1)) + 1 := by omega
  rw [e, List.replicate_succ', List.append_assoc, List.set_append_right _ _ (by simp; omega)]
  congr 1
  have : m - 1 - k - (List.replicate (m - (k + 1)) (0 : UInt8)).length = 0 := by simp; omega
  rw [this]
  rfl
theorem byte_there (m k : Nat) (hk : k < m) (l : List UInt8) (hl : l.length = k) : ∃ u, (bytesOf (List.replicate (m - k) 0 ++ l))[m - 1 - k]? = some u :=
  ⟨_, List.getElem?_eq_getElem (by simp [bytesOf, hl]; omega)⟩
theorem info_u8' : (Try.prog.info? 5).map (fun i => (i.zero, i.size, i.bytes)) = some (some (.int .u8 0), 1, 1) := by kernel_rfl

set_option maxRecDepth 100000 in
set_option maxHeartbeats 400000 in
theorem fixed_walk (n b : Int) (w : World) :
    Calls Try.prog 52 #[.int .i64 n, .int .i64 b] w fun e w' => e = .returned (.string ⟨(fixed n b).toArray⟩) ∧ Below w.heap.size w w' := by
  obtain ⟨i0, hi, hz0, hz1, hz2⟩ := info_parts info_u8'
  obtain ⟨m, hm, hm8⟩ : ∃ m : Nat, m = min b.toNat 8 ∧ m ≤ 8 := ⟨_, rfl, by omega⟩
  have HF : Shut (fixed n b = beN m (u64of n)) := ⟨by rw [hm]; rfl⟩
  have hways : (b < 0 ∧ m ≤ 0) ∨ (0 ≤ b ∧ b < 8 ∧ b ≤ (m : Int) ∧ (m : Int) ≤ b) ∨ (8 ≤ b ∧ b ≤ 8 ∧ 8 ≤ m) ∨ (8 < b ∧ 8 ≤ m) := by omega
  clear hm
  rcases hways with ⟨h1, h2⟩ | ⟨h1, h2, h3, h4⟩ | ⟨h1, h2, h3⟩ | ⟨h1, h2⟩
  all_goals
    go_enter Try.func52, Try.ntmps52
    go_wp2_with (at_make; refine wpList_make_full _ rfl _ _ 29 rfl w.heap.size 5 i0 (.int .u8 0) 1 Try.underlying29 hi hz0 hz1 _ _ _ _ m rfl rfl (by first | omega | ((repeat' split) <;> omega)) (by first | omega | ((repeat' split) <;> omega)) (by rw [hz2]; omega) (by unfold maxLen; omega) (Nat.le_refl _) ?_)
    intro w1 hown hgrow
    rw [toList_madeCells_one] at hown
    have hB : Below w.heap.size w w1 := (same w).grown hgrow (Nat.le_refl _) (fun k hk => by cases hk)
    clear h1 h2
    go_wp2
    go_loopw [13] (fun i wr => ∃ k : Nat, i = .int .i64 k ∧ k ≤ m ∧ wr.ownsRow w.heap.size 5 1 (.slice (some ⟨w.heap.size, 0, none⟩) m m) m (bytesOf (List.replicate (m - k) 0 ++ beN k (u64of n))) ∧ Below w.heap.size w wr) (fun i _ => m - (intOf i).toNat)
    case atStart => exact ⟨0, rfl, by omega, by simpa [bytesOf, beN] using hown, hB⟩
    case round =>
      clear hown hgrow hB
      obtain ⟨k, rfl, hk, hown, hb⟩ := hrel
      by_cases hlt : k < m
      · have hset := zeros_set m k hlt (UInt8.ofNat (u64of n / 256 ^ k % 256)) (beN k (u64of n))
        have hbf := byte_form n k (by omega)
        generalize hv : UInt8.ofNat (u64of n / 256 ^ k % 256) = v at hset hbf
        obtain ⟨u, hu⟩ := byte_there m k hlt (beN k (u64of n)) (beN_len _ _)
        have hcell : wr.cell? ⟨w.heap.size, m - 1 - k, none⟩ = some u := by rw [hown.cellAt _ (by omega)]; exact hu
        have hfz : wr.frozen? ⟨w.heap.size, m - 1 - k, none⟩ = false := hown.frozenAt _
        have hst := hown.stored (m - 1 - k) (.int .u8 (v.toNat : Int))
        rw [hset] at hst
        have HST : Shut ((wr.setCell ⟨w.heap.size, m - 1 - k, none⟩ (.int .u8 (v.toNat : Int))).ownsRow w.heap.size 5 1 (.slice (some ⟨w.heap.size, 0, none⟩) m m) m (bytesOf (List.replicate (m - (k + 1)) 0 ++ (v :: beN k (u64of n))))) := ⟨hst.1⟩
        have HV : Shut (v = UInt8.ofNat (u64of n / 256 ^ k % 256)) := ⟨hv.symm⟩
        clear hst hset hu hv
        go_wp2
        go_roundw
        case rel => exact ⟨k + 1, by go_num, by omega, by rw [beN, ← HV.out]; exact HST.out, hb.setCell (Nat.le_refl _) _⟩
        case measure => simp [intOf]; omega
      · have hkm : m - k = 0 := by omega
        have hkm2 : k = m := by omega
        rw [hkm, List.replicate_zero, List.nil_append, hkm2, ← HF.out] at hown
        have hcv := own_string hown
        clear hkm hkm2
        go_wp2
        go_ret
        exact ⟨rfl, hb⟩

theorem byte_name (c : Nat) : ∃ v : UInt8, v = UInt8.ofNat (c % 256) ∧ (c : Int) % (256 : Int) = (v.toNat : Int) := ⟨_, rfl, by rw [u8_of (Nat.mod_lt _ (by decide))]; omega⟩
theorem wrap_div256 (c : Nat) (h : c < 18446744073709551616) : IntKind.u64.wrap ((c : Int) / (256 : Int)) = (c : Int) / (256 : Int) := by rw [u64_wrap]; omega
theorem u64_name (n : Int) : IntKind.u64.wrap n = (u64of n : Int) := by rw [u64_wrap]; unfold u64of; omega
theorem one_str (v : UInt8) (l : List UInt8) : (strOfNums [(v.toNat : Int)]) ++ (ByteArray.mk l.toArray) = ⟨(v :: l).toArray⟩ := by
  apply ba_ext
  simp [strOfNums, ByteArray.data_append]

set_option maxRecDepth 100000 in
set_option maxHeartbeats 400000 in
theorem rfixed_walk (n b : Int) (w : World) :
    Calls Try.prog 89 #[.int .i64 n, .int .i64 b] w fun e w' => e = .returned (.string ⟨(fixed n b).toArray⟩) ∧ Below w.heap.size w w' := by
  have hconv := fun (u : World) (x : Int) => run_string_new u [x] 1 rfl
  simp only [List.map_cons, List.map_nil] at hconv
  have hsz1 : ∀ x : Int, (strOfNums [x]).size = 1 := fun _ => rfl
  have e0 := u64_name n
  have hcl : Shut (u64of n < 18446744073709551616) := ⟨u64of_lt n⟩
  go_enter Try.func89, Try.ntmps89
  go_wp2
  clear e0
  go_loopw [5, 6, 7] (fun cv sv i wr => ∃ (k c : Nat) (l : List UInt8), i = .int .i64 k ∧ cv = .int .u64 c ∧ sv = .string ⟨l.toArray⟩ ∧ k ≤ 8 ∧ (k : Int) ≤ max b 0 ∧ Shut (c = u64of n / 256 ^ k ∧ l = beN k (u64of n)) ∧ Below w.heap.size w wr) (fun _ _ i _ => 8 - (intOf i).toNat)
  case atStart => exact ⟨0, u64of n, [], rfl, rfl, rfl, by omega, by omega, ⟨by simp, rfl⟩, same w⟩
  case round =>
    obtain ⟨k, c, l, rfl, rfl, rfl, hk, hkb, HI, hb⟩ := hrel
    have hl8 : l.length ≤ 8 := by rw [HI.out.2, beN_len]; exact hk
    have hz := hb.size
    by_cases h1 : (k : Int) < b
    · by_cases h2 : k < 8
      · have hcs : c < 18446744073709551616 := by rw [HI.out.1]; exact Nat.lt_of_le_of_lt (Nat.div_le_self _ _) hcl.out
        have ew := wrap_div256 c hcs
        obtain ⟨v, hv, e3⟩ := byte_name c
        have HV : Shut (c / 256 = u64of n / 256 ^ (k + 1) ∧ v :: l = beN (k + 1) (u64of n)) := ⟨by rw [HI.out.1, Nat.div_div_eq_div_mul, Nat.pow_succ], by rw [beN, hv, HI.out.1, HI.out.2]⟩
        have e4 := one_str v l
        clear hv hcs
        go_wp2
        go_roundw
        case rel => exact ⟨k + 1, c / 256, v :: l, by go_num, vint (by omega), rfl, by omega, by omega, HV, newer hb _⟩
        case measure => simp [intOf]; omega
      · have HF : Shut (fixed n b = l) := ⟨by rw [HI.out.2]; unfold fixed; congr 1; omega⟩
        go_wp2
        go_ret
        exact ⟨by rw [HF.out]; rfl, hb⟩
    · have HF : Shut (fixed n b = l) := ⟨by rw [HI.out.2]; unfold fixed; congr 1; omega⟩
      go_wp2
      go_ret
      exact ⟨by rw [HF.out]; rfl, hb⟩

theorem shl_name (c b k : Nat) (hc : c < 256 ^ k) (hk : k ≤ 7) (hb : b < 256) : ∃ d : Nat, d = c * 256 + b ∧ d < 256 ^ (k + 1) ∧
    bits .or .u64 (IntKind.u64.wrap ((c : Int) * (256 : Int))) (b : Int) = (d : Int) ∧ IntKind.u64.wrap (IntKind.u64.wrap ((c : Int) * (256 : Int)) + (b : Int)) = (d : Int) := by
  have h7 : (256 : Nat) ^ k ≤ 256 ^ 7 := Nat.pow_le_pow_right (by decide) hk
  have e : IntKind.u64.wrap ((c : Int) * (256 : Int)) = ((c * 256 : Nat) : Int) := by rw [u64_wrap]; omega
  refine ⟨_, rfl, by rw [Nat.pow_succ]; omega, ?_, ?_⟩
  · rw [e, u64_or_nat _ _ (by omega) (by omega)]
    congr 1
    rw [Nat.mul_comm]
    exact (Nat.two_pow_add_eq_or_of_lt (i := 8) hb c).symm
  · rw [e, u64_wrap]; omega

set_option maxRecDepth 100000 in
set_option maxHeartbeats 400000 in
theorem read_walk (s : ByteArray) (hs : s.size ≤ maxLen) (w : World) :
    Calls Try.prog 57 #[.string s] w fun e w' => e = .returned (.int .i64 (readI s.data.toList)) ∧ w = w' := by
  unfold maxLen at hs
  by_cases h8 : 8 < s.size
  all_goals
    go_enter Try.func57, Try.ntmps57
    go_wp2
    go_loop [3, 8] (fun cv i => ∃ k c : Nat, i = .int .i64 k ∧ cv = .int .u64 c ∧ k ≤ s.size ∧ k ≤ 8 ∧ Shut (c = rd (s.data.toList.take k) ∧ c < 256 ^ k)) (fun _ i => 8 - (intOf i).toNat)
    case atStart => exact ⟨0, 0, rfl, rfl, by omega, by omega, ⟨by simp [rd], by decide⟩⟩
    case round =>
      obtain ⟨k, c, rfl, rfl, hk, hk8, HI⟩ := hrel
      by_cases hlt : k < s.size ∧ k < 8
      · obtain ⟨hlt, hlt8⟩ := hlt
        have hbl := s[k].toNat_lt
        obtain ⟨d, hd, hdl, e3, _⟩ := shl_name c s[k].toNat k HI.out.2 (by omega) hbl
        have HD : Shut (d = rd (s.data.toList.take (k + 1)) ∧ d < 256 ^ (k + 1)) := ⟨by rw [take_at s k hlt, rd_snoc, ← HI.out.1, hd], hdl⟩
        clear hd hdl
        go_wp2
        go_round
        case rel => exact ⟨k + 1, d, by go_num, rfl, by omega, by omega, HD⟩
        case measure => simp [intOf]; omega
      · have HF : Shut (readI s.data.toList = wrap64 (c : Int)) := ⟨by
          unfold readI
          rw [HI.out.1]
          by_cases h : k = 8
          · rw [h]
          · rw [List.take_of_length_le (by simp; omega), List.take_of_length_le (by simp; omega)]⟩
        have hge : (s.size ≤ k ∧ s.size ≤ 8) ∨ (8 ≤ k ∧ 8 < s.size) := by omega
        clear hlt
        rcases hge with ⟨g1, g2⟩ | ⟨g1, g2⟩
        all_goals
          first
            | (exfalso; omega)
            | (go_wp2
               go_ret
               exact ⟨ret_int HF.out.symm, rfl⟩)
end Go.Proofs.Ythkjodlddhdeiaa.oct
