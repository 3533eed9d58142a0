/- The walks of package crc: what its functions compute. -/
import Derived.Test.YthkjodlddhdeiaaRows
import Derived.Test.YthkjodlddhdeiaaCrcPlain
import Derived.WalkKit
import Derived.ProofKit
import Derived.OpenShut
import Derived.Lib.Hide
import Derived.Laws.CopyOwn
import Derived.Deep.WholeRow
namespace Go.Proofs.Ythkjodlddhdeiaa.crc
open Go.ChangeShapes Go.WideShapes Go.ChangeAt Go.RowKit

theorem take_snoc (s : ByteArray) (k : Nat) (h : k < s.size) : s.data.toList.take (k + 1) = s.data.toList.take k ++ [s[k]] := by
  rw [List.take_succ_eq_append_getElem (by simpa using h)]; rfl
theorem ret_u32 {a b : Int} (h : a = b) : Ending.returned (.int .u32 a) = .returned (.int .u32 b) := by rw [h]

set_option maxHeartbeats 400000 in
theorem on_walk (b : Nat) (c : BitVec 32) (s : ByteArray) (w : World) (hs : s.size ≤ maxLen)
    (ht : ∀ i, i < 16 → w.cell? ⟨b, i, none⟩ = some (.int .u32 ((tab i).toNat : Int))) :
    Calls Try.prog 109 #[.pointer (some ⟨b, 0, none⟩), .int .u32 (c.toNat : Int), .string s] w
      fun e w' => e = .returned (.int .u32 ((on c s.data.toList).toNat : Int)) ∧ w = w' := by
  unfold maxLen at hs
  have HT := Lib.hid ht
  clear ht
  go_enter Try.func109, Try.ntmps109
  go_wp2
  go_loop [1, 10] (fun n i => ∃ k : Nat, k ≤ s.size ∧ i = .int .i64 k ∧ n = .int .u32 ((on c (s.data.toList.take k)).toNat : Int)) (fun _ i => s.size - (intOf i).toNat)
  case atStart => exact ⟨0, Nat.zero_le _, rfl, rfl⟩
  case round =>
    obtain ⟨k, hk, rfl, rfl⟩ := hrel
    by_cases hlt : k < s.size
    · have hsn : on c (s.data.toList.take (k + 1)) = byteOn (on c (s.data.toList.take k)) s[k] := by rw [take_snoc s k hlt, on_snoc]
      generalize hd : on c (s.data.toList.take k) = d at hsn
      have HS := Lib.hid hsn
      clear hsn hd
      obtain ⟨x, y, z, t1, t2, i, j, hi, hj, ht1, ht2, hz, e1, e2, e3, e4, e5⟩ := round_names d s[k]
      have hc1 := HT.out i hi
      have hc2 := HT.out j hj
      rw [← ht1] at hc1
      rw [← ht2] at hc2
      have HZ := Lib.hid hz
      clear hz ht1 ht2
      have b0 := d.isLt
      have b1 := x.isLt
      have b2 := y.isLt
      have b3 := z.isLt
      go_wp2
      go_round
      case rel => exact ⟨k + 1, by omega, by go_num, by rw [HS.out, HZ.out]⟩
      case measure => simp [intOf]; omega
    · go_wp2
      go_ret
      exact ⟨ret_u32 (by rw [List.take_of_length_le (by simp; omega)]), rfl⟩
/-- the table as it stands behind k rounds of 'halves' -/
def part (k : Nat) : Array Value := ((List.range 16).map fun i => Value.int .u32 (if i < k then ((tab i).toNat : Int) else 0)).toArray
theorem part_zero : part 0 = #[.int .u32 0, .int .u32 0, .int .u32 0, .int .u32 0, .int .u32 0, .int .u32 0, .int .u32 0, .int .u32 0, .int .u32 0, .int .u32 0, .int .u32 0, .int .u32 0, .int .u32 0, .int .u32 0, .int .u32 0, .int .u32 0] := by
  simp [part, List.range, List.range.loop]
theorem part_set (k : Nat) (hk : k < 16) : (part k).setIfInBounds k (.int .u32 ((tab k).toNat : Int)) = part (k + 1) := by
  apply Array.ext_getElem?
  intro i
  rw [Array.getElem?_setIfInBounds]
  unfold part
  simp only [List.size_toArray, List.length_map, List.length_range, List.getElem?_toArray, List.getElem?_map]
  by_cases hi : i < 16
  · rw [List.getElem?_range hi]
    by_cases he : k = i
    · subst he; simp [hk]
    · simp only [he, if_false, Option.map_some]
      by_cases h2 : i < k
      · rw [if_pos h2, if_pos (by omega)]
      · rw [if_neg h2, if_neg (by omega)]
  · have hn : (List.range 16)[i]? = none := by simp; omega
    rw [hn, if_neg (by omega)]
    rfl
theorem part_at (k : Nat) (hk : k < 16) : (part k)[k]? = some (.int .u32 0) := by
  unfold part
  simp only [List.getElem?_toArray, List.getElem?_map]
  rw [List.getElem?_range hk]
  simp
theorem part_full : part 16 = #[.int .u32 ((tab 0).toNat : Int), .int .u32 ((tab 1).toNat : Int), .int .u32 ((tab 2).toNat : Int), .int .u32 ((tab 3).toNat : Int), .int .u32 ((tab 4).toNat : Int), .int .u32 ((tab 5).toNat : Int), .int .u32 ((tab 6).toNat : Int), .int .u32 ((tab 7).toNat : Int), .int .u32 ((tab 8).toNat : Int), .int .u32 ((tab 9).toNat : Int), .int .u32 ((tab 10).toNat : Int), .int .u32 ((tab 11).toNat : Int), .int .u32 ((tab 12).toNat : Int), .int .u32 ((tab 13).toNat : Int), .int .u32 ((tab 14).toNat : Int), .int .u32 ((tab 15).toNat : Int)] := by
  simp [part, List.range, List.range.loop]
theorem part_get (i : Nat) (hi : i < 16) : (part 16)[i]? = some (.int .u32 ((tab i).toNat : Int)) := by
  unfold part
  simp only [List.getElem?_toArray, List.getElem?_map]
  rw [List.getElem?_range hi]
  simp [hi]

theorem part_size (k : Nat) : (part k).size = 16 := by simp [part]
theorem part_info {k : Nat} : (Try.prog.info? 149).map (·.size) = some (part k).size := by rw [part_size]; kernel_rfl
theorem part_one (k : Nat) : (part k).all (·.oneCell') = true := by
  unfold part
  rw [List.all_toArray, List.all_map]
  exact List.all_eq_true.2 (fun _ _ => rfl)
set_option maxHeartbeats 400000 in
theorem halves_walk (w : World) :
    Calls Try.prog 108 #[] w fun e w' => e = .returned (.agg (part 16)) ∧ Below w.heap.size w w' := by
  go_enter Try.func108, Try.ntmps108
  go_wp2
  go_loopw [2, 3, 4] (fun _ _ i wr => ∃ k : Nat, k ≤ 16 ∧ i = .int .i64 k ∧ wr = (w.alloc (.cells (part 0) 149)).alloc (.cells (part k) 149)) (fun _ _ i _ => 16 - (intOf i).toNat)
  case atStart => exact ⟨0, Nat.zero_le _, rfl, by rw [part_zero]⟩
  case round =>
    obtain ⟨k, hk, rfl, rfl⟩ := hrel
    by_cases hlt : k < 16
    · have hp := Lib.hid (part_set k hlt)
      go_wp2
      go_loop [3, 9] (fun c i => ∃ j : Nat, j ≤ 4 ∧ i = .int .i64 j ∧ c = .int .u32 ((sts j (BitVec.ofNat 32 k)).toNat : Int)) (fun _ i => 4 - (intOf i).toNat)
      case atStart => exact ⟨0, Nat.zero_le _, rfl, by simp only [sts, BitVec.toNat_ofNat]; congr 1; omega⟩
      case round =>
        obtain ⟨j, hj, rfl, rfl⟩ := hrel
        by_cases hlt2 : j < 4
        · have hw := Lib.hid (walk_st (sts j (BitVec.ofNat 32 k)))
          have hb := (sts j (BitVec.ofNat 32 k)).isLt
          generalize hd : sts j (BitVec.ofNat 32 k) = d at hw hb
          have HD := Lib.hid hd
          clear hd
          go_wp2
          go_round
          case rel => exact ⟨j + 1, by omega, by go_num, by rw [hw.out, ← HD.out]; rfl⟩
          case measure => simp [intOf]; omega
        · obtain rfl : j = 4 := by omega
          have hat := part_at k hlt
          go_wp2
          go_roundw
          case rel => exact ⟨k + 1, by omega, by go_num, by rw [← hp.out]; rfl⟩
          case measure => simp [intOf]; omega
    · obtain rfl : k = 16 := by omega
      generalize hW : (w.alloc (.cells (part 0) 149)).alloc (.cells (part 16) 149) = W
      have h1 : W.heap[w.heap.size + 1]? = some (.cells (part 16) 149 (0, 0)) := by rw [← hW]; exact heap_alloc2_new ..
      have h0 : W.heap[w.heap.size]? = some (.cells (part 0) 149 (0, 0)) := by rw [← hW]; exact heap_alloc2_old ..
      have hB : Below w.heap.size w W := by rw [← hW]; exact ((Below.refl _ _).alloc (Nat.le_refl _) _).alloc (by simp) _
      have H1 := Lib.hid h1
      have H0 := Lib.hid h0
      clear h1 h0 hW
      go_wp2_with (first | (refine wpList_load_row rfl 149 _ rfl _ rfl _ _ _ _ H1.out Try.underlying149 rfl part_info ?_) | (refine wpList_store_row rfl 149 _ _ rfl _ _ rfl rfl _ _ H0.out part_info (by rw [part_size, part_size]) (part_one 16) ?_))
      refine bodyPost_ret (v := .agg (part 16)) (results_cell_row rfl _ _ _ 149 _ (0, 0) _ rfl (setRow_heap _ _ _ _ _ _ H0.out) Try.underlying149 rfl part_info) rfl ⟨rfl, ?_⟩
      exact below_setRow hB (Nat.le_refl _) _
/-- strings lie in a block, from its head on -/
def StrsAt (w : World) (b : Nat) (ss : List ByteArray) : Prop := ∀ i s, ss[i]? = some s → w.cell? ⟨b, i, none⟩ = some (.string s)
theorem ret_i64 {a b : Int} (h : a = b) : Ending.returned (.int .i64 a) = .returned (.int .i64 b) := by rw [h]

set_option maxHeartbeats 400000 in
theorem sum_walk (b : Nat) (ss : List ByteArray) (w : World) (hb : b < w.heap.size) (hl : ss.length ≤ maxLen) (hs : ∀ s ∈ ss, s.size ≤ maxLen) (ht : StrsAt w b ss) :
    Calls Try.prog 88 #[.slice (some ⟨b, 0, none⟩) ss.length ss.length] w
      fun e w' => e = .returned (.int .i64 ((sumL ss).toNat : Int)) ∧ Below w.heap.size w w' := by
  unfold maxLen at hl
  have HT := Lib.hid ht
  have HS := Lib.hid hs
  clear ht hs
  go_enter Try.func88, Try.ntmps88
  go_wp2_with fail
  refine (halves_walk _).mono ?_
  rintro e w1 ⟨rfl, hb1⟩
  go_wp2_with (refine wpList_store_row rfl 149 _ _ rfl _ _ rfl rfl _ _ (heap_alloc_new _ _) part_info (by rw [part_size]; rfl) (part_one 16) ?_)
  rw [World.setRow_alloc_new]
  generalize hW : w1.alloc (.cells (part 16) 149) = W
  have hB : Below w.heap.size w W := by rw [← hW]; exact hb1.alloc hb1.size _
  have hT : ∀ i, i < 16 → W.cell? ⟨w1.heap.size, i, none⟩ = some (.int .u32 ((tab i).toNat : Int)) := fun i hi => by
    rw [← hW, cell_of_row _ _ i _ _ _ (heap_alloc_new _ _), part_get i hi]
  have hC : StrsAt W b ss := fun i s hi => by rw [hB.cell (p := ⟨b, i, none⟩) hb]; exact HT.out i s hi
  have HTAB := Lib.hid hT
  have HSTR := Lib.hid hC
  clear hT hC hW
  go_loop [4, 10] (fun n i => ∃ k : Nat, k ≤ ss.length ∧ i = .int .i64 k ∧ n = .int .u32 ((onL ones (ss.take k)).toNat : Int)) (fun _ i => ss.length - (intOf i).toNat)
  case atStart => exact ⟨0, Nat.zero_le _, rfl, rfl⟩
  case round =>
    obtain ⟨k, hk, rfl, rfl⟩ := hrel
    by_cases hlt : k < ss.length
    · have hc := HSTR.out k ss[k] (List.getElem?_eq_getElem hlt)
      have hsz := HS.out ss[k] (List.getElem_mem hlt)
      have hsn : onL ones (ss.take (k + 1)) = on (onL ones (ss.take k)) ss[k].data.toList := by rw [List.take_succ_eq_append_getElem hlt, onL_snoc]
      generalize onL ones (ss.take k) = d at hsn
      have HSN := Lib.hid hsn
      clear hsn
      generalize ss[k] = s at hc hsz HSN
      go_wp2_with fail
      refine (on_walk _ d s _ hsz HTAB.out).mono ?_
      rintro e w' ⟨rfl, rfl⟩
      go_wp2
      go_round
      case rel => exact ⟨k + 1, by omega, by go_num, by rw [HSN.out]⟩
      case measure => simp [intOf]; omega
    · have hfin : onL ones (ss.take k) = onL ones ss := by rw [List.take_of_length_le (by omega)]
      generalize onL ones (ss.take k) = d at hfin
      have HF := Lib.hid hfin
      obtain ⟨z, hz, hx⟩ := xor_ones' d
      have hzl := z.isLt
      have HZ := Lib.hid hz
      clear hfin hz
      go_wp2
      go_ret
      exact ⟨ret_i64 (by unfold sumL; rw [← HF.out, HZ.out]), hB⟩
set_option maxHeartbeats 400000 in
theorem sum_nil_walk (w : World) :
    Calls Try.prog 88 #[.slice none 0 0] w
      fun e w' => e = .returned (.int .i64 0) ∧ Below w.heap.size w w' := by
  have e0 : bits .xor .u32 4294967295 4294967295 = 0 := by decide
  go_enter Try.func88, Try.ntmps88
  go_wp2_with fail
  refine (halves_walk _).mono ?_
  rintro e w1 ⟨rfl, hb1⟩
  go_wp2_with (refine wpList_store_row rfl 149 _ _ rfl _ _ rfl rfl _ _ (heap_alloc_new _ _) part_info (by rw [part_size]; rfl) (part_one 16) ?_)
  rw [World.setRow_alloc_new]
  generalize hW : w1.alloc (.cells (part 16) 149) = W
  have hB : Below w.heap.size w W := by rw [← hW]; exact hb1.alloc hb1.size _
  clear hW
  refine wp_loop_once ?_
  go_wp2
  go_ret
  exact ⟨rfl, hB⟩

set_option maxHeartbeats 400000 in
theorem rbytes_walk (c : BitVec 32) (s : ByteArray) (w : World) (hs : s.size ≤ maxLen) :
    Calls Try.prog 113 #[.int .u32 (c.toNat : Int), .string s] w
      fun e w' => e = .returned (.int .u32 ((on c s.data.toList).toNat : Int)) ∧ w = w' := by
  unfold maxLen at hs
  go_enter Try.func113, Try.ntmps113
  go_wp2
  go_loop [0, 5] (fun n i => ∃ k : Nat, k ≤ s.size ∧ i = .int .i64 k ∧ n = .int .u32 ((on c (s.data.toList.take k)).toNat : Int)) (fun _ i => s.size - (intOf i).toNat)
  case atStart => exact ⟨0, Nat.zero_le _, rfl, rfl⟩
  case round =>
    obtain ⟨k, hk, rfl, rfl⟩ := hrel
    by_cases hlt : k < s.size
    · have hsn : on c (s.data.toList.take (k + 1)) = byteOn (on c (s.data.toList.take k)) s[k] := by rw [take_snoc s k hlt, on_snoc]
      generalize on c (s.data.toList.take k) = d at hsn
      have HS := Lib.hid hsn
      clear hsn
      obtain ⟨x, hx, e1⟩ := round_name d s[k]
      have HX := Lib.hid hx
      clear hx
      have b0 := d.isLt
      have b1 := x.isLt
      go_wp2
      go_loop [0, 6] (fun n i => ∃ j : Nat, j ≤ 8 ∧ i = .int .i64 j ∧ n = .int .u32 ((sts j x).toNat : Int)) (fun _ i => 8 - (intOf i).toNat)
      case atStart => exact ⟨0, by omega, rfl, rfl⟩
      case round =>
        obtain ⟨j, hj, rfl, rfl⟩ := hrel
        by_cases hlt2 : j < 8
        · have hst : sts (j + 1) x = st (sts j x) := rfl
          generalize sts j x = y at hst
          have HT := Lib.hid hst
          clear hst
          have b2 := y.isLt
          by_cases hodd : ((y.toNat : Int) % 2 == 1) = true
          · have e2 := st_odd y hodd
            go_wp2
            go_round
            case rel => exact ⟨j + 1, by omega, by go_num, by rw [HT.out]⟩
            case measure => simp [intOf]; omega
          · have hev : ((y.toNat : Int) % 2 == 1) = false := by simpa using hodd
            have e2 := Lib.hid (st_even y hev)
            go_wp2
            go_round
            case rel => exact ⟨j + 1, by omega, by go_num, by rw [HT.out, e2.out]; rfl⟩
            case measure => simp [intOf]; omega
        · obtain rfl : j = 8 := by omega
          go_wp2
          go_round
          case rel => exact ⟨k + 1, by omega, by go_num, by rw [HS.out, byteOn, ← HX.out]⟩
          case measure => simp [intOf]; omega
    · go_wp2
      go_ret
      exact ⟨ret_u32 (by rw [List.take_of_length_le (by simp; omega)]), rfl⟩

set_option maxHeartbeats 400000 in
theorem rsum_walk (s : ByteArray) (w : World) (hs : s.size ≤ maxLen) :
    Calls Try.prog 110 #[.string s] w
      fun e w' => e = .returned (.int .i64 ((sum s.data.toList).toNat : Int)) ∧ w = w' := by
  go_enter Try.func110, Try.ntmps110
  go_wp2_with fail
  refine (rbytes_walk ones s _ hs).mono ?_
  rintro e w' ⟨rfl, rfl⟩
  have hsum : sum s.data.toList = on ones s.data.toList ^^^ ones := rfl
  generalize on ones s.data.toList = d at hsum
  obtain ⟨z, hz, hx⟩ := xor_ones' d
  rw [← hz] at hsum
  have hzl := z.isLt
  have HZ := Lib.hid hsum
  clear hsum hz
  go_wp2
  go_ret
  exact ⟨ret_i64 (by rw [HZ.out]), rfl⟩
end Go.Proofs.Ythkjodlddhdeiaa.crc
