/- The walks of package crc, further on: More, Seal, Right, and the reference's. -/
import Derived.Test.YtbijdnleiojkdaaCrcWalk
import Derived.Test.YtbijdnleiojkdaaBase
namespace Go.Proofs.Ytbijdnleiojkdaa.crc
open Go.ChangeShapes Go.WideShapes Go.ChangeAt Go.RowKit
open Ytbijdnleiojkdaa.base (ret_str ret_bool ba_ext run_string_new)

set_option maxHeartbeats 400000 in
theorem more_walk (n : Int) (s : ByteArray) (w : World) (hs : s.size ≤ maxLen) :
    Calls Try.prog 26 #[.int .i64 n, .string s] w
      fun e w' => e = .returned (.int .i64 ((more n s.data.toList).toNat : Int)) ∧ Below w.heap.size w w' := by
  have hm : more n s.data.toList = on (BitVec.ofInt 32 n ^^^ ones) s.data.toList ^^^ ones := rfl
  obtain ⟨x, hx, e1⟩ := more_in n
  rw [← hx] at hm
  generalize hd : on x s.data.toList = d at hm
  obtain ⟨z, hz, hy⟩ := xor_ones' d
  rw [← hz] at hm
  have hzl := z.isLt
  have HM := Lib.hid hm
  have HD := Lib.hid hd
  clear hm hz hd hx
  go_enter Try.func26, Try.ntmps26
  go_wp2_with fail
  refine (halves_walk _).mono ?_
  rintro e w1 ⟨rfl, hb1⟩
  go_wp2_with (refine wpList_store_row rfl 58 _ _ rfl _ _ rfl rfl _ _ (heap_alloc_new _ _) part_info (by rw [part_size]; rfl) (part_one 16) ?_)
  rw [World.setRow_alloc_new]
  generalize hW : w1.alloc (.cells (part 16) 58) = W
  have hB : Below w.heap.size w W := by rw [← hW]; exact hb1.alloc hb1.size _
  have hT : ∀ i, i < 16 → W.cell? ⟨w1.heap.size, i, none⟩ = some (.int .u32 ((tab i).toNat : Int)) := fun i hi => by
    rw [← hW, cell_of_row _ _ i _ _ _ (heap_alloc_new _ _), part_get i hi]
  have HTAB := Lib.hid hT
  clear hT hW
  refine (on_walk _ x s _ hs HTAB.out).mono ?_
  rintro e w' ⟨rfl, rfl⟩
  rw [HD.out]
  go_wp2
  go_ret
  exact ⟨ret_i64 (by rw [HM.out]), hB⟩

set_option maxHeartbeats 400000 in
theorem rmore_walk (n : Int) (s : ByteArray) (w : World) (hs : s.size ≤ maxLen) :
    Calls Try.prog 27 #[.int .i64 n, .string s] w
      fun e w' => e = .returned (.int .i64 ((more n s.data.toList).toNat : Int)) ∧ w = w' := by
  have hm : more n s.data.toList = on (BitVec.ofInt 32 n ^^^ ones) s.data.toList ^^^ ones := rfl
  have e0 := u64_mod n
  obtain ⟨x, hx, e1⟩ := more_in n
  rw [← hx] at hm
  generalize hd : on x s.data.toList = d at hm
  obtain ⟨z, hz, hy⟩ := xor_ones' d
  rw [← hz] at hm
  have hzl := z.isLt
  have HM := Lib.hid hm
  have HD := Lib.hid hd
  clear hm hz hd hx
  go_enter Try.func27, Try.ntmps27
  go_wp2_with fail
  refine (rbytes_walk x s _ hs).mono ?_
  rintro e w' ⟨rfl, rfl⟩
  rw [HD.out]
  go_wp2
  go_ret
  exact ⟨ret_i64 (by rw [HM.out]), rfl⟩
def byte4 (z : BitVec 32) : List UInt8 := [UInt8.ofNat (z.toNat / 16777216), UInt8.ofNat (z.toNat / 65536), UInt8.ofNat (z.toNat / 256), UInt8.ofNat z.toNat]
def sealed (l : List UInt8) : List UInt8 := l ++ byte4 (sum l)
theorem u8_eq {a b : Nat} (h : a % 256 = b % 256) : UInt8.ofNat a = UInt8.ofNat b := by
  apply UInt8.toNat.inj
  simpa using h
set_option maxHeartbeats 400000 in
theorem seal_walk (s : ByteArray) (w : World) (hs : s.size ≤ 140737488351232) :
    Calls Try.prog 16 #[.string s] w
      fun e w' => e = .returned (.string ⟨(sealed s.data.toList).toArray⟩) ∧ Below w.heap.size w w' := by
  generalize hZ : sum s.data.toList = z
  have hzl := z.isLt
  have HZ := Lib.hid hZ
  clear hZ
  have hconv := fun (u : World) (n1 n2 n3 n4 : Int) => run_string_new u [n1, n2, n3, n4] 4 rfl
  simp only [List.map_cons, List.map_nil] at hconv
  have hsz4 : ∀ n1 n2 n3 n4 : Int, (strOfNums [n1, n2, n3, n4]).size = 4 := fun _ _ _ _ => rfl
  go_enter Try.func16, Try.ntmps16
  go_wp2_with fail
  refine (sum_walk _ [s] _ (by simp) (by unfold maxLen; simp) (by unfold maxLen; simp; omega) (fun i t h => ?_)).mono ?_
  · rw [cell_of_row _ _ _ _ _ _ (heap_alloc_new _ _)]
    match i, h with
    | 0, h => simp at h; subst h; rfl
  · rintro e w1 ⟨rfl, hb1⟩
    rw [sumL_one, HZ.out]
    go_wp2
    go_ret
    refine ⟨ret_str (ba_ext ?_), ?_⟩
    · simp [sealed, byte4, strOfNums, HZ.out]
      refine ⟨u8_eq ?_, u8_eq ?_, u8_eq ?_, u8_eq ?_⟩ <;> omega
    · exact (((Below.refl _ _).alloc (Nat.le_refl _) _).trans (hb1.mono (by simp))).alloc (by have := hb1.size; simp at this; omega) _

set_option maxHeartbeats 400000 in
theorem rseal_walk (s : ByteArray) (w : World) (hs : s.size ≤ 140737488351232) :
    Calls Try.prog 17 #[.string s] w
      fun e w' => e = .returned (.string ⟨(sealed s.data.toList).toArray⟩) ∧ Below w.heap.size w w' := by
  generalize hZ : sum s.data.toList = z
  have hzl := z.isLt
  have HZ := Lib.hid hZ
  clear hZ
  have hconv := fun (u : World) (n1 n2 n3 n4 : Int) => run_string_new u [n1, n2, n3, n4] 4 rfl
  simp only [List.map_cons, List.map_nil] at hconv
  have hsz4 : ∀ n1 n2 n3 n4 : Int, (strOfNums [n1, n2, n3, n4]).size = 4 := fun _ _ _ _ => rfl
  go_enter Try.func17, Try.ntmps17
  go_wp2_with fail
  refine (rsum_walk s _ (by unfold maxLen; omega)).mono ?_
  rintro e w1 ⟨rfl, rfl⟩
  rw [HZ.out]
  go_wp2
  go_ret
  refine ⟨ret_str (ba_ext ?_), ?_⟩
  · simp [sealed, byte4, strOfNums, HZ.out]
    refine ⟨u8_eq ?_, u8_eq ?_, u8_eq ?_, u8_eq ?_⟩ <;> omega
  · exact (Below.refl _ _).alloc (Nat.le_refl _) _

/-- is a text sealed? -/
def rightB (l : List UInt8) : Bool := decide (4 ≤ l.length) && (sealed (l.take (l.length - 4)) == l)
set_option maxHeartbeats 400000 in
theorem right_walk (s : ByteArray) (w : World) (hs : s.size ≤ 140737488351232) :
    Calls Try.prog 18 #[.string s] w
      fun e w' => e = .returned (.bool (rightB s.data.toList)) ∧ Below w.heap.size w w' := by
  have hl : s.data.toList.length = s.size := by simp
  by_cases h4 : 4 ≤ s.size
  · have hfin : rightB s.data.toList = (sealed (s.extract 0 (s.size - 4)).data.toList == s.data.toList) := by
      unfold rightB
      rw [hl, decide_eq_true h4, Bool.true_and]
      congr 2
      simp [ByteArray.data_extract, List.extract]
    have HF := Lib.hid hfin
    clear hfin hl
    go_enter Try.func18, Try.ntmps18
    go_wp2_with fail
    refine (seal_walk (s.extract 0 (s.size - 4)) _ (by rw [ByteArray.size_extract]; omega)).mono ?_
    rintro e w1 ⟨rfl, hb1⟩
    have hl := HF.out
    generalize sealed (s.extract 0 (s.size - 4)).data.toList = l at hl
    have HL := Lib.hid hl
    clear HF hl
    go_wp2
    go_ret
    exact ⟨ret_bool (by rw [HL.out, ByteArray.toList_eq]), hb1⟩
  · have hfin : rightB s.data.toList = false := by
      unfold rightB
      rw [hl, decide_eq_false h4, Bool.false_and]
    have HF := Lib.hid hfin
    clear hfin hl
    go_enter Try.func18, Try.ntmps18
    go_wp2
    go_ret
    exact ⟨ret_bool HF.out.symm, Below.refl _ _⟩

set_option maxHeartbeats 400000 in
theorem rright_walk (s : ByteArray) (w : World) (hs : s.size ≤ 140737488351232) :
    Calls Try.prog 19 #[.string s] w
      fun e w' => e = .returned (.bool (rightB s.data.toList)) ∧ Below w.heap.size w w' := by
  have hl : s.data.toList.length = s.size := by simp
  by_cases h4 : 4 ≤ s.size
  · have hfin : rightB s.data.toList = (sealed (s.extract 0 (s.size - 4)).data.toList == s.data.toList) := by
      unfold rightB
      rw [hl, decide_eq_true h4, Bool.true_and]
      congr 2
      simp [ByteArray.data_extract, List.extract]
    have HF := Lib.hid hfin
    clear hfin hl
    go_enter Try.func19, Try.ntmps19
    go_wp2_with fail
    refine (rseal_walk (s.extract 0 (s.size - 4)) _ (by rw [ByteArray.size_extract]; omega)).mono ?_
    rintro e w1 ⟨rfl, hb1⟩
    have hl := HF.out
    generalize sealed (s.extract 0 (s.size - 4)).data.toList = l at hl
    have HL := Lib.hid hl
    clear HF hl
    go_wp2
    go_ret
    exact ⟨ret_bool (by rw [HL.out, ByteArray.toList_eq]), hb1⟩
  · have hfin : rightB s.data.toList = false := by
      unfold rightB
      rw [hl, decide_eq_false h4, Bool.false_and]
    have HF := Lib.hid hfin
    clear hfin hl
    go_enter Try.func19, Try.ntmps19
    go_wp2
    go_ret
    exact ⟨ret_bool HF.out.symm, Below.refl _ _⟩
end Go.Proofs.Ytbijdnleiojkdaa.crc
