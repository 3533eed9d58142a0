/- The walks of package crc, further on: More, Seal, Right, and the reference's. -/
import Derived.Test.YthkjodlddhdeiaaCrcWalk
import Derived.Test.YthkjodlddhdeiaaBase
namespace Go.Proofs.Ythkjodlddhdeiaa.crc
open Go.ChangeShapes Go.WideShapes Go.ChangeAt Go.RowKit
open Ythkjodlddhdeiaa.base (ret_str ret_bool ba_ext run_string_new)

def byte4 (z : BitVec 32) : List UInt8 := [UInt8.ofNat (z.toNat / 16777216), UInt8.ofNat (z.toNat / 65536), UInt8.ofNat (z.toNat / 256), UInt8.ofNat z.toNat]
def sealed (l : List UInt8) : List UInt8 := l ++ byte4 (sum l)
theorem u8_eq {a b : Nat} (h : a % 256 = b % 256) : UInt8.ofNat a = UInt8.ofNat b := by
  apply UInt8.toNat.inj
  simpa using h
set_option maxHeartbeats 400000 in
theorem seal_walk (s : ByteArray) (w : World) (hs : s.size ≤ 140737488351232) :
    Calls Try.prog 53 #[.string s] w
      fun e w' => e = .returned (.string ⟨(sealed s.data.toList).toArray⟩) ∧ Below w.heap.size w w' := by
  generalize hZ : sum s.data.toList = z
  have hzl := z.isLt
  have HZ := Lib.hid hZ
  clear hZ
  have hconv := fun (u : World) (n1 n2 n3 n4 : Int) => run_string_new u [n1, n2, n3, n4] 4 rfl
  simp only [List.map_cons, List.map_nil] at hconv
  have hsz4 : ∀ n1 n2 n3 n4 : Int, (strOfNums [n1, n2, n3, n4]).size = 4 := fun _ _ _ _ => rfl
  go_enter Try.func53, Try.ntmps53
  go_wp2_with fail
  refine (sum_walk _ [s] _ (by simp) (by unfold maxLen; simp) (by unfold maxLen; simp; omega) (fun i t h => ?_)).mono ?_
  · rw [cell_of_row _ _ _ _ _ _ (heap_alloc_new _ _)]
    match i, h with
    | 0, h => simp at h; subst h; rfl
  · rintro e w1 ⟨rfl, hb1⟩
    rw [sumL_one, HZ.out]
    go_wp2
    go_ret
    refine ⟨ret_str (ba_ext ?_), ?_⟩
    · simp [sealed, byte4, strOfNums, HZ.out]
      refine ⟨u8_eq ?_, u8_eq ?_, u8_eq ?_, u8_eq ?_⟩ <;> omega
    · exact (((Below.refl _ _).alloc (Nat.le_refl _) _).trans (hb1.mono (by simp))).alloc (by have := hb1.size; simp at this; omega) _

set_option maxHeartbeats 400000 in
theorem rseal_walk (s : ByteArray) (w : World) (hs : s.size ≤ 140737488351232) :
    Calls Try.prog 91 #[.string s] w
      fun e w' => e = .returned (.string ⟨(sealed s.data.toList).toArray⟩) ∧ Below w.heap.size w w' := by
  generalize hZ : sum s.data.toList = z
  have hzl := z.isLt
  have HZ := Lib.hid hZ
  clear hZ
  have hconv := fun (u : World) (n1 n2 n3 n4 : Int) => run_string_new u [n1, n2, n3, n4] 4 rfl
  simp only [List.map_cons, List.map_nil] at hconv
  have hsz4 : ∀ n1 n2 n3 n4 : Int, (strOfNums [n1, n2, n3, n4]).size = 4 := fun _ _ _ _ => rfl
  go_enter Try.func91, Try.ntmps91
  go_wp2_with fail
  refine (rsum_walk s _ (by unfold maxLen; omega)).mono ?_
  rintro e w1 ⟨rfl, rfl⟩
  rw [HZ.out]
  go_wp2
  go_ret
  refine ⟨ret_str (ba_ext ?_), ?_⟩
  · simp [sealed, byte4, strOfNums, HZ.out]
    refine ⟨u8_eq ?_, u8_eq ?_, u8_eq ?_, u8_eq ?_⟩ <;> omega
  · exact (Below.refl _ _).alloc (Nat.le_refl _) _

/-- is a text sealed? -/
def rightB (l : List UInt8) : Bool := decide (4 ≤ l.length) && (sealed (l.take (l.length - 4)) == l)
set_option maxHeartbeats 400000 in
theorem right_walk (s : ByteArray) (w : World) (hs : s.size ≤ 140737488351232) :
    Calls Try.prog 56 #[.string s] w
      fun e w' => e = .returned (.bool (rightB s.data.toList)) ∧ Below w.heap.size w w' := by
  have hl : s.data.toList.length = s.size := by simp
  by_cases h4 : 4 ≤ s.size
  · have hfin : rightB s.data.toList = (sealed (s.extract 0 (s.size - 4)).data.toList == s.data.toList) := by
      unfold rightB
      rw [hl, decide_eq_true h4, Bool.true_and]
      congr 2
      simp [ByteArray.data_extract, List.extract]
    have HF := Lib.hid hfin
    clear hfin hl
    go_enter Try.func56, Try.ntmps56
    go_wp2_with fail
    refine (seal_walk (s.extract 0 (s.size - 4)) _ (by rw [ByteArray.size_extract]; omega)).mono ?_
    rintro e w1 ⟨rfl, hb1⟩
    have hl := HF.out
    generalize sealed (s.extract 0 (s.size - 4)).data.toList = l at hl
    have HL := Lib.hid hl
    clear HF hl
    go_wp2
    go_ret
    exact ⟨ret_bool (by rw [HL.out, ByteArray.toList_eq]), hb1⟩
  · have hfin : rightB s.data.toList = false := by
      unfold rightB
      rw [hl, decide_eq_false h4, Bool.false_and]
    have HF := Lib.hid hfin
    clear hfin hl
    go_enter Try.func56, Try.ntmps56
    go_wp2
    go_ret
    exact ⟨ret_bool HF.out.symm, Below.refl _ _⟩
end Go.Proofs.Ythkjodlddhdeiaa.crc
