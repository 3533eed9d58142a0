/- The walks of octet.Text and of 'lives' of the laws on octet. -/
import Derived.Test.YtbijdnleiojkdaaOctNum
import Derived.Test.YtbijdnleiojkdaaOctTake
import Derived.Test.YtbijdnleiojkdaaOctFix
namespace Go.Proofs.Ytbijdnleiojkdaa.oct
open Go.ChangeShapes Go.WideShapes Go.ChangeAt Go.RowKit
open Ytbijdnleiojkdaa.base (still drewnN rest_eq Shut size_mk ret_int ret_str ret_bool ba_ext run_string own_string run_string_new chain newer drewn same bytesOf bytesOf_one)

/-- a text's bytes -/
def text (l : List UInt8) : List UInt8 := num (l.length : Int) ++ l
theorem app_str (a : List UInt8) (s : ByteArray) : (ByteArray.mk a.toArray) ++ s = ⟨(a ++ s.data.toList).toArray⟩ := by
  apply ba_ext
  simp [ByteArray.data_append]

set_option maxRecDepth 100000 in
set_option maxHeartbeats 400000 in
theorem text_walk (s : ByteArray) (hs : s.size ≤ 4611686018427387904) (w : World) :
    Calls Try.prog 38 #[.string s] w fun e w' => e = .returned (.string ⟨(text s.data.toList).toArray⟩) ∧ Below w.heap.size w w' := by
  have hs' : s.size ≤ 2 ^ 62 := by omega
  have HN : Shut (text s.data.toList = num (s.size : Int) ++ s.data.toList) := ⟨by unfold text; simp⟩
  have hl := num_len (s.size : Int)
  go_enter Try.func38, Try.ntmps38
  clear hs
  go_wp2_with fail
  refine (num_walk (s.size : Int) (by omega) _).mono ?_
  rintro e w1 ⟨rfl, hb1⟩
  generalize num (s.size : Int) = l at hl HN
  go_wp2
  go_ret
  exact ⟨ret_str (by rw [HN.out, app_str]), hb1⟩

set_option maxRecDepth 100000 in
set_option maxHeartbeats 400000 in
theorem lives_walk (w : World) :
    Calls Try.prog 24 #[] w fun e w' => e = .returned (.bool true) ∧ Below w.heap.size w w' := by
  have E1 : Shut (take [128, 1, 120] = (64, [120], 0)) := ⟨by decide +kernel⟩
  have E2 : Shut (num 0 = [0]) := ⟨by decide +kernel⟩
  have E3 : Shut (num (-1) = [1]) := ⟨by decide +kernel⟩
  have E4 : Shut (num 1 = [2]) := ⟨by decide +kernel⟩
  have E5 : Shut (text [97, 98] = [4, 97, 98]) := ⟨by decide +kernel⟩
  have E6 : Shut (fixed 258 2 = [1, 2]) := ⟨by decide +kernel⟩
  go_enter Try.func24, Try.ntmps24
  go_wp2_with fail
  refine (take_walk ⟨#[128, 1, 120]⟩ (by unfold maxLen; show 3 ≤ _; omega) _).mono ?_
  rintro e w1 ⟨rfl, hb1⟩
  have h1 := E1.out
  simp only [h1]
  clear h1
  go_wp2_with fail
  refine (num_walk 0 (by omega) _).mono ?_
  rintro e w2 ⟨rfl, hb2⟩
  rw [E2.out]
  go_wp2_with fail
  refine (num_walk (-1) (by omega) _).mono ?_
  rintro e w3 ⟨rfl, hb3⟩
  rw [E3.out]
  go_wp2_with fail
  refine (num_walk 1 (by omega) _).mono ?_
  rintro e w4 ⟨rfl, hb4⟩
  rw [E4.out]
  go_wp2_with fail
  refine (text_walk ⟨#[97, 98]⟩ (by show 2 ≤ _; omega) _).mono ?_
  rintro e w5 ⟨rfl, hb5⟩
  have h5 := E5.out
  simp only [h5]
  clear h5
  go_wp2_with fail
  refine (fixed_walk 258 2 _).mono ?_
  rintro e w6 ⟨rfl, hb6⟩
  rw [E6.out]
  go_wp2
  go_ret
  exact ⟨rfl, chain hb1 (chain hb2 (chain hb3 (chain hb4 (chain hb5 hb6))))⟩
end Go.Proofs.Ytbijdnleiojkdaa.oct
