/- The walk of octet.Text. -/
import Derived.Test.YtobdfocfkomagaaOctNum
namespace Go.Proofs.Ytobdfocfkomagaa.oct
open Go.ChangeShapes Go.WideShapes Go.ChangeAt Go.RowKit
open Ytobdfocfkomagaa.base (still drewnN rest_eq Shut size_mk ret_int ret_str ret_bool ba_ext run_string own_string run_string_new chain newer drewn same bytesOf bytesOf_one)

/-- a text's bytes -/
def text (l : List UInt8) : List UInt8 := num (l.length : Int) ++ l
theorem app_str (a : List UInt8) (s : ByteArray) : (ByteArray.mk a.toArray) ++ s = ⟨(a ++ s.data.toList).toArray⟩ := by
  apply ba_ext
  simp [ByteArray.data_append]

set_option maxRecDepth 100000 in
set_option maxHeartbeats 400000 in
theorem text_walk (s : ByteArray) (hs : s.size ≤ 4611686018427387904) (w : World) :
    Calls Try.prog 70 #[.string s] w fun e w' => e = .returned (.string ⟨(text s.data.toList).toArray⟩) ∧ Below w.heap.size w w' := by
  have hs' : s.size ≤ 2 ^ 62 := by omega
  have HN : Shut (text s.data.toList = num (s.size : Int) ++ s.data.toList) := ⟨by unfold text; simp⟩
  have hl := num_len (s.size : Int)
  go_enter Try.func70, Try.ntmps70
  clear hs
  go_wp2_with fail
  refine (num_walk (s.size : Int) (by omega) _).mono ?_
  rintro e w1 ⟨rfl, hb1⟩
  generalize num (s.size : Int) = l at hl HN
  go_wp2
  go_ret
  exact ⟨ret_str (by rw [HN.out, app_str]), hb1⟩
end Go.Proofs.Ytobdfocfkomagaa.oct
