/- The walks of seal.Halves, blank and Take. -/
import Derived.Test.YthkjodlddhdeiaaSealRef
namespace Go.Proofs.Ythkjodlddhdeiaa.seal
open Go.ChangeShapes Go.WideShapes Go.ChangeAt Go.RowKit
open Ythkjodlddhdeiaa.base
open Ythkjodlddhdeiaa.oct (fixed readI read_walk rd rd_lt)
open Ythkjodlddhdeiaa.crc (sealed right_walk rightB)

def halvesL (l : List UInt8) : Int × Int := if l.length = 512 then (readI (l.take 8), readI ((l.drop 256).take 8)) else (0, 0)
theorem ext_list (s : ByteArray) (i j : Nat) : (s.extract i j).data.toList = (s.data.toList.drop i).take (j - i) := by
  simp [ByteArray.data_extract, List.extract]
theorem ext_list0 (s : ByteArray) (j : Nat) : (s.extract 0 j).data.toList = s.data.toList.take j := by
  rw [ext_list]; simp

set_option maxRecDepth 100000 in
set_option maxHeartbeats 400000 in
theorem halves_walk (s : ByteArray) (w : World) :
    Calls Try.prog 19 #[.string s] w fun e w' => e = .returned (.tuple #[.int .i64 (halvesL s.data.toList).1, .int .i64 (halvesL s.data.toList).2]) ∧ ∃ m, w' = w.drewN m := by
  have hl : s.data.toList.length = s.size := by simp
  by_cases h : s.size = 512
  · have HF : Shut (halvesL s.data.toList = (readI (s.extract 0 8).data.toList, readI (s.extract 256 264).data.toList)) := ⟨by
      unfold halvesL; rw [if_pos (by omega), ext_list, ext_list]; simp⟩
    rw [HF.out]
    clear HF hl
    have b1 : (s.extract 0 8).size ≤ maxLen := by rw [ByteArray.size_extract]; unfold maxLen; omega
    have b2 : (s.extract 256 264).size ≤ maxLen := by rw [ByteArray.size_extract]; unfold maxLen; omega
    have B1 := Shut.mk b1
    have B2 := Shut.mk b2
    clear b1 b2
    go_enter Try.func19, Try.ntmps19
    go_wp2
    go_quiet ((go_at_call 57; refine still (read_walk _ ?_ _); (first | with_reducible exact B1.out | with_reducible exact B2.out)))
    go_wp2
    go_ret2
    exact ⟨rfl, _, rfl⟩
  · have HF : Shut (halvesL s.data.toList = (0, 0)) := ⟨by unfold halvesL; rw [if_neg (by omega)]⟩
    rw [HF.out]
    clear HF hl
    have h2 : s.size < 512 ∨ 512 < s.size := by omega
    have h3 : ¬ (s.size : Int) = 512 := by omega
    clear h h2
    go_enter Try.func19, Try.ntmps19
    go_wp2
    go_ret2
    exact ⟨rfl, 0, rfl⟩

def blankL (l : List UInt8) : Bool := l.all (· == 0)
theorem blank_no (l : List UInt8) (k : Nat) (c : UInt8) (h : l[k]? = some c) (hc : c ≠ 0) : blankL l = false := by
  unfold blankL
  rw [List.all_eq_false]
  exact ⟨c, List.mem_of_getElem? h, by simpa using hc⟩

set_option maxRecDepth 100000 in
set_option maxHeartbeats 400000 in
theorem blank_walk (s : ByteArray) (hs : s.size ≤ maxLen) (w : World) :
    Calls Try.prog 55 #[.string s] w fun e w' => e = .returned (.bool (blankL s.data.toList)) ∧ w = w' := by
  unfold maxLen at hs
  go_enter Try.func55, Try.ntmps55
  go_wp2
  go_loop [6] (fun i => ∃ k : Nat, i = .int .i64 k ∧ k ≤ s.size ∧ Shut (blankL (s.data.toList.take k) = true)) (fun i => s.size - (intOf i).toNat)
  case atStart => exact ⟨0, rfl, by omega, ⟨rfl⟩⟩
  case round =>
    obtain ⟨k, rfl, hk, HI⟩ := hrel
    by_cases hlt : k < s.size
    · have hget : s.data.toList[k]? = some s[k] := by rw [List.getElem?_eq_getElem (by simp; exact hlt)]; simp; rfl
      by_cases hc : s[k] = 0
      · have HN : Shut (blankL (s.data.toList.take (k + 1)) = true) := ⟨by
          unfold blankL at HI ⊢
          rw [List.take_add_one, hget, List.all_append, HI.out]
          simp [hc]⟩
        have hc2 : s[k].toNat = 0 := by rw [hc]; rfl
        clear hget hc
        go_wp2
        go_round
        case rel => exact ⟨k + 1, by go_num, by omega, HN⟩
        case measure => simp [intOf]; omega
      · have HF : Shut (blankL s.data.toList = false) := ⟨blank_no _ k _ hget hc⟩
        have hc2 : ¬ s[k].toNat = 0 := fun h => hc (UInt8.toNat.inj h)
        clear hget hc
        go_wp2
        go_ret
        exact ⟨ret_bool HF.out.symm, rfl⟩
    · have HF : Shut (blankL s.data.toList = true) := ⟨by rw [← HI.out, List.take_of_length_le (by simp; omega)]⟩
      go_wp2
      go_ret
      exact ⟨ret_bool HF.out.symm, rfl⟩

/-- the text that a block tells, were it right -/
def textL (l : List UInt8) : List UInt8 := ((l.drop 10).take 246 ++ (l.drop 264).take 244).take (readI ((l.drop 8).take 2)).toNat
def takeOk (l : List UInt8) : Prop :=
  (halvesL l).1 = (halvesL l).2 ∧ rightB l = true ∧ readI ((l.drop 8).take 2) ≤ 490 ∧ putE (halvesL l).1 (textL l).length = 0 ∧ putL (halvesL l).1 (textL l) = l
instance (l : List UInt8) : Decidable (takeOk l) := by unfold takeOk; infer_instance
def takeE (l : List UInt8) : Int :=
  if l.length = 512 then (if blankL l = true then 6 else if (halvesL l).1 = (halvesL l).2 then (if takeOk l then 0 else 9) else 10) else 4
def takeN (l : List UInt8) : Int := if takeE l = 0 then (halvesL l).1 else 0
def takeS (l : List UInt8) : List UInt8 := if takeE l = 0 then textL l else []
theorem take_fails (l : List UInt8) (e : Int) (h : takeE l = e) (he : e ≠ 0) : takeN l = 0 ∧ takeS l = [] ∧ takeE l = e := by
  unfold takeN takeS
  rw [if_neg (by rw [h]; exact he), if_neg (by rw [h]; exact he)]
  exact ⟨rfl, rfl, h⟩
theorem two_range (l : List UInt8) : 0 ≤ readI ((l.drop 8).take 2) ∧ readI ((l.drop 8).take 2) < 65536 := by
  have hr := rd_lt (((l.drop 8).take 2).take 8)
  have hl : (((l.drop 8).take 2).take 8).length ≤ 2 := by rw [List.length_take, List.length_take]; omega
  have h2 : (256 : Nat) ^ (((l.drop 8).take 2).take 8).length ≤ 256 ^ 2 := Nat.pow_le_pow_right (by decide) hl
  unfold readI wrap64
  omega
end Go.Proofs.Ythkjodlddhdeiaa.seal
