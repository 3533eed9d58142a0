/- The walks of 'lives' of the laws on seal, and of SealPuts. -/
import Derived.Test.YthkjodlddhdeiaaSealFacts
import Derived.Test.YthkjodlddhdeiaaSealTakeW
namespace Go.Proofs.Ythkjodlddhdeiaa.seal
open Go.ChangeShapes Go.WideShapes Go.ChangeAt Go.RowKit
open Ythkjodlddhdeiaa.base
open Ythkjodlddhdeiaa.oct (fixed readI read_walk rd rd_lt)
open Ythkjodlddhdeiaa.crc (sealed right_walk rightB)

set_option maxRecDepth 100000 in
theorem put7 : ∃ P : ByteArray, P = ⟨(putL 7 [97, 98]).toArray⟩ ∧ putE 7 ([97, 98] : List UInt8).length = 0 ∧ P.size = 512 ∧ P.extract 7 12 = ⟨#[7, 0, 2, 97, 98]⟩ ∧ (∃ h : 263 < P.size, P[263].toNat = 7) ∧ takeE P.data.toList = 0 ∧ takeN P.data.toList = 7 ∧ takeS P.data.toList = [97, 98] := by
  obtain ⟨e1, e2⟩ := put_ok 7 [97, 98] (by decide) (by decide) (by decide)
  obtain ⟨t1, t2, t3⟩ := take_put 7 [97, 98] (by decide) (by decide) (by decide)
  have hl := put_len 7 [97, 98] (by decide)
  have d1 : ((blockL 7 [97, 98]).drop 7).take 5 = [7, 0, 2, 97, 98] := by decide +kernel
  have d2 : (blockL 7 [97, 98])[263]? = some 7 := by decide +kernel
  have hb := blockL_len 7 [97, 98] (by decide)
  have hP : sealed (blockL 7 [97, 98]) = blockL 7 [97, 98] ++ crc.byte4 (crc.sum (blockL 7 [97, 98])) := rfl
  generalize blockL 7 [97, 98] = B at *
  generalize crc.byte4 (crc.sum B) = C at *
  refine ⟨_, rfl, e1, by rw [e2, size_mk, hl], ?_, ?_, by rw [arr_list, e2]; exact t1, by rw [arr_list, e2]; exact t2, by rw [arr_list, e2]; exact t3⟩
  · apply ba_ext
    rw [ext_list, arr_list, e2, hP, List.drop_append_of_le_length (by omega), List.take_append_of_le_length (by rw [List.length_drop]; omega)]
    exact d1
  · refine ⟨by rw [e2, size_mk, hl]; decide, ?_⟩
    have : (putL 7 [97, 98])[263]? = some 7 := by rw [e2, hP, List.getElem?_append_left (by omega)]; exact d2
    obtain ⟨h, h2⟩ := List.getElem?_eq_some_iff.1 this
    have h3 : (ByteArray.mk (putL 7 [97, 98]).toArray)[263]'(by rw [size_mk]; exact h) = (putL 7 [97, 98])[263]'h := List.getElem_toArray _
    rw [h3, h2]
    rfl
set_option maxRecDepth 100000 in
set_option maxHeartbeats 400000 in
theorem lives_walk (w : World) :
    Calls Try.prog 15 #[] w fun e w' => e = .returned (.bool true) ∧ Below w.heap.size w w' := by
  obtain ⟨P, hP, h0, h1, h2, ⟨h3, h4⟩, t1, t2, t3⟩ := put7
  have HP := Shut.mk (And.intro hP h0)
  have HT := Shut.mk (And.intro t1 (And.intro t2 t3))
  clear hP h0 t1 t2 t3
  go_enter Try.func15, Try.ntmps15
  go_wp2_with fail
  refine (puts_walk 7 ⟨#[97, 98]⟩ _).mono ?_
  rintro e w1 ⟨rfl, hb1⟩
  have hq1 : (ByteArray.mk (putL 7 [97, 98]).toArray) = P := HP.out.1.symm
  have hq2 : putE 7 ([97, 98] : List UInt8).length = 0 := HP.out.2
  simp only [hq1, hq2]
  clear hq1 hq2
  go_wp2_with fail
  refine (take_walk P _).mono ?_
  rintro e w2 ⟨rfl, hb2⟩
  rw [HT.out.1, HT.out.2.1, HT.out.2.2]
  go_wp2
  go_ret
  exact ⟨rfl, chain hb1 hb2⟩

set_option maxRecDepth 100000 in
set_option maxHeartbeats 400000 in
theorem sealPuts_walk (n : Int) (s : ByteArray) (hn : (Lit.int .i64 n).wf = true) (hs : s.size ≤ maxLen) (w : World) :
    Calls Try.prog 3 #[.int .i64 n, .string s] w fun e w' => e = .returned (.bool true) ∧ Below w.heap.size w w' := by
  clear hs hn
  by_cases h : 2000 < s.size
  · go_enter Try.func3, Try.ntmps3
    go_wp2_with fail
    refine (lives_walk _).mono ?_
    rintro e w1 ⟨rfl, hb1⟩
    go_wp2
    go_ret
    exact ⟨rfl, hb1⟩
  · have h2 : s.size ≤ 2000 := by omega
    clear h
    go_enter Try.func3, Try.ntmps3
    go_wp2_with fail
    refine (puts_walk n s _).mono ?_
    rintro e w1 ⟨rfl, hb1⟩
    generalize hq : putE n s.data.toList.length = q
    have HQ := Shut.mk hq
    clear hq
    go_wp2_with fail
    refine (rputs_walk n s _).mono ?_
    rintro e w2 ⟨rfl, hb2⟩
    rw [HQ.out]
    generalize putL n s.data.toList = l
    go_wp2_with fail
    refine (lives_walk _).mono ?_
    rintro e w3 ⟨rfl, hb3⟩
    go_wp2
    go_ret
    exact ⟨rfl, chain hb1 (chain hb2 hb3)⟩
end Go.Proofs.Ythkjodlddhdeiaa.seal
