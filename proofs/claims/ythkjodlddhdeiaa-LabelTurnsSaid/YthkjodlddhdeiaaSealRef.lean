/- The rest of Put's walks, and the reference's: block, zeros, Put. -/
import Derived.Test.YthkjodlddhdeiaaSealWalk
namespace Go.Proofs.Ythkjodlddhdeiaa.seal
open Go.ChangeShapes Go.WideShapes Go.ChangeAt Go.RowKit
open Ythkjodlddhdeiaa.base
open Ythkjodlddhdeiaa.oct (fixed fixed_walk rfixed_walk info_u8')
open Ythkjodlddhdeiaa.crc (seal_walk rseal_walk sealed)

/-- the document's block -/
def blockL (n : Int) (l : List UInt8) : List UInt8 :=
  fixed n 8 ++ fixed (l.length : Int) 2 ++ l.take 246 ++ List.replicate (246 - (l.take 246).length) 0 ++ fixed n 8 ++ l.drop 246 ++ List.replicate (244 - (l.drop 246).length) 0
theorem over_mid (a b c s : List UInt8) (h : s.length = b.length) (o : Nat) (ho : o = a.length) : over (a ++ (b ++ c)) o s = a ++ (s ++ c) := by
  subst ho
  unfold over
  rw [List.take_left, h, ← List.append_assoc a b c, ← List.length_append, List.drop_left, List.append_assoc]
theorem rep_split (N a b c d e f : Nat) (h : N = a + (b + (c + (d + (e + f))))) : List.replicate N (0 : UInt8) = List.replicate a 0 ++ (List.replicate b 0 ++ (List.replicate c 0 ++ (List.replicate d 0 ++ (List.replicate e 0 ++ List.replicate f 0)))) := by
  subst h
  simp only [List.replicate_append_replicate]
theorem laid_eq (n : Int) (l : List UInt8) (h : l.length ≤ 490) : laid n l = blockL n l := by
  have e8 := fixed8_len n
  have e2 := fixed2_len (l.length : Int)
  unfold laid blockL
  rw [List.take_of_length_le (by simp [e8, e2]), List.take_of_length_le (l := fixed n 8) (by omega)]
  generalize hF : fixed n 8 = F at e8
  generalize hG : fixed (l.length : Int) 2 = G at e2
  have hZ : List.replicate 508 (0 : UInt8) = [] ++ (List.replicate 10 0 ++ (List.replicate (l.take 246).length 0 ++ (List.replicate (246 - (l.take 246).length) 0 ++ (List.replicate 8 0 ++ (List.replicate (l.drop 246).length 0 ++ List.replicate (244 - (l.drop 246).length) 0))))) := by
    rw [List.nil_append]
    exact rep_split 508 _ _ _ _ _ _ (by rw [List.length_take, List.length_drop]; omega)
  have hd : (l.drop (min l.length 246)).take 244 = l.drop 246 := by
    by_cases h6 : l.length ≤ 246
    · rw [Nat.min_eq_left h6, List.drop_length, List.take_nil, List.drop_eq_nil_of_le h6]
    · rw [Nat.min_eq_right (by omega), List.take_of_length_le (by rw [List.length_drop]; omega)]
  rw [hd, hZ]
  have ht : (l.take 246).length = min 246 l.length := List.length_take
  have hdl : (l.drop 246).length = l.length - 246 := List.length_drop
  generalize l.take 246 = A at ht
  generalize l.drop 246 = B at hdl
  rw [over_mid [] (List.replicate 10 0) _ (F ++ G) (by simp [e8, e2]) 0 rfl, List.nil_append]
  rw [show F ++ G ++ (List.replicate A.length 0 ++ (List.replicate (246 - A.length) 0 ++ (List.replicate 8 0 ++ (List.replicate B.length 0 ++ List.replicate (244 - B.length) 0)))) = (F ++ G ++ List.replicate A.length 0 ++ List.replicate (246 - A.length) 0) ++ (List.replicate 8 0 ++ (List.replicate B.length 0 ++ List.replicate (244 - B.length) 0)) from by simp only [List.append_assoc]]
  rw [over_mid _ _ _ F (by simp [e8]) 256 (by simp [e8, e2]; omega)]
  rw [show F ++ G ++ List.replicate A.length 0 ++ List.replicate (246 - A.length) 0 ++ (F ++ (List.replicate B.length 0 ++ List.replicate (244 - B.length) 0)) = (F ++ G) ++ (List.replicate A.length 0 ++ (List.replicate (246 - A.length) 0 ++ (F ++ (List.replicate B.length 0 ++ List.replicate (244 - B.length) 0)))) from by simp only [List.append_assoc]]
  rw [over_mid _ _ _ A (by simp) 10 (by simp [e8, e2])]
  rw [show F ++ G ++ (A ++ (List.replicate (246 - A.length) 0 ++ (F ++ (List.replicate B.length 0 ++ List.replicate (244 - B.length) 0)))) = (F ++ G ++ A ++ List.replicate (246 - A.length) 0 ++ F) ++ (List.replicate B.length 0 ++ List.replicate (244 - B.length) 0) from by simp only [List.append_assoc]]
  rw [over_mid _ _ _ B (by simp) 264 (by simp [e8, e2]; omega)]
  simp only [List.append_assoc]
theorem blockL_len (n : Int) (l : List UInt8) (h : l.length ≤ 490) : (blockL n l).length = 508 := by
  unfold blockL
  simp [fixed8_len, fixed2_len]
  omega

/-- zeros, shut -/
def Z (k : Nat) : List UInt8 := List.replicate k 0
theorem Z_len (k : Nat) : (Z k).length = k := by simp [Z]
set_option maxRecDepth 100000 in
set_option maxHeartbeats 400000 in
theorem zeros_walk (k : Nat) (hk : k ≤ 4096) (w : World) :
    Calls Try.prog 90 #[.int .i64 (k : Int)] w fun e w' => e = .returned (.string ⟨(Z k).toArray⟩) ∧ Below w.heap.size w w' := by
  obtain ⟨i0, hi, hz0, hz1, hz2⟩ := info_parts info_u8'
  go_enter Try.func90, Try.ntmps90
  go_wp2_with (at_make; refine wpList_make_full _ rfl _ _ 29 rfl w.heap.size 5 i0 (.int .u8 0) 1 Try.underlying29 hi hz0 hz1 _ _ _ _ k rfl rfl rfl rfl (by rw [hz2]; omega) (by unfold maxLen; omega) (Nat.le_refl _) ?_)
  intro w1 hown hgrow
  rw [toList_madeCells_one] at hown
  have hB : Below w.heap.size w w1 := (same w).grown hgrow (Nat.le_refl _) (fun k hk => by cases hk)
  have hown2 : w1.ownsRow w.heap.size 5 1 (.slice (some ⟨w.heap.size, 0, none⟩) k k) k (bytesOf (Z k)) := by simpa [bytesOf, Z] using hown
  have hcv := own_string hown2
  clear hown hown2 hgrow
  go_wp2
  go_ret
  exact ⟨rfl, hB⟩

set_option maxRecDepth 100000 in
set_option maxHeartbeats 800000 in
theorem block_walk (n : Int) (s : ByteArray) (w : World) (hs : s.size ≤ 490) :
    Calls Try.prog 54 #[.int .i64 n, .string s] w fun e w' => e = .returned (.string ⟨(sealed (blockL n s.data.toList)).toArray⟩) ∧ Below w.heap.size w w' := by
  have hl : s.data.toList.length = s.size := by simp
  obtain ⟨A, B, N, hN, hA, hB, hcase⟩ : ∃ (A B : List UInt8) (N : Nat), s.size = N ∧ A = s.data.toList.take 246 ∧ B = s.data.toList.drop 246 ∧ ((N ≤ 246 ∧ s = ⟨A.toArray⟩ ∧ B = [] ∧ A.length = N) ∨ (246 < N ∧ s.extract 0 246 = ⟨A.toArray⟩ ∧ s.extract 246 N = ⟨B.toArray⟩ ∧ A.length = 246 ∧ B.length = N - 246)) := by
    refine ⟨s.data.toList.take 246, s.data.toList.drop 246, s.size, rfl, rfl, rfl, ?_⟩
    by_cases h : s.size ≤ 246
    · exact .inl ⟨h, ba_ext (by rw [arr_list, List.take_of_length_le (show s.data.toList.length ≤ 246 by omega)]), List.drop_eq_nil_of_le (show s.data.toList.length ≤ 246 by omega), by rw [List.length_take, hl]; omega⟩
    · exact .inr ⟨by omega, ba_ext (by rw [arr_list]; simp [ByteArray.data_extract, List.extract]), by rw [rest_eq], by rw [List.length_take, hl]; omega, by rw [List.length_drop, hl]⟩
  have HF : Shut (blockL n s.data.toList = fixed n 8 ++ fixed (N : Int) 2 ++ A ++ List.replicate (246 - A.length) 0 ++ fixed n 8 ++ B ++ List.replicate (244 - B.length) 0) := ⟨by unfold blockL; rw [hl, hN, hA, hB]⟩
  have l8 := fixed8_len n
  have l2 := fixed2_len (N : Int)
  rw [hN] at hs
  clear hA hB hl
  generalize hblk : blockL n s.data.toList = blk at HF
  have HB : Shut (blockL n s.data.toList = blk) := ⟨hblk⟩
  clear hblk
  have fin : ∀ (a b : Nat), a = 246 - A.length → b = 244 - B.length → ByteArray.mk (fixed n 8).toArray ++ ByteArray.mk (fixed (N : Int) 2).toArray ++ ByteArray.mk A.toArray ++ ByteArray.mk (Z a).toArray ++ ByteArray.mk (fixed n 8).toArray ++ ByteArray.mk B.toArray ++ ByteArray.mk (Z b).toArray = ⟨blk.toArray⟩ := by
    intro a b ha hb
    subst ha hb
    apply ba_ext
    rw [HF.out]
    simp [ByteArray.data_append, Z]
  have hblen : (ByteArray.mk blk.toArray).size ≤ 140737488351232 := by
    rw [size_mk, ← HB.out, blockL_len _ _ (by rw [show s.data.toList.length = s.size from by simp]; omega)]; decide
  have HFIN := Shut.mk fin
  have HBL := Shut.mk hblen
  clear fin hblen HF
  have zl := Z_len
  rcases hcase with ⟨h1, h2, h3, hAl⟩ | ⟨h1, h2, h3, hAl, hBl⟩
  · subst h3
    obtain ⟨k, hk, hk2, hk3⟩ : ∃ k : Nat, 246 - (N : Int) = (k : Int) ∧ k ≤ 4096 ∧ k = 246 - A.length := ⟨246 - N, by omega, by omega, by omega⟩
    obtain ⟨j, hj, hj2, hj3⟩ : ∃ j : Nat, (244 : Int) = (j : Int) ∧ j ≤ 4096 ∧ j = 244 - ([] : List UInt8).length := ⟨244, by omega, by omega, rfl⟩
    have HC := Shut.mk (HFIN.out k j hk3 hj3)
    have hj4 : j = 244 := by rw [hj3]; rfl
    clear hk3 hj3 HFIN hj
    subst hj4
    subst h2
    go_enter Try.func54, Try.ntmps54
    go_wp2_with fail
    refine (rfixed_walk _ _ _).mono ?_
    rintro e w1 ⟨rfl, hb1⟩
    go_wp2_with fail
    refine (rfixed_walk _ _ _).mono ?_
    rintro e w2 ⟨rfl, hb2⟩
    go_wp2_with fail
    refine (zeros_walk k hk2 _).mono ?_
    rintro e w3 ⟨rfl, hb3⟩
    go_wp2_with fail
    refine (rfixed_walk _ _ _).mono ?_
    rintro e w4 ⟨rfl, hb4⟩
    go_wp2_with fail
    refine (zeros_walk 244 hj2 _).mono ?_
    rintro e w5 ⟨rfl, hb5⟩
    go_wp2_with fail
    rw [HC.out]
    refine (rseal_walk _ _ HBL.out).mono ?_
    rintro e w6 ⟨rfl, hb6⟩
    go_wp2
    go_ret
    exact ⟨rfl, chain hb1 (chain hb2 (chain hb3 (chain hb4 (chain hb5 hb6))))⟩
  · obtain ⟨k, hk, hk2, hk3⟩ : ∃ k : Nat, (0 : Int) = (k : Int) ∧ k ≤ 4096 ∧ k = 246 - A.length := ⟨0, rfl, by omega, by omega⟩
    obtain ⟨j, hj, hj2, hj3⟩ : ∃ j : Nat, 244 - ((N - 246 : Nat) : Int) = (j : Int) ∧ j ≤ 4096 ∧ j = 244 - B.length := ⟨244 - (N - 246), by omega, by omega, by omega⟩
    have HC := Shut.mk (HFIN.out k j hk3 hj3)
    have hk4 : k = 0 := by omega
    clear hk3 hj3 HFIN hk
    subst hk4
    go_enter Try.func54, Try.ntmps54
    go_wp2_with fail
    go_quiet (fail)
    go_wp2_with fail
    refine (rfixed_walk _ _ _).mono ?_
    rintro e w1 ⟨rfl, hb1⟩
    go_wp2_with fail
    refine (rfixed_walk _ _ _).mono ?_
    rintro e w2 ⟨rfl, hb2⟩
    go_wp2_with fail
    refine (zeros_walk 0 hk2 _).mono ?_
    rintro e w3 ⟨rfl, hb3⟩
    go_wp2_with fail
    refine (rfixed_walk _ _ _).mono ?_
    rintro e w4 ⟨rfl, hb4⟩
    go_wp2_with fail
    refine (zeros_walk j hj2 _).mono ?_
    rintro e w5 ⟨rfl, hb5⟩
    go_wp2_with fail
    rw [HC.out]
    refine (rseal_walk _ _ HBL.out).mono ?_
    rintro e w6 ⟨rfl, hb6⟩
    go_wp2
    go_ret
    exact ⟨rfl, chain (drewnN (same w) _) (chain hb1 (chain hb2 (chain hb3 (chain hb4 (chain hb5 hb6)))))⟩

/-- what Put answers: the error's number -/
def putE (n : Int) (k : Nat) : Int := if 1 ≤ n ∧ n ≤ 4611686018427387904 then (if k ≤ 490 then 0 else 5) else 2
def putL (n : Int) (l : List UInt8) : List UInt8 := if putE n l.length = 0 then sealed (blockL n l) else []
theorem put_ok (n : Int) (l : List UInt8) (h1 : 1 ≤ n) (h2 : n ≤ 4611686018427387904) (h : l.length ≤ 490) : putE n l.length = 0 ∧ putL n l = sealed (blockL n l) := by
  have : putE n l.length = 0 := by unfold putE; rw [if_pos ⟨h1, h2⟩, if_pos h]
  exact ⟨this, by unfold putL; rw [if_pos this]⟩
theorem put_big (n : Int) (l : List UInt8) (h1 : 1 ≤ n) (h2 : n ≤ 4611686018427387904) (h : 490 < l.length) : putE n l.length = 5 ∧ putL n l = [] := by
  have : putE n l.length = 5 := by unfold putE; rw [if_pos ⟨h1, h2⟩, if_neg (by omega)]
  exact ⟨this, by unfold putL; rw [this]; rfl⟩
theorem put_arg (n : Int) (l : List UInt8) (h : n < 1 ∨ 4611686018427387904 < n) : putE n l.length = 2 ∧ putL n l = [] := by
  have : putE n l.length = 2 := by unfold putE; rw [if_neg (by omega)]
  exact ⟨this, by unfold putL; rw [this]; rfl⟩

set_option maxRecDepth 100000 in
set_option maxHeartbeats 800000 in
theorem puts_walk (n : Int) (s : ByteArray) (w : World) :
    Calls Try.prog 16 #[.int .i64 n, .string s] w fun e w' => e = .returned (.tuple #[.string ⟨(putL n s.data.toList).toArray⟩, .int .i64 (putE n s.data.toList.length)]) ∧ Below w.heap.size w w' := by
  have hl : s.data.toList.length = s.size := by simp
  by_cases h1 : 1 ≤ n ∧ n ≤ 4611686018427387904
  · obtain ⟨h1, h2⟩ := h1
    by_cases hs : s.size ≤ 490
    · obtain ⟨e1, e2⟩ := put_ok n s.data.toList h1 h2 (by omega)
      rw [e1, e2, ← laid_eq n _ (by omega)]
      exact put_walk n s w h1 h2 hs
    · obtain ⟨e1, e2⟩ := put_big n s.data.toList h1 h2 (by omega)
      rw [e1, e2]
      clear e1 e2 hl
      have h3 : 490 < s.size := by omega
      clear hs
      go_enter Try.func16, Try.ntmps16
      go_wp2
      go_ret2
      exact ⟨rfl, same w⟩
  · have h2 : n < 1 ∨ (1 ≤ n ∧ 4611686018427387904 < n) := by omega
    obtain ⟨e1, e2⟩ := put_arg n s.data.toList (by omega)
    rw [e1, e2]
    clear e1 e2 hl h1
    rcases h2 with h2 | ⟨h2, h3⟩
    all_goals
      go_enter Try.func16, Try.ntmps16
      go_wp2
      go_ret2
      exact ⟨rfl, same w⟩
set_option maxRecDepth 100000 in
set_option maxHeartbeats 800000 in
theorem rputs_walk (n : Int) (s : ByteArray) (w : World) :
    Calls Try.prog 17 #[.int .i64 n, .string s] w fun e w' => e = .returned (.tuple #[.string ⟨(putL n s.data.toList).toArray⟩, .int .i64 (putE n s.data.toList.length)]) ∧ Below w.heap.size w w' := by
  have hl : s.data.toList.length = s.size := by simp
  by_cases h1 : 1 ≤ n ∧ n ≤ 4611686018427387904
  · obtain ⟨h1, h2⟩ := h1
    by_cases hs : s.size ≤ 490
    · obtain ⟨e1, e2⟩ := put_ok n s.data.toList h1 h2 (by omega)
      rw [e1, e2]
      clear e1 e2 hl
      go_enter Try.func17, Try.ntmps17
      go_wp2_with fail
      refine (block_walk n s _ hs).mono ?_
      rintro e w1 ⟨rfl, hb1⟩
      go_wp2
      go_ret2
      exact ⟨rfl, hb1⟩
    · obtain ⟨e1, e2⟩ := put_big n s.data.toList h1 h2 (by omega)
      rw [e1, e2]
      clear e1 e2 hl
      have h3 : 490 < s.size := by omega
      clear hs
      go_enter Try.func17, Try.ntmps17
      go_wp2
      go_ret2
      exact ⟨rfl, same w⟩
  · have h2 : n < 1 ∨ (1 ≤ n ∧ 4611686018427387904 < n) := by omega
    obtain ⟨e1, e2⟩ := put_arg n s.data.toList (by omega)
    rw [e1, e2]
    clear e1 e2 hl h1
    rcases h2 with h2 | ⟨h2, h3⟩
    all_goals
      go_enter Try.func17, Try.ntmps17
      go_wp2
      go_ret2
      exact ⟨rfl, same w⟩
end Go.Proofs.Ythkjodlddhdeiaa.seal
