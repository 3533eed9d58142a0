/- The walk of SealTorn. -/
import Derived.Test.YthkjodlddhdeiaaSealLives
namespace Go.Proofs.Ythkjodlddhdeiaa.seal
open Go.ChangeShapes Go.WideShapes Go.ChangeAt Go.RowKit
open Ythkjodlddhdeiaa.base
open Ythkjodlddhdeiaa.oct (fixed readI read_walk read_fixed rd rd_lt info_u8')
open Ythkjodlddhdeiaa.crc (sealed right_walk rightB)

theorem halves_two (a b : List UInt8) (ha : a.length = 256) (hb : b.length = 256) : (a ++ b).length = 512 ∧ halvesL (a ++ b) = (readI (a.take 8), readI (b.take 8)) := by
  have hl : (a ++ b).length = 512 := by rw [List.length_append]; omega
  refine ⟨hl, ?_⟩
  unfold halvesL
  rw [if_pos hl, List.take_append_of_le_length (by omega), drop_at ha.symm]
theorem readI_Z (k j : Nat) : readI ((Z k).take j) = 0 := readI_zero _ (fun c hc => by
  have := List.mem_of_mem_take hc
  unfold Z at this
  exact (List.mem_replicate.1 this).2)
/-- two blocks, and what is of halves of them -/
theorem torn (n m : Int) (l k : List UInt8) (hl : l.length ≤ 490) (hk : k.length ≤ 490) (n1 : 1 ≤ n) (m1 : 1 ≤ m) (n2 : n ≤ 4611686018427387904) (m2 : m ≤ 4611686018427387904) (hnm : n ≠ m) :
    ∃ (P Q : ByteArray) (z : List UInt8), (z = Z 256 ∧ z.length = 256) ∧ (P = ⟨(putL n l).toArray⟩ ∧ putE n l.length = 0 ∧ Q = ⟨(putL m k).toArray⟩ ∧ putE m k.length = 0) ∧ P.size = 512 ∧ Q.size = 512 ∧
      (takeE (P.extract 0 256 ++ Q.extract 256 512).data.toList = 10 ∧ takeE (P.extract 0 256 ++ ByteArray.mk z.toArray).data.toList = 10 ∧ takeE (ByteArray.mk z.toArray ++ Q.extract 256 512).data.toList = 10) ∧
      halvesL (P.extract 0 256 ++ Q.extract 256 512).data.toList = (n, m) := by
  obtain ⟨e1, e2⟩ := put_ok n l n1 n2 hl
  obtain ⟨f1, f2⟩ := put_ok m k m1 m2 hk
  have pl := put_len n l hl
  have ql := put_len m k hk
  have pf := put_front n l hl
  have qb := put_back m k hk
  rw [← e2] at pl pf
  rw [← f2] at ql qb
  have ra : readI (((putL n l).take 256).take 8) = n := by rw [List.take_take, show min 8 256 = 8 from rfl, pf, read_fixed n ⟨by omega, by omega⟩]
  have rb : readI (((putL m k).drop 256).take 8) = m := by rw [qb, read_fixed m ⟨by omega, by omega⟩]
  have la : ((putL n l).take 256).length = 256 := by rw [List.length_take]; omega
  have lb : ((putL m k).drop 256).length = 256 := by rw [List.length_drop]; omega
  have lz := Z_len 256
  have xa : ((ByteArray.mk (putL n l).toArray).extract 0 256).data.toList = (putL n l).take 256 := by rw [ext_list0, arr_list]
  have xb : ((ByteArray.mk (putL m k).toArray).extract 256 512).data.toList = (putL m k).drop 256 := by rw [ext_list, arr_list, List.take_of_length_le (by omega)]
  have rz : readI ((Z 256).take 8) = 0 := readI_Z _ _
  have n0 : n ≠ 0 := by omega
  have m0 : (0 : Int) ≠ m := by omega
  obtain ⟨z, hz⟩ : ∃ z, z = Z 256 := ⟨_, rfl⟩
  rw [← hz] at lz rz
  have xz : (ByteArray.mk z.toArray).data.toList = z := arr_list _
  generalize (putL n l).take 256 = A at *
  generalize (putL m k).drop 256 = B at *
  obtain ⟨h1, h2⟩ := halves_two A B la lb
  obtain ⟨h3, h4⟩ := halves_two A z la lz
  obtain ⟨h5, h6⟩ := halves_two z B lz lb
  rw [ra, rb] at h2
  rw [ra, rz] at h4
  rw [rb, rz] at h6
  refine ⟨_, _, z, ⟨hz, lz⟩, ⟨rfl, e1, rfl, f1⟩, by rw [size_mk, pl], by rw [size_mk, ql], ⟨?_, ?_, ?_⟩, ?_⟩
  · rw [ByteArray.data_append, Array.toList_append, xa, xb]
    exact (take_torn _ h1 (by rw [h2]; exact hnm)).1
  · rw [ByteArray.data_append, Array.toList_append, xa, xz]
    exact (take_torn _ h3 (by rw [h4]; exact n0)).1
  · rw [ByteArray.data_append, Array.toList_append, xz, xb]
    exact (take_torn _ h5 (by rw [h6]; exact m0)).1
  · rw [ByteArray.data_append, Array.toList_append, xa, xb]
    exact h2
theorem halves_b (s : ByteArray) (w : World) :
    Calls Try.prog 19 #[.string s] w fun e w' => e = .returned (.tuple #[.int .i64 (halvesL s.data.toList).1, .int .i64 (halvesL s.data.toList).2]) ∧ Below w.heap.size w w' :=
  (halves_walk s w).mono fun _ _ ⟨h, m, hw⟩ => ⟨h, by rw [hw]; exact drewnN (same w) m⟩

set_option maxRecDepth 100000 in
set_option maxHeartbeats 800000 in
theorem sealTorn_walk (n m : Int) (s t : ByteArray) (hn : (Lit.int .i64 n).wf = true) (hm : (Lit.int .i64 m).wf = true) (hs : s.size ≤ maxLen) (ht : t.size ≤ maxLen) (w : World) :
    Calls Try.prog 4 #[.int .i64 n, .int .i64 m, .string s, .string t] w fun e w' => e = .returned (.bool true) ∧ Below w.heap.size w w' := by
  clear hs ht hn hm
  by_cases hall : s.size ≤ 490 ∧ t.size ≤ 490 ∧ 1 ≤ n ∧ 1 ≤ m ∧ n ≤ 4611686018427387904 ∧ m ≤ 4611686018427387904 ∧ n ≠ m
  · obtain ⟨h1, h2, h3, h4, h5, h6, h7⟩ := hall
    obtain ⟨P, Q, z, ⟨hzz, hzl⟩, hPQ, hP, hQ, hT, hH⟩ := torn n m s.data.toList t.data.toList (by simpa using h1) (by simpa using h2) h3 h4 h5 h6 h7
    have HPQ := Shut.mk hPQ
    have HT := Shut.mk hT
    have HH := Shut.mk hH
    have hPe : (P.extract 0 256).size = 256 := ext_size _ _ _ (by omega)
    have hQe : (Q.extract 256 512).size = 256 := ext_size _ _ _ (by omega)
    have HS := Shut.mk (And.intro hPe (And.intro hQe (And.intro hzz hzl)))
    have hne : (n == m) = false := by simpa using h7
    clear hPQ hT hH hPe hQe hzz hzl h7
    obtain ⟨i0, hi, hz0, hz1, hz2⟩ := info_parts info_u8'
    go_enter Try.func4, Try.ntmps4
    go_wp2_with fail
    refine (puts_walk n s _).mono ?_
    rintro e w1 ⟨rfl, hb1⟩
    rw [← HPQ.out.1, HPQ.out.2.1]
    go_wp2_with fail
    refine (puts_walk m t _).mono ?_
    rintro e w2 ⟨rfl, hb2⟩
    rw [← HPQ.out.2.2.1, HPQ.out.2.2.2]
    go_wp2_with (at_make; refine wpList_make_full _ rfl _ _ 29 rfl w2.heap.size 5 i0 (.int .u8 0) 1 Try.underlying29 hi hz0 hz1 _ _ _ _ 256 rfl rfl rfl rfl (by rw [hz2]; omega) (by unfold maxLen; omega) (Nat.le_refl _) ?_)
    intro w3 hown hgrow
    rw [toList_madeCells_one] at hown
    have hB3 : Below w2.heap.size w2 w3 := (same w2).grown hgrow (Nat.le_refl _) (fun k hk => by cases hk)
    have hown2 : w3.ownsRow w2.heap.size 5 1 (.slice (some ⟨w2.heap.size, 0, none⟩) 256 256) 256 (bytesOf z) := by rw [HS.out.2.2.1]; simpa [bytesOf, Z] using hown
    have hcv := own_string hown2
    clear hown hown2 hgrow
    have HB3 := Shut.mk (chain hb1 (chain hb2 hB3))
    clear hb1 hb2 hB3
    go_wp2
    clear hcv
    have q1 : (P.extract 0 256).size = 256 := ext_size P 0 256 (by omega)
    have q2 : (Q.extract 256 512).size = 256 := ext_size Q 256 512 (by omega)
    have z2 := size_mk z
    have z3 := HS.out.2.2.2
    go_region_law (go_simp; go_at_call 18; refine (take_walk _ _).mono ?_; rintro e w4 ⟨rfl, hb4⟩; rw [HT.out.1])
    have HB4 := Shut.mk (chain HB3.out (chain (drewn (same _)) hb4))
    clear hb4
    go_wp2_with fail
    refine (take_walk _ _).mono ?_
    rintro e w5 ⟨rfl, hb5⟩
    rw [HT.out.2.1]
    go_wp2_with fail
    refine (take_walk _ _).mono ?_
    rintro e w6 ⟨rfl, hb6⟩
    rw [HT.out.2.2]
    have HB6 := Shut.mk (chain HB4.out (chain hb5 hb6))
    clear hb5 hb6
    go_wp2
    go_region_law (go_simp; go_at_call 19; refine (halves_b _ _).mono ?_; rintro e w7 ⟨rfl, hb7⟩; rw [HH.out])
    have HB7 := Shut.mk (chain HB6.out (chain (drewn (same _)) hb7))
    clear hb7
    go_wp2_with fail
    refine (lives_walk _).mono ?_
    rintro e w8 ⟨rfl, hb8⟩
    go_wp2
    go_ret
    exact ⟨rfl, chain HB7.out hb8⟩
  · have hways : 490 < s.size ∨ (s.size ≤ 490 ∧ 490 < t.size) ∨ (s.size ≤ 490 ∧ t.size ≤ 490 ∧ n < 1) ∨ (s.size ≤ 490 ∧ t.size ≤ 490 ∧ 1 ≤ n ∧ m < 1) ∨ (s.size ≤ 490 ∧ t.size ≤ 490 ∧ 1 ≤ n ∧ 1 ≤ m ∧ 4611686018427387904 < n) ∨ (s.size ≤ 490 ∧ t.size ≤ 490 ∧ 1 ≤ n ∧ 1 ≤ m ∧ n ≤ 4611686018427387904 ∧ 4611686018427387904 < m) ∨ (s.size ≤ 490 ∧ t.size ≤ 490 ∧ 1 ≤ n ∧ 1 ≤ m ∧ n ≤ 4611686018427387904 ∧ m ≤ 4611686018427387904 ∧ n = m) := by omega
    clear hall
    rcases hways with h1 | ⟨h1, h2⟩ | ⟨h1, h2, h3⟩ | ⟨h1, h2, h3, h4⟩ | ⟨h1, h2, h3, h4, h5⟩ | ⟨h1, h2, h3, h4, h5, h6⟩ | ⟨h1, h2, h3, h4, h5, h6, rfl⟩
    all_goals
      go_enter Try.func4, Try.ntmps4
      go_wp2_with fail
      refine (lives_walk _).mono ?_
      rintro e w1 ⟨rfl, hb1⟩
      go_wp2
      go_ret
      exact ⟨rfl, hb1⟩
end Go.Proofs.Ythkjodlddhdeiaa.seal
