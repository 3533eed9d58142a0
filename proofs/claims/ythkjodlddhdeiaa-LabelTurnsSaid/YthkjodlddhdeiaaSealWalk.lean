/- The walk of seal.Put. -/
import Derived.Test.YthkjodlddhdeiaaRowB
import Derived.Test.YthkjodlddhdeiaaCrcWalkB
import Derived.Test.YthkjodlddhdeiaaOctFix
namespace Go.Proofs.Ythkjodlddhdeiaa.seal
open Go.ChangeShapes Go.WideShapes Go.ChangeAt Go.RowKit
open Ythkjodlddhdeiaa.base
open Ythkjodlddhdeiaa.oct (fixed fixed_walk)
open Ythkjodlddhdeiaa.crc (seal_walk sealed)

theorem zeros508 : Try.zeroCells98 = (bytesOf (List.replicate 508 0)).toArray := by kernel_rfl
theorem size1 : (Try.prog.info? 5).map (·.size) = some 1 := by kernel_rfl
/-- what seal.Put lays together -/
def laid (n : Int) (l : List UInt8) : List UInt8 :=
  over (over (over (over (List.replicate 508 0) 0 ((fixed n 8 ++ fixed (l.length : Int) 2).take 508)) 256 ((fixed n 8).take 252)) 10 (l.take 246)) 264 ((l.drop (min l.length 246)).take 244)
theorem app_lists (a b : List UInt8) : (ByteArray.mk a.toArray) ++ (ByteArray.mk b.toArray) = ⟨(a ++ b).toArray⟩ := by
  apply ba_ext
  simp [ByteArray.data_append]

theorem fixed8_len (n : Int) : (fixed n 8).length = 8 := by unfold fixed; rw [Ythkjodlddhdeiaa.oct.beN_len]; decide
theorem fixed2_len (n : Int) : (fixed n 2).length = 2 := by unfold fixed; rw [Ythkjodlddhdeiaa.oct.beN_len]; decide

theorem arr_list (a : List UInt8) : (ByteArray.mk a.toArray).data.toList = a := by simp
theorem join_lists (a b : List UInt8) : ((ByteArray.mk a.toArray) ++ (ByteArray.mk b.toArray)).data.toList = a ++ b := by simp [ByteArray.data_append]
theorem over_name (L : List UInt8) (o : Nat) (s : List UInt8) (N : Nat) (h : L.length = N) (hf : o + s.length ≤ N) : ∃ L', Shut (L' = over L o s) ∧ L'.length = N :=
  ⟨_, ⟨rfl⟩, by rw [over_len _ _ _ (by omega), h]⟩
theorem grow {w W V : World} {base g : Nat} {t : TypeId} {l : List UInt8} (h : Shut (RowB W base g t l ∧ Below w.heap.size w W)) (hb : Below W.heap.size W V) : Shut (RowB V base g t l ∧ Below w.heap.size w V) :=
  ⟨h.out.1.below hb, chain h.out.2 hb⟩

set_option maxRecDepth 100000 in
set_option maxHeartbeats 800000 in
theorem put_walk (n : Int) (s : ByteArray) (w : World) (h1 : 1 ≤ n) (h2 : n ≤ 4611686018427387904) (hs : s.size ≤ 490) :
    Calls Try.prog 16 #[.int .i64 n, .string s] w fun e w' => e = .returned (.tuple #[.string ⟨(sealed (laid n s.data.toList)).toArray⟩, .int .i64 0]) ∧ Below w.heap.size w w' := by
  go_enter Try.func16, Try.ntmps16
  go_wp2
  generalize hW : w.alloc (Obj.cells Try.zeroCells98 98) = W
  have hR0 : RowB W w.heap.size w.heap.size 98 (List.replicate 508 0) := ⟨Nat.le_refl _, by rw [← hW, heap_alloc_new, zeros508]⟩
  have hB0 : Below w.heap.size w W := by rw [← hW]; exact newer (same w) _
  clear hW
  have HR0 : Shut (RowB W w.heap.size w.heap.size 98 (List.replicate 508 0) ∧ Below w.heap.size w W) := ⟨hR0, hB0⟩
  clear hR0 hB0
  have l8 := fixed8_len n
  have l2 := fixed2_len (s.size : Int)
  go_region_law (first
    | (go_simp; go_at_call 52; refine (fixed_walk _ _ _).mono ?_; rintro e w1 ⟨rfl, hb1⟩; (first | replace HR0 := grow HR0 hb1 | replace HR0 := grow (grow HR0 (drewn (same _))) hb1); clear hb1)
    | (refine step_copy_over (by rfl) (.tmp 18) (.tmp 24) 29 9 (by rfl) 5 Try.underlying29 size1 w.heap.size w.heap.size 0 508 508 (by simp [Act.eval, Act.put]) (ByteArray.mk (fixed n 8).toArray ++ ByteArray.mk (fixed (s.size : Int) 2).toArray) (by simp [Act.eval, Act.put]) 98 (List.replicate 508 0) HR0.out.1 (by simp) w.heap.size w (Nat.le_refl _) HR0.out.2 ?_; intro w3 hR3 hB3))
  rw [join_lists] at hR3
  obtain ⟨L1, HL1, n1⟩ := over_name (List.replicate 508 0) 0 ((fixed n 8 ++ fixed (s.size : Int) 2).take 508) 508 (by simp) (by simp; omega)
  rw [← HL1.out] at hR3
  have HR1 : Shut (RowB w3 w.heap.size w.heap.size 98 L1 ∧ Below w.heap.size w w3) := ⟨hR3, hB3⟩
  clear hR3 hB3 HR0 l2
  have fit1 : 256 + 252 ≤ L1.length := by omega
  go_wp2
  go_region_law (first
    | (go_simp; go_at_call 52; refine (fixed_walk _ _ _).mono ?_; rintro e w1 ⟨rfl, hb1⟩; (first | replace HR1 := grow HR1 hb1 | replace HR1 := grow (grow HR1 (drewn (same _))) hb1); clear hb1)
    | (refine step_copy_over (by rfl) (.tmp 26) (.tmp 28) 29 9 (by rfl) 5 Try.underlying29 size1 w.heap.size w.heap.size 256 252 252 (by simp [Act.eval, Act.put]) (ByteArray.mk (fixed n 8).toArray) (by simp [Act.eval, Act.put]) 98 L1 HR1.out.1 fit1 w.heap.size w (Nat.le_refl _) HR1.out.2 ?_; intro w4 hR4 hB4))
  rw [arr_list] at hR4
  obtain ⟨L2, HL2, n2⟩ := over_name L1 256 ((fixed n 8).take 252) 508 n1 (by simp; omega)
  rw [← HL2.out] at hR4
  have HR2 : Shut (RowB w4 w.heap.size w.heap.size 98 L2 ∧ Below w.heap.size w w4) := ⟨hR4, hB4⟩
  clear hR4 hB4 HR1 l8 fit1
  have hsl : (s.data.toList.take 246).length ≤ 246 := by rw [List.length_take]; omega
  obtain ⟨L3, HL3, n3⟩ := over_name L2 10 (s.data.toList.take 246) 508 n2 (by omega)
  have fit2 : 10 + 246 ≤ L2.length := by omega
  have fit3 : 264 + 244 ≤ L3.length := by omega
  obtain ⟨m, hm, m1, m2⟩ : ∃ m, Nat.min s.size 246 = m ∧ m ≤ s.size ∧ m ≤ 246 := ⟨_, rfl, Nat.min_le_left _ _, Nat.min_le_right _ _⟩
  clear hsl
  go_wp2
  go_region_law (first
    | (refine step_copy_over (by rfl) (.tmp 32) (.tmp 33) 29 9 (by rfl) 5 Try.underlying29 size1 w.heap.size w.heap.size 10 246 498 (by simp [Act.eval, Act.put]) s (by simp [Act.eval, Act.put]) 98 L2 (grow HR2 (drewn (same _))).out.1 fit2 w.heap.size w (Nat.le_refl _) (grow HR2 (drewn (same _))).out.2 ?_; intro w5 hR5 hB5; rw [← HL3.out] at hR5; rw [hm]; replace HR5 := Shut.mk (And.intro hR5 hB5); clear hR5 hB5)
    | (refine step_copy_over (by rfl) (.tmp 30) (.tmp 35) 29 9 (by rfl) 5 Try.underlying29 size1 w.heap.size w.heap.size 264 244 244 (by simp [Act.eval, Act.put]) (s.extract m s.size) (by simp [Act.eval, Act.put]) 98 L3 HR5.out.1 fit3 w.heap.size w (Nat.le_refl _) HR5.out.2 ?_; intro w6 hR6 hB6))
  have hL : over L3 264 (List.take 244 (s.extract m s.size).data.toList) = laid n s.data.toList := by
    rw [rest_eq, HL3.out, HL2.out, HL1.out, ← hm]
    unfold laid
    rw [show s.data.toList.length = s.size from by simp, arr_list]
  rw [hL] at hR6
  have hL8 : (laid n s.data.toList).length = 508 := by rw [← hL, over_len, n3]; rw [n3, List.length_take]; omega
  have hcv := hR6.text (n := 508) (cap := 508) hL8
  have HB6 : Shut (Below w.heap.size w w6) := ⟨hB6⟩
  have hz : (ByteArray.mk (laid n s.data.toList).toArray).size ≤ 140737488351232 := by rw [size_mk, hL8]; decide
  clear hL hL8 hR6 hB6 HR5 hm m1 m2 fit2 fit3 n3 n2 n1 HL1 HL2 HL3 HR2
  go_wp2_with fail
  refine (seal_walk (ByteArray.mk (laid n s.data.toList).toArray) _ hz).mono ?_
  rintro e w7 ⟨rfl, hb7⟩
  rw [arr_list]
  go_wp2
  go_ret2
  exact ⟨rfl, chain HB6.out hb7⟩
end Go.Proofs.Ythkjodlddhdeiaa.seal
