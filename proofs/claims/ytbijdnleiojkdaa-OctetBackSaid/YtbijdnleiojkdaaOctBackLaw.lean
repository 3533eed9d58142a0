/- The walk of the law OctetBack. -/
import Derived.Test.YtbijdnleiojkdaaOctBack
import Derived.Test.YtbijdnleiojkdaaOctLaws
import Derived.Test.YtbijdnleiojkdaaOpenStrs
namespace Go.Proofs.Ytbijdnleiojkdaa.oct
open Go.ChangeShapes Go.WideShapes Go.ChangeAt Go.RowKit
open Ytbijdnleiojkdaa.base (OwnB run_bw bw bcap bw_below bw_size wpList_append_text still drewnN rest_eq Shut size_mk ret_int ret_str ret_bool ba_ext run_string own_string run_string_new chain newer drewn same bytesOf bytesOf_one)

theorem app_mk (a b : List UInt8) : (ByteArray.mk a.toArray) ++ (ByteArray.mk b.toArray) = ⟨(a ++ b).toArray⟩ := by rw [app_str]
theorem size_app (a b : List UInt8) : ((ByteArray.mk a.toArray) ++ (ByteArray.mk b.toArray)).size = a.length + b.length := by rw [app_mk, size_mk, List.length_append]

set_option maxRecDepth 100000 in
set_option maxHeartbeats 1600000 in
theorem octetBack_walk (n : Int) (S : List UInt8) (A : Option Addr) (cap : Nat) (ss : List ByteArray) (B : List UInt8) (w : World) (hn : (Lit.int .i64 n).wf = true) (hS : S.length ≤ maxLen) (hB : B.length ≤ maxLen) (hs : ss.length ≤ maxLen) (hz : ∀ s ∈ ss, s.size ≤ maxLen) (hr : Reads w A ss) :
    Calls Try.prog 13 #[.int .i64 n, .string ⟨S.toArray⟩, .slice A ss.length cap, .string ⟨B.toArray⟩] w fun e w' => e = .returned (.bool true) ∧ Below w.heap.size w w' := by
  have HNR : Shut (-9223372036854775808 ≤ n ∧ n ≤ 9223372036854775807) := ⟨range_i64 hn⟩
  have HLL : Shut (ss.length ≤ maxLen) := ⟨hs⟩
  have HZ : Shut (∀ s ∈ ss, s.size ≤ maxLen) := ⟨hz⟩
  have HR : Shut (Reads w A ss) := ⟨hr⟩
  clear hn hs hz hr hS hB
  by_cases h1 : S.length ≤ 10000
  · go_enter Try.func13, Try.ntmps13
    go_wp2_with fail
    refine (long_walk A cap ss _ HLL.out HZ.out HR.out).mono ?_
    rintro e w1 ⟨hb1, rfl | ⟨rfl, hl1, hl2⟩⟩
    · go_wp2_with fail
      refine (lives_walk _).mono ?_
      rintro e w9 ⟨rfl, hb9⟩
      go_wp2
      go_ret
      exact ⟨rfl, chain hb1 hb9⟩
    · by_cases h2 : B.length ≤ 10000
      · have HT1 : Shut (take (ByteArray.mk (num n).toArray ++ ByteArray.mk B.toArray).data.toList = (n, B, 0)) := ⟨by rw [app_mk]; exact take_num n HNR.out B⟩
        have HT2 : Shut (takeText (ByteArray.mk (text S).toArray ++ ByteArray.mk B.toArray).data.toList (S.length : Int) = (S, B, 0)) := ⟨by rw [app_mk]; exact takeText_text S B _ (by omega) (by omega)⟩
        have HT3 : Shut (takeTexts (ByteArray.mk (texts ss).toArray ++ ByteArray.mk B.toArray).data.toList (ss.length : Int) 10000 = (ss, B, 0)) := ⟨by
          rw [app_mk]
          exact takeTexts_texts ss B _ _ (by omega) (by omega) (fun s hs => by have := tot_part hs; omega)⟩
        have hln := num_len n
        have hlt : (text S).length ≤ 10 + S.length := by have := num_len (S.length : Int); unfold text; simp; omega
        have hlx : (texts ss).length ≤ 10 + 10000 + 10 * 101 := by
          have := num_len (ss.length : Int)
          have h3 := textsOf_len ss
          unfold texts
          simp
          omega
        have es : ∀ l : List UInt8, (l == l) = true := fun l => by simp
        clear es
        go_wp2_with fail
        refine (num_walk n HNR.out _).mono ?_
        rintro e w2 ⟨rfl, hb2⟩
        go_wp2_with fail
        refine (take_walk _ (by rw [size_app]; unfold maxLen; omega) _).mono ?_
        rintro e w3 ⟨rfl, hb3⟩
        rw [HT1.out]
        go_wp2_with fail
        refine (text_walk ⟨S.toArray⟩ (by rw [size_mk]; omega) _).mono ?_
        rintro e w4 ⟨rfl, hb4⟩
        go_wp2_with fail
        refine (takeText_walk _ _ (by show ((ByteArray.mk (text S).toArray) ++ (ByteArray.mk B.toArray)).size ≤ _; rw [size_app]; unfold maxLen; omega) _).mono ?_
        rintro e w5 ⟨rfl, hb5⟩
        have h := HT2.out
        simp only [h]
        clear h
        go_wp2_with fail
        refine (texts_walk A cap ss _ hl1 hl2 (HR.out.keep (chain hb1 (chain hb2 (chain hb3 (chain hb4 hb5)))))).mono ?_
        rintro e w6 ⟨rfl, hb6⟩
        go_wp2_with fail
        refine (takeTexts_walk _ _ _ (by rw [size_app]; omega) _).mono ?_
        rw [HT3.out]
        rintro e w7 ⟨A', cap', rfl, hown, hb7⟩
        have HR7 : Shut (Reads w7 A' ss) := ⟨Reads.of_own hown⟩
        have HRA : Shut (Reads w7 A ss) := ⟨HR.out.keep (chain hb1 (chain hb2 (chain hb3 (chain hb4 (chain hb5 (chain hb6 hb7))))))⟩
        clear hown
        go_wp2_with fail
        refine (same_walk A' A cap' cap ss ss _ HLL.out HLL.out HR7.out HRA.out).mono ?_
        rintro e w8 ⟨rfl, hb8⟩
        rw [decide_eq_true rfl]
        go_wp2_with fail
        refine (lives_walk _).mono ?_
        rintro e w9 ⟨rfl, hb9⟩
        go_wp2
        go_ret
        exact ⟨rfl, chain hb1 (chain hb2 (chain hb3 (chain hb4 (chain hb5 (chain hb6 (chain hb7 (chain hb8 hb9)))))))⟩
      · clear hl1 hl2
        go_wp2_with fail
        refine (lives_walk _).mono ?_
        rintro e w9 ⟨rfl, hb9⟩
        go_wp2
        go_ret
        exact ⟨rfl, chain hb1 hb9⟩
  · go_enter Try.func13, Try.ntmps13
    go_wp2_with fail
    refine (lives_walk _).mono ?_
    rintro e w9 ⟨rfl, hb9⟩
    go_wp2
    go_ret
    exact ⟨rfl, hb9⟩

theorem octetBack_row (n : Int) (s : ByteArray) (A : Option Addr) (cap : Nat) (ss : List ByteArray) (b : ByteArray) (hn : (Lit.int .i64 n).wf = true) (hS : s.size ≤ maxLen) (hs : ss.length ≤ maxLen) (hz : ∀ s ∈ ss, s.size ≤ maxLen) (w : World) (hr : Reads w A ss) (hB : b.size ≤ maxLen) :
    Calls Try.prog 13 #[.int .i64 n, .string s, .slice A ss.length cap, .string b] w fun e w' => e = .returned (.bool true) ∧ Below w.heap.size w w' := by
  have h := octetBack_walk n s.data.toList A cap ss b.data.toList w hn (by simpa using hS) (by simpa using hB) hs hz hr
  rw [mk_eta, mk_eta] at h
  exact h
end Go.Proofs.Ytbijdnleiojkdaa.oct
