/- The walks of octet.Texts, of 'long' and of the law OctetBack. -/
import Derived.Test.YtbijdnleiojkdaaOctSame
import Derived.Test.YtbijdnleiojkdaaBytesOwn
namespace Go.Proofs.Ytbijdnleiojkdaa.oct
open Go.ChangeShapes Go.WideShapes Go.ChangeAt Go.RowKit
open Ytbijdnleiojkdaa.base (OwnB run_bw bw bcap bw_below bw_size wpList_append_text still drewnN rest_eq Shut size_mk ret_int ret_str ret_bool ba_ext run_string own_string run_string_new chain newer drewn same bytesOf bytesOf_one)

/-- all bytes of texts -/
def tot (ss : List ByteArray) : Nat := (ss.map ByteArray.size).sum
theorem tot_snoc (ss : List ByteArray) (s : ByteArray) : tot (ss ++ [s]) = tot ss + s.size := by simp [tot]
theorem tot_part {ss : List ByteArray} {s : ByteArray} (h : s ∈ ss) : s.size ≤ tot ss := by
  induction ss with
  | nil => cases h
  | cons x r ih =>
    have e : tot (x :: r) = x.size + tot r := by simp [tot]
    rcases List.mem_cons.1 h with rfl | h
    · omega
    · have := ih h; omega
theorem tot_take (ss : List ByteArray) (k : Nat) : tot (ss.take k) ≤ tot ss := by
  induction ss generalizing k with
  | nil => simp [tot]
  | cons x r ih =>
    cases k with
    | zero => simp [tot]
    | succ k => have := ih k; simp [tot] at this ⊢; omega
theorem textsOf_len (ss : List ByteArray) : (textsOf ss).length ≤ tot ss + 10 * ss.length := by
  induction ss with
  | nil => simp [textsOf, tot]
  | cons x r ih =>
    have e : (textsOf (x :: r)).length = (text x.data.toList).length + (textsOf r).length := by simp [textsOf]
    have h1 := num_len (x.data.toList.length : Int)
    have e2 : (text x.data.toList).length = (num (x.data.toList.length : Int)).length + x.size := by simp [text]
    have e3 : tot (x :: r) = x.size + tot r := by simp [tot]
    rw [e, e2, e3, List.length_cons]
    omega
theorem take_all (ss : List ByteArray) (k : Nat) (h : k < ss.length) : ss.take (k + 1) = ss.take k ++ [ss[k]] := List.take_succ_eq_append_getElem h
theorem text_len (s : ByteArray) : (text s.data.toList).length ≤ 10 + s.size := by
  have h := num_len (s.data.toList.length : Int)
  unfold text
  simp at h ⊢
  omega
def LongEnd (w : World) (ss : List ByteArray) (e : Ending) (w' : World) : Prop :=
  Below w.heap.size w w' ∧ (e = .returned (.bool true) ∨ (e = .returned (.bool false) ∧ ss.length ≤ 101 ∧ tot ss ≤ 10000))

set_option maxRecDepth 100000 in
set_option maxHeartbeats 400000 in
theorem long_walk (A : Option Addr) (cap : Nat) (ss : List ByteArray) (w : World) (hs : ss.length ≤ maxLen) (hz : ∀ s ∈ ss, s.size ≤ maxLen) (hr : Reads w A ss) :
    Calls Try.prog 37 #[.slice A ss.length cap] w (LongEnd w ss) := by
  by_cases h0 : ss = []
  · subst h0
    go_enter Try.func37, Try.ntmps37
    go_wp2
    refine wp_loop_once ?_
    go_wp2
    go_ret
    exact ⟨same w, .inr ⟨rfl, by simp, by simp [tot]⟩⟩
  · obtain ⟨b, off, rfl, _, hc⟩ := hr h0
    have HC := Lib.hid hc
    have HZ := Lib.hid hz
    unfold maxLen at hs
    clear hc hz hr h0
    go_enter Try.func37, Try.ntmps37
    go_wp2
    go_loop [3, 4] (fun nv i => ∃ k n : Nat, i = .int .i64 k ∧ nv = .int .i64 n ∧ k ≤ ss.length ∧ k ≤ 101 ∧ n ≤ 10000 ∧ Shut (n = tot (ss.take k))) (fun _ i => 102 - (intOf i).toNat)
    case atStart => exact ⟨0, 0, rfl, rfl, by omega, by omega, by omega, ⟨by simp [tot]⟩⟩
    case round =>
      obtain ⟨k, n, rfl, rfl, hk, hk1, hn, HN⟩ := hrel
      by_cases hlt : k < ss.length
      · have c1 := HC.out k ss[k] (List.getElem?_eq_getElem hlt)
        have hsz : ss[k].size ≤ 2 ^ 63 - 1 := HZ.out ss[k] (List.getElem_mem hlt)
        have HT : Shut (tot (ss.take (k + 1)) = n + ss[k].size) := ⟨by rw [List.take_succ_eq_append_getElem hlt, tot_snoc, HN.out]⟩
        have k1 : (k : Int) < (ss.length : Int) := by omega
        generalize ss[k] = x at c1 hsz HT
        by_cases h100 : 100 < k
        · go_wp2
          go_ret
          exact ⟨same w, .inl rfl⟩
        · by_cases hbig : (10000 : Int) - (n : Int) < (x.size : Int)
          · go_wp2
            go_ret
            exact ⟨same w, .inl rfl⟩
          · go_wp2
            go_round
            case rel => exact ⟨k + 1, n + x.size, by go_num, vint (by omega), by omega, by omega, by omega, ⟨HT.out.symm⟩⟩
            case measure => simp [intOf]; omega
      · have hfin : Shut (tot ss ≤ 10000) := ⟨by have := HN.out; rw [List.take_of_length_le (by omega)] at this; omega⟩
        go_wp2
        go_ret
        exact ⟨same w, .inr ⟨rfl, by omega, hfin.out⟩⟩

set_option maxRecDepth 100000 in
set_option maxHeartbeats 800000 in
theorem texts_walk (A : Option Addr) (cap : Nat) (ss : List ByteArray) (w : World) (hs : ss.length ≤ 101) (hz : tot ss ≤ 10000) (hr : Reads w A ss) :
    Calls Try.prog 39 #[.slice A ss.length cap] w fun e w' => e = .returned (.string ⟨(texts ss).toArray⟩) ∧ Below w.heap.size w w' := by
  have hnl := num_len (ss.length : Int)
  generalize hL : num (ss.length : Int) = L at hnl
  have HL : Shut (num (ss.length : Int) = L) := ⟨hL⟩
  have HFIN : Shut (texts ss = L ++ textsOf ss) := ⟨by unfold texts; rw [hL]⟩
  clear hL
  by_cases h0 : ss = []
  · subst h0
    have HFIN' : Shut (texts [] = L) := ⟨by rw [HFIN.out]; simp [textsOf]⟩
    have hcb := fun (u : World) => run_bw u L L.length rfl
    have hcv := fun (u : World) => (OwnB.new u u.heap.size L (Nat.le_refl _) (by unfold maxLen; omega)).text
    go_enter Try.func39, Try.ntmps39
    go_wp2_with fail
    refine (num_walk _ (by simp) _).mono ?_
    rintro e w1 ⟨rfl, hb1⟩
    have h : num 0 = L := HL.out
    simp only [List.length_nil, Int.natCast_zero, h]
    clear h
    go_wp2
    refine wp_loop_once ?_
    go_wp2
    go_ret
    exact ⟨by rw [HFIN'.out]; rfl, chain hb1 (bw_below _ _)⟩
  · obtain ⟨b, off, rfl, hbw, hc⟩ := hr h0
    have HC := Lib.hid hc
    have hcb := fun (u : World) => run_bw u L L.length rfl
    clear hc hr h0
    go_enter Try.func39, Try.ntmps39
    go_wp2_with fail
    refine (num_walk _ (by omega) _).mono ?_
    rintro e w1 ⟨rfl, hb1⟩
    rw [HL.out]
    go_wp2
    have hz1 := hb1.size
    have hb2 : Below w.heap.size w (bw w1 L) := chain hb1 (bw_below _ _)
    have HO := OwnB.new w1 w.heap.size L hz1 (by unfold maxLen; omega)
    clear hcb
    go_loopw [3, 12] (fun v i wr => ∃ (k g n c : Nat) (l : List UInt8), i = .int .i64 k ∧ v = .slice (some ⟨g, 0, none⟩) n c ∧ k ≤ ss.length ∧ n ≤ 10 + tot (ss.take k) + 10 * k ∧ Shut (l = L ++ textsOf (ss.take k)) ∧ Hid (OwnB wr w.heap.size g n c l) ∧ Below w.heap.size w wr) (fun _ i _ => ss.length - (intOf i).toNat)
    case atStart => exact ⟨0, w1.heap.size, L.length, bcap w1 L, L, rfl, rfl, by omega, by simp [tot]; omega, ⟨by simp [textsOf]⟩, HO, hb2⟩
    case round =>
      obtain ⟨k, g, n, c, l, rfl, rfl, hk, hn, HL2, HO2, hb⟩ := hrel
      have hzr := hb.size
      have htk := tot_take ss k
      by_cases hlt : k < ss.length
      · have c1 : wr.cell? ⟨b, off + k, none⟩ = some (.string ss[k]) := by
          rw [hb.cell (p := ⟨b, off + k, none⟩) hbw]
          exact HC.out k ss[k] (List.getElem?_eq_getElem hlt)
        have hsz : ss[k].size ≤ 10000 := Nat.le_trans (tot_part (List.getElem_mem hlt)) hz
        have hts := take_all ss k hlt
        have htl := text_len ss[k]
        have htot := tot_snoc (ss.take k) ss[k]
        rw [← hts] at htot
        have HX : Shut (l ++ text ss[k].data.toList = L ++ textsOf (ss.take (k + 1))) := ⟨by rw [HL2.out, hts, textsOf_snoc, List.append_assoc]⟩
        have HTOT : Shut (tot (ss.take (k + 1)) = tot (ss.take k) + ss[k].size) := ⟨htot⟩
        clear hts htot
        generalize ss[k] = x at c1 hsz htl HX HTOT
        go_wp2_with fail
        refine (text_walk x (by omega) _).mono ?_
        rintro e w3 ⟨rfl, hb3⟩
        have hz3 := hb3.size
        have HO3 : OwnB w3 w.heap.size g n c l := HO2.out.below hb3
        generalize text x.data.toList = t at htl HX
        go_wp2_with (at_builtin; refine wpList_append_text w3 rfl _ _ rfl w.heap.size g n c l t rfl rfl HO3 (by omega) (by omega) ?_)
        intro g' c' w4 HO4 hgrow
        have hlow := HO3.low
        have HO5 : Hid (OwnB w4 w.heap.size g' (n + t.length) c' (l ++ t)) := HO4
        clear HO4 HO3
        go_wp2
        go_roundw
        case rel => exact ⟨k + 1, g', n + t.length, c', l ++ t, by go_num, rfl, by omega, by rw [HTOT.out]; omega, HX, HO5, (chain hb hb3).grown hgrow (by omega) (fun y hy => by injection hy with hy; omega)⟩
        case measure => simp [intOf]; omega
      · have HE : Shut (l = texts ss) := ⟨by rw [HL2.out, HFIN.out, List.take_of_length_le (by omega)]⟩
        have hcv := HO2.out.text
        rw [HE.out] at hcv
        go_wp2
        go_ret
        exact ⟨rfl, hb⟩
end Go.Proofs.Ytbijdnleiojkdaa.oct
