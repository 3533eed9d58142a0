/- The walks of octet.TakeTexts and of the reference's TakeTexts. -/
import Derived.Test.YtbijdnleiojkdaaOctTextW
namespace Go.Proofs.Ytbijdnleiojkdaa.oct
open Go.ChangeShapes Go.WideShapes Go.ChangeAt Go.RowKit
open Ytbijdnleiojkdaa.base (still drewnN rest_eq Shut size_mk ret_int ret_str ret_bool ba_ext run_string own_string run_string_new chain newer drewn same bytesOf bytesOf_one)

theorem info_str : (Try.prog.info? 9).map (fun i => (i.zero, i.size, i.bytes)) = some (some (.string ⟨#[]⟩), 1, 16) := by kernel_rfl
def slen : Value → Nat
  | .slice _ n _ => n
  | _ => 0
def strs (ss : List ByteArray) : List Value := ss.map Value.string
theorem strs_snoc (ss : List ByteArray) (s : ByteArray) : strs (ss ++ [s]) = strs ss ++ [.string s] := by simp [strs]
/-- what a function hands back that takes a list off the front -/
def TextsEnd (w : World) (q : List ByteArray × List UInt8 × Int) (e : Ending) (w' : World) : Prop :=
  ∃ A cap, e = .returned (.tuple #[.slice A q.1.length cap, .string ⟨q.2.1.toArray⟩, .int .i64 q.2.2]) ∧ w'.ownsRow w.heap.size 9 1 (.slice A q.1.length cap) q.1.length (strs q.1) ∧ Below w.heap.size w w'
theorem TextsEnd.bad {w w' : World} {e : Int} (hb : Below w.heap.size w w') : TextsEnd w ([], [], e) (.returned (.tuple #[.slice none 0 0, .string ⟨#[]⟩, .int .i64 e])) w' :=
  ⟨none, 0, rfl, World.ownsRow_nil _ _ _ _, hb⟩
theorem TextsEnd.good {w w' : World} {acc : List ByteArray} {r : List UInt8} {A : Option Addr} {k cap : Nat} (hk : acc.length = k) (ho : w'.ownsRow w.heap.size 9 1 (.slice A k cap) k (strs acc)) (hb : Below w.heap.size w w') :
    TextsEnd w (acc, r, 0) (.returned (.tuple #[.slice A k cap, .string ⟨r.toArray⟩, .int .i64 0])) w' := by
  subst hk
  exact ⟨A, cap, rfl, ho, hb⟩
/-- what holds at a round's head: k texts are taken, r is left -/
structure Taken (l : List UInt8) (count most : Int) (m k : Nat) (acc : List ByteArray) (r : List UInt8) : Prop where
  eq : takeTexts l count most = loopT most (m - k) acc r
  len : acc.length = k
  le : k ≤ m
  room : k + r.length ≤ l.length
theorem Taken.start {l r : List UInt8} {count most : Int} {m : Nat} (h : sizeOfs l count = ((m : Int), r, 0)) (hr : r.length + 1 ≤ l.length) : Taken l count most m 0 [] r :=
  ⟨by unfold takeTexts; rw [h]; simp, rfl, by omega, by omega⟩
theorem Taken.bad {l r x y : List UInt8} {count most e : Int} {m k : Nat} {acc : List ByteArray} (h : Taken l count most m k acc r) (hk : k < m) (ht : takeText r most = (x, y, e)) (he : e ≠ 0) : takeTexts l count most = ([], [], e) := by
  rw [h.eq, show m - k = (m - (k + 1)) + 1 from by omega, loopT, ht]
  simp [he]
theorem Taken.more {l r t r' : List UInt8} {count most : Int} {m k : Nat} {acc : List ByteArray} (h : Taken l count most m k acc r) (hk : k < m) (ht : takeText r most = (t, r', 0)) : Taken l count most m (k + 1) (acc ++ [⟨t.toArray⟩]) r' := by
  have h1 := takeText_len ht
  have h2 := h.room
  refine ⟨?_, by simp [h.len], by omega, by omega⟩
  rw [h.eq, show m - k = (m - (k + 1)) + 1 from by omega, loopT, ht]
  simp
theorem Taken.done {l r : List UInt8} {count most : Int} {m k : Nat} {acc : List ByteArray} (h : Taken l count most m k acc r) (hk : ¬ k < m) : takeTexts l count most = (acc, r, 0) := by
  rw [h.eq, show m - k = 0 from by omega, loopT]
/-- how 'takeText' ends: an error, or a text -/
theorem text_ways (l : List UInt8) (most : Int) : (∃ e : Int, (e = 3 ∨ e = 4 ∨ e = 5) ∧ takeText l most = ([], [], e)) ∨ ∃ t r, takeText l most = (t, r, 0) := by
  rcases size_ways l most with ⟨e, he, _, h⟩ | ⟨m, r, _, _, _, _, h⟩
  · exact .inl ⟨e, he, h⟩
  · by_cases g : r.length < m
    · exact .inl ⟨3, .inl rfl, by rw [h, if_pos g]⟩
    · exact .inr ⟨_, _, by rw [h, if_neg g]⟩

set_option maxRecDepth 100000 in
set_option maxHeartbeats 800000 in
theorem takeTexts_walk (s : ByteArray) (count most : Int) (hs : s.size ≤ 1048576) (w : World) :
    Calls Try.prog 34 #[.string s, .int .i64 count, .int .i64 most] w (TextsEnd w (takeTexts s.data.toList count most)) := by
  obtain ⟨i0, hi, hz0, hz1, hz2⟩ := info_parts info_str
  have hm1 : s.size ≤ maxLen := by unfold maxLen; omega
  have HS : Shut (s.size ≤ maxLen) := ⟨hm1⟩
  have HU : Shut (s.data.toList.length ≤ 1048576) := ⟨by simpa using hs⟩
  clear hs hm1
  rcases size_ways s.data.toList count with ⟨e, he, h1, _⟩ | ⟨m, r0, h1, _, hm, hr, _⟩
  · have HT : Shut (sizeOfs s.data.toList count = (0, [], e)) := ⟨h1⟩
    have hne : e ≠ 0 := by omega
    have HF : Shut (takeTexts s.data.toList count most = ([], [], e)) := ⟨by unfold takeTexts; rw [h1]; simp [hne]⟩
    clear h1 hne
    rcases he with rfl | rfl | rfl
    all_goals
      go_enter Try.func34, Try.ntmps34
      go_wp2_with fail
      refine (size_walk s count HS.out _).mono ?_
      rintro e w1 ⟨rfl, hb1⟩
      rw [HT.out]
      go_wp2
      go_ret3
      rw [HF.out]
      exact TextsEnd.bad hb1
  · have HT : Shut (sizeOfs s.data.toList count = ((m : Int), r0, 0)) := ⟨h1⟩
    have HI0 : Shut (Taken s.data.toList count most m 0 [] r0) := ⟨Taken.start h1 hr⟩
    clear h1 hr hm
    go_enter Try.func34, Try.ntmps34
    go_wp2_with fail
    refine (size_walk s count HS.out _).mono ?_
    rintro e w1 ⟨rfl, hb1⟩
    rw [HT.out]
    go_wp2
    clear HT
    go_loopw [10, 12] (fun sv v wr => ∃ (k cap : Nat) (A : Option Addr) (acc : List ByteArray) (r : List UInt8), v = .slice A k cap ∧ sv = .string ⟨r.toArray⟩ ∧ Shut (Taken s.data.toList count most m k acc r) ∧ wr.ownsRow w.heap.size 9 1 (.slice A k cap) k (strs acc) ∧ Below w.heap.size w wr) (fun _ v _ => m - slen v)
    case atStart => exact ⟨0, 0, none, [], r0, rfl, rfl, HI0, World.ownsRow_nil _ _ _ _, hb1⟩
    case round =>
      obtain ⟨k, cap, A, acc, r, rfl, rfl, HI, hown, hb⟩ := hrel
      have hz := hb.size
      have hroom : k + r.length ≤ 1048576 := Nat.le_trans HI.out.room HU.out
      have HRL : Shut ((ByteArray.mk r.toArray).size ≤ maxLen) := ⟨by rw [size_mk]; unfold maxLen; omega⟩
      by_cases hlt : k < m
      · rcases text_ways r most with ⟨e, he, ht⟩ | ⟨t, r', ht⟩
        · have HT : Shut (takeText r most = ([], [], e)) := ⟨ht⟩
          have HF : Shut (takeTexts s.data.toList count most = ([], [], e)) := ⟨HI.out.bad hlt ht (by omega)⟩
          clear ht
          rcases he with rfl | rfl | rfl
          all_goals
            go_wp2_with fail
            refine (takeText_walk _ most HRL.out _).mono ?_
            rintro e w2 ⟨rfl, hb2⟩
            have h := HT.out
            simp only [h]
            clear h
            go_wp2
            go_ret3
            rw [HF.out]
            exact TextsEnd.bad (chain hb hb2)
        · have HT : Shut (takeText r most = (t, r', 0)) := ⟨ht⟩
          have HG : Shut (Taken s.data.toList count most m (k + 1) (acc ++ [⟨t.toArray⟩]) r') := ⟨HI.out.more hlt ht⟩
          clear ht
          go_wp2_with fail
          refine (takeText_walk _ most HRL.out _).mono ?_
          rintro e w2 ⟨rfl, hb2⟩
          have h := HT.out
          simp only [h]
          clear h
          have hb3 : Below w.heap.size w w2 := chain hb hb2
          have hown2 : w2.ownsRow w.heap.size 9 1 (.slice A k cap) k (strs acc) := hown.kept (row := none) ⟨hb2.os, hb2.tape, hb2.output, hb2.size, fun i hi _ => hb2.block i hi⟩ (by cases A <;> simp [Value.ownBlock])
          have hz2' := hb2.size
          go_wp2_with (at_builtin; refine wpList_append_lies _ rfl _ _ 48 rfl w.heap.size 9 i0 _ 1 16 Try.underlying48 hi hz0 hz1 hz2 rfl (by omega) _ k (strs acc) rfl (hown2.alloc _) ⟨w2.heap.size, 0, none⟩ 1 1 [.string ⟨t.toArray⟩] rfl rfl (World.news_of_block (cs := #[.string ⟨t.toArray⟩]) (t := 9) (fr := (0, 0)) (heap_alloc_new w2 _)) (by simp [Value.oneCell']) (by omega) (by unfold maxLen; omega) (by omega) (by simp; omega) _ rfl ?_)
          intro g cap' w3 hown3 hgrow hat hlt3
          go_wp2
          go_roundw
          case rel => exact ⟨k + 1, cap', some ⟨g, 0, none⟩, acc ++ [⟨t.toArray⟩], r', rfl, rfl, HG, by rw [strs_snoc]; exact hown3, (newer hb3 _).grown hgrow (by simp; omega) (fun x hx => (hown.lt x hx).1)⟩
          case measure => simp [slen]; omega
      · have HF : Shut (takeTexts s.data.toList count most = (acc, r, 0)) := ⟨HI.out.done hlt⟩
        have hlen := HI.out.len
        have HLEN : Shut (acc.length = k) := ⟨hlen⟩
        clear hlen
        go_wp2
        go_ret3
        rw [HF.out]
        exact TextsEnd.good HLEN.out hown hb

set_option maxRecDepth 100000 in
set_option maxHeartbeats 800000 in
theorem rtakeTexts_walk (s : ByteArray) (count most : Int) (hs : s.size ≤ 1048576) (w : World) :
    Calls Try.prog 35 #[.string s, .int .i64 count, .int .i64 most] w (TextsEnd w (takeTexts s.data.toList count most)) := by
  obtain ⟨i0, hi, hz0, hz1, hz2⟩ := info_parts info_str
  have hm1 : s.size ≤ maxLen := by unfold maxLen; omega
  have HS : Shut (s.size ≤ maxLen) := ⟨hm1⟩
  have HU : Shut (s.data.toList.length ≤ 1048576) := ⟨by simpa using hs⟩
  clear hs hm1
  rcases take_ways s.data.toList with h | h | ⟨n, r0, h, h1, h2, hr⟩
  · have HT : Shut (take s.data.toList = (0, [], 3)) := ⟨h⟩
    have HF : Shut (takeTexts s.data.toList count most = ([], [], 3)) := ⟨by unfold takeTexts; rw [size_of_err h (by decide)]; simp⟩
    clear h
    go_enter Try.func35, Try.ntmps35
    go_wp2_with fail
    refine (rtake_walk s HS.out _).mono ?_
    rintro e w1 ⟨rfl, hb1⟩
    rw [HT.out]
    go_wp2
    go_ret3
    rw [HF.out]
    exact TextsEnd.bad hb1
  · have HT : Shut (take s.data.toList = (0, [], 4)) := ⟨h⟩
    have HF : Shut (takeTexts s.data.toList count most = ([], [], 4)) := ⟨by unfold takeTexts; rw [size_of_err h (by decide)]; simp⟩
    clear h
    go_enter Try.func35, Try.ntmps35
    go_wp2_with fail
    refine (rtake_walk s HS.out _).mono ?_
    rintro e w1 ⟨rfl, hb1⟩
    rw [HT.out]
    go_wp2
    go_ret3
    rw [HF.out]
    exact TextsEnd.bad hb1
  · have HT : Shut (take s.data.toList = (n, r0, 0)) := ⟨h⟩
    have hsz := size_of_take (most := count) h
    clear h h1 h2
    by_cases g1 : n < 0
    · have HF : Shut (takeTexts s.data.toList count most = ([], [], 4)) := ⟨by unfold takeTexts; rw [hsz, if_pos g1]; simp⟩
      clear hsz
      go_enter Try.func35, Try.ntmps35
      go_wp2_with fail
      refine (rtake_walk s HS.out _).mono ?_
      rintro e w1 ⟨rfl, hb1⟩
      rw [HT.out]
      go_wp2
      go_ret3
      rw [HF.out]
      exact TextsEnd.bad hb1
    rw [if_neg g1] at hsz
    by_cases g2 : count < n
    · have g1' : 0 ≤ n := by omega
      have HF : Shut (takeTexts s.data.toList count most = ([], [], 5)) := ⟨by unfold takeTexts; rw [hsz, if_pos g2]; simp⟩
      clear hsz g1
      go_enter Try.func35, Try.ntmps35
      go_wp2_with fail
      refine (rtake_walk s HS.out _).mono ?_
      rintro e w1 ⟨rfl, hb1⟩
      rw [HT.out]
      go_wp2
      go_ret3
      rw [HF.out]
      exact TextsEnd.bad hb1
    rw [if_neg g2] at hsz
    obtain ⟨m, rfl⟩ := Int.eq_ofNat_of_zero_le (by omega : 0 ≤ n)
    have HI0 : Shut (Taken s.data.toList count most m 0 [] r0) := ⟨Taken.start hsz hr⟩
    have g2' : (m : Int) ≤ count := by omega
    clear hsz hr g1 g2
    go_enter Try.func35, Try.ntmps35
    go_wp2_with fail
    refine (rtake_walk s HS.out _).mono ?_
    rintro e w1 ⟨rfl, hb1⟩
    rw [HT.out]
    go_wp2
    clear HT
    go_loopw [10, 12] (fun sv v wr => ∃ (k cap : Nat) (A : Option Addr) (acc : List ByteArray) (r : List UInt8), v = .slice A k cap ∧ sv = .string ⟨r.toArray⟩ ∧ Shut (Taken s.data.toList count most m k acc r) ∧ wr.ownsRow w.heap.size 9 1 (.slice A k cap) k (strs acc) ∧ Below w.heap.size w wr) (fun _ v _ => m - slen v)
    case atStart => exact ⟨0, 0, none, [], r0, rfl, rfl, HI0, World.ownsRow_nil _ _ _ _, hb1⟩
    case round =>
      obtain ⟨k, cap, A, acc, r, rfl, rfl, HI, hown, hb⟩ := hrel
      have hz := hb.size
      have hroom : k + r.length ≤ 1048576 := Nat.le_trans HI.out.room HU.out
      have HRL : Shut ((ByteArray.mk r.toArray).size ≤ maxLen) := ⟨by rw [size_mk]; unfold maxLen; omega⟩
      by_cases hlt : k < m
      · rcases text_ways r most with ⟨e, he, ht⟩ | ⟨t, r', ht⟩
        · have HT : Shut (takeText r most = ([], [], e)) := ⟨ht⟩
          have HF : Shut (takeTexts s.data.toList count most = ([], [], e)) := ⟨HI.out.bad hlt ht (by omega)⟩
          clear ht
          rcases he with rfl | rfl | rfl
          all_goals
            go_wp2_with fail
            refine (rtakeText_walk _ most HRL.out _).mono ?_
            rintro e w2 ⟨rfl, hb2⟩
            have h := HT.out
            simp only [h]
            clear h
            go_wp2
            go_ret3
            rw [HF.out]
            exact TextsEnd.bad (chain hb hb2)
        · have HT : Shut (takeText r most = (t, r', 0)) := ⟨ht⟩
          have HG : Shut (Taken s.data.toList count most m (k + 1) (acc ++ [⟨t.toArray⟩]) r') := ⟨HI.out.more hlt ht⟩
          clear ht
          go_wp2_with fail
          refine (rtakeText_walk _ most HRL.out _).mono ?_
          rintro e w2 ⟨rfl, hb2⟩
          have h := HT.out
          simp only [h]
          clear h
          have hb3 : Below w.heap.size w w2 := chain hb hb2
          have hown2 : w2.ownsRow w.heap.size 9 1 (.slice A k cap) k (strs acc) := hown.kept (row := none) ⟨hb2.os, hb2.tape, hb2.output, hb2.size, fun i hi _ => hb2.block i hi⟩ (by cases A <;> simp [Value.ownBlock])
          have hz2' := hb2.size
          go_wp2_with (at_builtin; refine wpList_append_lies _ rfl _ _ 48 rfl w.heap.size 9 i0 _ 1 16 Try.underlying48 hi hz0 hz1 hz2 rfl (by omega) _ k (strs acc) rfl (hown2.alloc _) ⟨w2.heap.size, 0, none⟩ 1 1 [.string ⟨t.toArray⟩] rfl rfl (World.news_of_block (cs := #[.string ⟨t.toArray⟩]) (t := 9) (fr := (0, 0)) (heap_alloc_new w2 _)) (by simp [Value.oneCell']) (by omega) (by unfold maxLen; omega) (by omega) (by simp; omega) _ rfl ?_)
          intro g cap' w3 hown3 hgrow hat hlt3
          go_wp2
          go_roundw
          case rel => exact ⟨k + 1, cap', some ⟨g, 0, none⟩, acc ++ [⟨t.toArray⟩], r', rfl, rfl, HG, by rw [strs_snoc]; exact hown3, (newer hb3 _).grown hgrow (by simp; omega) (fun x hx => (hown.lt x hx).1)⟩
          case measure => simp [slen]; omega
      · have HF : Shut (takeTexts s.data.toList count most = (acc, r, 0)) := ⟨HI.out.done hlt⟩
        have hlen := HI.out.len
        have HLEN : Shut (acc.length = k) := ⟨hlen⟩
        clear hlen
        go_wp2
        go_ret3
        rw [HF.out]
        exact TextsEnd.good HLEN.out hown hb
end Go.Proofs.Ytbijdnleiojkdaa.oct
