/- The walk of seal.Take. -/
import Derived.Test.YthkjodlddhdeiaaSealTake
namespace Go.Proofs.Ythkjodlddhdeiaa.seal
open Go.ChangeShapes Go.WideShapes Go.ChangeAt Go.RowKit
open Ythkjodlddhdeiaa.base
open Ythkjodlddhdeiaa.oct (fixed readI read_walk rd rd_lt)
open Ythkjodlddhdeiaa.crc (sealed right_walk rightB)

theorem ext_size (s : ByteArray) (i j : Nat) (h : j ≤ s.size) : (s.extract i j).size = j - i := by rw [ByteArray.size_extract]; omega
theorem str_ne {s : ByteArray} {l : List UInt8} (h : ¬ l = s.data.toList) : ¬ (ByteArray.mk l.toArray) = s := fun e => h (by rw [← e, arr_list])
theorem str_eq {s : ByteArray} {l : List UInt8} (h : l = s.data.toList) : (ByteArray.mk l.toArray) = s := ba_ext (by rw [arr_list, h])
/-- the way on behind the tests -/
structure Past (s : ByteArray) (x y : Int) : Prop where
  half : halvesL s.data.toList = (x, y)
set_option maxRecDepth 100000 in
set_option maxHeartbeats 800000 in
theorem take_fail1 (s : ByteArray) (w : World) (h : s.size ≠ 512) :
    Calls Try.prog 18 #[.string s] w fun e w' => e = .returned (.tuple #[.int .i64 0, .string ⟨#[]⟩, .int .i64 4]) ∧ Below w.heap.size w w' := by
  have h3 : ¬ (s.size : Int) = 512 := by omega
  clear h
  go_enter Try.func18, Try.ntmps18
  go_wp2_with fail
  refine (halves_walk s _).mono ?_
  rintro e w1 ⟨rfl, m, rfl⟩
  generalize (halvesL s.data.toList).1 = x
  generalize (halvesL s.data.toList).2 = y
  go_wp2
  go_ret3
  exact ⟨rfl, drewnN (same w) _⟩
set_option maxRecDepth 100000 in
set_option maxHeartbeats 800000 in
theorem take_fail2 (s : ByteArray) (w : World) (h : s.size = 512) (hb : blankL s.data.toList = true) :
    Calls Try.prog 18 #[.string s] w fun e w' => e = .returned (.tuple #[.int .i64 0, .string ⟨#[]⟩, .int .i64 6]) ∧ Below w.heap.size w w' := by
  have hm : s.size ≤ maxLen := by unfold maxLen; omega
  have HM := Shut.mk hm
  clear hm
  go_enter Try.func18, Try.ntmps18
  go_wp2_with fail
  refine (halves_walk s _).mono ?_
  rintro e w1 ⟨rfl, m, rfl⟩
  generalize (halvesL s.data.toList).1 = x
  generalize (halvesL s.data.toList).2 = y
  go_wp2_with fail
  refine (blank_walk s HM.out _).mono ?_
  rintro e w1 ⟨rfl, rfl⟩
  rw [hb]
  clear hb
  go_wp2
  go_ret3
  exact ⟨rfl, drewnN (same w) _⟩
set_option maxRecDepth 100000 in
set_option maxHeartbeats 800000 in
theorem take_fail3 (s : ByteArray) (w : World) (h : s.size = 512) (hb : blankL s.data.toList = false) (hx : ¬ (halvesL s.data.toList).1 = (halvesL s.data.toList).2) :
    Calls Try.prog 18 #[.string s] w fun e w' => e = .returned (.tuple #[.int .i64 0, .string ⟨#[]⟩, .int .i64 10]) ∧ Below w.heap.size w w' := by
  have hm : s.size ≤ maxLen := by unfold maxLen; omega
  have HM := Shut.mk hm
  clear hm
  go_enter Try.func18, Try.ntmps18
  go_wp2_with fail
  refine (halves_walk s _).mono ?_
  rintro e w1 ⟨rfl, m, rfl⟩
  generalize (halvesL s.data.toList).1 = x at hx
  generalize (halvesL s.data.toList).2 = y at hx
  go_wp2_with fail
  refine (blank_walk s HM.out _).mono ?_
  rintro e w1 ⟨rfl, rfl⟩
  rw [hb]
  clear hb
  go_wp2
  go_ret3
  exact ⟨rfl, drewnN (same w) _⟩
set_option maxRecDepth 100000 in
set_option maxHeartbeats 800000 in
theorem take_fail4 (s : ByteArray) (w : World) (h : s.size = 512) (hb : blankL s.data.toList = false) (hx : (halvesL s.data.toList).1 = (halvesL s.data.toList).2)
    (hr : rightB s.data.toList = false ∨ (rightB s.data.toList = true ∧ 490 < readI (s.extract 8 10).data.toList)) :
    Calls Try.prog 18 #[.string s] w fun e w' => e = .returned (.tuple #[.int .i64 0, .string ⟨#[]⟩, .int .i64 9]) ∧ Below w.heap.size w w' := by
  have hm : s.size ≤ maxLen ∧ s.size ≤ 140737488351232 ∧ (s.extract 8 10).size ≤ maxLen := by rw [ext_size _ _ _ (by omega)]; unfold maxLen; omega
  have HM := Shut.mk hm
  clear hm
  rcases hr with hr | ⟨hr, hk⟩
  all_goals
    go_enter Try.func18, Try.ntmps18
    go_wp2_with fail
    refine (halves_walk s _).mono ?_
    rintro e w1 ⟨rfl, m, rfl⟩
    rw [hx]
    generalize (halvesL s.data.toList).2 = y
    go_wp2_with fail
    refine (blank_walk s HM.out.1 _).mono ?_
    rintro e w1 ⟨rfl, rfl⟩
    rw [hb]
    go_wp2_with fail
    refine (right_walk s _ HM.out.2.1).mono ?_
    rintro e w1 ⟨rfl, hb1⟩
    rw [hr]
  · clear hb hr hx
    go_wp2
    go_ret3
    exact ⟨rfl, chain (drewnN (same w) _) hb1⟩
  · clear hb hr hx
    go_wp2_with fail
    refine (read_walk _ HM.out.2.2 _).mono ?_
    rintro e w2 ⟨rfl, rfl⟩
    generalize readI (s.extract 8 10).data.toList = k at hk
    go_wp2
    go_ret3
    exact ⟨rfl, chain (drewnN (same w) _) hb1⟩
set_option maxRecDepth 100000 in
set_option maxHeartbeats 800000 in
theorem take_end (s : ByteArray) (w : World) (h : s.size = 512) (hb : blankL s.data.toList = false) (hx : (halvesL s.data.toList).1 = (halvesL s.data.toList).2)
    (hr : rightB s.data.toList = true) (hk : readI (s.extract 8 10).data.toList ≤ 490) (hk0 : 0 ≤ readI (s.extract 8 10).data.toList)
    (ok : Prop) (hok : (ok ∧ putE (halvesL s.data.toList).1 (textL s.data.toList).length = 0 ∧ putL (halvesL s.data.toList).1 (textL s.data.toList) = s.data.toList) ∨ (¬ ok ∧ (¬ putE (halvesL s.data.toList).1 (textL s.data.toList).length = 0 ∨ (putE (halvesL s.data.toList).1 (textL s.data.toList).length = 0 ∧ ¬ putL (halvesL s.data.toList).1 (textL s.data.toList) = s.data.toList)))) :
    Calls Try.prog 18 #[.string s] w fun e w' => ((ok ∧ e = .returned (.tuple #[.int .i64 (halvesL s.data.toList).1, .string ⟨(textL s.data.toList).toArray⟩, .int .i64 0])) ∨ (¬ ok ∧ e = .returned (.tuple #[.int .i64 0, .string ⟨#[]⟩, .int .i64 9]))) ∧ Below w.heap.size w w' := by
  have hm : s.size ≤ maxLen ∧ s.size ≤ 140737488351232 ∧ (s.extract 8 10).size ≤ maxLen := by rw [ext_size _ _ _ (by omega)]; unfold maxLen; omega
  have HM := Shut.mk hm
  clear hm
  obtain ⟨k, hkk⟩ : ∃ k : Nat, readI (s.extract 8 10).data.toList = (k : Int) := ⟨(readI (s.extract 8 10).data.toList).toNat, by omega⟩
  rw [hkk] at hk hk0
  have HT : Shut ((((s.extract 10 256) ++ (s.extract 264 508)).extract 0 k).data.toList = textL s.data.toList) := ⟨by
    rw [ext_list0, ByteArray.data_append, Array.toList_append, ext_list, ext_list]
    unfold textL
    rw [show (s.data.toList.drop 8).take 2 = (s.extract 8 10).data.toList from by rw [ext_list], hkk]
    rfl⟩
  have hcs : ((s.extract 10 256) ++ (s.extract 264 508)).size = 490 := by rw [ByteArray.size_append, ext_size _ _ _ (by omega), ext_size _ _ _ (by omega)]
  have c1 : (s.extract 10 256).size = 246 := ext_size _ _ _ (by omega)
  have c2 : (s.extract 264 508).size = 244 := ext_size _ _ _ (by omega)
  go_enter Try.func18, Try.ntmps18
  clear c1 c2
  go_wp2_with fail
  refine (halves_walk s _).mono ?_
  rintro e w1 ⟨rfl, m, rfl⟩
  rw [← hx]
  clear hx
  go_wp2_with fail
  refine (blank_walk s HM.out.1 _).mono ?_
  rintro e w1 ⟨rfl, rfl⟩
  rw [hb]
  clear hb
  go_wp2_with fail
  refine (right_walk s _ HM.out.2.1).mono ?_
  rintro e w1 ⟨rfl, hb1⟩
  rw [hr]
  clear hr
  go_wp2_with fail
  refine (read_walk _ HM.out.2.2 _).mono ?_
  rintro e w2 ⟨rfl, rfl⟩
  rw [hkk]
  have hread : ∀ u : World, Calls Try.prog 57 #[.string (s.extract 8 10)] u fun e u' => e = .returned (.int .i64 (k : Int)) ∧ u = u' := fun u => by rw [← hkk]; exact read_walk _ HM.out.2.2 u
  have HR := Shut.mk hread
  have HOK := Shut.mk hok
  clear hread hok hkk
  go_wp2
  go_quiet ((go_at_call 57; exact still (HR.out _)))
  generalize hT : ((s.extract 10 256) ++ (s.extract 264 508)).extract 0 k = T at HT
  clear hcs hT
  go_wp2_with fail
  refine (puts_walk _ T _).mono ?_
  rintro e w2 ⟨rfl, hb2⟩
  have hTT : ByteArray.mk (textL s.data.toList).toArray = T := str_eq HT.out.symm
  rw [HT.out]
  have HTT := Shut.mk hTT
  have HB := Shut.mk (chain (drewnN (same w) _) (chain hb1 (chain (drewnN (same w1) _) hb2)))
  clear hTT HT hb1 hb2
  generalize putE (halvesL s.data.toList).1 (textL s.data.toList).length = pe at HOK
  generalize putL (halvesL s.data.toList).1 (textL s.data.toList) = pl at HOK
  rcases HOK.out with ⟨o1, o2, o3⟩ | ⟨o1, o2 | ⟨o2, o3⟩⟩
  · have h1 : (ByteArray.mk pl.toArray) = s := ba_ext (by rw [arr_list, o3])
    rw [h1]
    subst o2
    clear h1 o3 HOK
    go_wp2
    go_ret3
    exact ⟨.inl ⟨o1, by rw [HTT.out]; rfl⟩, HB.out⟩
  · clear HOK
    go_wp2
    go_ret3
    exact ⟨.inr ⟨o1, rfl⟩, HB.out⟩
  · have h1 : (pl == s.toList) = false := by rw [ByteArray.toList_eq]; simpa using o3
    clear HOK o3
    subst o2
    go_wp2
    go_ret3
    exact ⟨.inr ⟨o1, rfl⟩, HB.out⟩
theorem take_walk (s : ByteArray) (w : World) :
    Calls Try.prog 18 #[.string s] w fun e w' => e = .returned (.tuple #[.int .i64 (takeN s.data.toList), .string ⟨(takeS s.data.toList).toArray⟩, .int .i64 (takeE s.data.toList)]) ∧ Below w.heap.size w w' := by
  have hl : s.data.toList.length = s.size := by simp
  by_cases h : s.size = 512
  · have e0 : takeE s.data.toList = if blankL s.data.toList = true then 6 else if (halvesL s.data.toList).1 = (halvesL s.data.toList).2 then (if takeOk s.data.toList then 0 else 9) else 10 := by
      unfold takeE; rw [if_pos (by omega)]
    cases hb : blankL s.data.toList with
    | true =>
      obtain ⟨e1, e2, e3⟩ := take_fails _ 6 (by rw [e0, hb]; rfl) (by decide)
      rw [e1, e2, e3]
      exact take_fail2 s w h hb
    | false =>
      rw [hb] at e0
      rw [if_neg (by decide)] at e0
      by_cases hx : (halvesL s.data.toList).1 = (halvesL s.data.toList).2
      · rw [if_pos hx] at e0
        have hr2 := two_range s.data.toList
        have h810 : (s.extract 8 10).data.toList = (s.data.toList.drop 8).take 2 := by rw [ext_list]
        have hfail : (rightB s.data.toList = false ∨ (rightB s.data.toList = true ∧ 490 < readI (s.extract 8 10).data.toList)) → Calls Try.prog 18 #[.string s] w fun e w' => e = .returned (.tuple #[.int .i64 (takeN s.data.toList), .string ⟨(takeS s.data.toList).toArray⟩, .int .i64 (takeE s.data.toList)]) ∧ Below w.heap.size w w' := by
          intro hr
          have hno : ¬ takeOk s.data.toList := by
            rintro ⟨_, h2, h3, _⟩
            rcases hr with hr | ⟨_, hr⟩
            · rw [hr] at h2; cases h2
            · rw [h810] at hr; omega
          obtain ⟨e1, e2, e3⟩ := take_fails _ 9 (by rw [e0, if_neg hno]) (by decide)
          rw [e1, e2, e3]
          exact take_fail4 s w h hb hx hr
        by_cases hr : rightB s.data.toList = true
        · by_cases hk : 490 < readI (s.extract 8 10).data.toList
          · exact hfail (.inr ⟨hr, hk⟩)
          · have hk2 : readI (s.extract 8 10).data.toList ≤ 490 := by omega
            have hk0 : 0 ≤ readI (s.extract 8 10).data.toList := by rw [h810]; exact hr2.1
            refine (take_end s w h hb hx hr hk2 hk0 (takeOk s.data.toList) ?_).mono ?_
            · by_cases hp : putE (halvesL s.data.toList).1 (textL s.data.toList).length = 0
              · by_cases hq : putL (halvesL s.data.toList).1 (textL s.data.toList) = s.data.toList
                · exact .inl ⟨⟨hx, hr, by rw [← h810]; exact hk2, hp, hq⟩, hp, hq⟩
                · exact .inr ⟨fun ho => hq ho.2.2.2.2, .inr ⟨hp, hq⟩⟩
              · exact .inr ⟨fun ho => hp ho.2.2.2.1, .inl hp⟩
            · rintro e w' ⟨⟨ho, he⟩ | ⟨ho, he⟩, hb'⟩
              · rw [if_pos ho] at e0
                refine ⟨?_, hb'⟩
                unfold takeN takeS
                rw [e0, if_pos rfl, if_pos rfl]
                exact he
              · obtain ⟨e1, e2, e3⟩ := take_fails _ 9 (by rw [e0, if_neg ho]) (by decide)
                rw [e1, e2, e3]
                exact ⟨he, hb'⟩
        · exact hfail (.inl (by simpa using hr))
      · obtain ⟨e1, e2, e3⟩ := take_fails _ 10 (by rw [e0, if_neg hx]) (by decide)
        rw [e1, e2, e3]
        exact take_fail3 s w h hb hx
  · obtain ⟨e1, e2, e3⟩ := take_fails s.data.toList 4 (by unfold takeE; rw [if_neg (by omega)]) (by decide)
    rw [e1, e2, e3]
    exact take_fail1 s w h
end Go.Proofs.Ythkjodlddhdeiaa.seal
