/- The walk of NodeTakes. -/
import Derived.Test.YtobdfocfkomagaaNodeRTakeW
import Derived.Test.YtobdfocfkomagaaNodeSame
import Derived.Test.YtobdfocfkomagaaNodeBackP
import Derived.Test.YtobdfocfkomagaaNodeLives
namespace Go.Proofs.Ytobdfocfkomagaa.node
open Go.ChangeShapes Go.WideShapes Go.ChangeAt Go.RowKit
open Ytobdfocfkomagaa.base (size_mk chain newer drewn same ba_ext)

theorem take_ways (page : List UInt8) : takeN 160 page = (zeroN, 4) ∨ ∃ m, takeN 160 page = (m, 0) := by
  by_cases h : (takeN 160 page).2 = 0
  · exact .inr ⟨_, Prod.ext rfl h⟩
  · exact .inl (take_bad h)
theorem right_nice {m : Nd} (h : checkN m = 0) : Nice m.l ∧ m.l.length ≤ 480 := by
  obtain ⟨_, hsz, hrt⟩ := put_ok h
  have h1 := count_le m.l
  have hs : (m.l.map wideP).sum ≤ sizeN m := by unfold sizeN; omega
  refine ⟨⟨by omega, fun k => ?_⟩, by omega⟩
  by_cases hk : k < m.l.length
  · have := right_fits hrt _ (List.getElem_mem hk)
    rw [at0_get (List.getElem?_eq_getElem hk)]
    omega
  · unfold at0
    rw [List.getD_eq_getElem?_getD, List.getElem?_eq_none (by omega)]
    simp [ByteArray.size]
theorem put_check {m : Nd} {page : List UInt8} (h : putN m = (page, 0)) : checkN m = 0 := by
  by_cases hc : checkN m = 0
  · exact hc
  · rw [put_bad hc] at h; exact congrArg Prod.snd h
theorem take_len (page : List UInt8) : (takeN 160 page).1.l.length ≤ 480 := by
  rcases take_ways page with h | ⟨m, h⟩
  · rw [h]; decide
  · rw [h]; exact (right_nice (put_check (take_put h))).2
/-- what is told, in a later world -/
theorem Taken.out {w w' : World} {T : Nd × Int} {e : Ending} (h : Taken w T e w') : ∃ A n c, e = .returned (.tuple #[nv T.1.leaf A n c, .int .i64 T.2]) ∧ T.1.l.length = n ∧ PReads w' A T.1.l ∧ Below w.heap.size w w' := h
theorem PReads.later {w w' u : World} {A : Option Addr} {ps : PL} (h : PReads w A ps) (h1 : Below w.heap.size w w') (h2 : Below w'.heap.size w' u) : PReads u A ps := (h.keep h1).keep h2
theorem row_two' {w : World} {q : Nat} {a b : Value} {t : TypeId} (h : Row w q #[a, b] t) : w.cell? ⟨q, 0, none⟩ = some a ∧ w.cell? ⟨q, 1, none⟩ = some b := ⟨h.cell 0, h.cell 1⟩
set_option maxRecDepth 100000 in
set_option maxHeartbeats 1600000 in
theorem nodeTakes_walk (page : ByteArray) (w : World) :
    Calls Try.prog 10 #[.string page] w fun e w' => e = .returned (.bool true) ∧ Below w.heap.size w w' := by
  by_cases h1000 : 1000 < page.size
  · have h' : (1000 : Int) < page.size := by omega
    go_enter Try.func10, Try.ntmps10
    go_wp2_with fail
    refine (lives_walk _).mono ?_
    rintro e w2 ⟨rfl, hb2⟩
    have H2 := Ytobdfocfkomagaa.base.Shut.mk hb2
    clear hb2
    go_wp2
    go_ret
    exact ⟨rfl, H2.out⟩
  · have h' : ¬ (1000 : Int) < page.size := by omega
    have h1 := fun u : World => take_walk page (by omega) u
    have h2 := fun u : World => rtake_walk page (by omega) u
    have hlen := take_len page.data.toList
    simp only [← take_most] at h2
    generalize takeN 160 page.data.toList = T at h1 h2 hlen
    obtain ⟨⟨lf, ps⟩, e⟩ := T
    simp only at hlen
    have H := Ytobdfocfkomagaa.base.Shut.mk (And.intro h1 (And.intro h2 hlen))
    clear h1 h2 hlen h1000
    go_enter Try.func10, Try.ntmps10
    go_wp2_with fail
    refine (H.out.1 _).mono ?_
    rintro e1 w1 ⟨A1, n1, c1, rfl, hn1, hr1, hb1⟩
    simp only at hn1 hr1
    have H1 := Ytobdfocfkomagaa.base.Shut.mk (And.intro hn1 (And.intro hr1 hb1))
    clear hn1 hr1 hb1
    go_wp2_with fail
    refine (H.out.2.1 _).mono ?_
    rintro e2 w2 ⟨A2, n2, c2, rfl, hn2, hr2, hb2⟩
    simp only at hn2 hr2
    have hq := (Row.new w1 #[.bool lf, .slice A1 n1 c1] 49).below hb2
    have hz := newer (same w2) (.cells #[.bool lf, .slice A2 n2 c2] 49)
    obtain ⟨x0, x1⟩ := row_two' (hq.below hz)
    have hsame := same_walk lf lf A1 A2 n1 c1 n2 c2 ps ps H1.out.1 hn2 (by have := H1.out.1; have := H.out.2.2; omega) _ ((H1.out.2.1.keep (chain (newer (same w1) (.cells #[.bool lf, .slice A1 n1 c1] 49)) hb2)).keep hz) (hr2.keep hz)
    rw [same_refl] at hsame
    have H2 := Ytobdfocfkomagaa.base.Shut.mk (And.intro hsame (chain (chain H1.out.2.2 (chain (newer (same w1) (.cells #[.bool lf, .slice A1 n1 c1] 49)) hb2)) hz))
    clear hq hb2 hr2 hn2 hsame hz
    go_wp2_with fail
    refine H2.out.1.mono ?_
    rintro e3 w3 ⟨rfl, hb3⟩
    have H3 := Ytobdfocfkomagaa.base.Shut.mk (chain H2.out.2 hb3)
    clear hb3 x0 x1
    go_wp2_with fail
    refine (lives_walk _).mono ?_
    rintro e4 w4 ⟨rfl, hb4⟩
    have H4 := Ytobdfocfkomagaa.base.Shut.mk (chain H3.out hb4)
    clear hb4
    go_wp2
    go_ret
    exact ⟨rfl, H4.out⟩
end Go.Proofs.Ytobdfocfkomagaa.node
