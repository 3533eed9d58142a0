/- The walk of 'lives' of the laws on labels. -/
import Derived.Test.YthkjodlddhdeiaaLabFacts
namespace Go.Proofs.Ythkjodlddhdeiaa.label
open Go.ChangeShapes Go.WideShapes Go.ChangeAt Go.RowKit
open Ythkjodlddhdeiaa.base Ythkjodlddhdeiaa.disk

set_option maxRecDepth 100000 in
set_option maxHeartbeats 1600000 in
theorem lives_walk (w : World) :
    Calls Try.prog 44 #[] w fun e w' => e = .returned (.bool true) ∧ Below w.heap.size w w' := by
  obtain ⟨p1, p2, p3, p4, p5⟩ := lives_plain
  have HP := Ythkjodlddhdeiaa.base.Shut.mk (And.intro p1 (And.intro p2 (And.intro p3 (And.intro p4 p5))))
  clear p1 p2 p3 p4 p5
  go_enter Try.func44, Try.ntmps44
  go_wp2_with fail
  refine (new_st 2 (by decide) (by decide) w _ (same w)).mono ?_
  rintro e w1 ⟨d, rfl, hs1, _⟩
  have hN := next_st hs1 (by decide)
  rw [HP.out.1] at hN
  have H1 := Ythkjodlddhdeiaa.base.Shut.mk (And.intro hs1 hN)
  clear hs1 hN
  go_wp2_with fail
  refine H1.out.2.mono ?_
  rintro e w2 ⟨rfl, hb2⟩
  have hs2 := H1.out.1.mono hb2
  have hW := labW_walk hs2 (by decide) exL (by decide) (by decide)
  rw [HP.out.2.1] at hW
  have H2 := Ythkjodlddhdeiaa.base.Shut.mk hW
  clear hb2 hs2 hW
  go_wp2_with fail
  refine H2.out.mono ?_
  rintro e w3 ⟨rfl, hs3⟩
  have hN := next_st hs3 (by rw [HP.out.2.2.1]; decide)
  rw [HP.out.2.2.2.1] at hN
  have H3 := Ythkjodlddhdeiaa.base.Shut.mk (And.intro hs3 hN)
  clear hs3 hN
  go_wp2_with fail
  refine H3.out.2.mono ?_
  rintro e w4 ⟨rfl, hb4⟩
  have hs4 := H3.out.1.mono hb4
  have hR := label_st hs4 (by rw [HP.out.2.2.1]; decide)
  rw [HP.out.2.2.2.2] at hR
  have H4 := Ythkjodlddhdeiaa.base.Shut.mk (And.intro hs4 hR)
  clear hb4 hs4 hR
  go_wp2_with fail
  refine H4.out.2.mono ?_
  rintro e w5 ⟨rfl, hb5⟩
  have hs5 := H4.out.1.mono hb5
  have H5 := Ythkjodlddhdeiaa.base.Shut.mk (newer hs5.below (.cells exM.cells 81))
  clear hb5 hs5
  go_wp2
  go_ret
  exact ⟨rfl, H5.out⟩
end Go.Proofs.Ythkjodlddhdeiaa.label
