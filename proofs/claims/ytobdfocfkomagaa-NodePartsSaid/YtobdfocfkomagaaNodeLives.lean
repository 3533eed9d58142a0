/- The document's example of nodes: lives; and Small. -/
import Derived.Test.YtobdfocfkomagaaNodePut
import Derived.Test.YtobdfocfkomagaaNodeFind
import Derived.Test.YtobdfocfkomagaaNodePartsOne
namespace Go.Proofs.Ytobdfocfkomagaa.node
open Go.ChangeShapes Go.WideShapes Go.ChangeAt Go.RowKit
open Ytobdfocfkomagaa.base (size_mk chain newer drewn same ba_ext)

abbrev exK : ByteArray := ⟨#[97]⟩
abbrev exV : ByteArray := ⟨#[120]⟩
abbrev exB : ByteArray := ⟨#[98]⟩
theorem ex_less : less exK exB = true := by
  unfold less
  rw [ByteArray.toList_eq, ByteArray.toList_eq]
  rfl
theorem ex_nice : Nice [(exK, exV)] := ⟨by decide, fun k => by
  unfold at0
  cases k with
  | zero => exact ⟨by decide, by decide⟩
  | succ k => exact ⟨Nat.zero_le _, Nat.zero_le _⟩⟩
theorem ex_right : rightN ⟨true, [(exK, exV)]⟩ = true := by
  rw [right_all (fun k hk => ?_)]
  · rfl
  · obtain rfl : k = 0 := by have : k < 1 := hk; omega
    rfl
theorem ex_text : textN ⟨true, [(exK, exV)]⟩ = [1, 2, 2, 97, 2, 120] := by rfl
theorem ex_size : sizeN ⟨true, [(exK, exV)]⟩ = 6 := by rw [← text_len, ex_text]; rfl
theorem ex_check : checkN ⟨true, [(exK, exV)]⟩ = 0 := by unfold checkN; rw [ex_right, ex_size]; rfl
theorem ex_put : putN ⟨true, [(exK, exV)]⟩ = ([1, 2, 2, 97, 2, 120] ++ List.replicate 474 0, 0) := by rw [(put_ok ex_check).1, ex_text, ex_size]
theorem ex_at : atK [(exK, exV)] exB 1 = 0 := by
  unfold atK
  rw [if_pos]
  · rfl
  · unfold leqB
    rw [show (at0 [(exK, exV)] 0).1 = exK from rfl, ex_less]
    rfl
theorem ex_cut : (ByteArray.mk ([1, 2, 2, 97, 2, 120] ++ List.replicate 474 0 : List UInt8).toArray).extract 0 7 = ⟨#[1, 2, 2, 97, 2, 120, 0]⟩ := by
  apply ba_ext
  rw [ByteArray.data_extract, Array.toList_extract]
  rfl
theorem ex_len : ([1, 2, 2, 97, 2, 120] ++ List.replicate 474 0 : List UInt8).length = 480 := by rw [List.length_append, List.length_replicate]; rfl
set_option maxRecDepth 100000 in
set_option maxHeartbeats 1600000 in
theorem lives_walk (w : World) : Calls Try.prog 26 #[] w fun e w' => e = .returned (.bool true) ∧ Below w.heap.size w w' := by
  obtain ⟨g, hg⟩ : ∃ g, w.heap.size = g := ⟨_, rfl⟩
  obtain ⟨V1, hV1⟩ : ∃ V1, w.alloc (.cells #[.string exK, .string exV] 60) = V1 := ⟨_, rfl⟩
  obtain ⟨V, hV⟩ : ∃ V, V1.alloc (.cells #[.bool true, .slice (some ⟨g, 0, none⟩) 1 1] 49) = V := ⟨_, rfl⟩
  have hb1 : Below w.heap.size w V1 := by rw [← hV1]; exact newer (same w) _
  have hb2 : Below V1.heap.size V1 V := by rw [← hV]; exact newer (same V1) _
  have hrow : Row V1 g #[.string exK, .string exV] 60 := by rw [← hV1, ← hg]; exact Row.new _ _ _
  have hrd : PReads V (some ⟨g, 0, none⟩) [(exK, exV)] := fun _ => ⟨g, 0, rfl, Nat.lt_of_lt_of_le hrow.lt hb2.size, fun i p hi => by
    obtain rfl : i = 0 := by have := (List.getElem?_eq_some_iff.1 hi).1; simp at this; exact this
    cases hi
    exact ⟨(hrow.below hb2).cell 0, (hrow.below hb2).cell 1⟩⟩
  have hv1 : V1.heap.size = g + 1 := by rw [← hV1, ← hg]; simp
  have hbox : Row V V1.heap.size #[.bool true, .slice (some ⟨g, 0, none⟩) 1 1] 49 := by rw [← hV]; exact Row.new _ _ _
  rw [hv1] at hbox
  have hput := put_walk true (some ⟨g, 0, none⟩) 1 1 [(exK, exV)] rfl ex_nice V hrd
  rw [ex_put] at hput
  have hfind := fun (u : World) (hu : Below V.heap.size V u) => find_walk true (some ⟨g, 0, none⟩) 1 1 [(exK, exV)] rfl ex_nice ex_right exB u (hrd.keep hu)
  rw [ex_at] at hfind
  have hne : (decide ((0 : Int) ≤ 0) && decide ((at0 [(exK, exV)] (0 : Int).toNat).1 = exB)) = false := by
    rw [show (at0 [(exK, exV)] (0 : Int).toNat).1 = exK from rfl, decide_eq_false (show ¬ exK = exB by decide), Bool.and_false]
  rw [hne] at hfind
  have hparts := fun (u : World) (hu : Below V.heap.size V u) => parts_one true g 0 1 (exK, exV) ex_nice ex_right (by decide) u (hrd.keep hu)
  have hcut := ex_cut
  have hlen := ex_len
  have H := Ytobdfocfkomagaa.base.Shut.mk (And.intro hput (And.intro hfind (And.intro hparts (And.intro (chain hb1 hb2) hbox))))
  have v0 : V.cell? ⟨g + 1, 0, none⟩ = some (.bool true) := hbox.cell 0
  have v1 : V.cell? ⟨g + 1, 1, none⟩ = some (.slice (some ⟨g, 0, none⟩) 1 1) := hbox.cell 1
  clear hput hfind hparts hb1 hb2 hrow hrd hbox hne
  generalize ([1, 2, 2, 97, 2, 120] ++ List.replicate 474 0 : List UInt8) = PG at H hcut hlen
  go_enter Try.func26, Try.ntmps26
  go_wp2_with fail
  refine H.out.1.mono ?_
  rintro e w1 ⟨rfl, hb1⟩
  have y0 : w1.cell? ⟨g + 1, 0, none⟩ = some (.bool true) := (H.out.2.2.2.2.below hb1).cell 0
  have y1 : w1.cell? ⟨g + 1, 1, none⟩ = some (.slice (some ⟨g, 0, none⟩) 1 1) := (H.out.2.2.2.2.below hb1).cell 1
  have H1 := Ytobdfocfkomagaa.base.Shut.mk (And.intro (H.out.2.1 w1 hb1) hb1)
  clear hb1
  go_wp2_with fail
  refine H1.out.1.mono ?_
  rintro e w2 ⟨rfl, hb2⟩
  have z0 : w2.cell? ⟨g + 1, 0, none⟩ = some (.bool true) := (H.out.2.2.2.2.below (chain H1.out.2 hb2)).cell 0
  have z1 : w2.cell? ⟨g + 1, 1, none⟩ = some (.slice (some ⟨g, 0, none⟩) 1 1) := (H.out.2.2.2.2.below (chain H1.out.2 hb2)).cell 1
  have H2 := Ytobdfocfkomagaa.base.Shut.mk (And.intro (H.out.2.2.1 w2 (chain H1.out.2 hb2)) (chain H1.out.2 hb2))
  clear hb2 y0 y1
  go_wp2_with fail
  refine H2.out.1.mono ?_
  rintro e w3 ⟨⟨a, cap, rfl⟩, hb3⟩
  have H3 := Ytobdfocfkomagaa.base.Shut.mk (chain H.out.2.2.2.1 (chain H2.out.2 hb3))
  clear hb3
  go_wp2
  go_ret
  exact ⟨rfl, H3.out⟩
end Go.Proofs.Ytobdfocfkomagaa.node
