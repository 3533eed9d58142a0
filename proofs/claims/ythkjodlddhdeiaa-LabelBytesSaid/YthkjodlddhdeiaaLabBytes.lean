/- The walk of LabelBytes. -/
import Derived.Test.YthkjodlddhdeiaaLabRef
namespace Go.Proofs.Ythkjodlddhdeiaa.label
open Go.ChangeShapes Go.WideShapes Go.ChangeAt Go.RowKit
open Ythkjodlddhdeiaa.base Ythkjodlddhdeiaa.disk

set_option maxRecDepth 100000 in
set_option maxHeartbeats 3200000 in
theorem labelBytes_walk (l : Lb) (turn : Int) (s : ByteArray) (hl : l.note.size ≤ maxLen) (hs : s.size ≤ maxLen) (w : World) :
    Calls Try.prog 11 #[l.v, .int .i64 turn, .string s] w fun e w' => e = .returned (.bool true) ∧ Below w.heap.size w w' := by
  have hBy := fun u : World => bytes_walk l hl u
  have hRy := fun u : World => rbytes_walk l hl u
  have hPa := fun u : World => parse_walk turn s hs u
  have hRa := fun u : World => rparse_walk turn s hs u
  generalize parseL turn s.data.toList = PL at hPa hRa
  generalize bytesL l = bl at hBy hRy
  generalize bytesE l = be at hBy hRy
  obtain ⟨⟨mt, ma, mh, mn⟩, E⟩ := PL
  obtain ⟨lt, la, lh, ln⟩ := l
  simp only at hPa hRa hl
  have HH := Ythkjodlddhdeiaa.base.Shut.mk (And.intro hBy (And.intro hRy (And.intro hPa hRa)))
  obtain ⟨q, hq⟩ : ∃ q, w.heap.size = q := ⟨_, rfl⟩
  obtain ⟨V, hV⟩ : ∃ V, w.alloc (.cells (Lb.cells ⟨lt, la, lh, ln⟩) 81) = V := ⟨_, rfl⟩
  have hX : Row V q (Lb.cells ⟨lt, la, lh, ln⟩) 81 := by rw [← hV, ← hq]; exact Row.new _ _ _
  have hB : Below w.heap.size w V := by rw [← hV]; exact newer (same w) _
  have x0 : V.cell? ⟨q, 0, none⟩ = some (.int .i64 lt) := hX.cell 0
  have x1 : V.cell? ⟨q, 1, none⟩ = some (.int .i64 la) := hX.cell 1
  have x2 : V.cell? ⟨q, 2, none⟩ = some (.int .i64 lh) := hX.cell 2
  have x3 : V.cell? ⟨q, 3, none⟩ = some (.string ln) := hX.cell 3
  have HV := Ythkjodlddhdeiaa.base.Shut.mk (And.intro hX hB)
  have hl' : ln.size ≤ 2 ^ 63 - 1 := hl
  have hs' : s.size ≤ 2 ^ 63 - 1 := hs
  clear hBy hRy hPa hRa hX hB hl hs
  by_cases c1 : 1000 < ln.size
  · have c1' : (1000 : Int) < ln.size := by omega
    go_enter Try.func11, Try.ntmps11
    go_wp2_with fail
    refine (lives_walk _).mono ?_
    rintro e w1 ⟨rfl, hb1⟩
    have H1 := Ythkjodlddhdeiaa.base.Shut.mk (chain HV.out.2 hb1)
    clear hb1
    go_wp2
    go_ret
    exact ⟨rfl, H1.out⟩
  · have c1' : ¬ (1000 : Int) < ln.size := by omega
    by_cases c2 : 1000 < s.size
    · have c2' : (1000 : Int) < s.size := by omega
      go_enter Try.func11, Try.ntmps11
      go_wp2_with fail
      refine (lives_walk _).mono ?_
      rintro e w1 ⟨rfl, hb1⟩
      have H1 := Ythkjodlddhdeiaa.base.Shut.mk (chain HV.out.2 hb1)
      clear hb1
      go_wp2
      go_ret
      exact ⟨rfl, H1.out⟩
    · have c2' : ¬ (1000 : Int) < s.size := by omega
      go_enter Try.func11, Try.ntmps11
      go_wp2_with fail
      refine (HH.out.1 _).mono ?_
      rintro e w1 ⟨rfl, hb1⟩
      have hx := HV.out.1.below hb1
      have y0 : w1.cell? ⟨q, 0, none⟩ = some (.int .i64 lt) := hx.cell 0
      have y1 : w1.cell? ⟨q, 1, none⟩ = some (.int .i64 la) := hx.cell 1
      have y2 : w1.cell? ⟨q, 2, none⟩ = some (.int .i64 lh) := hx.cell 2
      have y3 : w1.cell? ⟨q, 3, none⟩ = some (.string ln) := hx.cell 3
      have H1 := Ythkjodlddhdeiaa.base.Shut.mk (chain HV.out.2 hb1)
      clear hb1 hx hV HV x0 x1 x2 x3
      go_wp2_with fail
      refine (HH.out.2.1 _).mono ?_
      rintro e w2 ⟨rfl, hb2⟩
      have H2 := Ythkjodlddhdeiaa.base.Shut.mk (chain H1.out hb2)
      clear hb2 H1 y0 y1 y2 y3
      go_wp2_with fail
      refine (HH.out.2.2.1 _).mono ?_
      rintro e w3 ⟨rfl, hb3⟩
      have H3 := Ythkjodlddhdeiaa.base.Shut.mk (newer (chain H2.out hb3) (.cells (Lb.cells ⟨mt, ma, mh, mn⟩) 81))
      clear hb3 H2
      go_wp2_with fail
      refine (HH.out.2.2.2 _).mono ?_
      rintro e w4 ⟨rfl, hb4⟩
      obtain ⟨V4, hV4⟩ : ∃ V4, w4.alloc (.cells #[.int .i64 mt, .int .i64 ma, .int .i64 mh, .string mn] 81) = V4 := ⟨_, rfl⟩
      have hbb : Below w4.heap.size w4 V4 := by rw [← hV4]; exact newer (same w4) _
      have hz := ((Row.new w3 (Lb.cells ⟨mt, ma, mh, mn⟩) 81).below hb4).below hbb
      have hy : Row V4 w4.heap.size (Lb.cells ⟨mt, ma, mh, mn⟩) 81 := by rw [← hV4]; exact Row.new _ _ _
      have z0 : V4.cell? ⟨w3.heap.size, 0, none⟩ = some (.int .i64 mt) := hz.cell 0
      have z1 : V4.cell? ⟨w3.heap.size, 1, none⟩ = some (.int .i64 ma) := hz.cell 1
      have z2 : V4.cell? ⟨w3.heap.size, 2, none⟩ = some (.int .i64 mh) := hz.cell 2
      have z3 : V4.cell? ⟨w3.heap.size, 3, none⟩ = some (.string mn) := hz.cell 3
      have y0 : V4.cell? ⟨w4.heap.size, 0, none⟩ = some (.int .i64 mt) := hy.cell 0
      have y1 : V4.cell? ⟨w4.heap.size, 1, none⟩ = some (.int .i64 ma) := hy.cell 1
      have y2 : V4.cell? ⟨w4.heap.size, 2, none⟩ = some (.int .i64 mh) := hy.cell 2
      have y3 : V4.cell? ⟨w4.heap.size, 3, none⟩ = some (.string mn) := hy.cell 3
      have H4 := Ythkjodlddhdeiaa.base.Shut.mk (chain (chain H3.out hb4) hbb)
      clear hb4 hbb hz hy H3
      go_wp2_with fail
      refine (lives_walk _).mono ?_
      rintro e w5 ⟨rfl, hb5⟩
      have H5 := Ythkjodlddhdeiaa.base.Shut.mk (chain H4.out hb5)
      clear hb5
      go_wp2
      go_ret
      exact ⟨rfl, H5.out⟩
end Go.Proofs.Ythkjodlddhdeiaa.label
