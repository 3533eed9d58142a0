/- The walk of LabelBack. -/
import Derived.Test.YthkjodlddhdeiaaLabNil
namespace Go.Proofs.Ythkjodlddhdeiaa.label
open Go.ChangeShapes Go.WideShapes Go.ChangeAt Go.RowKit
open Ythkjodlddhdeiaa.base Ythkjodlddhdeiaa.disk

theorem parse_zero {turn : Int} {s : List UInt8} (h : (parseL turn s).2 ≠ 0) : (parseL turn s).1 = Lb.zero := by
  unfold parseL parseOf at h ⊢
  split at h
  · exact absurd rfl h
  · rename_i hc
    rw [if_neg hc]
set_option maxRecDepth 100000 in
set_option maxHeartbeats 3200000 in
theorem labelBack_walk (l : Lb) (turn : Int) (s : ByteArray) (hl : l.note.size ≤ maxLen) (hs : s.size ≤ maxLen) (w : World) :
    Calls Try.prog 12 #[l.v, .int .i64 turn, .string s] w fun e w' => e = .returned (.bool true) ∧ Below w.heap.size w w' := by
  have hBy := fun u : World => bytes_walk l hl u
  have hPa := fun u : World => parse_walk turn s hs u
  have hE := Ythkjodlddhdeiaa.base.Shut.mk (show bytesE l = if rightL l = true then 0 else 2 from rfl)
  have hPb := fun (hr : rightL l = true) (u : World) => parse_walk l.turn ⟨(bytesL l).toArray⟩ (by rw [size_mk]; have := bytes_len hr; unfold maxLen; omega) u
  simp only at hPb
  have hpb := @parse_bytes l
  have hback := @parse_back turn s.data.toList
  have hzero := @parse_zero turn s.data.toList
  have hBm := fun (h : (parseL turn s.data.toList).1.note.size ≤ maxLen) (u : World) => bytes_walk (parseL turn s.data.toList).1 h u
  generalize parseL turn s.data.toList = PL at hPa hback hzero hBm
  obtain ⟨m, E⟩ := PL
  obtain ⟨lt, la, lh, ln⟩ := l
  simp only at hPa hback hzero hBm hl hPb hpb
  have HH := Ythkjodlddhdeiaa.base.Shut.mk (And.intro hBy (And.intro hPa (And.intro hPb (And.intro hpb (And.intro hback (And.intro hzero hBm))))))
  obtain ⟨q, hq⟩ : ∃ q, w.heap.size = q := ⟨_, rfl⟩
  obtain ⟨V, hV⟩ : ∃ V, w.alloc (.cells (Lb.cells ⟨lt, la, lh, ln⟩) 81) = V := ⟨_, rfl⟩
  have hX : Row V q (Lb.cells ⟨lt, la, lh, ln⟩) 81 := by rw [← hV, ← hq]; exact Row.new _ _ _
  have hB : Below w.heap.size w V := by rw [← hV]; exact newer (same w) _
  have x0 : V.cell? ⟨q, 0, none⟩ = some (.int .i64 lt) := hX.cell 0
  have x1 : V.cell? ⟨q, 1, none⟩ = some (.int .i64 la) := hX.cell 1
  have x2 : V.cell? ⟨q, 2, none⟩ = some (.int .i64 lh) := hX.cell 2
  have x3 : V.cell? ⟨q, 3, none⟩ = some (.string ln) := hX.cell 3
  have HV := Ythkjodlddhdeiaa.base.Shut.mk (And.intro hX hB)
  have hl' : ln.size ≤ 2 ^ 63 - 1 := hl
  have hs' : s.size ≤ 2 ^ 63 - 1 := hs
  clear hBy hPa hPb hpb hback hzero hBm hX hB hl hs
  by_cases c1 : 1000 < ln.size
  · have c1' : (1000 : Int) < ln.size := by omega
    go_enter Try.func12, Try.ntmps12
    go_wp2_with fail
    refine (lives_walk _).mono ?_
    rintro e w1 ⟨rfl, hb1⟩
    have H1 := Ythkjodlddhdeiaa.base.Shut.mk (chain HV.out.2 hb1)
    clear hb1
    go_wp2
    go_ret
    exact ⟨rfl, H1.out⟩
  · have c1' : ¬ (1000 : Int) < ln.size := by omega
    by_cases c2 : 1000 < s.size
    · have c2' : (1000 : Int) < s.size := by omega
      go_enter Try.func12, Try.ntmps12
      go_wp2_with fail
      refine (lives_walk _).mono ?_
      rintro e w1 ⟨rfl, hb1⟩
      have H1 := Ythkjodlddhdeiaa.base.Shut.mk (chain HV.out.2 hb1)
      clear hb1
      go_wp2
      go_ret
      exact ⟨rfl, H1.out⟩
    · have c2' : ¬ (1000 : Int) < s.size := by omega
      by_cases hE0 : E = 0
      · subst hE0
        obtain ⟨_, hm1, hm2⟩ := HH.out.2.2.2.2.1 rfl
        have hmn : m.note.size ≤ maxLen := by have := (right_iff m).1 ‹_›; unfold maxLen; omega
        have hBm := HH.out.2.2.2.2.2.2 hmn
        have hme : bytesE m = 0 := by unfold bytesE; rw [if_pos ‹_›]
        obtain ⟨mt, ma, mh, mn⟩ := m
        obtain rfl : mt = turn := hm1
        rw [hm2, hme, list_mk] at hBm
        have HM := Ythkjodlddhdeiaa.base.Shut.mk hBm
        clear hm2 hmn hBm hme
        cases hR : rightL ⟨lt, la, lh, ln⟩ with
        | true =>
          have hpb := HH.out.2.2.1 hR
          have hpe := HH.out.2.2.2.1 hR
          rw [hpe] at hpb
          have hbe : bytesE ⟨lt, la, lh, ln⟩ = 0 := by rw [hE.out, hR]; rfl
          have HP := Ythkjodlddhdeiaa.base.Shut.mk (And.intro hpb hbe)
          clear hpb hpe hbe hE hR
          go_enter Try.func12, Try.ntmps12
          go_wp2_with fail
          refine (HH.out.1 _).mono ?_
          rintro e w1 ⟨rfl, hb1⟩
          rw [HP.out.2]
          have hx := HV.out.1.below hb1
          have y0 : w1.cell? ⟨q, 0, none⟩ = some (.int .i64 lt) := hx.cell 0
          have H1 := Ythkjodlddhdeiaa.base.Shut.mk (And.intro (chain HV.out.2 hb1) hx)
          clear hb1 hx hV
          go_wp2_with fail
          refine (HP.out.1 _).mono ?_
          rintro e w2 ⟨rfl, hb2⟩
          obtain ⟨V2, hV2⟩ : ∃ V2, w2.alloc (.cells #[.int .i64 lt, .int .i64 la, .int .i64 lh, .string ln] 81) = V2 := ⟨_, rfl⟩
          have hbb : Below w2.heap.size w2 V2 := by rw [← hV2]; exact newer (same w2) _
          have hx := (H1.out.2.below hb2).below hbb
          have hz : Row V2 w2.heap.size (Lb.cells ⟨lt, la, lh, ln⟩) 81 := by rw [← hV2]; exact Row.new _ _ _
          have y0 : V2.cell? ⟨q, 0, none⟩ = some (.int .i64 lt) := hx.cell 0
          have y1 : V2.cell? ⟨q, 1, none⟩ = some (.int .i64 la) := hx.cell 1
          have y2 : V2.cell? ⟨q, 2, none⟩ = some (.int .i64 lh) := hx.cell 2
          have y3 : V2.cell? ⟨q, 3, none⟩ = some (.string ln) := hx.cell 3
          have z0 : V2.cell? ⟨w2.heap.size, 0, none⟩ = some (.int .i64 lt) := hz.cell 0
          have z1 : V2.cell? ⟨w2.heap.size, 1, none⟩ = some (.int .i64 la) := hz.cell 1
          have z2 : V2.cell? ⟨w2.heap.size, 2, none⟩ = some (.int .i64 lh) := hz.cell 2
          have z3 : V2.cell? ⟨w2.heap.size, 3, none⟩ = some (.string ln) := hz.cell 3
          have H2 := Ythkjodlddhdeiaa.base.Shut.mk (chain (chain H1.out.1 hb2) hbb)
          clear hb2 hx hz hbb H1
          go_wp2_with fail
          refine (HH.out.2.1 _).mono ?_
          rintro e w3 ⟨rfl, hb3⟩
          obtain ⟨V3, hV3⟩ : ∃ V3, w3.alloc (.cells #[.int .i64 mt, .int .i64 ma, .int .i64 mh, .string mn] 81) = V3 := ⟨_, rfl⟩
          have hy : Row V3 w3.heap.size (Lb.cells ⟨mt, ma, mh, mn⟩) 81 := by rw [← hV3]; exact Row.new _ _ _
          have y0 : V3.cell? ⟨w3.heap.size, 0, none⟩ = some (.int .i64 mt) := hy.cell 0
          have y1 : V3.cell? ⟨w3.heap.size, 1, none⟩ = some (.int .i64 ma) := hy.cell 1
          have y2 : V3.cell? ⟨w3.heap.size, 2, none⟩ = some (.int .i64 mh) := hy.cell 2
          have y3 : V3.cell? ⟨w3.heap.size, 3, none⟩ = some (.string mn) := hy.cell 3
          have H3 := Ythkjodlddhdeiaa.base.Shut.mk (show Below w.heap.size w V3 ∧ Row V3 w3.heap.size (Lb.cells ⟨mt, ma, mh, mn⟩) 81 from ⟨by rw [← hV3]; exact newer (chain H2.out hb3) _, hy⟩)
          clear hb3 hy
          go_wp2_with fail
          refine (HM.out _).mono ?_
          rintro e w4 ⟨rfl, hb4⟩
          have z0 : w4.cell? ⟨w3.heap.size, 0, none⟩ = some (.int .i64 mt) := (H3.out.2.below hb4).cell 0
          have H4 := Ythkjodlddhdeiaa.base.Shut.mk (chain H3.out.1 hb4)
          clear hb4 hV3 y0 y1 y2 y3
          go_wp2_with fail
          refine (lives_walk _).mono ?_
          rintro e w5 ⟨rfl, hb5⟩
          have H5 := Ythkjodlddhdeiaa.base.Shut.mk (chain H4.out hb5)
          clear hb5
          go_wp2
          go_ret
          exact ⟨rfl, H5.out⟩
        | false =>
          have hbe : bytesE ⟨lt, la, lh, ln⟩ = 2 := by rw [hE.out, hR]; rfl
          have HP := Ythkjodlddhdeiaa.base.Shut.mk hbe
          clear hbe hR
          go_enter Try.func12, Try.ntmps12
          go_wp2_with fail
          refine (HH.out.1 _).mono ?_
          rintro e w1 ⟨rfl, hb1⟩
          rw [HP.out]
          have H2 := Ythkjodlddhdeiaa.base.Shut.mk (chain HV.out.2 hb1)
          clear hb1 hV
          go_wp2_with fail
          refine (HH.out.2.1 _).mono ?_
          rintro e w3 ⟨rfl, hb3⟩
          obtain ⟨V3, hV3⟩ : ∃ V3, w3.alloc (.cells #[.int .i64 mt, .int .i64 ma, .int .i64 mh, .string mn] 81) = V3 := ⟨_, rfl⟩
          have hy : Row V3 w3.heap.size (Lb.cells ⟨mt, ma, mh, mn⟩) 81 := by rw [← hV3]; exact Row.new _ _ _
          have y0 : V3.cell? ⟨w3.heap.size, 0, none⟩ = some (.int .i64 mt) := hy.cell 0
          have y1 : V3.cell? ⟨w3.heap.size, 1, none⟩ = some (.int .i64 ma) := hy.cell 1
          have y2 : V3.cell? ⟨w3.heap.size, 2, none⟩ = some (.int .i64 mh) := hy.cell 2
          have y3 : V3.cell? ⟨w3.heap.size, 3, none⟩ = some (.string mn) := hy.cell 3
          have H3 := Ythkjodlddhdeiaa.base.Shut.mk (show Below w.heap.size w V3 ∧ Row V3 w3.heap.size (Lb.cells ⟨mt, ma, mh, mn⟩) 81 from ⟨by rw [← hV3]; exact newer (chain H2.out hb3) _, hy⟩)
          clear hb3 hy
          go_wp2_with fail
          refine (HM.out _).mono ?_
          rintro e w4 ⟨rfl, hb4⟩
          have z0 : w4.cell? ⟨w3.heap.size, 0, none⟩ = some (.int .i64 mt) := (H3.out.2.below hb4).cell 0
          have H4 := Ythkjodlddhdeiaa.base.Shut.mk (chain H3.out.1 hb4)
          clear hb4 hV3 y0 y1 y2 y3
          go_wp2_with fail
          refine (lives_walk _).mono ?_
          rintro e w5 ⟨rfl, hb5⟩
          have H5 := Ythkjodlddhdeiaa.base.Shut.mk (chain H4.out hb5)
          clear hb5
          go_wp2
          go_ret
          exact ⟨rfl, H5.out⟩
      · obtain rfl : m = Lb.zero := HH.out.2.2.2.2.2.1 hE0
        cases hR : rightL ⟨lt, la, lh, ln⟩ with
        | true =>
          have hpb := HH.out.2.2.1 hR
          have hpe := HH.out.2.2.2.1 hR
          rw [hpe] at hpb
          have hbe : bytesE ⟨lt, la, lh, ln⟩ = 0 := by rw [hE.out, hR]; rfl
          have HP := Ythkjodlddhdeiaa.base.Shut.mk (And.intro hpb hbe)
          clear hpb hpe hbe hE hR
          go_enter Try.func12, Try.ntmps12
          go_wp2_with fail
          refine (HH.out.1 _).mono ?_
          rintro e w1 ⟨rfl, hb1⟩
          rw [HP.out.2]
          have hx := HV.out.1.below hb1
          have y0 : w1.cell? ⟨q, 0, none⟩ = some (.int .i64 lt) := hx.cell 0
          have H1 := Ythkjodlddhdeiaa.base.Shut.mk (And.intro (chain HV.out.2 hb1) hx)
          clear hb1 hx hV
          go_wp2_with fail
          refine (HP.out.1 _).mono ?_
          rintro e w2 ⟨rfl, hb2⟩
          obtain ⟨V2, hV2⟩ : ∃ V2, w2.alloc (.cells #[.int .i64 lt, .int .i64 la, .int .i64 lh, .string ln] 81) = V2 := ⟨_, rfl⟩
          have hbb : Below w2.heap.size w2 V2 := by rw [← hV2]; exact newer (same w2) _
          have hx := (H1.out.2.below hb2).below hbb
          have hz : Row V2 w2.heap.size (Lb.cells ⟨lt, la, lh, ln⟩) 81 := by rw [← hV2]; exact Row.new _ _ _
          have y0 : V2.cell? ⟨q, 0, none⟩ = some (.int .i64 lt) := hx.cell 0
          have y1 : V2.cell? ⟨q, 1, none⟩ = some (.int .i64 la) := hx.cell 1
          have y2 : V2.cell? ⟨q, 2, none⟩ = some (.int .i64 lh) := hx.cell 2
          have y3 : V2.cell? ⟨q, 3, none⟩ = some (.string ln) := hx.cell 3
          have z0 : V2.cell? ⟨w2.heap.size, 0, none⟩ = some (.int .i64 lt) := hz.cell 0
          have z1 : V2.cell? ⟨w2.heap.size, 1, none⟩ = some (.int .i64 la) := hz.cell 1
          have z2 : V2.cell? ⟨w2.heap.size, 2, none⟩ = some (.int .i64 lh) := hz.cell 2
          have z3 : V2.cell? ⟨w2.heap.size, 3, none⟩ = some (.string ln) := hz.cell 3
          have H2 := Ythkjodlddhdeiaa.base.Shut.mk (chain (chain H1.out.1 hb2) hbb)
          clear hb2 hx hz hbb H1
          go_wp2_with fail
          refine (HH.out.2.1 _).mono ?_
          rintro e w3 ⟨rfl, hb3⟩
          have H3 := Ythkjodlddhdeiaa.base.Shut.mk (newer (chain H2.out hb3) (.cells Lb.zero.cells 81))
          clear hb3
          go_wp2_with fail
          refine (lives_walk _).mono ?_
          rintro e w5 ⟨rfl, hb5⟩
          have H5 := Ythkjodlddhdeiaa.base.Shut.mk (chain H3.out hb5)
          clear hb5
          go_wp2
          go_ret
          exact ⟨rfl, H5.out⟩
        | false =>
          have hbe : bytesE ⟨lt, la, lh, ln⟩ = 2 := by rw [hE.out, hR]; rfl
          have HP := Ythkjodlddhdeiaa.base.Shut.mk hbe
          clear hbe hR
          go_enter Try.func12, Try.ntmps12
          go_wp2_with fail
          refine (HH.out.1 _).mono ?_
          rintro e w1 ⟨rfl, hb1⟩
          rw [HP.out]
          have H2 := Ythkjodlddhdeiaa.base.Shut.mk (chain HV.out.2 hb1)
          clear hb1 hV
          go_wp2_with fail
          refine (HH.out.2.1 _).mono ?_
          rintro e w3 ⟨rfl, hb3⟩
          have H3 := Ythkjodlddhdeiaa.base.Shut.mk (newer (chain H2.out hb3) (.cells Lb.zero.cells 81))
          clear hb3
          go_wp2_with fail
          refine (lives_walk _).mono ?_
          rintro e w5 ⟨rfl, hb5⟩
          have H5 := Ythkjodlddhdeiaa.base.Shut.mk (chain H3.out hb5)
          clear hb5
          go_wp2
          go_ret
          exact ⟨rfl, H5.out⟩
end Go.Proofs.Ythkjodlddhdeiaa.label
