/- The walk of the reference's Put. -/
import Derived.Test.YtobdfocfkomagaaNodeRPut
namespace Go.Proofs.Ytobdfocfkomagaa.node
open Go.ChangeShapes Go.WideShapes Go.ChangeAt Go.RowKit
open Ytobdfocfkomagaa.base (size_mk chain newer drewn same ba_ext bytesOf run_string)

theorem run_mkm (m : Nat) (h : m ≤ 480) (u : World) : (Instr.makeSlice 105 (.int .i64 (m : Int)) (.int .i64 (m : Int))).run Try.prog u = .ok (.slice (some ⟨u.heap.size, 0, none⟩) m m) (u.alloc (.cells (bytesOf (List.replicate m 0)).toArray 5)) := by
  obtain ⟨i, hi, hz, hs, hb⟩ := info_parts oct.info_u8
  have hr := run_make (P := Try.prog) u 105 5 i _ Try.underlying105 hi hz .i64 .i64 m m (by omega) (Int.le_refl _) (by rw [hb]; omega) (by omega)
  simp only [hs, Int.toNat_natCast, Nat.mul_one] at hr
  rw [made_bytes m] at hr
  exact hr
theorem run_cvm (m : Nat) (u : World) : (convert 105 9 (.slice (some ⟨u.heap.size, 0, none⟩) m m)).run Try.prog (u.alloc (.cells (bytesOf (List.replicate m 0)).toArray 5)) = .ok (.string ⟨(List.replicate m 0).toArray⟩) (u.alloc (.cells (bytesOf (List.replicate m 0)).toArray 5)) :=
  run_string _ u.heap.size 0 m m (List.replicate m 0) List.length_replicate (fun i c hi => by
    rw [Nat.zero_add, cell_of_row _ _ _ _ _ _ (heap_alloc_new u _)]
    simp only [bytesOf, List.getElem?_toArray, List.getElem?_map, hi]
    rfl)
attribute [local go_sem ↓] mk_shut cv_shut
set_option maxRecDepth 100000 in
set_option maxHeartbeats 800000 in
theorem rput_walk (leaf : Bool) (A : Option Addr) (n c : Nat) (ps : PL) (hn : ps.length = n) (hs : Nice ps) (w : World) (hr : PReads w A ps) :
    Calls Try.prog 35 #[nv leaf A n c] w fun e w' => e = .returned (.tuple #[.string ⟨(putN ⟨leaf, ps⟩).1.toArray⟩, .int .i64 (putN ⟨leaf, ps⟩).2]) ∧ Below w.heap.size w w' := by
  have hb := newer (same w) (.cells #[.bool leaf, .slice A n c] 49)
  have hx := Row.new w #[.bool leaf, .slice A n c] 49
  obtain ⟨q, hq⟩ : ∃ q, w.heap.size = q := ⟨_, rfl⟩
  obtain ⟨V, hV⟩ : ∃ V, w.alloc (.cells #[.bool leaf, .slice A n c] 49) = V := ⟨_, rfl⟩
  rw [hV, hq] at hx
  rw [hV] at hb
  have x0 : V.cell? ⟨q, 0, none⟩ = some (.bool leaf) := hx.cell 0
  have x1 : V.cell? ⟨q, 1, none⟩ = some (.slice A n c) := hx.cell 1
  have hrV := hr.keep hb
  have hck := rcheck_walk leaf A n c ps hn hs V hrV
  by_cases h0 : checkN ⟨leaf, ps⟩ = 0
  · obtain ⟨hp, hsz, hrt⟩ := put_ok h0
    rw [h0] at hck
    have htx := fun (u : World) (hu : Below V.heap.size V u) => rtext_walk leaf A n c ps hn hs u (hrV.keep hu)
    have hl := text_len ⟨leaf, ps⟩
    have H := Ytobdfocfkomagaa.base.Shut.mk (And.intro hck (And.intro hb (And.intro hx (And.intro htx (And.intro hp (And.intro hl hsz))))))
    clear hp hsz hn hs hck hb hx hr h0 hrt htx hrV hl
    go_enter Try.func35, Try.ntmps35
    go_wp2_with fail
    refine H.out.1.mono ?_
    rintro e w1 ⟨rfl, hb1⟩
    have y0 : w1.cell? ⟨q, 0, none⟩ = some (.bool leaf) := (H.out.2.2.1.below hb1).cell 0
    have y1 : w1.cell? ⟨q, 1, none⟩ = some (.slice A n c) := (H.out.2.2.1.below hb1).cell 1
    have H1 := Ytobdfocfkomagaa.base.Shut.mk (And.intro (H.out.2.2.2.1 w1 hb1) hb1)
    clear hb1 x0 x1
    go_wp2_with fail
    refine H1.out.1.mono ?_
    rintro e w2 ⟨s, rfl, hs1, hb2⟩
    have hsz : s.size = sizeN ⟨leaf, ps⟩ := by rw [hs1, size_mk]; exact H.out.2.2.2.2.2.1
    have hle : s.size ≤ 480 := by rw [hsz]; exact H.out.2.2.2.2.2.2
    obtain ⟨m, hm⟩ : ∃ m, m = 480 - s.size := ⟨_, rfl⟩
    have hmi : (480 : Int) - (s.size : Int) = (m : Int) := by omega
    have hwr : IntKind.i64.wrap (m : Int) = (m : Int) := w64 _ (by omega) (by omega)
    have e1 := run_mkm m (by omega) w2
    have e2 := run_cvm m w2
    have hzs : (ByteArray.mk (List.replicate m (0 : UInt8)).toArray).size = m := by rw [size_mk, List.length_replicate]
    have hroom : ¬ 9223372036854775807 < s.size + m := by omega
    have HE := Ytobdfocfkomagaa.base.Shut.mk (And.intro hs1 (And.intro (show m = 480 - sizeN ⟨leaf, ps⟩ by rw [hm, hsz]) (chain (chain H.out.2.1 H1.out.2) (newer hb2 (.cells (bytesOf (List.replicate m 0)).toArray 5)))))
    obtain ⟨z, hz⟩ : ∃ z : ByteArray, z = ⟨(List.replicate m 0).toArray⟩ := ⟨_, rfl⟩
    have HZ := Ytobdfocfkomagaa.base.Shut.mk hz
    rw [← hz] at e2 hzs
    rw [mk_shut] at e1
    rw [cv_shut] at e2
    generalize (bytesOf (List.replicate m 0)).toArray = Z0 at e1 e2 HE
    clear hb2 hs1 hsz hm hz y0 y1
    go_wp2
    go_ret2
    refine ⟨?_, HE.out.2.2⟩
    rw [H.out.2.2.2.2.1]
    have e3 : s ++ z = ⟨(textN ⟨leaf, ps⟩ ++ List.replicate (480 - sizeN ⟨leaf, ps⟩) 0).toArray⟩ := by
      rw [HE.out.1, HZ.out, HE.out.2.1]
      apply ba_ext
      simp [ByteArray.data_append]
    show Ending.returned (.tuple #[.string (s ++ z), .int .i64 0]) = _
    rw [e3]
  · have HP := Ytobdfocfkomagaa.base.Shut.mk (put_bad h0)
    have hne : ¬ checkN ⟨leaf, ps⟩ = 0 := h0
    have H := Ytobdfocfkomagaa.base.Shut.mk (And.intro hck hb)
    clear hck hb hx hr h0 hs hn hrV
    generalize checkN ⟨leaf, ps⟩ = C at H HP hne
    go_enter Try.func35, Try.ntmps35
    go_wp2_with fail
    refine H.out.1.mono ?_
    rintro e w1 ⟨rfl, hb1⟩
    have H1 := Ytobdfocfkomagaa.base.Shut.mk (chain H.out.2 hb1)
    clear hb1
    go_wp2
    go_ret2
    exact ⟨by rw [HP.out]; rfl, H1.out⟩
end Go.Proofs.Ytobdfocfkomagaa.node
