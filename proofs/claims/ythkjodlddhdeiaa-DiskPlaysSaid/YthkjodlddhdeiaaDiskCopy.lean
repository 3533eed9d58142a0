/- The walk of disk.Copy. -/
import Derived.Test.YthkjodlddhdeiaaDiskCrash
import Derived.Deep.RegionHeld3
import Derived.Deep.DrawnRows
namespace Go.Proofs.Ythkjodlddhdeiaa.disk
open Go.ChangeShapes Go.WideShapes Go.ChangeAt Go.RowKit
open Ythkjodlddhdeiaa.base

theorem cell_ne {w : World} {d x i j : Nat} {u v : Value} (h : w.cell? ⟨d, i, none⟩ = some u) (hne : d ≠ x) : (w.setCell ⟨x, j, none⟩ v).cell? ⟨d, i, none⟩ = some u := by
  rw [World.cell?_of_block (w := w) (Below.heap_setCell _ _ _ _ hne)]
  exact h
/-- what a clone leaves, seen from the copy's own block x -/
structure Clo (V : World) (x : Nat) (E size n : Nat) (g : Option Addr) (c : Nat) (xs : List Value) (u w' : World) : Prop where
  row : w'.ownsRow u.heap.size E size (.slice g n c) n xs
  below : Below u.heap.size u w'
  only : Only [x] V w'
def CloOut (V : World) (d x : Nat) (E size n : Nat) (v : Value) (xs : List Value) (u : World) (e : Ending) (w' : World) : Prop :=
  ∃ g c, e = .returned (.slice g n c) ∧ Ythkjodlddhdeiaa.base.Shut (Clo V x E size n g c xs u w' ∧ (v = .slice none 0 0 ↔ g = none)) ∧ (∀ i, w'.cell? ⟨x, i, none⟩ = u.cell? ⟨x, i, none⟩) ∧ (∀ i, w'.frozen? ⟨x, i, none⟩ = u.frozen? ⟨x, i, none⟩) ∧ (∀ i, w'.cell? ⟨d, i, none⟩ = u.cell? ⟨d, i, none⟩)
theorem clo_of {V u : World} {d x E size n : Nat} {v : Value} {xs : List Value} (hd : d < V.heap.size) (hx : x < V.heap.size) (ho : Only [x] V u) {e : Ending} {w' : World} (h : Cloned E size n v xs u e w') : CloOut V d x E size n v xs u e w' := by
  obtain ⟨v', rfl, hr, hb, hn⟩ := h
  obtain ⟨g, c, rfl⟩ := row_val hr
  have hxu : x < u.heap.size := Nat.lt_of_lt_of_le hx ho.size
  have hdu : d < u.heap.size := Nat.lt_of_lt_of_le hd ho.size
  refine ⟨g, c, rfl, ⟨⟨⟨hr, hb, ho.trans (Only.of_below [x] hb)⟩, ?_⟩⟩, fun i => hb.cell (p := ⟨x, i, none⟩) hxu, fun i => hb.frozen (p := ⟨x, i, none⟩) hxu, fun i => hb.cell (p := ⟨d, i, none⟩) hdu⟩
  rw [hn]
  constructor
  · intro h; cases h; rfl
  · rintro rfl
    obtain ⟨_, ⟨h, _⟩ | ⟨_, _, _, h, _⟩⟩ := hr
    · exact h
    · cases h
theorem clo62 {V : World} {base d x n : Nat} {v : Value} {xs : List Value} (hd : d < V.heap.size) (hx : x < V.heap.size) (h : V.ownsRow base 105 512 v n xs) (hnx : ∀ g, v.ownBlock = some g → g ∉ [x]) (h1 : ∀ u ∈ xs, u.oneCell' = true) (h63 : n ≤ 1000000)
    (u : World) (ho : Only [x] V u) : Calls Try.prog 62 #[v] u (CloOut V d x 105 512 n v xs u) :=
  (clone_blocks (ho.row h hnx) h1 h63).mono fun _ _ hc => clo_of hd hx ho hc
theorem clo69 {V : World} {base d x n : Nat} {v : Value} {xs : List Value} (hd : d < V.heap.size) (hx : x < V.heap.size) (h : V.ownsRow base 107 513 v n xs) (hnx : ∀ g, v.ownBlock = some g → g ∉ [x]) (h1 : ∀ u ∈ xs, u.oneCell' = true) (h63 : n ≤ 1000000)
    (u : World) (ho : Only [x] V u) : Calls Try.prog 69 #[v] u (CloOut V d x 107 513 n v xs u) :=
  (clone_loose (ho.row h hnx) h1 h63).mono fun _ _ hc => clo_of hd hx ho hc
theorem copy_end {w V u1 u2 u3 : World} {base d f s x fc cs cap m ca cb cc : Nat} {a ga gb gc : Option Addr} {D : Dk} (h : At w base d f s D) (hbase : base ≤ w.heap.size) (hx : w.heap.size = x) (hB : Below w.heap.size w V)
    (hX : V.heap[x]? = some (.cells #[.slice (some ⟨f, 0, none⟩) D.n fc, .slice (some ⟨s, 0, none⟩) D.n cs, .slice a m cap, .int .i64 D.fuse, .bool D.gone] 65 (0, 0))) (hm : m = D.W.length)
    (c1 : Clo V x 105 512 D.n ga ca (bytesOf D.F) V.drew u1) (c2 : Clo V x 105 512 D.n gb cb (bytesOf D.S) u1 u2) (c3 : Clo V x 107 513 m gc cc (D.W.flatMap looseCells) u2 u3) :
    ∃ f' s', At (((u3.setCell ⟨x, 0, none⟩ (.slice ga D.n ca)).setCell ⟨x, 1, none⟩ (.slice gb D.n cb)).setCell ⟨x, 2, none⟩ (.slice gc m cc)) base x f' s' D ∧
      Below w.heap.size w (((u3.setCell ⟨x, 0, none⟩ (.slice ga D.n ca)).setCell ⟨x, 1, none⟩ (.slice gb D.n cb)).setCell ⟨x, 2, none⟩ (.slice gc m cc)) ∧ w.heap.size ≤ f' ∧ w.heap.size ≤ s' := by
  have hn1 := h.wf.n1
  obtain ⟨f', _, e1⟩ := row_some c1.row (by omega)
  obtain ⟨s', _, e2⟩ := row_some c2.row (by omega)
  cases e1; cases e2
  have hxV : x < V.heap.size := lt_of_obj hX
  have hV1 : V.heap.size ≤ u1.heap.size := c1.below.size
  have hf'1 : V.heap.size ≤ f' := (row_type c1.row f' rfl).1
  have hf'2 : f' < u1.heap.size := by obtain ⟨_, cu, hc⟩ := row_type c1.row f' rfl; exact lt_of_obj hc
  have hs'1 : u1.heap.size ≤ s' := (row_type c2.row s' rfl).1
  have hu2 : u1.heap.size ≤ u2.heap.size := c2.below.size
  have rF := keptRow (keptRow c1.row c2.below) c3.below
  have rS := keptRow c2.row c3.below
  have rW := c3.row
  have key : ∀ {size n b : Nat} {e : TypeId} {v : Value} {xs : List Value}, u3.ownsRow b e size v n xs → V.heap.size ≤ b → base ≤ b →
      (((u3.setCell ⟨x, 0, none⟩ (.slice (some ⟨f', 0, none⟩) D.n ca)).setCell ⟨x, 1, none⟩ (.slice (some ⟨s', 0, none⟩) D.n cb)).setCell ⟨x, 2, none⟩ (.slice gc m cc)).ownsRow base e size v n xs := by
    intro size n b e v xs hr hb hbb
    refine low_row (row_kept hr (fun g hg => ?_)) hbb
    have hgb := (row_type hr g hg).1
    have hne : g ≠ x := by omega
    rw [Below.heap_setCell _ _ _ _ hne, Below.heap_setCell _ _ _ _ hne, Below.heap_setCell _ _ _ _ hne]
  have hX3 : u3.heap[x]? = some (.cells #[.slice (some ⟨f, 0, none⟩) D.n fc, .slice (some ⟨s, 0, none⟩) D.n cs, .slice a m cap, .int .i64 D.fuse, .bool D.gone] 65 (0, 0)) := by
    rw [c3.below.block x (by omega), c2.below.block x (by omega), c1.below.block x hxV]
    exact hX
  have hwV : w.heap.size ≤ V.heap.size := hB.size
  have hBe : Below w.heap.size w u3 := (((hB.drew).trans (c1.below.mono hwV)).trans (c2.below.mono (by omega))).trans (c3.below.mono (by omega))
  refine ⟨f', s', ⟨h.wf, ⟨by omega, by omega, by omega, by omega⟩, ⟨ca, cb, .slice gc m cc, ?_, key rS (by omega) (by omega), ?_, key rF (Nat.le_refl _) (show base ≤ V.heap.size by omega)⟩⟩, ?_, by omega, by omega⟩
  · exact heap_setCell_same _ _ 2 _ _ _ (heap_setCell_same _ _ 1 _ _ _ (heap_setCell_same _ _ 0 _ _ _ hX3))
  · rw [← hm]
    exact key rW (by omega) (by omega)
  · exact ((hBe.setCell (p := ⟨x, 0, none⟩) (by simp; omega) _).setCell (p := ⟨x, 1, none⟩) (by simp; omega) _).setCell (p := ⟨x, 2, none⟩) (by simp; omega) _
attribute [local go_sem ↓] Go.wp_at_zero Go.wp_at_succ
set_option maxRecDepth 100000 in
set_option maxHeartbeats 1600000 in
theorem copy_walk {w : World} {base d f s : Nat} {D : Dk} (h : At w base d f s D) (hbase : base ≤ w.heap.size) (hW : D.W.length ≤ 1000000) :
    Calls Try.prog 32 #[pd d] w fun e w' => ∃ d' f' s', e = .returned (pd d') ∧ At w' base d' f' s' D ∧ Below w.heap.size w w' ∧ w.heap.size ≤ d' ∧ w.heap.size ≤ f' ∧ w.heap.size ≤ s' := by
  have HM := Ythkjodlddhdeiaa.base.Shut.mk (made_walk h)
  obtain ⟨fc, cs, lv, c0, c1, c2, c3, c4, cf, hrS, hrW, hrF⟩ := h.cells
  obtain ⟨a, cap, rfl⟩ := row_val hrW
  obtain ⟨m, hm⟩ : ∃ m, m = D.W.length := ⟨_, rfl⟩
  rw [← hm] at c2 hrW hW
  have HMM := Ythkjodlddhdeiaa.base.Shut.mk hm
  have HA := Ythkjodlddhdeiaa.base.Shut.mk (And.intro h (And.intro hrS (And.intro hrW (And.intro hrF (And.intro hbase hW)))))
  have hn2 := h.wf.n2
  have hdw : d < w.heap.size := World.block_lt_of_cell? w _ c0
  have HD := Ythkjodlddhdeiaa.base.Shut.mk hdw
  clear h hrS hrW hrF hbase hW hdw hm
  go_enter Try.func32, Try.ntmps32
  go_wp2_with fail
  refine HM.out.mono ?_
  rintro e w0 ⟨rfl, rfl⟩
  go_wp2
  generalize hx : w.heap.size = x
  generalize hVV : w.alloc (Obj.cells #[.slice (some ⟨f, 0, none⟩) D.n fc, .slice (some ⟨s, 0, none⟩) D.n cs, .slice a m cap, .int .i64 D.fuse, .bool D.gone] 65) = V
  have hBV : Below w.heap.size w V := by rw [← hVV]; exact newer (same w) _
  have hXV : V.heap[x]? = some (.cells #[.slice (some ⟨f, 0, none⟩) D.n fc, .slice (some ⟨s, 0, none⟩) D.n cs, .slice a m cap, .int .i64 D.fuse, .bool D.gone] 65 (0, 0)) := by rw [← hVV, ← hx]; exact heap_alloc_new _ _
  have hdV : d < V.heap.size := Nat.lt_of_lt_of_le HD.out hBV.size
  have hxV : x < V.heap.size := lt_of_obj hXV
  have hnx : ∀ g, g < w.heap.size → g ∉ [x] := fun g hg => by simp; omega
  have rF := keptRow HA.out.2.2.2.1 hBV
  have rS := keptRow HA.out.2.1 hBV
  have rW := keptRow HA.out.2.2.1 hBV
  have tF := clo62 hdV hxV rF (fun g hg => hnx g (lt_of_obj (row_type HA.out.2.2.2.1 g hg).2.choose_spec)) (bytesOf_one _) (by omega)
  have tS := clo62 hdV hxV rS (fun g hg => hnx g (lt_of_obj (row_type HA.out.2.1 g hg).2.choose_spec)) (bytesOf_one _) (by omega)
  have tW := clo69 hdV hxV rW (fun g hg => hnx g (lt_of_obj (row_type HA.out.2.2.1 g hg).2.choose_spec)) (by
    intro u hu
    obtain ⟨p, _, hp⟩ := List.mem_flatMap.1 hu
    exact loose_one p u hp) HA.out.2.2.2.2.2
  have HV := Ythkjodlddhdeiaa.base.Shut.mk (And.intro hBV (And.intro hXV hVV))
  have HT := Ythkjodlddhdeiaa.base.Shut.mk (And.intro tF (And.intro tS tW))
  have hc0 : V.cell? ⟨d, 0, none⟩ = some (.slice (some ⟨f, 0, none⟩) D.n fc) := by rw [hBV.cell (p := ⟨d, 0, none⟩) HD.out]; exact c0
  have hc1 : V.cell? ⟨d, 1, none⟩ = some (.slice (some ⟨s, 0, none⟩) D.n cs) := by rw [hBV.cell (p := ⟨d, 1, none⟩) HD.out]; exact c1
  have hc2 : V.cell? ⟨d, 2, none⟩ = some (.slice a m cap) := by rw [hBV.cell (p := ⟨d, 2, none⟩) HD.out]; exact c2
  have hx0 : V.cell? ⟨x, 0, none⟩ = some (.slice (some ⟨f, 0, none⟩) D.n fc) := by rw [cell_of_row V x 0 _ _ _ hXV]; rfl
  have hx1 : V.cell? ⟨x, 1, none⟩ = some (.slice (some ⟨s, 0, none⟩) D.n cs) := by rw [cell_of_row V x 1 _ _ _ hXV]; rfl
  have hx2 : V.cell? ⟨x, 2, none⟩ = some (.slice a m cap) := by rw [cell_of_row V x 2 _ _ _ hXV]; rfl
  have hxf : ∀ i, V.frozen? ⟨x, i, none⟩ = false := fun i => by unfold World.frozen?; simp only [hXV]; simp
  have hdx : d ≠ x := by have := HD.out; omega
  have hon : Ythkjodlddhdeiaa.base.Shut (Only [x] V V) := ⟨Only.refl _ _⟩
  clear hBV hXV hdV hxV hnx rF rS rW tF tS tW hVV c0 c1 c2 c3 c4 cf
  go_region_held3 (fun w' => w'.cell? ⟨d, 0, none⟩ = some (.slice (some ⟨f, 0, none⟩) D.n fc) ∧ w'.cell? ⟨d, 1, none⟩ = some (.slice (some ⟨s, 0, none⟩) D.n cs) ∧ w'.cell? ⟨d, 2, none⟩ = some (.slice a m cap) ∧ Ythkjodlddhdeiaa.base.Shut (Only [x] V w'))
    (first | (go_split_ands; refine ⟨?_, ?_, ?_, ?_⟩ <;> first | exact Ythkjodlddhdeiaa.base.Shut.mk (Ythkjodlddhdeiaa.base.Shut.out hon).drew | exact Ythkjodlddhdeiaa.base.Shut.mk (Clo.only (And.left (Ythkjodlddhdeiaa.base.Shut.out ‹_›))) | (refine Ythkjodlddhdeiaa.base.Shut.mk ?_; repeat (refine Only.trans ?_ (Only.cell _ _ _ _)); first | exact Clo.only (And.left (Ythkjodlddhdeiaa.base.Shut.out ‹_›)) | exact Ythkjodlddhdeiaa.base.Shut.out (by assumption)) | exact cell_ne (by assumption) hdx | go_keep))
    (first | (go_at_call 62; (first | (with_reducible refine Calls.mono ((Ythkjodlddhdeiaa.base.Shut.out HT).1 _ ?_) ?_) | (with_reducible refine Calls.mono ((Ythkjodlddhdeiaa.base.Shut.out HT).2.1 _ ?_) ?_)); (exact Ythkjodlddhdeiaa.base.Shut.out (And.right (And.right (And.right ‹_›)))); rintro e w1 ⟨g1, cc1, rfl, hclo1, hxa, hxb, hda⟩) | (go_at_call 69; (with_reducible refine Calls.mono ((Ythkjodlddhdeiaa.base.Shut.out HT).2.2 _ ?_) ?_); (exact Ythkjodlddhdeiaa.base.Shut.out (And.right (And.right (And.right ‹_›)))); rintro e w1 ⟨g1, cc1, rfl, hclo1, hxa, hxb, hda⟩))
  rename_i u1 ga ca hcl1 _ _ _ u2 gb cb hcl2 _ _ _ _
  obtain ⟨f', s', hfin⟩ := copy_end HA.out.1 HA.out.2.2.2.2.1 hx HV.out.1 HV.out.2.1 HMM.out hcl1.out.1 hcl2.out.1 hclo1.out.1
  have HF := Ythkjodlddhdeiaa.base.Shut.mk hfin
  clear hfin
  go_wp2
  go_ret
  exact ⟨x, f', s', rfl, HF.out.1, HF.out.2.1, by omega, HF.out.2.2.1, HF.out.2.2.2⟩
theorem copy_nil (w : World) : Calls Try.prog 32 #[.pointer none] w fun e w' => e = .returned (.pointer none) ∧ w = w' := by
  have HM := Ythkjodlddhdeiaa.base.Shut.mk (made_nil w)
  go_enter Try.func32, Try.ntmps32
  go_wp2_with fail
  refine HM.out.mono ?_
  rintro e w0 ⟨rfl, rfl⟩
  go_wp2
  go_ret
  exact ⟨rfl, rfl⟩
end Go.Proofs.Ythkjodlddhdeiaa.disk
