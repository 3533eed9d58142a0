/- The walk of pair.best: the range over the labels. -/
import Derived.Test.YthkjodlddhdeiaaLabBestW
namespace Go.Proofs.Ythkjodlddhdeiaa.label
open Go.ChangeShapes Go.WideShapes Go.ChangeAt Go.RowKit Go.Shelf
open Ythkjodlddhdeiaa.base Ythkjodlddhdeiaa.disk

attribute [local go_sem] Oper.semAt_some
theorem run_store_func {P : Program} {w : World} {a : Addr} {m : Mode} (fn : Fn) (x y : Array Value) : (store a (.func fn x y) m).run P w = stored P w a (.func fn x y) m := run_store P w a _ m rfl
attribute [local go_sem] run_store_func

/-- the better of two blocks' labels, and in which it stands -/
def bestP (s0 s1 : ByteArray) : Lb × Int := bestOf (cand 0 s0.data.toList ++ cand 1 s1.data.toList)

abbrev fvB (w : World) : Value := .func (.func 105) #[] #[.pointer (some ⟨w.heap.size + 1 + 1 + 1, 0, none⟩), .pointer (some ⟨w.heap.size + 1 + 1, 0, none⟩)]
/-- the five blocks that best lays, and the iterator's -/
def best0 (s0 s1 : ByteArray) (w : World) : World :=
  (((((w.alloc (.cells (pairC s0 s1) 126)).alloc (.cells Lb.zero.cells 81)).alloc (.cells Lb.zero.cells 81)).alloc (.cells #[.int .i64 (-1)] 3)).alloc (.cells #[fvB w] 145)).alloc (.cells (pairC s0 s1) 126)
structure Best0 (s0 s1 : ByteArray) (w W : World) : Prop where
  size : W.heap.size = w.heap.size + 6
  below : Below w.heap.size w W
  res : Row W (w.heap.size + 1) Lb.zero.cells 81
  best : Row W (w.heap.size + 1 + 1) Lb.zero.cells 81
  at_ : Row W (w.heap.size + 1 + 1 + 1) #[.int .i64 (-1)] 3
  fn : Row W (w.heap.size + 1 + 1 + 1 + 1) #[fvB w] 145
  pair : Row W (w.heap.size + 1 + 1 + 1 + 1 + 1) (pairC s0 s1) 126
theorem best0_facts (s0 s1 : ByteArray) (w : World) : Best0 s0 s1 w (best0 s0 s1 w) := by
  unfold best0
  have h1 := Row.new (w.alloc (.cells (pairC s0 s1) 126)) Lb.zero.cells 81
  have h2 := Row.new ((w.alloc (.cells (pairC s0 s1) 126)).alloc (.cells Lb.zero.cells 81)) Lb.zero.cells 81
  have h3 := Row.new (((w.alloc (.cells (pairC s0 s1) 126)).alloc (.cells Lb.zero.cells 81)).alloc (.cells Lb.zero.cells 81)) #[.int .i64 (-1)] 3
  have h4 := Row.new ((((w.alloc (.cells (pairC s0 s1) 126)).alloc (.cells Lb.zero.cells 81)).alloc (.cells Lb.zero.cells 81)).alloc (.cells #[.int .i64 (-1)] 3)) #[fvB w] 145
  have h5 := Row.new (((((w.alloc (.cells (pairC s0 s1) 126)).alloc (.cells Lb.zero.cells 81)).alloc (.cells Lb.zero.cells 81)).alloc (.cells #[.int .i64 (-1)] 3)).alloc (.cells #[fvB w] 145)) (pairC s0 s1) 126
  simp only [World.size_alloc] at h1 h2 h3 h4 h5
  exact ⟨by simp only [World.size_alloc], newer (newer (newer (newer (newer (newer (same w) _) _) _) _) _) _, (((h1.alloc _).alloc _).alloc _).alloc _, ((h2.alloc _).alloc _).alloc _, (h3.alloc _).alloc _, h4.alloc _, h5⟩

set_option maxRecDepth 100000 in
set_option maxHeartbeats 4000000 in
theorem best_in (s0 s1 : ByteArray) (w : World) :
    CallsIn Fence.wide 6 Try.prog 86 #[.agg (pairC s0 s1)] w fun e w' => e = .returned (.tuple #[(bestP s0 s1).1.v, .int .i64 (bestP s0 s1).2]) ∧ Below w.heap.size w w' := by
  refine callsIn_of_wp_marks Try.func86 rfl trivial ?_ rfl
  simp only [Try.ntmps86, List.size_toArray, List.length_cons, List.length_nil, Nat.reduceAdd, Nat.reduceSub, Array.replicate_succ, Array.replicate_zero, List.push_toArray, List.append_toArray, List.nil_append, List.cons_append]
  gi_wp2_with fail
  refine ⟨trivial, (labels_in _ s0 s1 _).mono ?_⟩
  rintro e w' ⟨rfl, rfl⟩
  gi_wp2
  have hF := best0_facts s0 s1 w
  change Code.wpIn _ _ _ _ _ _ (best0 s0 s1 w)
  generalize best0 s0 s1 w = W0 at hF ⊢
  have hsz := hF.size
  refine wpIn_rangeFunc_ownH rfl (by decide) (gf := 112) (lb := #[.pointer (some ⟨w.heap.size + 1 + 1 + 1 + 1 + 1, 0, none⟩)]) rfl trivial (enters_of Try.func112 (by kernel_rfl) rfl)
    (labels_stops (6 - 1) (by decide) (w.heap.size + 1 + 1 + 1 + 1 + 1) w.heap.size s0 s1 W0 hF.pair) belowK_t (belowK_b (by omega)) (Below.refl _ _) (fun _ => rfl)
    (fun pre W => (((Row W (w.heap.size + 1 + 1) (bestOf pre).1.cells 81 ∧ Row W (w.heap.size + 1 + 1 + 1) #[.int .i64 (bestOf pre).2] 3) ∧ Row W (w.heap.size + 1 + 1 + 1 + 1) #[fvB w] 145) ∧ Row W (w.heap.size + 1) Lb.zero.cells 81) ∧ Below w.heap.size w W)
    (fun _ _ _ => False)
    (OwnFrom.and (OwnFrom.and (OwnFrom.and (OwnFrom.and (Own.from (row_own _ (fun pre => (bestOf pre).1.cells) _) _) (Own.from (row_own _ (fun pre => #[.int .i64 (bestOf pre).2]) _) _)) (Own.from (row_own _ (fun _ => #[fvB w]) _) _)) (Own.from (row_own _ (fun _ => Lb.zero.cells) _) _)) (ownFrom_below (Nat.le_refl _) (by omega)))
    (fun _ _ _ _ _ hs _ _ => hs)
    ⟨⟨⟨⟨hF.best, hF.at_⟩, hF.fn⟩, hF.res⟩, hF.below⟩
    (fun x a' W => ∃ Bx, w.heap.size + 1 + 1 + 1 + 1 < Bx ∧ Row W Bx x.2.cells 81 ∧ a' = { tmps := #[.agg (pairC s0 s1), .pointer (some ⟨w.heap.size, 0, none⟩), .pointer (some ⟨w.heap.size + 1, 0, none⟩), .int .i64 0, .pointer (some ⟨w.heap.size + 1 + 1, 0, none⟩), .pointer (some ⟨w.heap.size + 1 + 1 + 1, 0, none⟩), .pointer (some ⟨w.heap.size + 1 + 1 + 1 + 1, 0, none⟩), .int .i64 x.1, .pointer (some ⟨Bx, 0, none⟩), fvB w, .agg (pairC s0 s1), .func (.func 112) #[] #[.pointer (some ⟨w.heap.size + 1 + 1 + 1 + 1 + 1, 0, none⟩)], .int .i64 x.1, x.2.v, undef, undef, undef, undef, undef, undef], defers := [] })
    (fun x a' _ X Y row hs hg hr => by obtain ⟨Bx, h1, h2, h3⟩ := hs; exact ⟨Bx, h1, row_own Bx (fun (_ : Unit) => x.2.cells) _ () X Y row h2 hg (fun r e => (hr r e).2), h3⟩)
    ?assign ?body ?done ?stop
  case assign =>
    rintro l pre x W K ⟨⟨⟨⟨b2, b3⟩, b4⟩, b1⟩, hB1⟩ hK
    obtain ⟨xi, xt, xa, xh, xn⟩ := x
    gi_wp2
    exact hK _ _ ((KeepsOthers.alloc _ _).from _) ((Below.refl _ W).alloc hB1.size _) ⟨⟨⟨⟨b2.alloc _, b3.alloc _⟩, b4.alloc _⟩, b1.alloc _⟩, hB1.alloc hB1.size _⟩ ⟨W.heap.size, b4.lt, Row.new W _ _, rfl⟩
  case body =>
    rintro l pre x a' W hl ⟨r, hr⟩ ⟨⟨⟨⟨b2, b3⟩, b4⟩, b1⟩, hB1⟩ ⟨Bx, hBx, bX, rfl⟩ hlt
    obtain ⟨xi, xt, xa, xh, xn⟩ := x
    have hsn := bestOf_snoc pre (xi, ⟨xt, xa, xh, xn⟩)
    have c4 : W.cell? ⟨w.heap.size + 1 + 1 + 1 + 1, 0, none⟩ = some (fvB w) := b4.cell 0
    have x0 : W.cell? ⟨Bx, 0, none⟩ = some (.int .i64 xt) := bX.cell 0
    have x1 : W.cell? ⟨Bx, 1, none⟩ = some (.int .i64 xa) := bX.cell 1
    have x2 : W.cell? ⟨Bx, 2, none⟩ = some (.int .i64 xh) := bX.cell 2
    have x3 : W.cell? ⟨Bx, 3, none⟩ = some (.string xn) := bX.cell 3
    have hw := best1_walk W (w.heap.size + 1 + 1 + 1) (w.heap.size + 1 + 1) (bestOf pre).1 (bestOf pre).2 xi ⟨xt, xa, xh, xn⟩ b3 b2 (by omega)
    have HW := Ythkjodlddhdeiaa.base.Shut.mk (And.intro hw (And.intro hsn (And.intro b3 (And.intro b2 (And.intro b4 (And.intro b1 hB1))))))
    clear hw hsn b1 b2 b3 b4 hB1 bX hl hr hlt
    gi_wp2_with fail
    refine ⟨trivial, (CallsIn.inRound l (callsIn_wide.2 HW.out.1)).mono ?_⟩
    rintro e w' ⟨rfl, h3, h2, ho⟩
    obtain ⟨_, hsn, b3, b2, b4, b1, hB1⟩ := HW.out
    have hb := ho.below hB1 (by intro k hk; simp only [List.mem_cons, List.not_mem_nil, or_false] at hk; omega) hB1.size
    have hbW := ho.below (Below.refl w.heap.size W) (by intro k hk; simp only [List.mem_cons, List.not_mem_nil, or_false] at hk; omega) hB1.size
    have hkeep := keepsOthers_only ho b3 b2
    have b4' : Row w' (w.heap.size + 1 + 1 + 1 + 1) #[fvB w] 145 := (ho.block _ b4.lt (by intro hm; simp only [List.mem_cons, List.not_mem_nil, or_false] at hm; omega)).trans b4
    have b1' : Row w' (w.heap.size + 1) Lb.zero.cells 81 := (ho.block _ b1.lt (by intro hm; simp only [List.mem_cons, List.not_mem_nil, or_false] at hm; omega)).trans b1
    have HE := Ythkjodlddhdeiaa.base.Shut.mk (show (((Row w' (w.heap.size + 1 + 1) (bestOf (pre ++ [(xi, ⟨xt, xa, xh, xn⟩)])).1.cells 81 ∧ Row w' (w.heap.size + 1 + 1 + 1) #[.int .i64 (bestOf (pre ++ [(xi, ⟨xt, xa, xh, xn⟩)])).2] 3) ∧ Row w' (w.heap.size + 1 + 1 + 1 + 1) #[fvB w] 145) ∧ Row w' (w.heap.size + 1) Lb.zero.cells 81) ∧ Below w.heap.size w w' by
      rw [hsn]; exact ⟨⟨⟨⟨h2, h3⟩, b4'⟩, b1'⟩, hb⟩)
    clear hsn b3 b2 b4 b1 hB1 h2 h3 b4' b1' hb ho HW
    have HB := Ythkjodlddhdeiaa.base.Shut.mk (And.intro hkeep hbW)
    clear hkeep hbW
    gi_wp2
    exact ⟨HB.out.1.from _, HB.out.2, HE.out⟩
  case done =>
    rintro D zs W hD rfl ⟨⟨⟨⟨b2, b3⟩, b4⟩, b1⟩, hB1⟩ hK
    replace b2 : Row W (w.heap.size + 1 + 1) (bestP s0 s1).1.cells 81 := b2
    replace b3 : Row W (w.heap.size + 1 + 1 + 1) #[.int .i64 (bestP s0 s1).2] 3 := b3
    obtain ⟨bq, hbq⟩ : ∃ b, bestP s0 s1 = b := ⟨_, rfl⟩
    rw [hbq] at b2 b3
    obtain ⟨⟨bt, ba, bh, bn⟩, bi⟩ := bq
    have HQ := Ythkjodlddhdeiaa.base.Shut.mk hbq
    simp only at b2 b3
    have x0 : W.cell? ⟨w.heap.size + 1 + 1, 0, none⟩ = some (.int .i64 bt) := b2.cell 0
    have x1 : W.cell? ⟨w.heap.size + 1 + 1, 1, none⟩ = some (.int .i64 ba) := b2.cell 1
    have x2 : W.cell? ⟨w.heap.size + 1 + 1, 2, none⟩ = some (.int .i64 bh) := b2.cell 2
    have x3 : W.cell? ⟨w.heap.size + 1 + 1, 3, none⟩ = some (.string bn) := b2.cell 3
    have x4 : W.cell? ⟨w.heap.size + 1 + 1 + 1, 0, none⟩ = some (.int .i64 bi) := b3.cell 0
    have y0 : W.cell? ⟨w.heap.size + 1, 0, none⟩ = some (.int .i64 0) := b1.cell 0
    have y1 : W.cell? ⟨w.heap.size + 1, 1, none⟩ = some (.int .i64 0) := b1.cell 1
    have y2 : W.cell? ⟨w.heap.size + 1, 2, none⟩ = some (.int .i64 0) := b1.cell 2
    have y3 : W.cell? ⟨w.heap.size + 1, 3, none⟩ = some (.string ⟨#[]⟩) := b1.cell 3
    have f0 := b1.frozen 0
    have f1 := b1.frozen 1
    have f2 := b1.frozen 2
    have f3 := b1.frozen 3
    have HW := Ythkjodlddhdeiaa.base.Shut.mk (And.intro b1 (And.intro hB1 (And.intro hK hD)))
    clear b1 b2 b3 b4 hB1 hK hF hbq hD
    have hmx : Try.prog.follows .mixedOrders = true := by kernel_rfl
    gi_wp2
    gi_region_o
    obtain ⟨b1, hB1, hK, hD⟩ := HW.out
    have hr := b1.lay (.int .i64 bt) (.int .i64 ba) (.int .i64 bh) (.string bn) rfl
    have hb := lay_below hB1 (Nat.le_succ _) (.int .i64 bt) (.int .i64 ba) (.int .i64 bh) (.string bn) (q := w.heap.size + 1)
    have hk := (((KeepsOthers.setCell W ⟨w.heap.size + 1, 0, none⟩ (.int .i64 bt)).trans (KeepsOthers.setCell _ ⟨w.heap.size + 1, 1, none⟩ (.int .i64 ba))).trans (KeepsOthers.setCell _ ⟨w.heap.size + 1, 2, none⟩ (.int .i64 bh))).trans (KeepsOthers.setCell _ ⟨w.heap.size + 1, 3, none⟩ (.string bn))
    have hK' := hk.same D _ hK rfl
    have HE := Ythkjodlddhdeiaa.base.Shut.mk (And.intro hr (And.intro hb hD))
    clear hr hb hk hD HW x0 x1 x2 x3 x4 y0 y1 y2 y3 f0 f1 f2 f3 b1 hB1 hK
    generalize (((W.setCell ⟨w.heap.size + 1, 0, none⟩ (.int .i64 bt)).setCell ⟨w.heap.size + 1, 1, none⟩ (.int .i64 ba)).setCell ⟨w.heap.size + 1, 2, none⟩ (.int .i64 bh)).setCell ⟨w.heap.size + 1, 3, none⟩ (.string bn) = Y at *
    have HK := Ythkjodlddhdeiaa.base.Shut.mk (show Y.drew.heap[D]? = some (.deferred (some [])) from hK')
    clear hK'
    gi_wp2
    refine ⟨by simp, .inl ⟨_, _, rfl, run_takeDeferred HK.out, ?_⟩⟩
    have hne : w.heap.size + 1 ≠ D := by have := HE.out.2.2; omega
    have hr2 : Row (Y.drew.putObj D (.deferred none)) (w.heap.size + 1) (Lb.cells ⟨bt, ba, bh, bn⟩) 81 := (World.putObj_heap_other hne).trans (show Y.drew.heap[w.heap.size + 1]? = _ from HE.out.1)
    exact ⟨_, res_lb (p := 2) (u := 3) rfl _ _ (w.heap.size + 1) ⟨bt, ba, bh, bn⟩ rfl hr2, by rw [HQ.out]; rfl, HE.out.2.1.drew.trans (belowK_b (w := w) (Nat.le_refl _) Y.drew D _ _ (by have := HE.out.2.2; omega) HK.out rfl rfl)⟩
  case stop =>
    rintro D c pre W _ _ h _
    exact h.elim
theorem best_walk (s0 s1 : ByteArray) (w : World) :
    Calls Try.prog 86 #[.agg (pairC s0 s1)] w fun e w' => e = .returned (.tuple #[(bestP s0 s1).1.v, .int .i64 (bestP s0 s1).2]) ∧ Below w.heap.size w w' := callsIn_wide.1 (best_in s0 s1 w)
end Go.Proofs.Ythkjodlddhdeiaa.label
