/- Laws on blocks as values: compared; built into a loose write; that one into a slice. -/
import Derived.Test.YthkjodlddhdeiaaDiskNew
import Derived.Stop.BytesEq
import Derived.Great.BuildSlice
import Derived.Laws.Tables
namespace Go.Proofs.Ythkjodlddhdeiaa.disk
open Go.ChangeShapes Go.WideShapes Go.ChangeAt Go.RowKit
open Ythkjodlddhdeiaa.base

theorem neq_blocks (x y : List UInt8) (hx : x.length = 512) (hy : y.length = 512) (w : World) :
    (binOp .neq 105 (.agg (bytesOf x).toArray) (.agg (bytesOf y).toArray)).run Try.prog w = .ok (.bool (!(x == y))) w := by
  rw [run_neq_struct]
  have hsz : ∀ w, (sizeOf 5).run Try.prog w = .ok 1 w := by
    intro w
    have h : (Try.prog.info? 5).map (·.size) = some 1 := by kernel_rfl
    cases hq : Try.prog.info? 5 with
    | none => rw [hq] at h; cases h
    | some i =>
      rw [hq] at h
      simp [sizeOf, typeInfo, hq]
      simpa using h
  have := run_equalIn_bytes (P := Try.prog) w 9998 105 5 512 Try.underlying105 Try.underlying5 hsz x y hx hy
  have hc : ∀ l : List UInt8, bytesOf l = l.map Extern.Stop.cell := fun _ => rfl
  rw [hc, hc, this]
  rfl
theorem fold_set : ∀ (vs : List Value) (off j : Nat) (cur : Array Value), off + j + vs.length ≤ cur.size →
    (vs.zipIdx j).foldl (fun cs (x : Value × Nat) => cs.setIfInBounds (off + x.2) x.1) cur = (cur.toList.take (off + j) ++ vs ++ cur.toList.drop (off + j + vs.length)).toArray
  | [], off, j, cur, h => by simp
  | v :: r, off, j, cur, h => by
    rw [List.zipIdx_cons, List.foldl_cons, fold_set r off (j + 1) _ (by simp at h ⊢; omega)]
    congr 1
    rw [Array.toList_setIfInBounds, List.length_cons, show off + (j + 1) = off + j + 1 from by omega]
    exact list_seg_step cur.toList (off + j) v r (by simpa using h)
theorem fold_arr (c : Array Value) (off : Nat) (cur : Array Value) (h : off + c.size ≤ cur.size) :
    c.zipIdx.foldl (fun cs (x : Value × Nat) => cs.setIfInBounds (off + x.2) x.1) cur = (cur.toList.take off ++ c.toList ++ cur.toList.drop (off + c.size)).toArray := by
  rw [← Array.foldl_toList, Array.toList_zipIdx]
  have := fold_set c.toList off 0 cur (by simpa using h)
  simpa using this
theorem fill_loose (place : Nat → Option (Nat × Nat)) (p0 : place 0 = some (0, 1)) (p1 : place 1 = some (1, 512)) (cells : Array Value) (hs : cells.size = 513) (v : Value) (hv : v.cells = #[v]) (l : List Value) (hl : l.length = 512) :
    Instr.fill place cells [(0, v), (1, .agg l.toArray)] = some (v :: l).toArray := by
  have hc : (Value.agg l.toArray).cells = l.toArray := rfl
  rw [Instr.fill, p0]
  simp only [hv]
  rw [if_neg (by simp [hs])]
  rw [Instr.fill, p1]
  simp only [hc]
  rw [if_neg (by simp [hs, hl])]
  rw [Instr.fill, fold_arr _ 1 _ (by simp [hs, hl])]
  congr 1
  have h0 : 0 < cells.toList.length := by simp [hs]
  obtain ⟨cl⟩ := cells
  cases cl with
  | nil => simp at h0
  | cons a r =>
    have hr : r.length = 512 := by simpa using hs
    simp [hl]
    omega
theorem loose_info : ∃ i z, Try.prog.info? 107 = some i ∧ i.zero = some z ∧ i.size = 513 ∧ i.bytes = 520 ∧ z.cells.size = 513 := by
  have h : (Try.prog.info? 107).map (fun i => (i.zero.map (·.cells.size), i.size, i.bytes)) = some (some 513, 513, 520) := by kernel_rfl
  obtain ⟨i, hi, hh⟩ := Option.map_eq_some_iff.1 h
  simp only [Prod.mk.injEq] at hh
  obtain ⟨z, hz, hc⟩ := Option.map_eq_some_iff.1 hh.1
  exact ⟨i, z, hi, hz, hh.2.1, hh.2.2, hc⟩
theorem build_loose (i : Int) (l : List UInt8) (hl : l.length = 512) (w : World) :
    (Instr.build 107 #[(0, .int .i64 i), (1, .agg (bytesOf l).toArray)]).run Try.prog w = .ok (.agg (.int .i64 i :: bytesOf l).toArray) w := by
  obtain ⟨it, z, hi, hz, hs, hb, hc⟩ := loose_info
  refine run_build w 107 _ _ ?_
  have hpl : ∃ fs, Try.prog.underlying 107 = some (.struct fs) ∧ fs.toList.mapM (fun f => (Try.prog.info? f.type).map fun i => (f.offset, i.size)) = some [(0, 1), (1, 512)] :=
    ⟨_, Try.underlying107, by kernel_rfl⟩
  obtain ⟨fs, hu, hm⟩ := hpl
  unfold Program.built
  simp only [hi, hu, hz, hm]
  exact fill_loose _ rfl rfl _ hc _ rfl _ (by simp [bytesOf, hl])
theorem fill_one (c : Array Value) (n : Nat) (hn : c.size = n) (cells : Array Value) (hs : cells.size = n) : Instr.fill (fun i => some (i * n, n)) cells [(0, .agg c)] = some c := by
  have hc : (Value.agg c).cells = c := rfl
  rw [Instr.fill]
  simp only [hc]
  rw [if_neg (by simp [hn, hs])]
  rw [Instr.fill, fold_arr _ _ _ (by simp [hn, hs])]
  congr 1
  simp [hn]
  rw [List.drop_eq_nil_of_le (by simp [hs])]
  simp
theorem slice_loose (c : Array Value) (hc : c.size = 513) (w : World) :
    (Instr.buildSlice 63 1 #[(0, .agg c)]).run Try.prog w = .ok (.slice (some ⟨w.heap.size, 0, none⟩) 1 1) (w.alloc (.cells c 107)) := by
  obtain ⟨it, z, hi, hz, hs, hb, _⟩ := loose_info
  refine run_buildSlice w 63 107 1 _ c it z Try.underlying63 hi hz (by rw [hs]; decide) (by rw [hs]; decide) ?_
  rw [hs]
  exact fill_one c 513 hc _ (by simp)
end Go.Proofs.Ythkjodlddhdeiaa.disk
