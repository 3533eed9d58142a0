/- The walk of disk.New. -/
import Derived.Test.YthkjodlddhdeiaaDiskRead
import Derived.Deep.OwnRows
namespace Go.Proofs.Ythkjodlddhdeiaa.disk
open Go.ChangeShapes Go.WideShapes Go.ChangeAt Go.RowKit
open Ythkjodlddhdeiaa.base

def newD (n : Nat) : Dk := ⟨n, List.replicate (n * 512) 0, List.replicate (n * 512) 0, [], -1, false⟩
theorem newD_wf (n : Nat) (h1 : 1 ≤ n) (h2 : n ≤ 4096) : (newD n).Wf :=
  ⟨h1, h2, by simp [newD], by simp [newD], by simp [newD], by simp [newD], by simp [newD]⟩
theorem zero_block : ∃ i z, Try.prog.info? 105 = some i ∧ i.zero = some z ∧ i.size = 512 ∧ i.bytes = 512 ∧ z.cells = Array.replicate 512 (.int .u8 0) := by
  have h : (Try.prog.info? 105).map (fun i => (i.zero.map (·.cells), i.size, i.bytes)) = some (some (Array.replicate 512 (.int .u8 0)), 512, 512) := by kernel_rfl
  obtain ⟨i, hi, hh⟩ := Option.map_eq_some_iff.1 h
  simp only [Prod.mk.injEq] at hh
  obtain ⟨z, hz, hc⟩ := Option.map_eq_some_iff.1 hh.1
  exact ⟨i, z, hi, hz, hh.2.1, hh.2.2, hc⟩
theorem made_zeros (m : Nat) : madeCells (Array.replicate 512 (Value.int .u8 0)) m = (bytesOf (List.replicate m 0)).toArray := by
  apply Array.ext
  · simp [madeCells, bytesOf]
  · intro j h1 h2
    have hj : j % 512 < 512 := Nat.mod_lt _ (by decide)
    simp [madeCells, bytesOf]
    rw [Array.getElem!_eq_getD, Array.getD_eq_getD_getElem?, Array.getElem?_replicate, if_pos hj]
    rfl
theorem run_make_blocks (n : Nat) (h : n ≤ 4096) (u : World) : (Instr.makeSlice 62 (.int .i64 (n : Int)) (.int .i64 (n : Int))).run Try.prog u = .ok (.slice (some ⟨u.heap.size, 0, none⟩) n n) (u.alloc (.cells (bytesOf (List.replicate (n * 512) 0)).toArray 105)) := by
  obtain ⟨i, z, hi, hz, hs, hb, hc⟩ := zero_block
  have hr := run_make (P := Try.prog) u 62 105 i z Try.underlying62 hi hz .i64 .i64 n n (by omega) (Int.le_refl _) (by rw [hb]; omega) (by omega)
  simp only [Int.toNat_natCast, hs, hc, made_zeros] at hr
  exact hr
theorem new_row {w : World} {base g n : Nat} {l : List UInt8} {e : TypeId} (hb : base ≤ g) (hg : w.heap[g]? = some (.cells (bytesOf l).toArray e (0, 0))) (hl : l.length = n * 512) (hn : n ≤ 4096) :
    w.ownsRow base e 512 (.slice (some ⟨g, 0, none⟩) n n) n (bytesOf l) := by
  have : (bytesOf l).length = n * 512 := by simp [bytesOf, hl]
  refine ⟨this, .inr ⟨g, n, _, rfl, hb, hg, Nat.le_refl _, by unfold maxLen; omega, by simpa using this, ?_⟩⟩
  rw [List.take_of_length_le (by simp [this])]
set_option maxRecDepth 100000 in
set_option maxHeartbeats 400000 in
theorem new_fails (n : Int) (h : n < 1 ∨ 4096 < n) (w : World) :
    Calls Try.prog 20 #[.int .i64 n] w fun e w' => e = .returned (.tuple #[.pointer none, .int .i64 2]) ∧ w = w' := by
  have h' : n < 1 ∨ (1 ≤ n ∧ 4096 < n) := by omega
  clear h
  rcases h' with h | ⟨h, h2⟩
  all_goals
    go_enter Try.func20, Try.ntmps20
    go_wp2
    go_ret2
    exact ⟨rfl, rfl⟩
theorem heap_three (w : World) (a b c : Obj) : (((w.alloc a).alloc b).alloc c).drew.heap[w.heap.size]? = some a ∧ (((w.alloc a).alloc b).alloc c).drew.heap[w.heap.size + 1]? = some b ∧ (((w.alloc a).alloc b).alloc c).drew.heap[w.heap.size + 1 + 1]? = some c := by
  refine ⟨?_, ?_, ?_⟩
  · show (((w.alloc a).alloc b).alloc c).heap[w.heap.size]? = some a
    rw [Below.heap_alloc _ _ _ (by simp; omega), Below.heap_alloc _ _ _ (by simp)]
    exact heap_alloc_new _ _
  · show (((w.alloc a).alloc b).alloc c).heap[w.heap.size + 1]? = some b
    rw [Below.heap_alloc _ _ _ (by simp)]
    have := heap_alloc_new (w.alloc a) b
    simpa using this
  · show (((w.alloc a).alloc b).alloc c).heap[w.heap.size + 1 + 1]? = some c
    have := heap_alloc_new ((w.alloc a).alloc b) c
    simpa using this
theorem new_below (w : World) (a b c : Obj) : Below w.heap.size w (((w.alloc a).alloc b).alloc c).drew := drewn (newer (newer (newer (same w) a) b) c)
theorem new_at {w : World} {base f s n : Nat} {z : List UInt8} {c : Array Value} (h2 : n ≤ 4096) (hw : (newD n).Wf) (hl : z.length = n * 512) (hc : c = (bytesOf z).toArray)
    (hN : newD n = ⟨n, z, z, [], -1, false⟩) (hbase : base ≤ w.heap.size) (hf : w.heap.size ≤ f) (hs : w.heap.size ≤ s) (hf2 : f ≤ w.heap.size + 1) (hs2 : s ≤ w.heap.size + 1) (hne : f ≠ s) :
    At (((w.alloc (.cells c 105)).alloc (.cells c 105)).alloc (.cells #[.slice (some ⟨f, 0, none⟩) n n, .slice (some ⟨s, 0, none⟩) n n, .slice none 0 0, .int .i64 (-1), .bool false] 65)).drew base (w.heap.size + 1 + 1) f s (newD n) := by
  obtain ⟨g0, g1, g2⟩ := heap_three w (.cells c 105) (.cells c 105) (.cells #[.slice (some ⟨f, 0, none⟩) n n, .slice (some ⟨s, 0, none⟩) n n, .slice none 0 0, .int .i64 (-1), .bool false] 65)
  generalize (((w.alloc (.cells c 105)).alloc (.cells c 105)).alloc (.cells #[.slice (some ⟨f, 0, none⟩) n n, .slice (some ⟨s, 0, none⟩) n n, .slice none 0 0, .int .i64 (-1), .bool false] 65)).drew = W at g0 g1 g2
  subst hc
  have row : ∀ g, w.heap.size ≤ g → g ≤ w.heap.size + 1 → W.ownsRow base 105 512 (.slice (some ⟨g, 0, none⟩) n n) n (bytesOf z) := by
    intro g hg1 hg2
    have : W.heap[g]? = some (.cells (bytesOf z).toArray 105 (0, 0)) := by
      by_cases hg : g = w.heap.size
      · rw [hg]; exact g0
      · rw [show g = w.heap.size + 1 from by omega]; exact g1
    exact new_row (by omega) this hl h2
  refine ⟨hw, ⟨by omega, by omega, by omega, hne⟩, ?_⟩
  rw [hN]
  exact ⟨n, n, .slice none 0 0, g2, row s hs hs2, ⟨by simp, .inl ⟨rfl, by simp⟩⟩, row f hf hf2⟩
set_option maxRecDepth 100000 in
set_option maxHeartbeats 800000 in
theorem new_walk (n : Nat) (h1 : 1 ≤ n) (h2 : n ≤ 4096) (w : World) (base : Nat) (hbase : base ≤ w.heap.size) :
    Calls Try.prog 20 #[.int .i64 (n : Int)] w fun e w' => ∃ d f s, e = .returned (.tuple #[pd d, .int .i64 0]) ∧ At w' base d f s (newD n) ∧ Below w.heap.size w w' ∧ w.heap.size ≤ d ∧ w.heap.size ≤ f ∧ w.heap.size ≤ s := by
  have hmk := run_make_blocks n h2
  have hl : (List.replicate (n * 512) (0 : UInt8)).length = n * 512 := by simp
  have HW := Shut.mk (newD_wf n h1 h2)
  have HL := Shut.mk hl
  have HN : Shut (newD n = ⟨n, List.replicate (n * 512) 0, List.replicate (n * 512) 0, [], -1, false⟩) := ⟨rfl⟩
  generalize List.replicate (n * 512) (0 : UInt8) = z at hmk HL HN
  have HZ : Shut (∃ c, c = (bytesOf z).toArray) := ⟨_, rfl⟩
  obtain ⟨c, hc⟩ : ∃ c, c = (bytesOf z).toArray := ⟨_, rfl⟩
  rw [← hc] at hmk
  have HC := Shut.mk hc
  clear hc HZ hl
  go_enter Try.func20, Try.ntmps20
  go_wp2
  go_region
  · have hA := new_at (w := w) (base := base) (f := w.heap.size) (s := w.heap.size + 1) h2 HW.out HL.out HC.out HN.out hbase (by omega) (by omega) (by omega) (by omega) (by omega)
    have HA := Shut.mk hA
    clear hA hmk
    go_wp2
    go_ret2
    exact ⟨w.heap.size + 1 + 1, w.heap.size, w.heap.size + 1, rfl, HA.out, new_below _ _ _ _, by omega, by omega, by omega⟩
  · have hA := new_at (w := w) (base := base) (f := w.heap.size + 1) (s := w.heap.size) h2 HW.out HL.out HC.out HN.out hbase (by omega) (by omega) (by omega) (by omega) (by omega)
    have HA := Shut.mk hA
    clear hA hmk
    go_wp2
    go_ret2
    exact ⟨w.heap.size + 1 + 1, w.heap.size + 1, w.heap.size, rfl, HA.out, new_below _ _ _ _, by omega, by omega, by omega⟩
end Go.Proofs.Ythkjodlddhdeiaa.disk
