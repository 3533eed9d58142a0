/- The reference's New. -/
import Derived.Test.YthkjodlddhdeiaaRefCrash
import Derived.Deep.LoopGhost
namespace Go.Proofs.Ythkjodlddhdeiaa.disk
open Go.ChangeShapes Go.WideShapes Go.ChangeAt Go.RowKit
open Ythkjodlddhdeiaa.base

def zero512 : List UInt8 := List.replicate 512 0
def shutMk (a b : Value) : Sem Value := Instr.makeSlice 29 a b
theorem mk_shut (a b : Value) : Instr.makeSlice 29 a b = shutMk a b := rfl
def shutCv (v : Value) : Sem Value := convert 29 9 v
theorem cv_shut (v : Value) : convert 29 9 v = shutCv v := rfl
def shutAp (ats : Array TypeId) (ty : TypeId) (args : Array Value) : Sem Value := Builtin.append_ ats ty args
theorem ap_shut (ats : Array TypeId) (ty : TypeId) (args : Array Value) : Builtin.append_ ats ty args = shutAp ats ty args := rfl
theorem zero512_len : zero512.length = 512 := List.length_replicate
theorem made_bytes (m : Nat) : madeCells (Value.int .u8 0).cells m = (bytesOf (List.replicate m 0)).toArray := by
  apply Array.ext
  · simp [madeCells, bytesOf]
  · intro j h1 h2
    simp [madeCells, bytesOf, Value.cells, Nat.mod_one]
theorem run_mk512 (u : World) : (Instr.makeSlice 29 (.int .i64 512) (.int .i64 512)).run Try.prog u = .ok (.slice (some ⟨u.heap.size, 0, none⟩) 512 512) (u.alloc (.cells (bytesOf zero512).toArray 5)) := by
  obtain ⟨i, hi, hz, hs, hb⟩ := info_parts info_u8
  have hr := run_make (P := Try.prog) u 29 5 i _ Try.underlying29 hi hz .i64 .i64 512 512 (by decide) (Int.le_refl _) (by rw [hb]; decide) (by decide)
  simp only [hs] at hr
  rw [show (512 : Int).toNat * 1 = 512 from rfl, made_bytes 512] at hr
  exact hr
theorem run_cv512 (u : World) (q : Nat) (h : u.heap[q]? = some (.cells (bytesOf zero512).toArray 5 (0, 0))) : (convert 29 9 (.slice (some ⟨q, 0, none⟩) 512 512)).run Try.prog u = .ok (.string ⟨zero512.toArray⟩) u :=
  run_string u q 0 512 512 zero512 zero512_len (fun i c hi => by
    rw [Nat.zero_add, cell_of_row u q i _ _ _ h]
    simp [bytesOf, hi])
theorem blk_zeros (n i : Nat) (h : i < n) : blk (List.replicate (n * 512) 0) i = zero512 := by
  unfold blk zero512
  rw [List.drop_replicate, List.take_replicate]
  congr 1
  omega
theorem blks_zeros (n : Nat) : blks (List.replicate (n * 512) 0) n = List.replicate n (txt zero512) := by
  apply List.ext_getElem?
  intro i
  by_cases hi : i < n
  · rw [blks_get _ _ _ hi, blk_zeros _ _ hi, List.getElem?_replicate, if_pos hi]
  · rw [List.getElem?_eq_none (by rw [blks_len]; omega), List.getElem?_eq_none (by rw [List.length_replicate]; omega)]
/-- it grows -/
structure Grows (w wr : World) (k : Nat) : Prop where
  obj : ∃ a cap, wr.heap[w.heap.size]? = some (.cells #[.slice a k cap, .slice none 0 0, .int .i64 (-1), .bool false] 56 (0, 0)) ∧ wr.ownsRow w.heap.size 9 1 (.slice a k cap) k (List.replicate k (txt zero512))
  below : Below w.heap.size w wr
attribute [local go_sem ↓] mk_shut cv_shut ap_shut
set_option maxRecDepth 100000 in
set_option maxHeartbeats 800000 in
theorem rnew_fails (n : Int) (h : n < 1 ∨ 4096 < n) (w : World) :
    Calls Try.prog 27 #[.int .i64 n] w fun e w' => e = .returned (.tuple #[.pointer none, .int .i64 2]) ∧ w = w' := by
  have h' : n < 1 ∨ (1 ≤ n ∧ 4096 < n) := by omega
  clear h
  rcases h' with h | ⟨h, h2⟩
  all_goals
    go_enter Try.func27, Try.ntmps27
    go_wp2
    go_ret2
    exact ⟨rfl, rfl⟩
set_option maxRecDepth 100000 in
set_option maxHeartbeats 800000 in
theorem rnew_walk (n : Nat) (h1 : 1 ≤ n) (h2 : n ≤ 4096) (w : World) :
    Calls Try.prog 27 #[.int .i64 (n : Int)] w fun e w' => ∃ r b, e = .returned (.tuple #[pd r, .int .i64 0]) ∧ RAt w' w.heap.size r b (newD n) (-1) ∧ Below w.heap.size w w' := by
  have h1' : ¬ (n : Int) < 1 := by omega
  have h2' : ¬ (4096 : Int) < n := by omega
  have HG := Ythkjodlddhdeiaa.base.Shut.mk (show Grows w (w.alloc (.cells #[.slice none 0 0, .slice none 0 0, .int .i64 (-1), .bool false] 56)) 0 from ⟨⟨none, 0, heap_alloc_new _ _, World.ownsRow_nil _ _ _ _⟩, newer (same w) _⟩)
  go_enter Try.func27, Try.ntmps27
  go_wp2
  go_loopg [] n (fun g wr => ∃ k, k + g = n ∧ Ythkjodlddhdeiaa.base.Shut (Grows w wr k))
  case atStart => exact ⟨0, by omega, HG⟩
  case round =>
    obtain ⟨k, hk, HR⟩ := hrel
    obtain ⟨a, cap, hobj, hrow⟩ := HR.out.obj
    have x0 : wr.cell? ⟨w.heap.size, 0, none⟩ = some (.slice a k cap) := by rw [cell_of_row wr _ 0 _ _ _ hobj]; rfl
    by_cases hlt : k < n
    · have hlt' : (k : Int) < n := by omega
      obtain ⟨s, hs⟩ : ∃ s : ByteArray, s = ⟨zero512.toArray⟩ := ⟨_, rfl⟩
      have e1 := run_mk512 wr.drew
      have e2 := run_cv512 (wr.alloc (.cells (bytesOf zero512).toArray 5)).drew wr.heap.size (heap_alloc_new wr _)
      rw [← hs] at e2
      generalize (bytesOf zero512).toArray = C0 at e1 e2
      have hb1 : Below wr.heap.size wr (wr.alloc (.cells C0 5)).drew := drewn (newer (same wr) _)
      have hb2 : Below wr.heap.size wr ((wr.alloc (.cells C0 5)).alloc (.cells #[.string s] 9)).drew := drewn (newer (newer (same wr) _) _)
      have hwq := lt_of_obj hobj
      have hlow := HR.out.below
      obtain ⟨g6, cap6, w6, hrun, hown, hgrow⟩ := append_gen 53 9 1 16 Try.underlying53 rstr_info (by decide) (by decide) (keptRow hrow hb2) (by omega) (Nat.le_trans hlow.size hb2.size) [.string s] rfl (by intro u hu; simp at hu; rw [hu]; rfl)
        (q := wr.heap.size + 1) (fun j u hj => by
          have := World.news_of_block (w := ((wr.alloc (.cells C0 5)).alloc (.cells #[.string s] 9)).drew) (B := wr.heap.size + 1) (cs := #[.string s]) (t := 9) (fr := (0, 0)) (by
            have := heap_alloc_new (wr.alloc (.cells C0 5)) (.cells #[.string s] 9)
            rwa [World.size_alloc] at this) j u hj
          exact this)
      have ho6 := grown_obj (keptRow hrow hb2) hgrow (by rw [hb2.block _ hwq]; exact hobj) (by decide)
      have c6 : w6.cell? ⟨w.heap.size, 0, none⟩ = some (.slice a k cap) := by rw [cell_of_row w6 _ 0 _ _ _ ho6]; rfl
      have f6 : w6.frozen? ⟨w.heap.size, 0, none⟩ = false := by unfold World.frozen?; simp only [ho6]; simp
      have hset := heap_setCell_same _ _ 0 _ _ (.slice (some ⟨g6, 0, none⟩) (k + 1) cap6) ho6
      have hrow7 : (w6.setCell ⟨w.heap.size, 0, none⟩ (.slice (some ⟨g6, 0, none⟩) (k + 1) cap6)).ownsRow w.heap.size 9 1 (.slice (some ⟨g6, 0, none⟩) (k + 1) cap6) (k + 1) (List.replicate (k + 1) (txt zero512)) := by
        refine row_kept (by rw [List.replicate_succ', show txt zero512 = .string s from by rw [hs]; rfl]; rw [show txt zero512 = .string s from by rw [hs]; rfl] at hown; exact hown) (fun g hg => ?_)
        obtain ⟨_, cur, hc⟩ := row_type hown g hg
        refine Below.heap_setCell _ _ _ _ (fun e2 => ?_)
        have e3 : g = w.heap.size := e2
        rw [e3] at hc
        exact absurd (obj_type hc ho6) (by decide)
      have hlow7 : Below w.heap.size w (w6.setCell ⟨w.heap.size, 0, none⟩ (.slice (some ⟨g6, 0, none⟩) (k + 1) cap6)) :=
        (((hlow.trans (hb2.mono hlow.size))).grown hgrow (Nat.le_trans hlow.size hb2.size) (fun g hg => (row_type (keptRow hrow hb2) g hg).1)).setCell (Nat.le_refl _) _
      have HN := Ythkjodlddhdeiaa.base.Shut.mk (show Grows w (w6.setCell ⟨w.heap.size, 0, none⟩ (.slice (some ⟨g6, 0, none⟩) (k + 1) cap6)) (k + 1) from ⟨⟨_, _, hset, hrow7⟩, hlow7⟩)
      have y0 : (wr.alloc (.cells C0 5)).cell? ⟨w.heap.size, 0, none⟩ = some (.slice a k cap) := by rw [World.cell?_alloc_lt _ _ _ hwq]; exact x0
      have y1 : ((wr.alloc (.cells C0 5)).alloc (.cells #[.string s] 9)).cell? ⟨w.heap.size, 0, none⟩ = some (.slice a k cap) := by rw [World.cell?_alloc_lt _ _ _ (by rw [World.size_alloc]; show w.heap.size < _; omega)]; exact y0
      rw [mk_shut] at e1
      rw [cv_shut] at e2
      rw [ap_shut] at hrun
      clear hobj hrow hb1 hb2 hlow hown hgrow ho6 hset hrow7 hlow7 hs HR hwq
      go_wp2
      go_big_region
      go_wp2
      go_roundg (gk - 1)
      case measure => omega
      case rel => exact ⟨k + 1, by omega, HN⟩
    · obtain rfl : k = n := by omega
      have hlt' : ¬ (k : Int) < k := by omega
      obtain ⟨b, rfl⟩ : ∃ b, a = some ⟨b, 0, none⟩ := by
        obtain ⟨a', cap', he, _, hg⟩ := own_slice hrow
        cases he
        exact hg (by omega)
      have hA : RAt wr w.heap.size w.heap.size b (newD k) (-1) := ⟨newD_wf k h1 h2, rfl, by decide, by decide, ⟨Nat.le_refl _, (row_type hrow b rfl).1⟩, ⟨cap, .slice none 0 0, hobj, by show wr.ownsRow _ _ _ _ k (blks (List.replicate (k * 512) 0) k); rw [blks_zeros]; exact hrow, World.ownsRow_nil _ _ _ _⟩⟩
      have HN := Ythkjodlddhdeiaa.base.Shut.mk (And.intro hA HR.out.below)
      clear hA hobj hrow HR
      go_wp2
      go_ret2
      exact ⟨_, rfl, ⟨_, HN.out.1⟩, HN.out.2⟩
end Go.Proofs.Ythkjodlddhdeiaa.disk
