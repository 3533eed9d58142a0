/- A log as it lies in memory; the small walks of package wal. -/
import Derived.Test.YthkjodlddhdeiaaTwo
import Derived.Test.YthkjodlddhdeiaaStrs
namespace Go.Proofs.Ythkjodlddhdeiaa.wal
open Go.ChangeShapes Go.WideShapes Go.ChangeAt Go.RowKit
open Ythkjodlddhdeiaa.base Ythkjodlddhdeiaa.disk
open Ythkjodlddhdeiaa.oct (strs Reads)

/-- what a log is -/
structure Lg where
  from_ : Nat
  n : Nat
  tail : Nat
  recs : List ByteArray
structure Lg.Wf (G : Lg) : Prop where
  n1 : 1 ≤ G.n
  room : G.from_ + G.n ≤ 4096
  far : G.tail + G.recs.length ≤ 1125899906842624
  full : G.recs.length ≤ G.n
abbrev pl (l : Nat) : Value := .pointer (some ⟨l, 0, none⟩)
structure LogAt (w : World) (base l d : Nat) (G : Lg) : Prop where
  wf : G.Wf
  low : base ≤ l
  fields : ∃ rv, w.heap[l]? = some (.cells #[pd d, .int .i64 G.from_, .int .i64 G.n, .int .i64 G.tail, rv] 78 (0, 0)) ∧ w.ownsRow base 9 1 rv G.recs.length (strs G.recs)
theorem LogAt.below {w w' : World} {base l d : Nat} {G : Lg} (h : LogAt w base l d G) (hb : Below w.heap.size w w') : LogAt w' base l d G := by
  obtain ⟨hw, hl, rv, h1, h2⟩ := h
  exact ⟨hw, hl, rv, by rw [hb.block l (lt_of_obj h1)]; exact h1, keptRow h2 hb⟩
theorem LogAt.cells {w : World} {base l d : Nat} {G : Lg} (h : LogAt w base l d G) : ∃ A cap, w.cell? ⟨l, 0, none⟩ = some (pd d) ∧ w.cell? ⟨l, 1, none⟩ = some (.int .i64 G.from_) ∧ w.cell? ⟨l, 2, none⟩ = some (.int .i64 G.n) ∧
    w.cell? ⟨l, 3, none⟩ = some (.int .i64 G.tail) ∧ w.cell? ⟨l, 4, none⟩ = some (.slice A G.recs.length cap) ∧ (∀ i, w.frozen? ⟨l, i, none⟩ = false) ∧ w.ownsRow base 9 1 (.slice A G.recs.length cap) G.recs.length (strs G.recs) := by
  obtain ⟨hw, hl, rv, h1, h2⟩ := h
  obtain ⟨A, cap, rfl⟩ := row_val h2
  refine ⟨A, cap, ?_, ?_, ?_, ?_, ?_, ?_, h2⟩
  · rw [cell_of_row w l 0 _ _ _ h1]; rfl
  · rw [cell_of_row w l 1 _ _ _ h1]; rfl
  · rw [cell_of_row w l 2 _ _ _ h1]; rfl
  · rw [cell_of_row w l 3 _ _ _ h1]; rfl
  · rw [cell_of_row w l 4 _ _ _ h1]; rfl
  · intro i; unfold World.frozen?; simp only [h1]; simp
/-- a log's blocks are no disk's -/
theorem LogAt.other {w w' : World} {base l d f s d' : Nat} {D : Dk} {G : Lg} (h : LogAt w base l d' G) (ha : At w base d f s D) (ho : Only [d, f, s] w w') : LogAt w' base l d' G := by
  obtain ⟨gc, gs, gl, g1, g2, g3, g4⟩ := ha.fields
  obtain ⟨a1, ha1⟩ := (row_type g4 f rfl).2
  obtain ⟨a2, ha2⟩ := (row_type g2 s rfl).2
  obtain ⟨hw, hlo, rv, h1, h2⟩ := h
  have no : ∀ {g : Nat} {cur : Array Value} {t : TypeId}, w.heap[g]? = some (.cells cur t (0, 0)) → t ≠ 65 → t ≠ 105 → g ∉ [d, f, s] := by
    intro g cur t hg n1 n2 hm
    simp at hm
    rcases hm with rfl | rfl | rfl
    · exact n1 (obj_type hg g1)
    · exact n2 (obj_type hg ha1)
    · exact n2 (obj_type hg ha2)
  refine ⟨hw, hlo, rv, ?_, ho.row h2 (fun g hg => ?_)⟩
  · rw [ho.block l (lt_of_obj h1) (no h1 (by decide) (by decide))]
    exact h1
  · obtain ⟨_, cu, hc⟩ := row_type h2 g hg
    exact no hc (by decide) (by decide)
/-- a disk's blocks are no log's -/
theorem at_log {w w' : World} {base l d f s d' : Nat} {D : Dk} {G : Lg} (h : At w base d f s D) (hl : LogAt w base l d' G) (ho : Only [l] w w') : At w' base d f s D := by
  obtain ⟨_, _, rv0, h0, _⟩ := hl
  obtain ⟨hw, hb, ⟨fc, cs, lv, h1, h2, h3, h4⟩⟩ := h
  have no : ∀ {g : Nat} {cur : Array Value} {t : TypeId}, w.heap[g]? = some (.cells cur t (0, 0)) → t ≠ 78 → g ∉ [l] := by
    intro g cur t hg n1 hm
    have e : g = l := by simpa using hm
    rw [e] at hg
    exact n1 (obj_type hg h0)
  have key : ∀ {size n : Nat} {e : TypeId} {v : Value} {xs : List Value}, w.ownsRow base e size v n xs → e ≠ 78 → w'.ownsRow base e size v n xs := by
    intro size n e v xs hr he
    refine ho.row hr (fun g hg => ?_)
    obtain ⟨_, cu, hc⟩ := row_type hr g hg
    exact no hc he
  exact ⟨hw, hb, ⟨fc, cs, lv, by rw [ho.block d (lt_of_obj h1) (no h1 (by decide))]; exact h1, key h2 (by decide), key h3 (by decide), key h4 (by decide)⟩⟩
set_option maxRecDepth 100000 in
set_option maxHeartbeats 400000 in
theorem made_walk {w : World} {base l d : Nat} {G : Lg} (h : LogAt w base l d G) : Calls Try.prog 95 #[pl l] w fun e w' => e = .returned (.bool true) ∧ w = w' := by
  obtain ⟨A, cap, c0, c1, c2, c3, c4, cf, _⟩ := h.cells
  clear h
  go_enter Try.func95, Try.ntmps95
  go_wp2
  go_ret
  exact ⟨rfl, rfl⟩
set_option maxRecDepth 100000 in
set_option maxHeartbeats 400000 in
theorem there_walk {w : World} {base l d : Nat} {G : Lg} (h : LogAt w base l d G) : Calls Try.prog 71 #[pl l] w fun e w' => e = .returned (.bool true) ∧ w = w' := by
  have HM := Ythkjodlddhdeiaa.base.Shut.mk (made_walk h)
  clear h
  go_enter Try.func71, Try.ntmps71
  go_wp2_with fail
  refine HM.out.mono ?_
  rintro e w1 ⟨rfl, rfl⟩
  go_wp2
  go_ret
  exact ⟨rfl, rfl⟩
def UnLog (w : World) (v : Value) : Prop := v = .pointer none ∨ ∃ b, v = pl b ∧ w.cell? ⟨b, 0, none⟩ = some (.pointer none)
set_option maxRecDepth 100000 in
set_option maxHeartbeats 400000 in
theorem there_un {w : World} {v : Value} (h : UnLog w v) : Calls Try.prog 71 #[v] w fun e w' => e = .returned (.bool false) ∧ w = w' := by
  rcases h with rfl | ⟨b, rfl, hc⟩
  · go_enter Try.func71, Try.ntmps71
    go_wp2
    go_ret
    exact ⟨rfl, rfl⟩
  · go_enter Try.func71, Try.ntmps71
    go_wp2
    go_ret
    exact ⟨rfl, rfl⟩
set_option maxRecDepth 100000 in
set_option maxHeartbeats 400000 in
theorem tail_walk {w : World} {base l d : Nat} {G : Lg} (h : LogAt w base l d G) : Calls Try.prog 39 #[pl l] w fun e w' => e = .returned (.int .i64 (G.tail : Int)) ∧ w = w' := by
  have HM := Ythkjodlddhdeiaa.base.Shut.mk (there_walk h)
  obtain ⟨A, cap, c0, c1, c2, c3, c4, cf, _⟩ := h.cells
  clear h
  go_enter Try.func39, Try.ntmps39
  go_wp2_with fail
  refine HM.out.mono ?_
  rintro e w1 ⟨rfl, rfl⟩
  go_wp2
  go_ret
  exact ⟨rfl, rfl⟩
set_option maxRecDepth 100000 in
set_option maxHeartbeats 400000 in
theorem head_walk {w : World} {base l d : Nat} {G : Lg} (h : LogAt w base l d G) : Calls Try.prog 40 #[pl l] w fun e w' => e = .returned (.int .i64 ((G.tail : Int) + (G.recs.length : Int))) ∧ Below w.heap.size w w' := by
  have HM := Ythkjodlddhdeiaa.base.Shut.mk (there_walk h)
  obtain ⟨A, cap, c0, c1, c2, c3, c4, cf, _⟩ := h.cells
  have h1 : (G.tail : Int) + (G.recs.length : Int) ≤ 1125899906842624 := by have := h.wf.far; omega
  clear h
  go_enter Try.func40, Try.ntmps40
  go_wp2_with fail
  refine HM.out.mono ?_
  rintro e w1 ⟨rfl, rfl⟩
  go_wp2
  go_big_region
  go_wp2
  go_ret
  exact ⟨rfl, drewn (same _)⟩
set_option maxRecDepth 100000 in
set_option maxHeartbeats 400000 in
theorem room_walk {w : World} {base l d : Nat} {G : Lg} (h : LogAt w base l d G) : Calls Try.prog 43 #[pl l] w fun e w' => e = .returned (.int .i64 ((G.n : Int) - (G.recs.length : Int))) ∧ Below w.heap.size w w' := by
  have HM := Ythkjodlddhdeiaa.base.Shut.mk (there_walk h)
  obtain ⟨A, cap, c0, c1, c2, c3, c4, cf, _⟩ := h.cells
  have h1 : (G.n : Int) ≤ 4096 := by have := h.wf.room; omega
  have h2 : (G.recs.length : Int) ≤ (G.n : Int) := by have := h.wf.full; omega
  clear h
  go_enter Try.func43, Try.ntmps43
  go_wp2_with fail
  refine HM.out.mono ?_
  rintro e w1 ⟨rfl, rfl⟩
  go_wp2
  go_big_region
  go_wp2
  go_ret
  exact ⟨rfl, drewn (same _)⟩
set_option maxRecDepth 100000 in
set_option maxHeartbeats 400000 in
theorem block_walk {w : World} {base l d : Nat} {G : Lg} (h : LogAt w base l d G) (p : Nat) (hp : p ≤ 1125899906842624) :
    Calls Try.prog 94 #[pl l, .int .i64 (p : Int)] w fun e w' => e = .returned (.int .i64 ((G.from_ + p % G.n : Nat) : Int)) ∧ Below w.heap.size w w' := by
  obtain ⟨A, cap, c0, c1, c2, c3, c4, cf, _⟩ := h.cells
  have hr := h.wf.room
  have hn := h.wf.n1
  have hmod : p % G.n < G.n := Nat.mod_lt _ (by omega)
  obtain ⟨q, hq⟩ : ∃ q : Nat, q = p % G.n := ⟨_, rfl⟩
  have hcast : ((p : Int) % (G.n : Int)) = (q : Int) := by rw [hq]; exact (Int.natCast_emod p G.n).symm
  have hq1 : (q : Int) < 4096 := by omega
  have hf1 : (G.from_ : Int) ≤ 4096 := by omega
  have hp1 : (p : Int) ≤ 1125899906842624 := by omega
  have hn1 : (1 : Int) ≤ (G.n : Int) := by omega
  have hn2 : ((G.n : Int) == 0) = false := by simp; omega
  rw [← hq]
  clear h hr hn hmod hq hp
  go_enter Try.func94, Try.ntmps94
  go_wp2
  go_big_region
  go_wp2
  go_ret
  exact ⟨ret_int (by rw [Int.natCast_add]), drewn (same _)⟩
end Go.Proofs.Ythkjodlddhdeiaa.wal
