/- Labels: what the program computes with them; the walks of right and Bytes. -/
import Derived.Test.YthkjodlddhdeiaaSealFacts
import Derived.Test.YthkjodlddhdeiaaSealTakeW
import Derived.Test.YthkjodlddhdeiaaOctTextW
import Derived.Test.YthkjodlddhdeiaaDiskLives
import Derived.Deep.RegionHeld3
import Derived.LoopN
import Derived.Laws.ResultCell
namespace Go.Proofs.Ythkjodlddhdeiaa.label
open Go.ChangeShapes Go.WideShapes Go.ChangeAt Go.RowKit
open Ythkjodlddhdeiaa.base Ythkjodlddhdeiaa.disk
open Ythkjodlddhdeiaa.oct (num text takeText num_walk text_walk num_len)

/-- cells lie in a block -/
def Row (w : World) (q : Nat) (cs : Array Value) (t : TypeId) : Prop := w.heap[q]? = some (.cells cs t (0, 0))
theorem Row.lt {w : World} {q : Nat} {cs : Array Value} {t : TypeId} (h : Row w q cs t) : q < w.heap.size := lt_of_obj h
theorem Row.new (w : World) (cs : Array Value) (t : TypeId) : Row (w.alloc (.cells cs t)) w.heap.size cs t := heap_alloc_new _ _
theorem Row.below {w w' : World} {q : Nat} {cs : Array Value} {t : TypeId} (h : Row w q cs t) (hb : Below w.heap.size w w') : Row w' q cs t := (hb.block q h.lt).trans h
theorem Row.alloc {w : World} {q : Nat} {cs : Array Value} {t : TypeId} (h : Row w q cs t) (o : Obj) : Row (w.alloc o) q cs t := h.below (newer (same w) o)
theorem Row.cell {w : World} {q : Nat} {cs : Array Value} {t : TypeId} (h : Row w q cs t) (i : Nat) : w.cell? ⟨q, i, none⟩ = cs[i]? := cell_of_row w q i cs t (0, 0) h
theorem Row.frozen {w : World} {q : Nat} {cs : Array Value} {t : TypeId} (h : Row w q cs t) (i : Nat) : w.frozen? ⟨q, i, none⟩ = false := frozen_of_row w q i cs t h
theorem Row.set {w : World} {q : Nat} {cs : Array Value} {t : TypeId} (h : Row w q cs t) (i : Nat) (v : Value) : Row (w.setCell ⟨q, i, none⟩ v) q (cs.setIfInBounds i v) t := by
  have hlt := h.lt
  unfold Row at *
  have hq : w.heap[q] = .cells cs t (0, 0) := by rw [Array.getElem?_eq_getElem hlt] at h; exact Option.some.inj h
  simp [World.setCell, hlt, hq, Array.getElem_modify]
theorem Row.other {w : World} {q : Nat} {cs : Array Value} {t : TypeId} (h : Row w q cs t) (p i : Nat) (v : Value) (hne : q ≠ p) : Row (w.setCell ⟨p, i, none⟩ v) q cs t :=
  (Ythkjodlddhdeiaa.disk.Only.setCell w ⟨p, i, none⟩ v).block q h.lt (by simpa using hne) |>.trans h

/-- cells of block q that stay -/
def Stay (q : Nat) (u w' : World) : Prop := ∀ i v, u.cell? ⟨q, i, none⟩ = some v → w'.cell? ⟨q, i, none⟩ = some v
theorem stay_below {q : Nat} {u w' : World} (h : Below u.heap.size u w') : Ythkjodlddhdeiaa.base.Shut (Stay q u w') := ⟨fun _ _ hc => by rw [h.cell (World.block_lt_of_cell? u _ hc)]; exact hc⟩
theorem stay3 {q i j k : Nat} {a b c : Value} {u w' : World} (hs : Ythkjodlddhdeiaa.base.Shut (Stay q u w')) (h : u.cell? ⟨q, i, none⟩ = some a ∧ u.cell? ⟨q, j, none⟩ = some b ∧ u.cell? ⟨q, k, none⟩ = some c) :
    w'.cell? ⟨q, i, none⟩ = some a ∧ w'.cell? ⟨q, j, none⟩ = some b ∧ w'.cell? ⟨q, k, none⟩ = some c := ⟨hs.out _ _ h.1, hs.out _ _ h.2.1, hs.out _ _ h.2.2⟩

structure Lb where
  turn : Int
  tail : Int
  head : Int
  note : ByteArray
abbrev Lb.cells (l : Lb) : Array Value := #[.int .i64 l.turn, .int .i64 l.tail, .int .i64 l.head, .string l.note]
abbrev Lb.v (l : Lb) : Value := .agg l.cells
abbrev Lb.zero : Lb := ⟨0, 0, 0, ⟨#[]⟩⟩
def rightL (l : Lb) : Bool := decide (1 ≤ l.turn ∧ l.turn ≤ 4611686018427387904 ∧ 0 ≤ l.tail ∧ l.tail ≤ l.head ∧ l.head ≤ 1125899906842624 ∧ l.note.size ≤ 400)
theorem right_iff (l : Lb) : rightL l = true ↔ 1 ≤ l.turn ∧ l.turn ≤ 4611686018427387904 ∧ 0 ≤ l.tail ∧ l.tail ≤ l.head ∧ l.head ≤ 1125899906842624 ∧ l.note.size ≤ 400 := by unfold rightL; simp
theorem not_right {l : Lb} (h : ¬ (1 ≤ l.turn ∧ l.turn ≤ 4611686018427387904 ∧ 0 ≤ l.tail ∧ l.tail ≤ l.head ∧ l.head ≤ 1125899906842624 ∧ l.note.size ≤ 400)) : rightL l = false := by unfold rightL; simpa using h

set_option maxRecDepth 100000 in
set_option maxHeartbeats 1600000 in
theorem right_walk (l : Lb) (hn : l.note.size ≤ maxLen) (w : World) : Calls Try.prog 76 #[l.v] w fun e w' => e = .returned (.bool (rightL l)) ∧ Below w.heap.size w w' := by
  obtain ⟨turn, tail, head, note⟩ := l
  have hn' : note.size ≤ 2 ^ 63 - 1 := hn
  have HT := Ythkjodlddhdeiaa.base.Shut.mk (right_iff ⟨turn, tail, head, note⟩)
  have HF := Ythkjodlddhdeiaa.base.Shut.mk (@not_right ⟨turn, tail, head, note⟩)
  obtain ⟨r, hr⟩ : ∃ r, rightL ⟨turn, tail, head, note⟩ = r := ⟨_, rfl⟩
  have HR := Ythkjodlddhdeiaa.base.Shut.mk hr
  rw [hr]
  clear hr hn
  have hfalse : ¬ (1 ≤ turn ∧ turn ≤ 4611686018427387904 ∧ 0 ≤ tail ∧ tail ≤ head ∧ head ≤ 1125899906842624 ∧ note.size ≤ 400) → r = false := fun h => by rw [← HR.out]; exact HF.out h
  have htrue : (1 ≤ turn ∧ turn ≤ 4611686018427387904 ∧ 0 ≤ tail ∧ tail ≤ head ∧ head ≤ 1125899906842624 ∧ note.size ≤ 400) → r = true := fun h => by rw [← HR.out]; exact HT.out.2 h
  have HH := Ythkjodlddhdeiaa.base.Shut.mk (And.intro hfalse htrue)
  clear hfalse htrue HT HF HR
  have HB := Ythkjodlddhdeiaa.base.Shut.mk (newer (same w) (.cells #[.int .i64 turn, .int .i64 tail, .int .i64 head, .string note] 81))
  by_cases c1 : 1 ≤ turn
  · by_cases c2 : turn ≤ 4611686018427387904
    · by_cases c3 : 0 ≤ tail
      · by_cases c4 : tail ≤ head
        · by_cases c5 : head ≤ 1125899906842624
          · by_cases c6 : note.size ≤ 400
            · obtain rfl := HH.out.2 ⟨c1, c2, c3, c4, c5, c6⟩
              have c6' : (note.size : Int) ≤ 400 := by omega
              go_enter Try.func76, Try.ntmps76
              go_wp2
              go_ret
              exact ⟨rfl, HB.out⟩
            · obtain rfl := HH.out.1 (fun h => c6 h.2.2.2.2.2)
              have c6' : ¬ (note.size : Int) ≤ 400 := by omega
              go_enter Try.func76, Try.ntmps76
              go_wp2
              go_ret
              exact ⟨rfl, HB.out⟩
          · obtain rfl := HH.out.1 (fun h => c5 h.2.2.2.2.1)
            go_enter Try.func76, Try.ntmps76
            go_wp2
            go_ret
            exact ⟨rfl, HB.out⟩
        · obtain rfl := HH.out.1 (fun h => c4 h.2.2.2.1)
          go_enter Try.func76, Try.ntmps76
          go_wp2
          go_ret
          exact ⟨rfl, HB.out⟩
      · obtain rfl := HH.out.1 (fun h => c3 h.2.2.1)
        go_enter Try.func76, Try.ntmps76
        go_wp2
        go_ret
        exact ⟨rfl, HB.out⟩
    · obtain rfl := HH.out.1 (fun h => c2 h.2.1)
      go_enter Try.func76, Try.ntmps76
      go_wp2
      go_ret
      exact ⟨rfl, HB.out⟩
  · obtain rfl := HH.out.1 (fun h => c1 h.1)
    go_enter Try.func76, Try.ntmps76
    go_wp2
    go_ret
    exact ⟨rfl, HB.out⟩

def bytesE (l : Lb) : Int := if rightL l = true then 0 else 2
def bytesL (l : Lb) : List UInt8 := if rightL l = true then num l.tail ++ num l.head ++ text l.note.data.toList else []
theorem bytes_len {l : Lb} (h : rightL l = true) : (bytesL l).length ≤ 430 := by
  have hr := (right_iff l).1 h
  unfold bytesL
  rw [if_pos h]
  unfold text
  have h1 := num_len l.tail
  have h2 := num_len l.head
  have h3 := num_len (l.note.data.toList.length : Int)
  have h4 : l.note.data.toList.length = l.note.size := by simp
  simp only [List.length_append]
  omega

set_option maxRecDepth 100000 in
set_option maxHeartbeats 1600000 in
theorem bytes_walk (l : Lb) (hn : l.note.size ≤ maxLen) (w : World) : Calls Try.prog 45 #[l.v] w fun e w' => e = .returned (.tuple #[.string ⟨(bytesL l).toArray⟩, .int .i64 (bytesE l)]) ∧ Below w.heap.size w w' := by
  obtain ⟨q, hq⟩ : ∃ q, w.heap.size = q := ⟨_, rfl⟩
  obtain ⟨V, hV⟩ : ∃ V, w.alloc (.cells l.cells 81) = V := ⟨_, rfl⟩
  have hX : Row V q l.cells 81 := by rw [← hV, ← hq]; exact Row.new _ _ _
  have hB : Below w.heap.size w V := by rw [← hV]; exact newer (same w) _
  have hR := fun u : World => right_walk l hn u
  have HE := Ythkjodlddhdeiaa.base.Shut.mk (show bytesE l = if rightL l = true then 0 else 2 from rfl)
  have HL := Ythkjodlddhdeiaa.base.Shut.mk (show bytesL l = if rightL l = true then num l.tail ++ num l.head ++ text l.note.data.toList else [] from rfl)
  have HI := Ythkjodlddhdeiaa.base.Shut.mk (right_iff l).1
  have HW := Ythkjodlddhdeiaa.base.Shut.mk (And.intro hR (And.intro hB hX))
  obtain ⟨turn, tail, head, note⟩ := l
  have x0 : V.cell? ⟨q, 0, none⟩ = some (.int .i64 turn) := hX.cell 0
  have x1 : V.cell? ⟨q, 1, none⟩ = some (.int .i64 tail) := hX.cell 1
  have x2 : V.cell? ⟨q, 2, none⟩ = some (.int .i64 head) := hX.cell 2
  have x3 : V.cell? ⟨q, 3, none⟩ = some (.string note) := hX.cell 3
  generalize bytesE _ = be at HE ⊢
  generalize bytesL _ = bl at HL ⊢
  generalize rightL _ = r at HE HL HI HW
  clear hR hB hX hn
  cases r with
  | false =>
    obtain rfl : be = 2 := HE.out
    obtain rfl : bl = [] := HL.out
    clear HE HL HI
    go_enter Try.func45, Try.ntmps45
    go_wp2_with fail
    refine (HW.out.1 _).mono ?_
    rintro e w1 ⟨rfl, hb1⟩
    have H1 := Ythkjodlddhdeiaa.base.Shut.mk (HW.out.2.1.trans (hb1.mono HW.out.2.1.size))
    clear hb1
    go_wp2
    go_ret2
    exact ⟨rfl, H1.out⟩
  | true =>
    obtain rfl : be = 0 := HE.out
    obtain rfl : bl = num tail ++ num head ++ text note.data.toList := HL.out
    clear HE HL
    have hr := HI.out rfl
    simp only at hr
    have h1 := fun u : World => num_walk tail (by omega) u
    have h2 := fun u : World => num_walk head (by omega) u
    have h3 := fun u : World => text_walk note (by omega) u
    have l1 := num_len tail
    have l2 := num_len head
    have l3 : (text note.data.toList).length ≤ 420 := by
      unfold text
      have h3 := num_len (note.data.toList.length : Int)
      have h4 : note.data.toList.length = note.size := by simp
      simp only [List.length_append]
      omega
    generalize num tail = ta at h1 l1 ⊢
    generalize num head = ha at h2 l2 ⊢
    generalize text note.data.toList = tx at h3 l3 ⊢
    have HN := Ythkjodlddhdeiaa.base.Shut.mk (And.intro h1 (And.intro h2 h3))
    have s1 : ¬ 9223372036854775807 < ta.length + ha.length := by omega
    have s2 : ¬ 9223372036854775807 < ta.length + ha.length + tx.length := by omega
    clear h1 h2 h3 HI hr
    go_enter Try.func45, Try.ntmps45
    go_wp2_with fail
    refine (HW.out.1 _).mono ?_
    rintro e w1 ⟨rfl, hb1⟩
    have y1 : w1.cell? ⟨q, 1, none⟩ = some (.int .i64 tail) := (HW.out.2.2.below hb1).cell 1
    have y2 : w1.cell? ⟨q, 2, none⟩ = some (.int .i64 head) := (HW.out.2.2.below hb1).cell 2
    have y3 : w1.cell? ⟨q, 3, none⟩ = some (.string note) := (HW.out.2.2.below hb1).cell 3
    have H1 := Ythkjodlddhdeiaa.base.Shut.mk (HW.out.2.1.trans (hb1.mono HW.out.2.1.size))
    clear hb1 x0 x1 x2 x3
    go_wp2
    go_region_held3 (fun w' => w'.cell? ⟨q, 1, none⟩ = some (.int .i64 tail) ∧ w'.cell? ⟨q, 2, none⟩ = some (.int .i64 head) ∧ w'.cell? ⟨q, 3, none⟩ = some (.string note))
      (first | exact stay3 ‹_› ‹_› | go_keep)
      (first | (go_at_call 77; (with_reducible refine Calls.mono (HN.out.1 _) ?_); rintro e w2 ⟨rfl, hb2⟩; have HB2 := Ythkjodlddhdeiaa.base.Shut.mk hb2; have hst2 := stay_below (q := q) hb2; clear hb2) | (go_at_call 77; (with_reducible refine Calls.mono (HN.out.2.1 _) ?_); rintro e w3 ⟨rfl, hb3⟩; have HB3 := Ythkjodlddhdeiaa.base.Shut.mk hb3; have hst3 := stay_below (q := q) hb3; clear hb3) | (go_at_call 78; (with_reducible refine Calls.mono (HN.out.2.2 _) ?_); rintro e w4 ⟨rfl, hb4⟩; have HB4 := Ythkjodlddhdeiaa.base.Shut.mk hb4; have hst4 := stay_below (q := q) hb4; clear hb4))
    all_goals
      go_wp2
      go_ret2
      exact ⟨by rw [Ythkjodlddhdeiaa.seal.app_lists, Ythkjodlddhdeiaa.seal.app_lists]; rfl, chain (chain (chain (drewn H1.out) HB2.out) HB3.out) HB4.out⟩

/-- a label in a cell, and a number: what a function returns -/
theorem res_lb {fn : Func} {p u : Nat} (hr : fn.results = #[.cell p 81, .tmp u]) (tmps : Array Value) (w : World) (q : Nat) (l : Lb) (hq : tmps.getD p undef = .pointer (some ⟨q, 0, none⟩)) (h : Row w q l.cells 81) :
    (results fn tmps).run Try.prog w = .ok (.tuple #[l.v, tmps.getD u undef]) w := by
  have c0 : w.cell? ⟨q, 0, none⟩ = some (.int .i64 l.turn) := h.cell 0
  have c1 : w.cell? ⟨q, 1, none⟩ = some (.int .i64 l.tail) := h.cell 1
  have c2 : w.cell? ⟨q, 2, none⟩ = some (.int .i64 l.head) := h.cell 2
  have c3 : w.cell? ⟨q, 3, none⟩ = some (.string l.note) := h.cell 3
  have hu := Try.underlying81
  rw [results_cell_tmp hr, hq]
  simp [go_sem, c0, c1, c2, c3]
/-- four cells laid anew -/
theorem Row.lay {w : World} {q : Nat} {cs : Array Value} {t : TypeId} (h : Row w q cs t) (a b c d : Value) (hs : cs.size = 4) :
    Row ((((w.setCell ⟨q, 0, none⟩ a).setCell ⟨q, 1, none⟩ b).setCell ⟨q, 2, none⟩ c).setCell ⟨q, 3, none⟩ d) q #[a, b, c, d] t := by
  have := (((h.set 0 a).set 1 b).set 2 c).set 3 d
  obtain ⟨l⟩ := cs
  simp only [List.size_toArray] at hs
  match l, hs with
  | [x0, x1, x2, x3], _ => simpa using this
theorem lay_below {w u : World} {q B : Nat} (h : Below B u w) (hq : B ≤ q) (a b c d : Value) :
    Below B u ((((w.setCell ⟨q, 0, none⟩ a).setCell ⟨q, 1, none⟩ b).setCell ⟨q, 2, none⟩ c).setCell ⟨q, 3, none⟩ d) :=
  (((h.setCell (p := ⟨q, 0, none⟩) hq a).setCell (p := ⟨q, 1, none⟩) hq b).setCell (p := ⟨q, 2, none⟩) hq c).setCell (p := ⟨q, 3, none⟩) hq d
end Go.Proofs.Ythkjodlddhdeiaa.label
