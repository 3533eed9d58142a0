/- The disk's contracts, said of a disk of the call's own: nothing that was there when the law began has turned. -/
import Derived.Test.YthkjodlddhdeiaaDiskUn
namespace Go.Proofs.Ythkjodlddhdeiaa.disk
open Go.ChangeShapes Go.WideShapes Go.ChangeAt Go.RowKit
open Ythkjodlddhdeiaa.base

/-- a disk of the call's own -/
structure St (w0 w : World) (d : Nat) (D : Dk) : Prop where
  at_ : ∃ f s, At w w0.heap.size d f s D
  below : Below w0.heap.size w0 w
theorem St.wf {w0 w : World} {d : Nat} {D : Dk} (h : St w0 w d D) : D.Wf := by obtain ⟨f, s, h⟩ := h.at_; exact h.wf
theorem St.mono {w0 w w' : World} {d : Nat} {D : Dk} (h : St w0 w d D) (hb : Below w.heap.size w w') : St w0 w' d D := by
  obtain ⟨f, s, ha⟩ := h.at_
  exact ⟨⟨f, s, ha.below hb⟩, h.below.trans (hb.mono h.below.size)⟩
theorem st_step {w0 w w' : World} {d f s s' : Nat} {D D' : Dk} {l : List Nat} (ha : At w w0.heap.size d f s D) (hb : Below w0.heap.size w0 w) (ha' : At w' w0.heap.size d f s' D') (ho : Only l w w') (hl : ∀ k ∈ l, w0.heap.size ≤ k) : St w0 w' d D' :=
  ⟨⟨f, s', ha'⟩, ho.below hb hl hb.size⟩
def NewOut (w0 : World) (n : Nat) (e : Ending) (w' : World) : Prop := ∃ d, e = .returned (.tuple #[pd d, .int .i64 0]) ∧ St w0 w' d (newD n) ∧ w0.heap.size ≤ d
theorem new_st (n : Nat) (h1 : 1 ≤ n) (h2 : n ≤ 4096) (w0 w : World) (hb : Below w0.heap.size w0 w) : Calls Try.prog 20 #[.int .i64 (n : Int)] w (NewOut w0 n) :=
  (new_walk n h1 h2 w w0.heap.size hb.size).mono fun e w' ⟨d, f, s, he, ha, hb', hd, _, _⟩ => ⟨d, he, ⟨⟨f, s, ha⟩, hb.trans (hb'.mono hb.size)⟩, Nat.le_trans hb.size hd⟩
theorem write_st {w0 w : World} {d : Nat} {D : Dk} (h : St w0 w d D) (i : Int) (l : List UInt8) (hlm : l.length ≤ 9223372036854775807) (hW : D.W.length ≤ 1000000) :
    Calls Try.prog 21 #[pd d, .int .i64 i, .string ⟨l.toArray⟩] w fun e w' => e = .returned (.int .i64 (writeE D i l.length)) ∧ St w0 w' d (writeD D i l) := by
  obtain ⟨f, s, ha⟩ := h.at_
  refine (write_walk ha i l hlm hW).mono fun e w' ⟨he, ha', ho⟩ => ⟨he, st_step ha h.below ha' ho (fun k hk => ?_)⟩
  simp at hk
  rcases hk with rfl | rfl
  · exact ha.low.1
  · exact ha.low.2.2.1
theorem flush_st {w0 w : World} {d : Nat} {D : Dk} (h : St w0 w d D) (hW : D.W.length ≤ 1000000) :
    Calls Try.prog 23 #[pd d] w fun e w' => e = .returned (.int .i64 (flushE D)) ∧ St w0 w' d (flushD D) := by
  obtain ⟨f, s, ha⟩ := h.at_
  refine (flush_walk ha hW).mono fun e w' ⟨he, ha', ho⟩ => ⟨he, st_step ha h.below ha' ho (fun k hk => ?_)⟩
  simp at hk
  rcases hk with rfl | rfl
  · exact ha.low.1
  · exact ha.low.2.1
theorem arm_st {w0 w : World} {d : Nat} {D : Dk} (h : St w0 w d D) (n : Int) (hn : n ≤ 9223372036854775807) :
    Calls Try.prog 34 #[pd d, .int .i64 n] w fun e w' => e = .returned (.int .i64 (armE D)) ∧ St w0 w' d (armD D n) := by
  obtain ⟨f, s, ha⟩ := h.at_
  refine (arm_walk ha n hn).mono fun e w' ⟨he, ha', ho⟩ => ⟨he, st_step ha h.below ha' ho (fun k hk => ?_)⟩
  simp at hk
  rw [hk]
  exact ha.low.1
theorem read_st {w0 w : World} {d : Nat} {D : Dk} (h : St w0 w d D) (i : Int) :
    Calls Try.prog 25 #[pd d, .int .i64 i] w fun e w' => e = .returned (.tuple #[.string ⟨(readS D i).toArray⟩, .int .i64 (mayE D i)]) ∧ w = w' := by
  obtain ⟨f, s, ha⟩ := h.at_
  exact read_walk ha i
theorem len_st {w0 w : World} {d : Nat} {D : Dk} (h : St w0 w d D) :
    Calls Try.prog 33 #[pd d] w fun e w' => e = .returned (.int .i64 (D.n : Int)) ∧ w = w' := by
  obtain ⟨f, s, ha⟩ := h.at_
  exact len_walk ha
theorem loose_st {w0 w : World} {d : Nat} {D : Dk} (h : St w0 w d D) :
    Calls Try.prog 29 #[pd d] w fun e w' => e = .returned (.int .i64 (D.W.length : Int)) ∧ w = w' := by
  obtain ⟨f, s, ha⟩ := h.at_
  exact loose_walk ha
/-- ints that lie before the disk, or in a row of ints -/
def Fates (w0 w : World) (v : Value) (L : List Int) : Prop :=
  Ints w v L ∧ (∀ g o n c, v = .slice (some ⟨g, o, none⟩) n c → 0 < n → g < w0.heap.size ∨ ∃ cur fz, w.heap[g]? = some (.cells cur 3 fz)) ∧ L.length ≤ 9223372036854775807
theorem Fates.nil (w0 w : World) : Fates w0 w (.slice none 0 0) [] := ⟨.inl ⟨rfl, none, 0, rfl⟩, (fun _ _ _ _ h _ => by cases h), by simp⟩
theorem Fates.mono {w0 w w' : World} {v : Value} {L : List Int} (h : Fates w0 w v L) (hb : Below w.heap.size w w') : Fates w0 w' v L := by
  refine ⟨?_, fun g o n c hv hn => ?_, h.2.2⟩
  · rcases h.1 with h | ⟨g, o, c, hv, hc⟩
    · exact .inl h
    · exact .inr ⟨g, o, c, hv, fun j x hj => by rw [hb.cell (World.block_lt_of_cell? w _ (hc j x hj))]; exact hc j x hj⟩
  · rcases h.2.1 g o n c hv hn with hg | ⟨cur, fz, hg⟩
    · exact .inl hg
    · exact .inr ⟨cur, fz, by rw [hb.block g (lt_of_obj hg)]; exact hg⟩
/-- an argument's ints, later -/
theorem Fates.of_arg {w0 w : World} {v : Value} {L : List Int} (h : Ints w0 v L) (hL : L.length ≤ 9223372036854775807) (hg : ∀ g o n c, v = .slice (some ⟨g, o, none⟩) n c → 0 < n → g < w0.heap.size) (hb : Below w0.heap.size w0 w) : Fates w0 w v L := by
  refine ⟨?_, fun g o n c hv hn => .inl (hg g o n c hv hn), hL⟩
  rcases h with h | ⟨g, o, c, hv, hc⟩
  · exact .inl h
  · exact .inr ⟨g, o, c, hv, fun j x hj => by rw [hb.cell (World.block_lt_of_cell? w0 _ (hc j x hj))]; exact hc j x hj⟩
theorem crash_st {w0 w : World} {d : Nat} {D : Dk} (h : St w0 w d D) (v : Value) (L : List Int) (hv : Fates w0 w v L) (hW : D.W.length ≤ 1000000) :
    Calls Try.prog 24 #[pd d, v] w fun e w' => e = .returned (.int .i64 0) ∧ St w0 w' d (crashD D L) := by
  obtain ⟨f, s, ha⟩ := h.at_
  refine (crash_walk ha h.below.size v L hv.1 (fun g o n c hg hn => ?_) hv.2.2 hW).mono fun e w' ⟨s', he, _, ha', ho⟩ => ⟨he, st_step ha h.below ha' ho (fun k hk => ?_)⟩
  · rcases hv.2.1 g o n c hg hn with h1 | ⟨cur, fz, h1⟩
    · have := ha.low.2.1; omega
    · rintro rfl
      obtain ⟨fc, cs, lv, -, -, -, h4⟩ := ha.fields
      obtain ⟨_, cu, hc⟩ := row_type h4 g rfl
      rw [h1] at hc
      cases hc
  · simp at hk
    rcases hk with rfl | rfl
    · exact ha.low.1
    · exact ha.low.2.1
end Go.Proofs.Ythkjodlddhdeiaa.disk
