/- Rows that turn, lists of pairs of one's own, and what a page's loop comes to. -/
import Derived.Test.YtobdfocfkomagaaNodeParts1
import Derived.Test.YtobdfocfkomagaaNodeTakeP
import Derived.Test.YtobdfocfkomagaaOctTextW
import Derived.Laws.AppendOwn
import Derived.Laws.OwnMore
import Derived.Laws.ResultCell
namespace Go.Proofs.Ytobdfocfkomagaa.node
open Go Go.ChangeShapes Go.WideShapes Go.ChangeAt Go.RowKit
open Ytobdfocfkomagaa.base (size_mk chain newer drewn same ba_ext)
open Ytobdfocfkomagaa.oct (takeText take takeText_len)

theorem Row.frozen {w : World} {q : Nat} {cs : Array Value} {t : TypeId} (h : Row w q cs t) (i : Nat) : w.frozen? ⟨q, i, none⟩ = false := frozen_of_row w q i cs t h
theorem Row.set {w : World} {q : Nat} {cs : Array Value} {t : TypeId} (h : Row w q cs t) (i : Nat) (v : Value) : Row (w.setCell ⟨q, i, none⟩ v) q (cs.setIfInBounds i v) t := by
  have hlt := h.lt
  unfold Row at *
  have hq : w.heap[q] = .cells cs t (0, 0) := by rw [Array.getElem?_eq_getElem hlt] at h; exact Option.some.inj h
  simp [World.setCell, hlt, hq, Array.getElem_modify]
theorem Row.other {w : World} {q : Nat} {cs : Array Value} {t : TypeId} (h : Row w q cs t) (p i : Nat) (v : Value) (hne : q ≠ p) : Row (w.setCell ⟨p, i, none⟩ v) q cs t :=
  (Below.heap_setCell w ⟨p, i, none⟩ v q (by simpa using hne)).trans h
theorem Row.two {w : World} {q : Nat} {cs : Array Value} {t : TypeId} (h : Row w q cs t) (a b : Value) (hs : cs.size = 2) :
    Row ((w.setCell ⟨q, 0, none⟩ a).setCell ⟨q, 1, none⟩ b) q #[a, b] t := by
  have := (h.set 0 a).set 1 b
  obtain ⟨l⟩ := cs
  simp only [List.size_toArray] at hs
  match l, hs with
  | [x0, x1], _ => simpa using this
theorem two_below {w u : World} {q B : Nat} (h : Below B u w) (hq : B ≤ q) (a b : Value) : Below B u ((w.setCell ⟨q, 0, none⟩ a).setCell ⟨q, 1, none⟩ b) :=
  (h.setCell (p := ⟨q, 0, none⟩) hq _).setCell (p := ⟨q, 1, none⟩) hq _
/-- a node in a cell, and a number: what a function returns -/
theorem res_nd {fn : Func} {p u : Nat} (hr : fn.results = #[.cell p 49, .tmp u]) (tmps : Array Value) (w : World) (q : Nat) (leaf : Bool) (A : Option Addr) (n c : Nat) (hq : tmps.getD p undef = .pointer (some ⟨q, 0, none⟩)) (h : Row w q #[.bool leaf, .slice A n c] 49) :
    (results fn tmps).run Try.prog w = .ok (.tuple #[nv leaf A n c, tmps.getD u undef]) w := by
  have c0 : w.cell? ⟨q, 0, none⟩ = some (.bool leaf) := h.cell 0
  have c1 : w.cell? ⟨q, 1, none⟩ = some (.slice A n c) := h.cell 1
  have hu := Try.underlying49
  rw [results_cell_tmp hr, hq]
  simp [go_sem, c0, c1]

theorem cellsP_get (ps : PL) (i : Nat) (p : Pair) (h : ps[i]? = some p) : (cellsP ps)[i * 2]? = some (.string p.1) ∧ (cellsP ps)[i * 2 + 1]? = some (.string p.2) := by
  induction ps generalizing i with
  | nil => simp at h
  | cons x r ih =>
    have e : cellsP (x :: r) = .string x.1 :: .string x.2 :: cellsP r := rfl
    rw [e]
    cases i with
    | zero => obtain rfl : x = p := by simpa using h
              exact ⟨rfl, rfl⟩
    | succ i => rw [show (i + 1) * 2 = i * 2 + 1 + 1 by omega]; exact ih i (by simpa using h)
theorem cellsP_app (a b : PL) : cellsP (a ++ b) = cellsP a ++ cellsP b := by unfold cellsP; rw [List.flatMap_append]
/-- one's own list reads as its pairs -/
theorem own_reads {w : World} {base n c : Nat} {A : Option Addr} {ps : PL} (h : w.ownsRow base 60 2 (.slice A n c) n (cellsP ps)) : ps.length = n ∧ PReads w A ps := by
  have hl : ps.length = n := by have := h.1; rw [cellsP_len] at this; omega
  refine ⟨hl, fun hne => ?_⟩
  have hpos : 0 < n := by rw [← hl]; exact List.length_pos_iff.2 hne
  have hown := h
  obtain ⟨_, ⟨hv, h0⟩ | ⟨g, cap, cur, hv, hbg, hg, _⟩⟩ := h
  · omega
  · cases hv
    refine ⟨g, 0, rfl, (Array.getElem?_eq_some_iff.1 hg).1, fun i p hi => ?_⟩
    have hc := hown.cells (g := g) rfl
    have := cellsP_get ps i p hi
    have h1 := hc _ _ this.1
    have h2 := hc _ _ this.2
    rw [Addr.add_mid] at h1 h2
    exact ⟨h1, by rw [Nat.add_assoc]; exact h2⟩
/-- a pair of block q behind a list of one's own -/
theorem append_pair {w : World} {base n c q : Nat} {A : Option Addr} {ps : PL} (h : w.ownsRow base 60 2 (.slice A n c) n (cellsP ps)) (hn : n ≤ 1000) (hbase : base ≤ w.heap.size) (x : Pair) (hq : Row w q #[.string x.1, .string x.2] 60) :
    ∃ g6 cap6 w6, (Builtin.append_ #[47, 47] 47 #[.slice A n c, .slice (some ⟨q, 0, none⟩) 1 1]).run Try.prog w = .ok (.slice (some ⟨g6, 0, none⟩) (n + 1) cap6) w6 ∧ w6.ownsRow base 60 2 (.slice (some ⟨g6, 0, none⟩) (n + 1) cap6) (n + 1) (cellsP (ps ++ [x])) ∧ Below base w w6 := by
  obtain ⟨i, z, hi, hz, hs, hb, hc⟩ := pair_info
  obtain ⟨v', w6, hrun, hown, hgrow, hnn⟩ := run_append_own (P := Try.prog) (w := w) base 47 47 60 i z 2 32 Try.underlying47 hi hz hs hb hc (by decide) _ n (cellsP ps) h ⟨q, 0, none⟩ 1 1 (cellsP [x]) rfl (World.news_of_block (cs := #[.string x.1, .string x.2]) (t := 60) (fr := (0, 0)) hq) (cellsP_one _) (by unfold maxLen; omega) (by omega) hbase
  have hb1 : Below base w w6 := by
    refine Below.grown ⟨rfl, rfl, rfl, Nat.le_refl _, fun _ _ => rfl⟩ hgrow hbase (fun k hk => (h.lt k hk).1)
  rw [← cellsP_app] at hown
  have hown' := hown
  obtain ⟨_, ⟨_, h0⟩ | ⟨g6, cap6, cur, rfl, _⟩⟩ := hown'
  · omega
  · exact ⟨g6, cap6, w6, hrun, hown, hb1⟩

theorem own_keep {w w' : World} {base n size : Nat} {e : TypeId} {v : Value} {xs : List Value} (h : w.ownsRow base e size v n xs) (hb : ∀ g, base ≤ g → g < w.heap.size → w'.heap[g]? = w.heap[g]?) : w'.ownsRow base e size v n xs := by
  obtain ⟨hl, h1 | ⟨g, cap, cur, hv, hbg, hg, r⟩⟩ := h
  · exact ⟨hl, .inl h1⟩
  · exact ⟨hl, .inr ⟨g, cap, cur, hv, hbg, (hb g hbg (Array.getElem?_eq_some_iff.1 hg).1).trans hg, r⟩⟩
abbrev zc : Array Value := #[.bool false, .slice none 0 0]
/-- how a Take stands: its result, its node, the node's pairs -/
structure TakeAt (w wr : World) (leaf : Bool) (A : Option Addr) (n c : Nat) (acc : PL) : Prop where
  below : Below w.heap.size w wr
  res : Row wr w.heap.size zc 49
  box : Row wr (w.heap.size + 1) #[.bool leaf, .slice A n c] 49
  own : wr.ownsRow (w.heap.size + 2) 60 2 (.slice A n c) n (cellsP acc)
theorem TakeAt.big {w wr : World} {leaf : Bool} {A : Option Addr} {n c : Nat} {acc : PL} (h : TakeAt w wr leaf A n c acc) : w.heap.size + 2 ≤ wr.heap.size := h.box.lt
theorem TakeAt.keep {w wr w' : World} {leaf : Bool} {A : Option Addr} {n c : Nat} {acc : PL} (h : TakeAt w wr leaf A n c acc) (hb : Below wr.heap.size wr w') : TakeAt w w' leaf A n c acc :=
  ⟨chain h.below hb, h.res.below hb, h.box.below hb, own_keep h.own (fun g _ hg => hb.block g hg)⟩
/-- cells of blocks that came later -/
theorem TakeAt.later {w wr w' : World} {leaf : Bool} {A : Option Addr} {n c : Nat} {acc : PL} (h : TakeAt w wr leaf A n c acc) (hb : Below wr.heap.size wr w') (q : Nat) (hq : wr.heap.size ≤ q) (i : Nat) (v : Value) : Below wr.heap.size wr (w'.setCell ⟨q, i, none⟩ v) := hb.setCell (p := ⟨q, i, none⟩) hq _
/-- a pair is laid behind -/
theorem TakeAt.more {w wr : World} {leaf : Bool} {A : Option Addr} {n c : Nat} {acc : PL} (h : TakeAt w wr leaf A n c acc) (hn : n ≤ 1000) (x : Pair) (q : Nat) (hq : Row wr q #[.string x.1, .string x.2] 60) :
    ∃ g6 cap6 w6, (Builtin.append_ #[47, 47] 47 #[.slice A n c, .slice (some ⟨q, 0, none⟩) 1 1]).run Try.prog wr = .ok (.slice (some ⟨g6, 0, none⟩) (n + 1) cap6) w6 ∧ Below (w.heap.size + 2) wr w6 ∧ Row w6 (w.heap.size + 1) #[.bool leaf, .slice A n c] 49 ∧ TakeAt w (w6.setCell ⟨w.heap.size + 1, 1, none⟩ (.slice (some ⟨g6, 0, none⟩) (n + 1) cap6)) leaf (some ⟨g6, 0, none⟩) (n + 1) cap6 (acc ++ [x]) := by
  obtain ⟨g6, cap6, w6, hrun, hown, hb⟩ := append_pair h.own hn h.big x hq
  have hres : Row w6 w.heap.size zc 49 := (hb.block _ (by omega)).trans h.res
  have hbox : Row w6 (w.heap.size + 1) #[.bool leaf, .slice A n c] 49 := (hb.block _ (by omega)).trans h.box
  have hbw : Below w.heap.size w w6 := ⟨hb.os.trans h.below.os, hb.tape.trans h.below.tape, hb.output.trans h.below.output, Nat.le_trans h.below.size hb.size, fun k hk => (hb.block k (by omega)).trans (h.below.block k hk)⟩
  refine ⟨g6, cap6, w6, hrun, hb, hbox, hbw.setCell (p := ⟨w.heap.size + 1, 1, none⟩) (Nat.le_succ _) _, hres.other _ _ _ (by omega), ?_, own_keep hown (fun g hg _ => Below.heap_setCell _ _ _ _ (by simp; omega))⟩
  exact hbox.set 1 _
/-- the node is told -/
theorem TakeAt.told {w wr : World} {leaf : Bool} {A : Option Addr} {n c : Nat} {acc : PL} (h : TakeAt w wr leaf A n c acc) : Row ((wr.setCell ⟨w.heap.size, 0, none⟩ (.bool leaf)).setCell ⟨w.heap.size, 1, none⟩ (.slice A n c)) w.heap.size #[.bool leaf, .slice A n c] 49 ∧ acc.length = n ∧ PReads ((wr.setCell ⟨w.heap.size, 0, none⟩ (.bool leaf)).setCell ⟨w.heap.size, 1, none⟩ (.slice A n c)) A acc ∧ Below w.heap.size w ((wr.setCell ⟨w.heap.size, 0, none⟩ (.bool leaf)).setCell ⟨w.heap.size, 1, none⟩ (.slice A n c)) := by
  have ho : ((wr.setCell ⟨w.heap.size, 0, none⟩ (.bool leaf)).setCell ⟨w.heap.size, 1, none⟩ (.slice A n c)).ownsRow (w.heap.size + 2) 60 2 (.slice A n c) n (cellsP acc) :=
    own_keep h.own (fun g hg _ => (Below.heap_setCell _ _ _ _ (by simp; omega)).trans (Below.heap_setCell _ _ _ _ (by simp; omega)))
  exact ⟨h.res.two _ _ rfl, (own_reads ho).1, (own_reads ho).2, two_below h.below (Nat.le_refl _) _ _⟩
/-- a round of a page's loop -/
theorem loop_first {most : Int} {m : Nat} {acc : PL} {r : List UInt8} {e : Int} {t : List UInt8 × List UInt8 × Int} (h : takeText r most = t) (he : t.2.2 = e) (hne : e ≠ 0) : loopN most (m + 1) acc r = none := by
  rw [loopN, h]; obtain ⟨a, b, d⟩ := t; simp only at he ⊢; rw [he, if_pos hne]
theorem loop_second {most : Int} {m : Nat} {acc : PL} {r k r1 : List UInt8} {e : Int} {t : List UInt8 × List UInt8 × Int} (h1 : takeText r most = (k, r1, 0)) (h : takeText r1 160 = t) (he : t.2.2 = e) (hne : e ≠ 0) : loopN most (m + 1) acc r = none := by
  rw [loopN, h1]; simp only [ne_eq, not_true_eq_false, if_false]; rw [h]; obtain ⟨a, b, d⟩ := t; simp only at he ⊢; rw [if_pos (by rw [he]; exact hne)]
theorem loop_both {most : Int} {m : Nat} {acc : PL} {r k r1 v r2 : List UInt8} (h1 : takeText r most = (k, r1, 0)) (h2 : takeText r1 160 = (v, r2, 0)) : loopN most (m + 1) acc r = loopN most m (acc ++ [(⟨k.toArray⟩, ⟨v.toArray⟩)]) r2 := by
  rw [loopN, h1]; simp only [ne_eq, not_true_eq_false, if_false]; rw [h2]; simp
theorem text_small (r : List UInt8) (most : Int) (hm : most ≤ 160) (hm0 : 0 ≤ most) : (takeText r most).1.length ≤ 160 ∧ (takeText r most).2.1.length ≤ r.length := by
  unfold takeText
  have h0 : (take r).2.1.length ≤ r.length := by
    rcases Ytobdfocfkomagaa.oct.take_ways r with h | h | ⟨n, r', h, _, _, hl⟩ <;> rw [h] <;> simp <;> omega
  generalize take r = x at h0 ⊢
  obtain ⟨n, r', e⟩ := x
  simp only at h0 ⊢
  by_cases h1 : e ≠ 0
  · rw [if_pos h1]; simp
  · rw [if_neg h1]
    by_cases h2 : n < 0
    · rw [if_pos h2]; simp
    · rw [if_neg h2]
      by_cases h3 : most < n
      · rw [if_pos h3]; simp
      · rw [if_neg h3]
        by_cases h4 : (r'.length : Int) < n
        · rw [if_pos h4]; simp
        · rw [if_neg h4]; simp only [List.length_take, List.length_drop]; omega
/-- what a page's loop holds between two rounds -/
structure Acc (most : Int) (m : Nat) (r0 : List UInt8) (i : Nat) (acc : PL) (r : List UInt8) : Prop where
  back : loopN most m [] r0 = loopN most (m - i) acc r
  small : r.length ≤ 1000
  len : acc.length = i
  low : i ≤ 480
  sizes : ∀ k, (at0 acc k).1.size ≤ 1000 ∧ (at0 acc k).2.size ≤ 1000
theorem Acc.nice {most : Int} {m : Nat} {r0 : List UInt8} {i : Nat} {acc : PL} {r : List UInt8} (h : Acc most m r0 i acc r) : Nice acc := ⟨by have := h.len; have := h.low; omega, h.sizes⟩
theorem at0_snoc (acc : PL) (x : Pair) (k : Nat) : at0 (acc ++ [x]) k = at0 acc k ∨ at0 (acc ++ [x]) k = x := by
  unfold at0
  rw [List.getD_eq_getElem?_getD, List.getD_eq_getElem?_getD]
  by_cases h : k < acc.length
  · left; rw [List.getElem?_append_left h]
  · rw [List.getElem?_append_right (by omega)]
    by_cases h2 : k - acc.length = 0
    · right; rw [h2]; rfl
    · left
      rw [List.getElem?_eq_none (by simp; omega), List.getElem?_eq_none (by omega)]
theorem Acc.start (most : Int) (m : Nat) (r0 : List UInt8) (h : r0.length ≤ 1000) : Acc most m r0 0 [] r0 := ⟨rfl, h, rfl, by decide, fun k => by unfold at0; simp [ByteArray.size]⟩
theorem Acc.bad1 {most : Int} {m : Nat} {r0 : List UInt8} {i : Nat} {acc : PL} {r : List UInt8} (h : Acc most m r0 i acc r) (hi : i < m) {e : Int} {t : List UInt8 × List UInt8 × Int} (h1 : takeText r most = t) (he : t.2.2 = e) (hne : e ≠ 0) : loopN most m [] r0 = none := by
  rw [h.back, show m - i = (m - i - 1) + 1 by omega]; exact loop_first h1 he hne
theorem Acc.bad2 {most : Int} {m : Nat} {r0 : List UInt8} {i : Nat} {acc : PL} {r k r1 : List UInt8} (h : Acc most m r0 i acc r) (hi : i < m) {e : Int} {t : List UInt8 × List UInt8 × Int} (h0 : takeText r most = (k, r1, 0)) (h1 : takeText r1 160 = t) (he : t.2.2 = e) (hne : e ≠ 0) : loopN most m [] r0 = none := by
  rw [h.back, show m - i = (m - i - 1) + 1 by omega]; exact loop_second h0 h1 he hne
theorem Acc.more {most : Int} {m : Nat} {r0 : List UInt8} {i : Nat} {acc : PL} {r k r1 v r2 : List UInt8} (h : Acc most m r0 i acc r) (hm : 0 ≤ most) (hm2 : most ≤ 160) (hi : i < m) (hm3 : m ≤ 480) (h0 : takeText r most = (k, r1, 0)) (h1 : takeText r1 160 = (v, r2, 0)) : Acc most m r0 (i + 1) (acc ++ [(⟨k.toArray⟩, ⟨v.toArray⟩)]) r2 := by
  have s1 := text_small r most hm2 hm
  have s2 := text_small r1 160 (by decide) (by decide)
  rw [h0] at s1
  rw [h1] at s2
  simp only at s1 s2
  have hs := h.small
  refine ⟨by rw [h.back, show m - i = (m - i - 1) + 1 by omega, loop_both h0 h1, show m - i - 1 = m - (i + 1) by omega], by omega, by rw [List.length_append, h.len]; rfl, by omega, fun j => ?_⟩
  rcases at0_snoc acc (⟨k.toArray⟩, ⟨v.toArray⟩) j with e | e
  · rw [e]; exact h.sizes j
  · rw [e]; exact ⟨by rw [size_mk]; omega, by rw [size_mk]; omega⟩
theorem Acc.done {most : Int} {m : Nat} {r0 : List UInt8} {acc : PL} {r : List UInt8} (h : Acc most m r0 m acc r) : loopN most m [] r0 = some acc := by
  rw [h.back, Nat.sub_self, loopN]
end Go.Proofs.Ytobdfocfkomagaa.node
