/- What a disk is behind a loose write that was appended, and behind a block that was stored. -/
import Derived.Test.YthkjodlddhdeiaaDiskLaws
import Derived.Test.YthkjodlddhdeiaaBytesOwn
import Derived.ArgAppend
namespace Go.Proofs.Ythkjodlddhdeiaa.disk
open Go.ChangeShapes Go.WideShapes Go.ChangeAt Go.RowKit
open Ythkjodlddhdeiaa.base

def setBlk (l : List UInt8) (k : Nat) (b : List UInt8) : List UInt8 := l.take (k * 512) ++ b ++ l.drop (k * 512 + 512)
theorem setBlk_len {l b : List UInt8} {n k : Nat} (hl : l.length = n * 512) (hk : k < n) (hb : b.length = 512) : (setBlk l k b).length = n * 512 := by
  unfold setBlk
  simp [hl, hb]
  omega
theorem blk_setBlk_same {l b : List UInt8} {n k : Nat} (hl : l.length = n * 512) (hk : k < n) (hb : b.length = 512) : blk (setBlk l k b) k = b := by
  unfold blk setBlk
  have h1 : (l.take (k * 512)).length = k * 512 := by rw [List.length_take, hl]; omega
  rw [List.append_assoc, List.drop_append_of_le_length (by omega), List.drop_of_length_le (by omega), List.nil_append, List.take_append_of_le_length (by omega), List.take_of_length_le (by omega)]
theorem blk_setBlk_other {l b : List UInt8} {n k i : Nat} (hl : l.length = n * 512) (hk : k < n) (hi : i < n) (hb : b.length = 512) (hne : i ≠ k) : blk (setBlk l k b) i = blk l i := by
  apply List.ext_getElem?
  intro j
  by_cases hj : j < 512
  · rw [blk_get _ _ _ hj, blk_get _ _ _ hj]
    unfold setBlk
    have h1 : (l.take (k * 512)).length = k * 512 := by rw [List.length_take, hl]; omega
    by_cases hlt : i < k
    · rw [List.append_assoc, List.getElem?_append_left (by omega), List.getElem?_take, if_pos (by omega)]
    · rw [List.getElem?_append_right (by rw [List.length_append, h1, hb]; omega), List.getElem?_drop]
      rw [List.length_append, h1, hb, show k * 512 + 512 + (i * 512 + j - (k * 512 + 512)) = i * 512 + j from by omega]
  · have e1 : (blk (setBlk l k b) i).length ≤ j := by rw [blk_len (setBlk_len hl hk hb) hi]; omega
    have e2 : (blk l i).length ≤ j := by rw [blk_len hl hi]; omega
    rw [List.getElem?_eq_none e1, List.getElem?_eq_none e2]
theorem setBlk_blk {l : List UInt8} {n k : Nat} (hl : l.length = n * 512) (hk : k < n) : setBlk l k (blk l k) = l := by
  unfold setBlk blk
  have : l.drop (k * 512 + 512) = (l.drop (k * 512)).drop 512 := by rw [List.drop_drop]
  rw [this, List.append_assoc, List.take_append_drop, List.take_append_drop]
theorem bytesOf_setBlk (l : List UInt8) (k : Nat) (b : List UInt8) : bytesOf (setBlk l k b) = (bytesOf l).take (k * 512) ++ bytesOf b ++ (bytesOf l).drop (k * 512 + 512) := by
  unfold setBlk bytesOf
  simp
theorem bytesOf_length (l : List UInt8) : (bytesOf l).length = l.length := by simp [bytesOf]
/-- a block of a row, as a range -/
theorem row_range {w : World} {base g n cap k : Nat} {t : TypeId} {S : List UInt8} (h : w.ownsRow base t 512 (.slice (some ⟨g, 0, none⟩) n cap) n (bytesOf S)) (hk : k < n) : w.rangeAt g (k * 512) (bytesOf (blk S k)) := by
  intro j v hj
  have hS : S.length = n * 512 := by have := h.1; rwa [bytesOf_length] at this
  have hj5 : j < 512 := by have := (List.getElem?_eq_some_iff.1 hj).1; rwa [bytesOf_length, blk_len hS hk] at this
  rw [h.cellAt _ (by omega), ← hj]
  unfold bytesOf
  rw [List.getElem?_map, List.getElem?_map, blk_get _ _ _ hj5]
theorem row_there {w : World} {base g n cap k : Nat} {t : TypeId} {S : List UInt8} (h : w.ownsRow base t 512 (.slice (some ⟨g, 0, none⟩) n cap) n (bytesOf S)) (hk : k < n) : w.there g (k * 512) 512 := by
  intro j hj
  have hS : S.length = n * 512 := by have := h.1; rwa [bytesOf_length] at this
  obtain ⟨_, ⟨h1, _⟩ | ⟨g', cap', cur, h1, hb, hg, h2, h3, h4, h5⟩⟩ := h
  · cases h1
  · cases h1
    refine ⟨?_, ?_⟩
    · rw [cell_of_row w g _ _ _ _ hg, Array.getElem?_eq_getElem (by rw [h4]; omega)]; rfl
    · unfold World.frozen?; simp only [hg]; simp
theorem row_setCells {w : World} {base g n cap k : Nat} {t : TypeId} {S l : List UInt8} (h : w.ownsRow base t 512 (.slice (some ⟨g, 0, none⟩) n cap) n (bytesOf S)) (hk : k < n) (hl : l.length = 512) :
    (w.setCells g (k * 512) (bytesOf l)).ownsRow base t 512 (.slice (some ⟨g, 0, none⟩) n cap) n (bytesOf (setBlk S k l)) := by
  have hS : S.length = n * 512 := by have := h.1; rwa [bytesOf_length] at this
  obtain ⟨_, ⟨h1, _⟩ | ⟨g', cap', cur, h1, hb, hg, h2, h3, h4, h5⟩⟩ := h
  · cases h1
  · cases h1
    rw [setCells_row g t (0, 0) (bytesOf l) (k * 512) cur w hg (by rw [bytesOf_length, hl, h4]; omega)]
    refine ⟨by rw [bytesOf_length, setBlk_len hS hk hl], .inr ⟨g, cap, _, rfl, hb, setRow_heap _ _ _ _ _ _ hg, h2, h3, ?_, ?_⟩⟩
    · simp [bytesOf_length, hl, h4]; omega
    · have e1 : (cur.toList.take (k * 512)).length = k * 512 := by rw [List.length_take]; simp [h4]; omega
      rw [bytesOf_setBlk, ← h5, List.take_take, Nat.min_eq_left (by omega), List.drop_take]
      simp only [bytesOf_length, hl]
      rw [List.take_append, List.take_of_length_le (by rw [List.length_append, e1, bytesOf_length, hl]; omega)]
      rw [List.length_append, e1, bytesOf_length, hl]
theorem only_setCells {w : World} {g o : Nat} {t : TypeId} {cur : Array Value} {fz : Nat × Nat} (hg : w.heap[g]? = some (.cells cur t fz)) (vs : List Value) (ho : o + vs.length ≤ cur.size) : Only [g] w (w.setCells g o vs) := by
  rw [setCells_row g t fz vs o cur w hg ho]
  exact ⟨rfl, rfl, rfl, by simp, fun k _ hn => setRow_other _ _ _ _ (fun e => hn (by simp [e]))⟩
/-- the seen blocks, one of them stored -/
theorem At.seen {w : World} {base d f s : Nat} {D : Dk} (h : At w base d f s D) (k : Nat) (hk : k < D.n) (l : List UInt8) (hl : l.length = 512) :
    At (w.setCells s (k * 512) (bytesOf l)) base d f s { D with S := setBlk D.S k l } ∧ Only [s] w (w.setCells s (k * 512) (bytesOf l)) := by
  obtain ⟨hw, hb, ⟨fc, cs, lv, h1, h2, h3, h4⟩⟩ := h
  have hS : Only [s] w (w.setCells s (k * 512) (bytesOf l)) := by
    obtain ⟨_, ⟨e1, _⟩ | ⟨g', cap', cur, e1, _, hg, e2, e3, e4, e5⟩⟩ := h2
    · cases e1
    · cases e1
      exact only_setCells hg _ (by rw [bytesOf_length, hl, e4]; omega)
  have hst : ∃ cur, w.heap[s]? = some (.cells cur 105 (0, 0)) := (row_type h2 s rfl).2
  obtain ⟨cur, hst⟩ := hst
  refine ⟨⟨⟨hw.n1, hw.n2, hw.F, setBlk_len hw.S hk hl, hw.W, hw.low, hw.high⟩, hb, ⟨fc, cs, lv, ?_, row_setCells h2 hk hl, ?_, ?_⟩⟩, hS⟩
  · rw [hS.block d (lt_of_obj h1) (fun hm => ?_)]
    · exact h1
    · have e : d = s := by simpa using hm
      rw [e] at h1
      exact absurd (obj_type h1 hst) (by decide)
  · refine row_kept h3 (fun g hg => ?_)
    obtain ⟨_, cu, hc⟩ := row_type h3 g hg
    refine hS.block g (lt_of_obj hc) (fun hm => ?_)
    have e : g = s := by simpa using hm
    rw [e] at hc
    exact absurd (obj_type hc hst) (by decide)
  · refine row_kept h4 (fun g hg => ?_)
    cases hg
    obtain ⟨_, cu, hc⟩ := row_type h4 f rfl
    exact hS.block f (lt_of_obj hc) (fun hm => hb.2.2.2 (by simpa using hm))
/-- the flushed blocks, one of them stored -/
theorem At.flushed {w : World} {base d f s : Nat} {D : Dk} (h : At w base d f s D) (k : Nat) (hk : k < D.n) (l : List UInt8) (hl : l.length = 512) :
    At (w.setCells f (k * 512) (bytesOf l)) base d f s { D with F := setBlk D.F k l } ∧ Only [f] w (w.setCells f (k * 512) (bytesOf l)) := by
  obtain ⟨hw, hb, ⟨fc, cs, lv, h1, h2, h3, h4⟩⟩ := h
  have hS : Only [f] w (w.setCells f (k * 512) (bytesOf l)) := by
    obtain ⟨_, ⟨e1, _⟩ | ⟨g', cap', cur, e1, _, hg, e2, e3, e4, e5⟩⟩ := h4
    · cases e1
    · cases e1
      exact only_setCells hg _ (by rw [bytesOf_length, hl, e4]; omega)
  obtain ⟨cur, hst⟩ : ∃ cur, w.heap[f]? = some (.cells cur 105 (0, 0)) := (row_type h4 f rfl).2
  refine ⟨⟨⟨hw.n1, hw.n2, setBlk_len hw.F hk hl, hw.S, hw.W, hw.low, hw.high⟩, hb, ⟨fc, cs, lv, ?_, ?_, ?_, row_setCells h4 hk hl⟩⟩, hS⟩
  · rw [hS.block d (lt_of_obj h1) (fun hm => ?_)]
    · exact h1
    · have e : d = f := by simpa using hm
      rw [e] at h1
      exact absurd (obj_type h1 hst) (by decide)
  · refine row_kept h2 (fun g hg => ?_)
    cases hg
    obtain ⟨_, cu, hc⟩ := row_type h2 s rfl
    exact hS.block s (lt_of_obj hc) (fun hm => hb.2.2.2 (by simpa using Eq.symm (by simpa using hm : s = f)))
  · refine row_kept h3 (fun g hg => ?_)
    obtain ⟨_, cu, hc⟩ := row_type h3 g hg
    refine hS.block g (lt_of_obj hc) (fun hm => ?_)
    have e : g = f := by simpa using hm
    rw [e] at hc
    exact absurd (obj_type hc hst) (by decide)
theorem keptRow {w V : World} {base n size : Nat} {t : TypeId} {v : Value} {xs : List Value} (h : w.ownsRow base t size v n xs) (hb : Below w.heap.size w V) : V.ownsRow base t size v n xs := by
  refine row_kept h (fun g hg => ?_)
  obtain ⟨_, cu, hc⟩ := row_type h g hg
  exact hb.block g (lt_of_obj hc)
theorem low_row {w : World} {base base' n size : Nat} {t : TypeId} {v : Value} {xs : List Value} (h : w.ownsRow base' t size v n xs) (hb : base ≤ base') : w.ownsRow base t size v n xs := by
  obtain ⟨hl, h | ⟨g, cap, cur, rfl, hg, r⟩⟩ := h
  · exact ⟨hl, .inl h⟩
  · exact ⟨hl, .inr ⟨g, cap, cur, rfl, Nat.le_trans hb hg, r⟩⟩
/-- the loose writes, anew -/
theorem At.loosed {w : World} {base d f s : Nat} {D : Dk} (h : At w base d f s D) (lv : Value) (W' : List (Nat × List UInt8)) (hW : ∀ p ∈ W', p.1 < D.n ∧ p.2.length = 512) (hrow : w.ownsRow base 107 513 lv W'.length (W'.flatMap looseCells)) :
    At (w.setCell ⟨d, 2, none⟩ lv) base d f s { D with W := W' } := by
  obtain ⟨hw, hb, ⟨fc, cs, lv0, h1, h2, h3, h4⟩⟩ := h
  have key : ∀ {size n : Nat} {e : TypeId} {v : Value} {xs : List Value}, w.ownsRow base e size v n xs → e ≠ 65 → (w.setCell ⟨d, 2, none⟩ lv).ownsRow base e size v n xs := by
    intro size n e v xs hr he
    refine row_kept hr (fun g hg => ?_)
    obtain ⟨_, cur, hc⟩ := row_type hr g hg
    refine Below.heap_setCell _ _ _ _ (fun e2 => ?_)
    have e3 : g = d := e2
    subst e3
    exact he (obj_type hc h1)
  exact ⟨⟨hw.n1, hw.n2, hw.F, hw.S, hW, hw.low, hw.high⟩, hb, ⟨fc, cs, lv, heap_setCell_same _ _ 2 _ _ _ h1, key h2 (by decide), key hrow (by decide), key h4 (by decide)⟩⟩
theorem loose_size (w : World) : (sizeOf 107).run Try.prog w = .ok 513 w := by
  obtain ⟨i, z, hi, hz, hs, _⟩ := loose_info
  simp [sizeOf, typeInfo, hi, hs]
theorem slice3_loose (a : Option Addr) (n cap : Nat) (h : n ≤ cap) (w : World) :
    (Instr.slice 63 (.slice a n cap) none (some (.int .i64 (n : Int))) (some (.int .i64 (n : Int)))).run Try.prog w = .ok (.slice a n n) w := by
  have ha : a.map (·.add 0) = a := by cases a with | none => rfl | some b => exact congrArg some (by unfold Addr.add; split <;> simp_all)
  have h1 : (n : Int) ≤ (cap : Int) := by omega
  simp [Instr.slice, run_underlying Try.underlying63, Instr.sliceBounds, Instr.sliceBound, asIntOf, h, loose_size]
  intro _
  exact ha
/-- append to the loose writes: the capacity is what there is of them, so it grows -/
theorem append_loose {W : World} {base n : Nat} {lv : Value} {xs : List Value} (h : W.ownsRow base 107 513 lv n xs) (hn : n ≤ 1000000) (C : Array Value) (hC : C.size = 513) (h1 : ∀ u ∈ C.toList, u.oneCell' = true) :
    ∃ a cap, lv = .slice a n cap ∧ n ≤ cap ∧ ∃ g6 cap6 w6, (Builtin.append_ #[63, 63] 63 #[.slice a n n, .slice (some ⟨W.heap.size, 0, none⟩) 1 1]).run Try.prog (W.alloc (.cells C 107)).drew = .ok (.slice (some ⟨g6, 0, none⟩) (n + 1) cap6) w6 ∧
      w6.ownsRow W.heap.size 107 513 (.slice (some ⟨g6, 0, none⟩) (n + 1) cap6) (n + 1) (xs ++ C.toList) ∧ Below W.heap.size W w6 := by
  obtain ⟨i, z, hi, hz, hs, hb, hc⟩ := loose_info
  have hnew : ∀ j u, C.toList[j]? = some u → (W.alloc (.cells C 107)).drew.cell? ((⟨W.heap.size, 0, none⟩ : Addr).add j) = some u := by
    intro j u hj
    have hadd : (⟨W.heap.size, 0, none⟩ : Addr).add j = ⟨W.heap.size, j, none⟩ := by unfold Addr.add; split <;> simp_all
    rw [hadd, World.cell?_drew, cell_of_row _ _ _ _ _ _ (heap_alloc_new W (.cells C 107))]
    simpa using hj
  have hfin : ∀ (v' : Value) (w6 : World), w6.ownsRow W.heap.size 107 513 v' (n + 1) (xs ++ C.toList) → (W.alloc (.cells C 107)).drew.grownBy w6 none → ∃ g6 cap6, v' = .slice (some ⟨g6, 0, none⟩) (n + 1) cap6 ∧ Below W.heap.size W w6 := by
    intro v' w6 ho hg
    have hb1 : Below (W.alloc (.cells C 107)).drew.heap.size (W.alloc (.cells C 107)).drew w6 := (same _).grown hg (Nat.le_refl _) (fun k hk => by cases hk)
    have hb2 : Below W.heap.size W w6 := chain (drewn (newer (same W) _)) hb1
    obtain ⟨_, ⟨_, h0⟩ | ⟨g, cap, cur, rfl, _⟩⟩ := ho
    · omega
    · exact ⟨g, cap, rfl, hb2⟩
  obtain ⟨hxl, ⟨rfl, rfl⟩ | ⟨g, cap, cur, rfl, hg1, hg2, hg3, hg4, hg5, hg6⟩⟩ := h
  · refine ⟨none, 0, rfl, Nat.le_refl _, ?_⟩
    obtain rfl : xs = [] := List.eq_nil_of_length_eq_zero (by simpa using hxl)
    obtain ⟨v', w6, hrun, hown, hgrow, _⟩ := run_append_own (P := Try.prog) (w := (W.alloc (.cells C 107)).drew) W.heap.size 63 63 107 i z 513 520 Try.underlying63 hi hz hs hb hc (by decide) (.slice none 0 0) 0 [] (World.ownsRow_nil _ _ _ _) ⟨W.heap.size, 0, none⟩ 1 1 C.toList (by simp [hC]) hnew h1 (by decide) (by decide) (by simp)
    obtain ⟨g6, cap6, rfl, hb2⟩ := hfin v' w6 hown hgrow
    exact ⟨g6, cap6, w6, hrun, hown, hb2⟩
  · refine ⟨some ⟨g, 0, none⟩, cap, rfl, hg3, ?_⟩
    obtain ⟨v', w6, hrun, hown, hgrow⟩ := run_append_arg_grows (P := Try.prog) (W.alloc (.cells C 107)).drew 63 63 107 i z 513 520 Try.underlying63 hi hz hs hb hc (by decide) ⟨g, 0, none⟩ n n xs hxl (fun j u hj => by
        have hadd : (⟨g, 0, none⟩ : Addr).add j = ⟨g, j, none⟩ := by unfold Addr.add; split <;> simp_all
        have hlt : g < W.heap.size := lt_of_obj hg2
        rw [hadd, World.cell?_drew, World.cell?_alloc_lt _ _ _ hlt, cell_of_row _ _ _ _ _ _ hg2]
        have hjn : j < n * 513 := by have := (List.getElem?_eq_some_iff.1 hj).1; omega
        rw [← hg6, List.getElem?_take, if_pos hjn] at hj
        simpa using hj) ⟨W.heap.size, 0, none⟩ 1 1 C.toList (by simp [hC]) hnew (by omega) (by unfold maxLen; omega) (by omega)
    have hlow := low_row hown (base := W.heap.size) (by simp)
    obtain ⟨g6, cap6, rfl, hb2⟩ := hfin v' w6 hlow hgrow
    exact ⟨g6, cap6, w6, hrun, hlow, hb2⟩
end Go.Proofs.Ythkjodlddhdeiaa.disk
