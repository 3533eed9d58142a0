/- The walk of the law's rules: a table of rules of one cell each. -/
import Derived.Test.YtobdfocfkomagaaRevUndo
namespace Go.Proofs.Ytobdfocfkomagaa.rev
open Go.ChangeShapes Go.WideShapes Go.ChangeAt Go.RowKit
open Ytobdfocfkomagaa.base (size_mk chain newer drewn same ba_ext)
open Ytobdfocfkomagaa.row2 (Row CReads own_keep)

attribute [local go_sem] si_one si_cells run_store_si
def shutRL (ats : Array TypeId) (ty : TypeId) (args : Array Value) : Sem Value := Builtin.append_ ats ty args
theorem rl_shut (ats : Array TypeId) (ty : TypeId) (args : Array Value) : Builtin.append_ ats ty args = shutRL ats ty args := rfl
attribute [local go_sem ↓] rl_shut
theorem res_tb1 {fn : Func} {p : Nat} (hr : fn.results = #[.cell p 27]) (tmps : Array Value) (w : World) (q : Nat) (v0 v1 v2 v3 v4 v5 : Value) (hq : tmps.getD p undef = .pointer (some ⟨q, 0, none⟩)) (h : Row w q #[v0, v1, v2, v3, v4, v5] 27) :
    (results fn tmps).run Try.prog w = .ok (.agg #[v0, v1, v2, v3, v4, v5]) w := by
  have c0 := h.cell 0
  have c1 := h.cell 1
  have c2 := h.cell 2
  have c3 := h.cell 3
  have c4 := h.cell 4
  have c5 := h.cell 5
  have hu := Try.underlying27
  have hq' : tmps[p]?.getD undef = .pointer (some ⟨q, 0, none⟩) := by simpa using hq
  unfold results
  simp [hr, hq', hu, go_sem, c0, c1, c2, c3, c4, c5]
/-- a rule of one text that lies at g -/
def oneR (g : Nat) (s : ByteArray) : RI := ⟨⟨some ⟨g, 0, none⟩, 1, [s]⟩, ⟨none, 0, []⟩⟩
def isOne (w : World) (r : RI) (s : ByteArray) : Prop := ∃ g, r = oneR g s ∧ Row w g #[.string s] 9
theorem isOne.ok {w : World} {r : RI} {s : ByteArray} (h : isOne w r s) : ROk w r := by
  obtain ⟨g, rfl, hr⟩ := h
  exact ⟨⟨fun _ => ⟨g, 0, rfl, hr.lt, fun i v hi => by
    cases i with
    | zero => cases (show s = v by simpa [oneR] using hi); exact hr.cell 0
    | succ i => simp [oneR] at hi⟩, by simp [oneR, maxLen]⟩, ⟨fun h => absurd rfl h, by simp [oneR, maxLen]⟩⟩
abbrev t0 : ByteArray := ⟨#[116]⟩
abbrev rcells (A : Option Addr) (n c : Nat) : Array Value := tcells (.string t0) (.slice none 0 0) (.slice none 0 0) (.int .i64 0) (.int .i64 0) A n c
structure RulesAt (w0 wr : World) (base q q0 : Nat) (A : Option Addr) (c : Nat) (rs : List RI) (ls : List ByteArray) : Prop where
  row : Row wr q (rcells A rs.length c) 27
  row0 : ∃ C, Row wr q0 C 27 ∧ C.size = 6
  own : wr.ownsRow base 77 2 (.slice A rs.length c) rs.length (cellsR rs)
  len : rs.length = ls.length
  ok : ∀ (i : Nat) (r : RI) (s : ByteArray), rs[i]? = some r → ls[i]? = some s → isOne wr r s
  below : Below w0.heap.size w0 wr
/-- one rule more: what the append does, and what holds when the table's cell is set -/
theorem RulesAt.more {w0 wr : World} {base q q0 : Nat} {A : Option Addr} {c : Nat} {rs : List RI} {ls : List ByteArray} (h : RulesAt w0 wr base q q0 A c rs ls) (hq : q < base) (hq0 : q0 < base) (hqq : w0.heap.size ≤ q) (hne : q0 ≠ q) (hb : w0.heap.size ≤ base) (hbs : base ≤ wr.heap.size) (hn : rs.length ≤ 1000) (s : ByteArray)
    (ats : Array TypeId) (ty : TypeId) (hats : ats = #[25, 25]) (hty : ty = 25) :
    ∃ A4 c4 w4, (shutRL ats ty #[.slice A rs.length c, .slice (some ⟨wr.heap.size + 1, 0, none⟩) 1 1]).run Try.prog ((wr.alloc (.cells #[.string s] 9)).alloc (.cells #[.slice (some ⟨wr.heap.size, 0, none⟩) 1 1, .slice none 0 0] 77)).drew = .ok (.slice A4 (rs.length + 1) c4) w4 ∧
      w4.cell? ⟨q, 5, none⟩ = some (.slice A rs.length c) ∧ w4.frozen? ⟨q, 5, none⟩ = false ∧ base ≤ w4.heap.size ∧
      RulesAt w0 (w4.setCell ⟨q, 5, none⟩ (.slice A4 (rs.length + 1) c4)) base q q0 A4 c4 (rs ++ [oneR wr.heap.size s]) (ls ++ [s]) := by
  obtain ⟨W, hW⟩ : ∃ W, ((wr.alloc (.cells #[.string s] 9)).alloc (.cells #[.slice (some ⟨wr.heap.size, 0, none⟩) 1 1, .slice none 0 0] 77)).drew = W := ⟨_, rfl⟩
  have hnw : Below wr.heap.size wr W := by rw [← hW]; exact drewn (newer (newer (same wr) _) _)
  have hr1 : Row W wr.heap.size #[.string s] 9 := by
    rw [← hW]
    exact ((Row.new wr #[.string s] 9).below (newer (same _) _)).below (drewn (same _))
  have hr2 : Row W (wr.heap.size + 1) #[.slice (some ⟨wr.heap.size, 0, none⟩) 1 1, .slice none 0 0] 77 := by
    rw [← hW]
    have := Row.new (wr.alloc (.cells #[.string s] 9)) #[.slice (some ⟨wr.heap.size, 0, none⟩) 1 1, .slice none 0 0] 77
    rw [World.size_alloc] at this
    exact this.below (drewn (same _))
  have hown1 := own_keep h.own (fun g _ hg => hnw.block g hg)
  have hone : CReads W (some ⟨wr.heap.size + 1, 0, none⟩) (cellsR [oneR wr.heap.size s]) := fun _ => ⟨wr.heap.size + 1, 0, rfl, hr2.lt, fun j v hj => by
    rw [Nat.zero_add]
    refine hr2.at_ ?_
    simpa [cellsR, cellR, oneR, SI.v] using hj⟩
  have hsz : base ≤ W.heap.size := Nat.le_trans hbs hnw.size
  obtain ⟨A4, c4, w4, hrun, hown4, hgr⟩ := cloneRule.append_new W base (some ⟨wr.heap.size + 1, 0, none⟩) 1 1 (cellsR [oneR wr.heap.size s]) rfl (by decide) (cellsR_one _) hone (fun h => by cases h) (.slice A rs.length c) rs.length _ (by omega) hown1 hsz
  rw [← cellsR_app] at hown4
  have hkeep : ∀ {g : Nat} {C : Array Value} {t : TypeId}, Row wr g C t → (t ≠ 77 ∨ g < base) → Row w4 g C t := by
    intro g C t hr hor
    refine (hgr.block g (by have := hnw.size; have := hr.lt; omega) (fun e => ?_)).trans (hr.below hnw)
    obtain ⟨h1, h2⟩ := own_block hown1 g e.symm
    rcases hor with hor | hor
    · obtain ⟨_, ⟨hv, _⟩ | ⟨g', cap, cur, hv, hbg, hgr', _⟩⟩ := hown1
      · rw [hv] at e; cases e
      · rw [hv] at e
        have e2 : g' = g := by simpa [Value.ownBlock] using e.symm
        subst e2
        exact Row.apart (hr.below hnw) hgr' hor rfl
    · omega
  have hrowq := hkeep h.row (.inr hq)
  obtain ⟨C0, hC0, hs0⟩ := h.row0
  have hrowq0 := hkeep hC0 (.inr hq0)
  have hB4 : Below w0.heap.size w0 w4 := (chain h.below hnw).grown hgr (Nat.le_trans hb hsz) (fun g hg => Nat.le_trans hb (own_block hown1 g hg).1)
  subst hats hty
  refine ⟨A4, c4, w4, by rw [hW]; exact hrun, hrowq.cell 5, hrowq.frozen 5, Nat.le_trans hsz hgr.size, ⟨?_, ⟨C0, hrowq0.other q 5 _ hne, hs0⟩, ?_, by simp [h.len], ?_, hB4.setCell (p := ⟨q, 5, none⟩) hqq _⟩⟩
  · rw [List.length_append]
    exact hrowq.set 5 _
  · rw [List.length_append]
    exact own_keep hown4 (fun g hg _ => Below.heap_setCell w4 ⟨q, 5, none⟩ _ g (by show g ≠ q; omega))
  · intro i r u hi hu
    have hst : ∀ {r : RI} {s : ByteArray}, isOne wr r s → isOne (w4.setCell ⟨q, 5, none⟩ (.slice A4 (rs.length + 1) c4)) r s := by
      rintro r s ⟨g, rfl, hr⟩
      have h4 := hkeep hr (.inl (by decide))
      exact ⟨g, rfl, h4.other q 5 _ (Row.apart h4 hrowq (by decide))⟩
    by_cases hlt : i < rs.length
    · rw [List.getElem?_append_left hlt] at hi
      rw [List.getElem?_append_left (by rw [← h.len]; exact hlt)] at hu
      exact hst (h.ok i r u hi hu)
    · obtain rfl : i = rs.length := by
        have := (List.getElem?_eq_some_iff.1 hi).1
        simp at this; omega
      rw [List.getElem?_concat_length] at hi
      rw [h.len, List.getElem?_concat_length] at hu
      cases hi; cases hu
      have h4 : Row w4 wr.heap.size #[.string s] 9 := by
        refine (hgr.block wr.heap.size hr1.lt (fun e => ?_)).trans hr1
        have := (own_block h.own wr.heap.size e.symm).2
        omega
      exact ⟨_, rfl, h4.other q 5 _ (Row.apart h4 hrowq (by decide))⟩
end Go.Proofs.Ytobdfocfkomagaa.rev
