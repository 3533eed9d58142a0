/- The walk of pair.best. -/
import Derived.Test.YthkjodlddhdeiaaLabBest
namespace Go.Proofs.Ythkjodlddhdeiaa.label
open Go.ChangeShapes Go.WideShapes Go.ChangeAt Go.RowKit Go.Shelf
open Ythkjodlddhdeiaa.base Ythkjodlddhdeiaa.disk

/-- one label more -/
def stepB (p : Lb × Int) (x : Int × Lb) : Lb × Int := if p.2 < 0 ∨ p.1.turn < x.2.turn then (x.2, x.1) else p
def bestOf (xs : List (Int × Lb)) : Lb × Int := xs.foldl stepB (Lb.zero, -1)
theorem bestOf_snoc (xs : List (Int × Lb)) (x : Int × Lb) : bestOf (xs ++ [x]) = stepB (bestOf xs) x := by simp [bestOf]

set_option maxRecDepth 100000 in
set_option maxHeartbeats 1600000 in
theorem best1_walk (w : World) (aq bq : Nat) (b : Lb) (at_ : Int) (i : Int) (l : Lb) (ha : Row w aq #[.int .i64 at_] 3) (hb : Row w bq b.cells 81) (hne : aq ≠ bq) :
    Calls Try.prog 105 #[.int .i64 i, l.v, .pointer (some ⟨aq, 0, none⟩), .pointer (some ⟨bq, 0, none⟩)] w fun e w' =>
      e = .returned (.tuple #[]) ∧ Row w' aq #[.int .i64 (stepB (b, at_) (i, l)).2] 3 ∧ Row w' bq (stepB (b, at_) (i, l)).1.cells 81 ∧ Only [aq, bq] w w' := by
  obtain ⟨q, hq⟩ : ∃ q, w.heap.size = q := ⟨_, rfl⟩
  obtain ⟨V, hV⟩ : ∃ V, w.alloc (.cells l.cells 81) = V := ⟨_, rfl⟩
  have hX : Row V q l.cells 81 := by rw [← hV, ← hq]; exact Row.new _ _ _
  have hB : Below w.heap.size w V := by rw [← hV]; exact newer (same w) _
  have ha' := ha.below hB
  have hb' := hb.below hB
  have hs := Ythkjodlddhdeiaa.base.Shut.mk (show stepB (b, at_) (i, l) = if at_ < 0 ∨ b.turn < l.turn then (l, i) else (b, at_) from rfl)
  generalize stepB (b, at_) (i, l) = st at hs ⊢
  obtain ⟨st1, st2⟩ := st
  obtain ⟨lt, la, lh, ln⟩ := l
  obtain ⟨bt, ba, bh, bn⟩ := b
  simp only at hs ⊢
  have x0 : V.cell? ⟨q, 0, none⟩ = some (.int .i64 lt) := hX.cell 0
  have x1 : V.cell? ⟨q, 1, none⟩ = some (.int .i64 la) := hX.cell 1
  have x2 : V.cell? ⟨q, 2, none⟩ = some (.int .i64 lh) := hX.cell 2
  have x3 : V.cell? ⟨q, 3, none⟩ = some (.string ln) := hX.cell 3
  have y0 : V.cell? ⟨aq, 0, none⟩ = some (.int .i64 at_) := ha'.cell 0
  have f0 := ha'.frozen 0
  have z0 : V.cell? ⟨bq, 0, none⟩ = some (.int .i64 bt) := hb'.cell 0
  have z1 : V.cell? ⟨bq, 1, none⟩ = some (.int .i64 ba) := hb'.cell 1
  have z2 : V.cell? ⟨bq, 2, none⟩ = some (.int .i64 bh) := hb'.cell 2
  have z3 : V.cell? ⟨bq, 3, none⟩ = some (.string bn) := hb'.cell 3
  have g0 := hb'.frozen 0
  have g1 := hb'.frozen 1
  have g2 := hb'.frozen 2
  have g3 := hb'.frozen 3
  have HH := Ythkjodlddhdeiaa.base.Shut.mk (And.intro ha' (And.intro hb' (Only.of_below [aq, bq] hB)))
  clear ha hb ha' hb' hB hX
  have fin : ∀ (T : Lb × Int), Only [aq, bq] w (((((V.setCell ⟨bq, 0, none⟩ (.int .i64 lt)).setCell ⟨bq, 1, none⟩ (.int .i64 la)).setCell ⟨bq, 2, none⟩ (.int .i64 lh)).setCell ⟨bq, 3, none⟩ (.string ln)).setCell ⟨aq, 0, none⟩ (.int .i64 i)) ∧
      Row (((((V.setCell ⟨bq, 0, none⟩ (.int .i64 lt)).setCell ⟨bq, 1, none⟩ (.int .i64 la)).setCell ⟨bq, 2, none⟩ (.int .i64 lh)).setCell ⟨bq, 3, none⟩ (.string ln)).setCell ⟨aq, 0, none⟩ (.int .i64 i)) aq #[.int .i64 i] 3 ∧
      Row (((((V.setCell ⟨bq, 0, none⟩ (.int .i64 lt)).setCell ⟨bq, 1, none⟩ (.int .i64 la)).setCell ⟨bq, 2, none⟩ (.int .i64 lh)).setCell ⟨bq, 3, none⟩ (.string ln)).setCell ⟨aq, 0, none⟩ (.int .i64 i)) bq #[.int .i64 lt, .int .i64 la, .int .i64 lh, .string ln] 81 := fun _ => by
    refine ⟨?_, ?_, ?_⟩
    · have h1 : ∀ (X : World) (j : Nat) (v : Value), Only [aq, bq] X (X.setCell ⟨bq, j, none⟩ v) := fun X j v => (Only.cell X bq j v).mono (by simp)
      have h2 : ∀ (X : World) (j : Nat) (v : Value), Only [aq, bq] X (X.setCell ⟨aq, j, none⟩ v) := fun X j v => (Only.cell X aq j v).mono (by simp)
      exact ((((HH.out.2.2.trans (h1 _ _ _)).trans (h1 _ _ _)).trans (h1 _ _ _)).trans (h1 _ _ _)).trans (h2 _ _ _)
    · exact ((((HH.out.1.other _ _ _ hne).other _ _ _ hne).other _ _ _ hne).other _ _ _ hne).set 0 _
    · exact (HH.out.2.1.lay _ _ _ _ rfl).other _ _ _ (fun e => hne e.symm)
  have HF := Ythkjodlddhdeiaa.base.Shut.mk fin
  clear fin
  by_cases h1 : at_ < 0
  · obtain ⟨rfl, rfl⟩ : st1 = ⟨lt, la, lh, ln⟩ ∧ st2 = i := by have h := hs.out; rw [if_pos (.inl h1)] at h; exact ⟨congrArg Prod.fst h, congrArg Prod.snd h⟩
    clear hs
    go_enter Try.func105, Try.ntmps105
    go_wp2
    go_end0
    have h := HF.out (Lb.zero, 0)
    exact ⟨rfl, h.2.1, h.2.2, h.1⟩
  · by_cases h2 : bt < lt
    · obtain ⟨rfl, rfl⟩ : st1 = ⟨lt, la, lh, ln⟩ ∧ st2 = i := by have h := hs.out; rw [if_pos (.inr h2)] at h; exact ⟨congrArg Prod.fst h, congrArg Prod.snd h⟩
      clear hs
      go_enter Try.func105, Try.ntmps105
      go_wp2
      go_end0
      have h := HF.out (Lb.zero, 0)
      exact ⟨rfl, h.2.1, h.2.2, h.1⟩
    · obtain ⟨rfl, rfl⟩ : st1 = ⟨bt, ba, bh, bn⟩ ∧ st2 = at_ := by have h := hs.out; rw [if_neg (by omega)] at h; exact ⟨congrArg Prod.fst h, congrArg Prod.snd h⟩
      clear hs
      go_enter Try.func105, Try.ntmps105
      go_wp2
      go_end0
      exact ⟨rfl, HH.out.1, HH.out.2.1, HH.out.2.2⟩

theorem keepsOthers_only {w w' : World} {aq bq : Nat} {ca cb : Array Value} {ta tb : TypeId} (h : Only [aq, bq] w w') (ha : Row w aq ca ta) (hb : Row w bq cb tb) : KeepsOthers w w' :=
  ⟨h.size, fun k o hk ho => by
    have hlt := lt_of_obj hk
    have hne : k ∉ [aq, bq] := by
      intro hm
      simp only [List.mem_cons, List.not_mem_nil, or_false] at hm
      rcases hm with rfl | rfl
      · unfold Row at ha; rw [hk] at ha; cases ha; cases ho
      · unfold Row at hb; rw [hk] at hb; cases hb; cases ho
    exact (h.block k hlt hne).trans hk⟩
theorem row_own {β : Type} (q : Nat) (f : β → Array Value) (t : TypeId) : Own (fun s W => Row W q (f s) t) := fun s X Y row hs hg hr => by
  have hlt := hs.lt
  refine (hg.block q hlt (fun e => ?_)).trans hs
  obtain ⟨o, ho, hc⟩ := hr q e.symm
  unfold Row at hs
  rw [hs] at ho
  cases ho
  cases hc
theorem labels_stops (n : Nat) (hn : 1 ≤ n) (Bn n₀ : Nat) (s0 s1 : ByteArray) (w : World) (hrow : Row w Bn (pairC s0 s1) 126) :
    SeqStopsK Fence.wide n Try.prog 112 #[.pointer (some ⟨Bn, 0, none⟩)] (fun x : Int × Lb => #[Value.int .i64 x.1, x.2.v]) (Below n₀) (fun ys => ys = cand 0 s0.data.toList ++ cand 1 s1.data.toList) (fun _ => True) 2 w :=
  fun l J Jx W hW hJ hJx hY h0 =>
    labels1_in n hn l Bn n₀ s0 s1 J Jx (fun s A B hs hb => hJ s A B none hs ⟨hb.os, hb.tape, hb.output, hb.size, fun k hk _ => hb.block k hk⟩ (fun r e => by cases e))
      (fun s A B hs hb => hJx s A B none hs ⟨hb.os, hb.tape, hb.output, hb.size, fun k hk _ => hb.block k hk⟩ (fun r e => by cases e)) hY W (hrow.below hW) h0
end Go.Proofs.Ythkjodlddhdeiaa.label
