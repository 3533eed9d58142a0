/- Two disks of the call's own; the walk of DiskSame. -/
import Derived.Test.YthkjodlddhdeiaaDo
namespace Go.Proofs.Ythkjodlddhdeiaa.disk
open Go.ChangeShapes Go.WideShapes Go.ChangeAt Go.RowKit
open Ythkjodlddhdeiaa.base

theorem At.other {w w' : World} {base d f s d2 f2 s2 : Nat} {D D2 : Dk} (h2 : At w base d2 f2 s2 D2) (h : At w base d f s D) (ho : Only [d, f, s] w w') (hd : d2 ≠ d) (hf : f2 ≠ f ∧ f2 ≠ s) (hs : s2 ≠ f ∧ s2 ≠ s) : At w' base d2 f2 s2 D2 := by
  obtain ⟨gc, gs, gl, g1, g2, g3, g4⟩ := h.fields
  obtain ⟨a1, ha1⟩ := (row_type g4 f rfl).2
  obtain ⟨a2, ha2⟩ := (row_type g2 s rfl).2
  obtain ⟨hw, hb, ⟨fc, cs, lv, h1, h3, h4, h5⟩⟩ := h2
  have no : ∀ {g : Nat} {cur : Array Value} {t : TypeId}, w.heap[g]? = some (.cells cur t (0, 0)) → t ≠ 65 → t ≠ 105 → g ∉ [d, f, s] := by
    intro g cur t hg n1 n2 hm
    simp at hm
    rcases hm with rfl | rfl | rfl
    · exact n1 (obj_type hg g1)
    · exact n2 (obj_type hg ha1)
    · exact n2 (obj_type hg ha2)
  refine ⟨hw, hb, ⟨fc, cs, lv, ?_, ?_, ?_, ?_⟩⟩
  · rw [ho.block d2 (lt_of_obj h1) (fun hm => ?_)]
    · exact h1
    · simp at hm
      rcases hm with rfl | rfl | rfl
      · exact hd rfl
      · exact absurd (obj_type h1 ha1) (by decide)
      · exact absurd (obj_type h1 ha2) (by decide)
  · refine ho.row h3 (fun g hg => ?_)
    cases hg
    obtain ⟨_, cu, hc⟩ := row_type h3 s2 rfl
    intro hm
    simp at hm
    rcases hm with rfl | hm | hm
    · exact absurd (obj_type hc g1) (by decide)
    · exact hs.1 hm
    · exact hs.2 hm
  · refine ho.row h4 (fun g hg => ?_)
    obtain ⟨_, cu, hc⟩ := row_type h4 g hg
    exact no hc (by decide) (by decide)
  · refine ho.row h5 (fun g hg => ?_)
    cases hg
    obtain ⟨_, cu, hc⟩ := row_type h5 f2 rfl
    intro hm
    simp at hm
    rcases hm with rfl | hm | hm
    · exact absurd (obj_type hc g1) (by decide)
    · exact hf.1 hm
    · exact hf.2 hm
structure Two (w0 w : World) (d c : Nat) (D C : Dk) : Prop where
  at_ : ∃ f s f2 s2, At w w0.heap.size d f s D ∧ At w w0.heap.size c f2 s2 C ∧ d ≠ c ∧ f ≠ f2 ∧ f ≠ s2 ∧ s ≠ f2 ∧ s ≠ s2
  below : Below w0.heap.size w0 w
theorem Two.swap {w0 w : World} {d c : Nat} {D C : Dk} (h : Two w0 w d c D C) : Two w0 w c d C D := by
  obtain ⟨⟨f, s, f2, s2, h1, h2, h3, h4, h5, h6, h7⟩, hb⟩ := h
  exact ⟨⟨f2, s2, f, s, h2, h1, Ne.symm h3, Ne.symm h4, Ne.symm h6, Ne.symm h5, Ne.symm h7⟩, hb⟩
theorem Two.fst {w0 w : World} {d c : Nat} {D C : Dk} (h : Two w0 w d c D C) : St w0 w d D := by
  obtain ⟨⟨f, s, f2, s2, h1, _⟩, hb⟩ := h
  exact ⟨⟨f, s, h1⟩, hb⟩
theorem Two.snd {w0 w : World} {d c : Nat} {D C : Dk} (h : Two w0 w d c D C) : St w0 w c C := h.swap.fst
theorem row_lt {w : World} {base d f s : Nat} {D : Dk} (h : At w base d f s D) : f < w.heap.size ∧ s < w.heap.size ∧ d < w.heap.size := by
  obtain ⟨fc, cs, lv, h1, h2, _, h4⟩ := h.fields
  obtain ⟨_, a, ha⟩ := row_type h4 f rfl
  obtain ⟨_, b, hb⟩ := row_type h2 s rfl
  exact ⟨lt_of_obj ha, lt_of_obj hb, lt_of_obj h1⟩
theorem do_st {w0 w : World} {d : Nat} {D : Dk} (h : St w0 w d D) (x : ActV) (fv : Value) (hi : -9223372036854775808 ≤ x.i ∧ x.i ≤ 9223372036854775807) (hf : ArgFates w0 w fv x.fates) (hfs : ∃ a c, fv = .slice a x.fates.length c) (hW : D.W.length ≤ 100000) :
    Calls Try.prog 31 #[pd d, .agg #[.int .i64 x.kind, .int .i64 x.i, .int .u8 (x.a.toNat : Int), .int .u8 (x.b.toNat : Int), fv]] w fun e w' => e = .returned (.tuple #[]) ∧ St w0 w' d (doD D x) := by
  obtain ⟨⟨f, s, ha⟩, hb⟩ := h
  refine (do_walk ha hb.size hW x fv hi hf.1 hf.2.1 hf.2.2 hfs).mono fun e w' ⟨s', he, ha', ho, _⟩ => ⟨he, ⟨⟨f, s', ha'⟩, ho.below hb (fun k hk => ?_) hb.size⟩⟩
  simp at hk
  rcases hk with rfl | rfl | rfl
  · exact ha.low.1
  · exact ha.low.2.1
  · exact ha.low.2.2.1
theorem do_two {w0 w : World} {d c : Nat} {D C : Dk} (h : Two w0 w d c D C) (x : ActV) (fv : Value) (hi : -9223372036854775808 ≤ x.i ∧ x.i ≤ 9223372036854775807) (hf : ArgFates w0 w fv x.fates) (hfs : ∃ a c, fv = .slice a x.fates.length c) (hW : D.W.length ≤ 100000) :
    Calls Try.prog 31 #[pd d, .agg #[.int .i64 x.kind, .int .i64 x.i, .int .u8 (x.a.toNat : Int), .int .u8 (x.b.toNat : Int), fv]] w fun e w' => e = .returned (.tuple #[]) ∧ Two w0 w' d c (doD D x) C := by
  obtain ⟨⟨f, s, f2, s2, ha, hc, hdc, n1, n2, n3, n4⟩, hb⟩ := h
  refine (do_walk ha hb.size hW x fv hi hf.1 hf.2.1 hf.2.2 hfs).mono fun e w' ⟨s', he, ha', ho, hs'⟩ => ⟨he, ⟨⟨f, s', f2, s2, ha', hc.other ha ho (Ne.symm hdc) ⟨Ne.symm n1, Ne.symm n3⟩ ⟨Ne.symm n2, Ne.symm n4⟩, hdc, n1, n2, ?_, ?_⟩, ho.below hb (fun k hk => ?_) hb.size⟩⟩
  · have := (row_lt hc).1
    rcases hs' with rfl | hs'
    · exact n3
    · omega
  · have := (row_lt hc).2.1
    rcases hs' with rfl | hs'
    · exact n4
    · omega
  · simp at hk
    rcases hk with rfl | rfl | rfl
    · exact ha.low.1
    · exact ha.low.2.1
    · exact ha.low.2.2.1
theorem copy_st {w0 w : World} {d : Nat} {D : Dk} (h : St w0 w d D) (hW : D.W.length ≤ 1000000) :
    Calls Try.prog 32 #[pd d] w fun e w' => ∃ c, e = .returned (pd c) ∧ Two w0 w' d c D D := by
  obtain ⟨⟨f, s, ha⟩, hb⟩ := h
  refine (copy_walk ha hb.size hW).mono fun e w' ⟨c, f2, s2, he, hc, hb2, h1, h2, h3⟩ => ⟨c, he, ⟨⟨f, s, f2, s2, ha.below hb2, hc, ?_⟩, hb.trans (hb2.mono hb.size)⟩⟩
  have := row_lt ha
  refine ⟨?_, ?_, ?_, ?_, ?_⟩ <;> omega
/-- calls, one behind the other -/
def run (D : Dk) (L : List ActV) : Dk := L.foldl doD D
theorem run_snoc (D : Dk) (L : List ActV) (k : Nat) (h : k < L.length) : run D (L.take (k + 1)) = doD (run D (L.take k)) L[k] := by
  unfold run
  rw [List.take_succ_eq_append_getElem h, List.foldl_append]
  rfl
theorem doD_W (D : Dk) (x : ActV) : (doD D x).W.length ≤ D.W.length + 1 ∧ (doD D x).n = D.n := by
  unfold doD
  split
  · unfold writeD
    split
    · split
      · rw [burnD_W, burnD_n]; exact ⟨Nat.le_succ _, rfl⟩
      · exact ⟨by simp, burnD_n D⟩
    · exact ⟨Nat.le_succ _, rfl⟩
  · split
    · unfold flushD
      split
      · exact ⟨Nat.le_succ _, rfl⟩
      · split
        · rw [burnD_W, burnD_n]; exact ⟨Nat.le_succ _, rfl⟩
        · exact ⟨Nat.zero_le _, burnD_n D⟩
    · split
      · unfold armD
        split
        · exact ⟨Nat.le_succ _, rfl⟩
        · exact ⟨Nat.le_succ _, rfl⟩
      · split
        · exact ⟨Nat.zero_le _, rfl⟩
        · exact ⟨Nat.le_succ _, rfl⟩
theorem run_W (L : List ActV) : ∀ D : Dk, (run D L).W.length ≤ D.W.length + L.length ∧ (run D L).n = D.n := by
  induction L with
  | nil => intro D; exact ⟨Nat.le_refl _, rfl⟩
  | cons x r ih =>
    intro D
    obtain ⟨h1, h2⟩ := doD_W D x
    obtain ⟨h3, h4⟩ := ih (doD D x)
    exact ⟨by simp only [List.length_cons]; show (run (doD D x) r).W.length ≤ _; omega, h4.trans h2⟩
end Go.Proofs.Ythkjodlddhdeiaa.disk
