/- The walk of slices.Reverse at changes. -/
import Derived.Test.YtobdfocfkomagaaRevRApply
import Derived.Test.YtobdfocfkomagaaCloneChange
import Derived.BigRegion
namespace Go.Proofs.Ytobdfocfkomagaa.rev
open Go.ChangeShapes Go.WideShapes Go.ChangeAt Go.RowKit
open Ytobdfocfkomagaa.base (size_mk chain newer drewn same ba_ext)
open Ytobdfocfkomagaa.row2 (Row CReads own_keep)

attribute [local go_sem] si_one si_cells run_store_si
/-- the first n places hold these changes -/
def AtC (C : Array Value) (n : Nat) (f : Nat → CI) : Prop := ∀ p, p < n → C[p * 4]? = some (.bool (f p).put) ∧ C[p * 4 + 1]? = some (.int .i64 (f p).at_) ∧ C[p * 4 + 2]? = some (f p).r.x.v ∧ C[p * 4 + 3]? = some (f p).r.y.v
def set4 (C : Array Value) (p : Nat) (x : CI) : Array Value := (((C.setIfInBounds (p * 4) (.bool x.put)).setIfInBounds (p * 4 + 1) (.int .i64 x.at_)).setIfInBounds (p * 4 + 2) x.r.x.v).setIfInBounds (p * 4 + 3) x.r.y.v
theorem set4_size (C : Array Value) (p : Nat) (x : CI) : (set4 C p x).size = C.size := by simp [set4]
theorem set4_at {C : Array Value} {n : Nat} {f : Nat → CI} (h : AtC C n f) {p : Nat} (hp : p < n) (x : CI) : AtC (set4 C p x) n (fun s => if s = p then x else f s) := by
  intro s hs
  have hsz : p * 4 + 3 < C.size := (Array.getElem?_eq_some_iff.1 (h p hp).2.2.2).1
  by_cases e : s = p
  · subst e
    simp only [if_true]
    unfold set4
    refine ⟨?_, ?_, ?_, ?_⟩
    · rw [Array.getElem?_setIfInBounds_ne (by omega), Array.getElem?_setIfInBounds_ne (by omega), Array.getElem?_setIfInBounds_ne (by omega), Array.getElem?_setIfInBounds_self]; simp; omega
    · rw [Array.getElem?_setIfInBounds_ne (by omega), Array.getElem?_setIfInBounds_ne (by omega), Array.getElem?_setIfInBounds_self]; simp; omega
    · rw [Array.getElem?_setIfInBounds_ne (by omega), Array.getElem?_setIfInBounds_self]; simp; omega
    · rw [Array.getElem?_setIfInBounds_self]; simp; omega
  · simp only [if_neg e]
    have h0 := h s hs
    have ne : ∀ j, j < 4 → ∀ k, k < 4 → p * 4 + j ≠ s * 4 + k := by intro j hj k hk; omega
    unfold set4
    refine ⟨?_, ?_, ?_, ?_⟩
    · rw [Array.getElem?_setIfInBounds_ne (by omega), Array.getElem?_setIfInBounds_ne (by omega), Array.getElem?_setIfInBounds_ne (by omega), Array.getElem?_setIfInBounds_ne (by omega)]; exact h0.1
    · rw [Array.getElem?_setIfInBounds_ne (by omega), Array.getElem?_setIfInBounds_ne (by omega), Array.getElem?_setIfInBounds_ne (by omega), Array.getElem?_setIfInBounds_ne (by omega)]; exact h0.2.1
    · rw [Array.getElem?_setIfInBounds_ne (by omega), Array.getElem?_setIfInBounds_ne (by omega), Array.getElem?_setIfInBounds_ne (by omega), Array.getElem?_setIfInBounds_ne (by omega)]; exact h0.2.2.1
    · rw [Array.getElem?_setIfInBounds_ne (by omega), Array.getElem?_setIfInBounds_ne (by omega), Array.getElem?_setIfInBounds_ne (by omega), Array.getElem?_setIfInBounds_ne (by omega)]; exact h0.2.2.2
theorem row_set4 {w : World} {g : Nat} {C : Array Value} {t : TypeId} (h : Row w g C t) (p : Nat) (x : CI) :
    Row ((((w.setCell ⟨g, p * 4, none⟩ (.bool x.put)).setCell ⟨g, p * 4 + 1, none⟩ (.int .i64 x.at_)).setCell ⟨g, p * 4 + 2, none⟩ x.r.x.v).setCell ⟨g, p * 4 + 3, none⟩ x.r.y.v) g (set4 C p x) t := by
  have h0 := h.set (p * 4) (.bool x.put)
  have h1 := h0.set (p * 4 + 1) (.int .i64 x.at_)
  have h2 := h1.set (p * 4 + 2) x.r.x.v
  exact h2.set (p * 4 + 3) x.r.y.v
theorem set4_below {w u : World} {g B : Nat} (h : Below B u w) (hg : B ≤ g) (p : Nat) (x : CI) :
    Below B u ((((w.setCell ⟨g, p * 4, none⟩ (.bool x.put)).setCell ⟨g, p * 4 + 1, none⟩ (.int .i64 x.at_)).setCell ⟨g, p * 4 + 2, none⟩ x.r.x.v).setCell ⟨g, p * 4 + 3, none⟩ x.r.y.v) := by
  have h0 := h.setCell (p := ⟨g, p * 4, none⟩) hg (.bool x.put)
  have h1 := h0.setCell (p := ⟨g, p * 4 + 1, none⟩) hg (.int .i64 x.at_)
  have h2 := h1.setCell (p := ⟨g, p * 4 + 2, none⟩) hg x.r.x.v
  exact h2.setCell (p := ⟨g, p * 4 + 3, none⟩) hg x.r.y.v
def dfl : CI := ⟨false, 0, ⟨none, 0, []⟩, ⟨none, 0, []⟩⟩
def get0 (cs : List CI) (p : Nat) : CI := cs.getD p dfl
theorem get0_of {cs : List CI} {p : Nat} {c : CI} (h : cs[p]? = some c) : get0 cs p = c := by unfold get0; rw [List.getD_eq_getElem?_getD, h]; rfl
theorem cellsC_eq : ∀ (cs : List CI) (l : List Value), l.length = cs.length * 4 → (∀ p, p < cs.length → l[p * 4]? = some (.bool (get0 cs p).put) ∧ l[p * 4 + 1]? = some (.int .i64 (get0 cs p).at_) ∧ l[p * 4 + 2]? = some (get0 cs p).r.x.v ∧ l[p * 4 + 3]? = some (get0 cs p).r.y.v) → l = cellsC cs
  | [], l, hl, _ => List.length_eq_zero_iff.1 (by simpa using hl)
  | c :: t, l, hl, h => by
    have h0 := h 0 (by simp)
    match l, hl with
    | [], hl => rw [List.length_nil, List.length_cons] at hl; exact absurd hl (by omega)
    | [_], hl => rw [List.length_cons, List.length_nil, List.length_cons] at hl; exact absurd hl (by omega)
    | [_, _], hl => rw [List.length_cons, List.length_cons, List.length_nil, List.length_cons] at hl; exact absurd hl (by omega)
    | [_, _, _], hl => rw [List.length_cons, List.length_cons, List.length_cons, List.length_nil, List.length_cons] at hl; exact absurd hl (by omega)
    | a :: b :: d :: e :: r, hl =>
      have hr := cellsC_eq t r (by simp at hl; omega) (fun p hp => by
        have := h (p + 1) (by simp; omega)
        rw [show (p + 1) * 4 = p * 4 + 4 by omega] at this
        exact this)
      have h1 : a = .bool c.put ∧ b = .int .i64 c.at_ ∧ d = c.r.x.v ∧ e = c.r.y.v := by
        have hg : get0 (c :: t) 0 = c := rfl
        rw [hg] at h0
        simpa using h0
      obtain ⟨rfl, rfl, rfl, rfl⟩ := h1
      rw [hr]
      rfl
/-- a row of one's own, by its places -/
structure OwnC (w : World) (base g n c : Nat) (f : Nat → CI) : Prop where
  row : ∃ C, Row w g C 79 ∧ C.size = c * 4 ∧ AtC C n f
  base_ : base ≤ g
  cap : n ≤ c ∧ c ≤ maxLen
theorem OwnC.of {w : World} {base g n c : Nat} {cs : List CI} (hn : cs.length = n) (h : w.ownsRow base 79 4 (.slice (some ⟨g, 0, none⟩) n c) n (cellsC cs)) : OwnC w base g n c (get0 cs) := by
  obtain ⟨hl, ⟨hv, _⟩ | ⟨g', cap, cur, hv, hb, hg, hle, hm, hs, ht⟩⟩ := h
  · cases hv
  · cases hv
    refine ⟨⟨cur, hg, hs, fun p hp => ?_⟩, hb, hle, hm⟩
    have hc : cs[p]? = some (get0 cs p) := by
      have := List.getElem?_eq_getElem (l := cs) (i := p) (by omega)
      rw [this, get0_of this]
    have hgc := cellsC_get cs p _ hc
    have key : ∀ (j : Nat) (v : Value), (cellsC cs)[j]? = some v → cur[j]? = some v := by
      intro j v hj
      rw [← ht, List.getElem?_take] at hj
      split at hj
      · simpa using hj
      · cases hj
    exact ⟨key _ _ hgc.1, key _ _ hgc.2.1, key _ _ hgc.2.2.1, key _ _ hgc.2.2.2⟩
theorem OwnC.to {w : World} {base g n c : Nat} {f : Nat → CI} (h : OwnC w base g n c f) {cs : List CI} (hn : cs.length = n) (hf : ∀ p, p < n → get0 cs p = f p) : w.ownsRow base 79 4 (.slice (some ⟨g, 0, none⟩) n c) n (cellsC cs) := by
  obtain ⟨⟨C, hr, hs, ha⟩, hb, hle, hm⟩ := h
  refine ⟨by rw [cellsC_len, hn], .inr ⟨g, c, C, rfl, hb, hr, hle, hm, hs, ?_⟩⟩
  refine cellsC_eq cs _ (by rw [List.length_take, Array.length_toList, hs, hn]; omega) (fun p hp => ?_)
  rw [hf p (by omega)]
  have := ha p (by omega)
  have key : ∀ (j : Nat) (v : Value), j < n * 4 → C[j]? = some v → (C.toList.take (n * 4))[j]? = some v := by
    intro j v hj h
    rw [List.getElem?_take, if_pos hj]
    simpa using h
  exact ⟨key _ _ (by omega) this.1, key _ _ (by omega) this.2.1, key _ _ (by omega) this.2.2.1, key _ _ (by omega) this.2.2.2⟩
/-- what the loop has turned -/
def revTo (f : Nat → CI) (n t : Nat) (p : Nat) : CI := if p < t ∨ n ≤ p + t then f (n - 1 - p) else f p
theorem rev_step (f : Nat → CI) (n t : Nat) (h : t + t + 1 < n) (p : Nat) (hp : p < n) :
    (if p = n - 1 - t then revTo f n t t else if p = t then revTo f n t (n - 1 - t) else revTo f n t p) = revTo f n (t + 1) p := by
  unfold revTo
  by_cases h1 : p = n - 1 - t
  · subst h1
    rw [if_pos rfl, if_neg (by omega), if_pos (by omega)]
    congr 1
    omega
  · rw [if_neg h1]
    by_cases h2 : p = t
    · subst h2
      rw [if_pos rfl, if_neg (by omega), if_pos (by omega)]
    · rw [if_neg h2]
      by_cases h3 : p < t ∨ n ≤ p + t
      · rw [if_pos h3, if_pos (by omega)]
      · rw [if_neg h3, if_neg (by omega)]
theorem AtC.congr {C : Array Value} {n : Nat} {f g : Nat → CI} (h : AtC C n f) (e : ∀ p, p < n → f p = g p) : AtC C n g := fun p hp => by rw [← e p hp]; exact h p hp
theorem revTo_end (f : Nat → CI) (n t : Nat) (h : n ≤ t + t + 1) (p : Nat) (hp : p < n) : revTo f n t p = f (n - 1 - p) := by
  unfold revTo
  by_cases h1 : p < t ∨ n ≤ p + t
  · rw [if_pos h1]
  · rw [if_neg h1]
    congr 1
    omega
theorem OwnC.swap {w u : World} {base g n c : Nat} {f : Nat → CI} {t : Nat} (ho : OwnC u base g n c (revTo f n t)) (hb : Below base w u) (h : t + t + 1 < n) :
    let u1 := ((((u.setCell ⟨g, t * 4, none⟩ (.bool (revTo f n t (n - 1 - t)).put)).setCell ⟨g, t * 4 + 1, none⟩ (.int .i64 (revTo f n t (n - 1 - t)).at_)).setCell ⟨g, t * 4 + 2, none⟩ (revTo f n t (n - 1 - t)).r.x.v).setCell ⟨g, t * 4 + 3, none⟩ (revTo f n t (n - 1 - t)).r.y.v)
    let u2 := ((((u1.setCell ⟨g, (n - 1 - t) * 4, none⟩ (.bool (revTo f n t t).put)).setCell ⟨g, (n - 1 - t) * 4 + 1, none⟩ (.int .i64 (revTo f n t t).at_)).setCell ⟨g, (n - 1 - t) * 4 + 2, none⟩ (revTo f n t t).r.x.v).setCell ⟨g, (n - 1 - t) * 4 + 3, none⟩ (revTo f n t t).r.y.v)
    OwnC u2.drew base g n c (revTo f n (t + 1)) ∧ Below base w u2.drew := by
  intro u1 u2
  obtain ⟨⟨C, hr, hs, ha⟩, hbg, hle, hm⟩ := ho
  have r1 := row_set4 hr t (revTo f n t (n - 1 - t))
  have r2 := row_set4 r1 (n - 1 - t) (revTo f n t t)
  have a1 := set4_at ha (p := t) (by omega) (revTo f n t (n - 1 - t))
  have a2 := set4_at a1 (p := n - 1 - t) (by omega) (revTo f n t t)
  have b0 := set4_below (set4_below hb hbg t (revTo f n t (n - 1 - t))) hbg (n - 1 - t) (revTo f n t t)
  refine ⟨⟨⟨_, r2.below (drewn (same _)), by rw [set4_size, set4_size, hs], a2.congr (fun p hp => rev_step f n t h p hp)⟩, hbg, hle, hm⟩, ?_⟩
  exact b0.trans ((drewn (same _)).mono (by have := r2.lt; omega))
set_option maxRecDepth 100000 in
set_option maxHeartbeats 3200000 in
theorem reverse_walk (g n c base : Nat) (f : Nat → CI) (hn2 : n ≤ 1000) (w : World) (ho : OwnC w base g n c f) :
    Calls Try.prog 52 #[.slice (some ⟨g, 0, none⟩) n c] w fun e w' => e = .returned (.tuple #[]) ∧ OwnC w' base g n c (fun p => f (n - 1 - p)) ∧ Below base w w' := by
  have H := Ytobdfocfkomagaa.base.Shut.mk ho
  clear ho
  go_enter Try.func52, Try.ntmps52
  go_wp2
  go_loopw [2, 3] (fun i j wr => ∃ t : Nat, t ≤ n ∧ i = .int .i64 t ∧ j = .int .i64 ((n : Int) - 1 - (t : Int)) ∧ Ytobdfocfkomagaa.base.Shut (OwnC wr base g n c (revTo f n t) ∧ Below base w wr)) (fun i _ _ => n - (intOf i).toNat)
  case atStart =>
    refine ⟨0, Nat.zero_le _, rfl, ?_, ⟨?_, ?_⟩⟩
    · go_num
    · obtain ⟨⟨C, hr, hs, ha⟩, hbg, hle, hm⟩ := H.out
      refine ⟨⟨C, hr, hs, ha.congr (fun p hp => ?_)⟩, hbg, hle, hm⟩
      unfold revTo
      rw [if_neg (by omega)]
    · exact same w |>.mono (by obtain ⟨⟨C, hr, hs, ha⟩, hbg, hle, hm⟩ := H.out; have := hr.lt; omega)
  case round =>
    obtain ⟨t, ht, rfl, rfl, HR⟩ := hrel
    by_cases hlt : t + t + 1 < n
    · obtain ⟨s, hs⟩ : ∃ s, n - 1 - t = s := ⟨_, rfl⟩
      rw [show (n : Int) - 1 - (t : Int) = (s : Int) by omega]
      have hst : (t : Int) < s := by omega
      have hsn : s < n := by omega
      have htn : t < n := by omega
      have hq := HR.out.1.swap HR.out.2 hlt
      rw [hs] at hq
      have HQ := Ytobdfocfkomagaa.base.Shut.mk hq
      clear hq
      obtain ⟨C, hr, hsz, ha⟩ := HR.out.1.row
      obtain ⟨i0, i1, i2, i3⟩ := ha t htn
      obtain ⟨j0, j1, j2, j3⟩ := ha s hsn
      have hsz' : (t : Nat) * 4 + 3 < C.size ∧ s * 4 + 3 < C.size := ⟨(Array.getElem?_eq_some_iff.1 i3).1, (Array.getElem?_eq_some_iff.1 j3).1⟩
      replace hr : Row wr g C 79 := hr
      have c0 := hr.at_ i0
      have c1 := hr.at_ i1
      have c2 := hr.at_ i2
      have c3 := hr.at_ i3
      have d0 := hr.at_ j0
      have d1 := hr.at_ j1
      have d2 := hr.at_ j2
      have d3 := hr.at_ j3
      have f0 := hr.frozen (t * 4)
      have f1 := hr.frozen (t * 4 + 1)
      have f2 := hr.frozen (t * 4 + 2)
      have f3 := hr.frozen (t * 4 + 3)
      have f4 := hr.frozen (s * 4)
      have f5 := hr.frozen (s * 4 + 1)
      have f6 := hr.frozen (s * 4 + 2)
      have f7 := hr.frozen (s * 4 + 3)
      clear hr hsz hsz' ha i0 i1 i2 i3 j0 j1 j2 j3
      generalize revTo f n t t = C1 at HQ c0 c1 c2 c3
      generalize revTo f n t s = C2 at HQ d0 d1 d2 d3
      go_wp2
      go_big_region
      go_wp2
      go_roundw
      case rel => exact ⟨t + 1, by omega, by go_num, by rw [show ((s : Nat) : Int) - 1 = (n : Int) - 1 - ((t + 1 : Nat) : Int) by omega], ⟨HQ.out.1, HQ.out.2⟩⟩
      case measure => simp [intOf]; omega
    · have hend : ¬ ((t : Int) < (n : Int) - 1 - (t : Int)) := by omega
      go_wp2
      refine bodyPost_end (results_none rfl _ _ _) rfl ?_
      refine ⟨rfl, ?_, HR.out.2⟩
      obtain ⟨⟨C, hr, hs, ha⟩, hbg, hle, hm⟩ := HR.out.1
      exact ⟨⟨C, hr, hs, ha.congr (fun p hp => revTo_end f n t (by omega) p hp)⟩, hbg, hle, hm⟩
end Go.Proofs.Ytobdfocfkomagaa.rev
