/- Values and columns: where they lie, what they are; and whether two orders are the same. -/
import Derived.Test.YtobdfocfkomagaaRevBase
namespace Go.Proofs.Ytobdfocfkomagaa.rev
open Go.ChangeShapes Go.WideShapes Go.ChangeAt Go.RowKit
open Ytobdfocfkomagaa.base (size_mk chain newer drewn same ba_ext)
open Ytobdfocfkomagaa.oct (ne_str)
open Ytobdfocfkomagaa.row2 (Row CReads)

/-- a value -/
structure VI where
  k : Int
  n : Int
  s : ByteArray
theorem VI.ext' {x y : VI} (hk : x.k = y.k) (hn : x.n = y.n) (hs : x.s = y.s) : x = y := by cases x; cases y; simp_all
instance : DecidableEq VI := fun x y =>
  if hk : x.k = y.k then if hn : x.n = y.n then if hs : x.s = y.s then .isTrue (VI.ext' hk hn hs) else .isFalse (fun e => hs (by rw [e])) else .isFalse (fun e => hn (by rw [e])) else .isFalse (fun e => hk (by rw [e]))
def cellsV (l : List VI) : List Value := l.flatMap (fun x => [.int .i64 x.k, .int .i64 x.n, .string x.s])
theorem cellsV_len (l : List VI) : (cellsV l).length = l.length * 3 := by
  induction l with
  | nil => rfl
  | cons x r ih => unfold cellsV at *; rw [List.flatMap_cons, List.length_append, ih]; show 3 + r.length * 3 = (r.length + 1) * 3; omega
theorem cellsV_get (l : List VI) (i : Nat) (x : VI) (h : l[i]? = some x) : (cellsV l)[i * 3]? = some (.int .i64 x.k) ∧ (cellsV l)[i * 3 + 1]? = some (.int .i64 x.n) ∧ (cellsV l)[i * 3 + 2]? = some (.string x.s) := by
  induction l generalizing i with
  | nil => simp at h
  | cons y t ih =>
    have e : cellsV (y :: t) = .int .i64 y.k :: .int .i64 y.n :: .string y.s :: cellsV t := rfl
    rw [e]
    cases i with
    | zero => obtain rfl : y = x := by simpa using h
              exact ⟨rfl, rfl, rfl⟩
    | succ i => rw [show (i + 1) * 3 = i * 3 + 1 + 1 + 1 by omega]; exact ih i (by simpa using h)
/-- an order, and where it lies -/
structure OI where
  A : Option Addr
  c : Nat
  l : List VI
def OI.v (o : OI) : Value := .slice o.A o.l.length o.c
theorem oi_one (s : OI) : s.v.oneCell' = true := rfl
theorem oi_cells (s : OI) : s.v.cells = #[s.v] := rfl
theorem run_store_oi {P : Program} {w : World} {a : Addr} {m : Mode} (s : OI) : (store a s.v m).run P w = stored P w a s.v m := run_store P w a _ m rfl
structure OOk (w : World) (o : OI) : Prop where
  cells : CReads w o.A (cellsV o.l)
  len : o.l.length ≤ maxLen
theorem OOk.keep {w w' : World} {o : OI} (h : OOk w o) (hb : Below w.heap.size w w') : OOk w' o := ⟨h.cells.keep hb, h.len⟩
theorem vreads_at {w : World} {A : Option Addr} {l : List VI} (h : CReads w A (cellsV l)) {i : Nat} {x : VI} (hi : l[i]? = some x) : ∃ b off, A = some ⟨b, off, none⟩ ∧ w.cell? ⟨b, off + i * 3, none⟩ = some (.int .i64 x.k) ∧ w.cell? ⟨b, off + i * 3 + 1, none⟩ = some (.int .i64 x.n) ∧ w.cell? ⟨b, off + i * 3 + 2, none⟩ = some (.string x.s) := by
  have hg := cellsV_get l i x hi
  obtain ⟨b, off, hA, hlt, hc⟩ := h (by intro e; rw [e] at hg; simp at hg)
  exact ⟨b, off, hA, hc _ _ hg.1, by rw [Nat.add_assoc]; exact hc _ _ hg.2.1, by rw [Nat.add_assoc]; exact hc _ _ hg.2.2⟩
theorem take_moreV {ss tt : List VI} {k : Nat} (h : ss.take k = tt.take k) (h1 : k < ss.length) (h2 : k < tt.length) (he : ss[k] = tt[k]) : ss.take (k + 1) = tt.take (k + 1) := by
  rw [List.take_succ_eq_append_getElem h1, List.take_succ_eq_append_getElem h2, h, he]
theorem eq_of_takeV {ss tt : List VI} {k : Nat} (h : ss.take k = tt.take k) (h1 : ss.length ≤ k) (h2 : tt.length ≤ k) : ss = tt := by
  rwa [List.take_of_length_le h1, List.take_of_length_le h2] at h
theorem beq_int_false {a b : Int} (h : a ≠ b) : (a == b) = false := by simpa using h
set_option maxRecDepth 100000 in
set_option maxHeartbeats 800000 in
theorem equalV_walk (a b : OI) (w : World) (ha : OOk w a) (hb : OOk w b) :
    Calls Try.prog 104 #[a.v, b.v] w fun e w' => e = .returned (.bool (decide (a.l = b.l))) ∧ Below w.heap.size w w' := by
  obtain ⟨A, c, ss⟩ := a
  obtain ⟨A', c', tt⟩ := b
  obtain ⟨hr, hs⟩ := ha
  obtain ⟨hr', ht⟩ := hb
  simp only at hr hs hr' ht ⊢
  show Calls Try.prog 104 #[.slice A ss.length c, .slice A' tt.length c'] w _
  by_cases hl : ss.length = tt.length
  · obtain ⟨n, hn⟩ : ∃ n, ss.length = n := ⟨_, rfl⟩
    have hn' : tt.length = n := by omega
    rw [hn, hn']
    have hs63 : n ≤ 9223372036854775807 := by unfold maxLen at hs; omega
    have H := Ytobdfocfkomagaa.base.Shut.mk (And.intro hr (And.intro hr' (And.intro hn hn')))
    clear hr hr' hn hn' hs ht hl
    go_enter Try.func104, Try.ntmps104
    go_wp2
    go_loopw [13] (fun i wr => ∃ k : Nat, i = .int .i64 k ∧ k ≤ n ∧ Ytobdfocfkomagaa.base.Shut (ss.take k = tt.take k ∧ Below w.heap.size w wr)) (fun i _ => n - (intOf i).toNat)
    case atStart => exact ⟨0, rfl, Nat.zero_le _, ⟨rfl, same w⟩⟩
    case round =>
      obtain ⟨k, rfl, hk, HI⟩ := hrel
      by_cases hlt : k < n
      · have hlt1 : k < ss.length := by rw [H.out.2.2.1]; exact hlt
        have hlt2 : k < tt.length := by rw [H.out.2.2.2]; exact hlt
        obtain ⟨b, off, rfl, c0, c1, c2⟩ := vreads_at (H.out.1.keep HI.out.2) (List.getElem?_eq_getElem hlt1)
        obtain ⟨b', off', rfl, d0, d1, d2⟩ := vreads_at (H.out.2.1.keep HI.out.2) (List.getElem?_eq_getElem hlt2)
        have k1 : (k : Int) < n := by omega
        by_cases he : ss[k] = tt[k]
        · have HG := Ytobdfocfkomagaa.base.Shut.mk (take_moreV HI.out.1 hlt1 hlt2 he)
          rw [← he] at d0 d1 d2
          generalize ss[k] = x at c0 c1 c2 d0 d1 d2
          clear he
          go_wp2
          go_big_region
          go_wp2
          go_roundw
          case rel => exact ⟨k + 1, by go_num, by omega, ⟨HG.out, HI.out.2.drew⟩⟩
          case measure => simp [intOf]; omega
        · have HE := Ytobdfocfkomagaa.base.Shut.mk (show ss ≠ tt from by intro h; subst h; exact he rfl)
          generalize ss[k] = x at c0 c1 c2 he
          generalize tt[k] = y at d0 d1 d2 he
          obtain ⟨xk, xn, xs⟩ := x
          obtain ⟨yk, yn, ys⟩ := y
          simp only at c0 c1 c2 d0 d1 d2
          by_cases h1 : xk = yk
          · subst h1
            by_cases h2 : xn = yn
            · subst h2
              have e1 := ne_str (fun h3 : xs = ys => he (by rw [h3]))
              clear he
              go_wp2
              go_big_region
              go_wp2
              go_ret
              exact ⟨by rw [decide_eq_false HE.out]; rfl, HI.out.2.drew⟩
            · have e1 := beq_int_false h2
              clear he
              go_wp2
              go_big_region
              go_wp2
              go_ret
              exact ⟨by rw [decide_eq_false HE.out]; rfl, HI.out.2.drew⟩
          · have e1 := beq_int_false h1
            clear he
            go_wp2
            go_big_region
            go_wp2
            go_ret
            exact ⟨by rw [decide_eq_false HE.out]; rfl, HI.out.2.drew⟩
      · obtain rfl : k = n := by omega
        have HT := Ytobdfocfkomagaa.base.Shut.mk (eq_of_takeV HI.out.1 (by rw [H.out.2.2.1]; exact Nat.le_refl _) (by rw [H.out.2.2.2]; exact Nat.le_refl _))
        go_wp2
        go_ret
        exact ⟨by rw [decide_eq_true HT.out]; rfl, HI.out.2⟩
  · have hne : ss ≠ tt := fun e => hl (by rw [e])
    rw [decide_eq_false hne]
    obtain ⟨n, hn⟩ : ∃ n, ss.length = n := ⟨_, rfl⟩
    obtain ⟨m, hm⟩ : ∃ m, tt.length = m := ⟨_, rfl⟩
    rw [hn, hm] at hl ⊢
    have hnm : ¬ (n : Int) = m := by omega
    clear hr hr' hs ht hne hn hm hl
    go_enter Try.func104, Try.ntmps104
    go_wp2
    go_ret
    exact ⟨rfl, same w⟩
set_option maxRecDepth 100000 in
set_option maxHeartbeats 800000 in
theorem rsameRow_walk (a b : OI) (w : World) (ha : OOk w a) (hb : OOk w b) :
    Calls Try.prog 79 #[a.v, b.v] w fun e w' => e = .returned (.bool (decide (a.l = b.l))) ∧ Below w.heap.size w w' := by
  obtain ⟨A, c, ss⟩ := a
  obtain ⟨A', c', tt⟩ := b
  obtain ⟨hr, hs⟩ := ha
  obtain ⟨hr', ht⟩ := hb
  simp only at hr hs hr' ht ⊢
  show Calls Try.prog 79 #[.slice A ss.length c, .slice A' tt.length c'] w _
  by_cases hl : ss.length = tt.length
  · obtain ⟨n, hn⟩ : ∃ n, ss.length = n := ⟨_, rfl⟩
    have hn' : tt.length = n := by omega
    rw [hn, hn']
    have hs63 : n ≤ 9223372036854775807 := by unfold maxLen at hs; omega
    have H := Ytobdfocfkomagaa.base.Shut.mk (And.intro hr (And.intro hr' (And.intro hn hn')))
    clear hr hr' hn hn' hs ht hl
    go_enter Try.func79, Try.ntmps79
    go_wp2
    go_loopw [5] (fun i wr => ∃ k : Nat, i = .int .i64 k ∧ k ≤ n ∧ Ytobdfocfkomagaa.base.Shut (ss.take k = tt.take k ∧ Below w.heap.size w wr)) (fun i _ => n - (intOf i).toNat)
    case atStart => exact ⟨0, rfl, Nat.zero_le _, ⟨rfl, same w⟩⟩
    case round =>
      obtain ⟨k, rfl, hk, HI⟩ := hrel
      by_cases hlt : k < n
      · have hlt1 : k < ss.length := by rw [H.out.2.2.1]; exact hlt
        have hlt2 : k < tt.length := by rw [H.out.2.2.2]; exact hlt
        obtain ⟨b, off, rfl, c0, c1, c2⟩ := vreads_at (H.out.1.keep HI.out.2) (List.getElem?_eq_getElem hlt1)
        obtain ⟨b', off', rfl, d0, d1, d2⟩ := vreads_at (H.out.2.1.keep HI.out.2) (List.getElem?_eq_getElem hlt2)
        have k1 : (k : Int) < n := by omega
        by_cases he : ss[k] = tt[k]
        · have HG := Ytobdfocfkomagaa.base.Shut.mk (take_moreV HI.out.1 hlt1 hlt2 he)
          rw [← he] at d0 d1 d2
          generalize ss[k] = x at c0 c1 c2 d0 d1 d2
          clear he
          go_wp2
          go_big_region
          go_wp2
          go_roundw
          case rel => exact ⟨k + 1, by go_num, by omega, ⟨HG.out, HI.out.2.drew⟩⟩
          case measure => simp [intOf]; omega
        · have HE := Ytobdfocfkomagaa.base.Shut.mk (show ss ≠ tt from by intro h; subst h; exact he rfl)
          generalize ss[k] = x at c0 c1 c2 he
          generalize tt[k] = y at d0 d1 d2 he
          obtain ⟨xk, xn, xs⟩ := x
          obtain ⟨yk, yn, ys⟩ := y
          simp only at c0 c1 c2 d0 d1 d2
          by_cases h1 : xk = yk
          · subst h1
            by_cases h2 : xn = yn
            · subst h2
              have e1 := ne_str (fun h3 : xs = ys => he (by rw [h3]))
              clear he
              go_wp2
              go_big_region
              go_wp2
              go_ret
              exact ⟨by rw [decide_eq_false HE.out]; rfl, HI.out.2.drew⟩
            · have e1 := beq_int_false h2
              clear he
              go_wp2
              go_big_region
              go_wp2
              go_ret
              exact ⟨by rw [decide_eq_false HE.out]; rfl, HI.out.2.drew⟩
          · have e1 := beq_int_false h1
            clear he
            go_wp2
            go_big_region
            go_wp2
            go_ret
            exact ⟨by rw [decide_eq_false HE.out]; rfl, HI.out.2.drew⟩
      · obtain rfl : k = n := by omega
        have HT := Ytobdfocfkomagaa.base.Shut.mk (eq_of_takeV HI.out.1 (by rw [H.out.2.2.1]; exact Nat.le_refl _) (by rw [H.out.2.2.2]; exact Nat.le_refl _))
        go_wp2
        go_ret
        exact ⟨by rw [decide_eq_true HT.out]; rfl, HI.out.2⟩
  · have hne : ss ≠ tt := fun e => hl (by rw [e])
    rw [decide_eq_false hne]
    obtain ⟨n, hn⟩ : ∃ n, ss.length = n := ⟨_, rfl⟩
    obtain ⟨m, hm⟩ : ∃ m, tt.length = m := ⟨_, rfl⟩
    rw [hn, hm] at hl ⊢
    have hnm : ¬ (n : Int) = m := by omega
    clear hr hr' hs ht hne hn hm hl
    go_enter Try.func79, Try.ntmps79
    go_wp2
    go_ret
    exact ⟨rfl, same w⟩
end Go.Proofs.Ytobdfocfkomagaa.rev
