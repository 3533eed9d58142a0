/- Rules: where they lie, what they are; and whether two are the same. -/
import Derived.Test.YtobdfocfkomagaaOctSame
import Derived.Test.YtobdfocfkomagaaRow2
import Derived.BigRegion
namespace Go.Proofs.Ytobdfocfkomagaa.rev
open Go.ChangeShapes Go.WideShapes Go.ChangeAt Go.RowKit
open Ytobdfocfkomagaa.base (size_mk chain newer drewn same ba_ext)
open Ytobdfocfkomagaa.oct (Reads strs take_more eq_of_take ne_str)
open Ytobdfocfkomagaa.row2 (Row)

/-- a list of texts, and where it lies -/
structure SI where
  A : Option Addr
  c : Nat
  l : List ByteArray
def SI.v (s : SI) : Value := .slice s.A s.l.length s.c
theorem si_one (s : SI) : s.v.oneCell' = true := rfl
theorem si_cells (s : SI) : s.v.cells = #[s.v] := rfl
theorem run_store_si {P : Program} {w : World} {a : Addr} {m : Mode} (s : SI) : (store a s.v m).run P w = stored P w a s.v m := run_store P w a _ m rfl
structure SOk (w : World) (s : SI) : Prop where
  reads : Reads w s.A s.l
  len : s.l.length ≤ maxLen
theorem SOk.keep {w w' : World} {s : SI} (h : SOk w s) (hb : Below w.heap.size w w') : SOk w' s := ⟨h.reads.keep hb, h.len⟩
/-- a rule -/
structure RI where
  x : SI
  y : SI
def RI.v (r : RI) : Value := .agg #[r.x.v, r.y.v]
structure ROk (w : World) (r : RI) : Prop where
  x : SOk w r.x
  y : SOk w r.y
theorem ROk.keep {w w' : World} {r : RI} (h : ROk w r) (hb : Below w.heap.size w w') : ROk w' r := ⟨h.x.keep hb, h.y.keep hb⟩
def sameR (r s : RI) : Bool := decide (r.x.l = s.x.l) && decide (r.y.l = s.y.l)
set_option maxRecDepth 100000 in
set_option maxHeartbeats 800000 in
theorem equal_walk (a b : SI) (w : World) (ha : SOk w a) (hb : SOk w b) :
    Calls Try.prog 81 #[a.v, b.v] w fun e w' => e = .returned (.bool (decide (a.l = b.l))) ∧ Below w.heap.size w w' := by
  obtain ⟨A, c, ss⟩ := a
  obtain ⟨A', c', tt⟩ := b
  obtain ⟨hr, hs⟩ := ha
  obtain ⟨hr', ht⟩ := hb
  simp only at hr hs hr' ht ⊢
  show Calls Try.prog 81 #[.slice A ss.length c, .slice A' tt.length c'] w _
  by_cases hl : ss.length = tt.length
  · obtain ⟨n, hn⟩ : ∃ n, ss.length = n := ⟨_, rfl⟩
    have hn' : tt.length = n := by omega
    rw [hn, hn']
    have hs63 : n ≤ 9223372036854775807 := by unfold maxLen at hs; omega
    have H := Ytobdfocfkomagaa.base.Shut.mk (And.intro hr (And.intro hr' (And.intro hn hn')))
    clear hr hr' hn hn' hs ht hl
    go_enter Try.func81, Try.ntmps81
    go_wp2
    go_loopw [13] (fun i wr => ∃ k : Nat, i = .int .i64 k ∧ k ≤ n ∧ Ytobdfocfkomagaa.base.Shut (ss.take k = tt.take k ∧ Below w.heap.size w wr)) (fun i _ => n - (intOf i).toNat)
    case atStart => exact ⟨0, rfl, Nat.zero_le _, ⟨rfl, same w⟩⟩
    case round =>
      obtain ⟨k, rfl, hk, HI⟩ := hrel
      by_cases hlt : k < n
      · have hlt1 : k < ss.length := by rw [H.out.2.2.1]; exact hlt
        have hlt2 : k < tt.length := by rw [H.out.2.2.2]; exact hlt
        obtain ⟨b, off, rfl, _, hc⟩ := H.out.1.keep HI.out.2 (by intro e; rw [e] at hlt1; simp at hlt1)
        obtain ⟨b', off', rfl, _, hc'⟩ := H.out.2.1.keep HI.out.2 (by intro e; rw [e] at hlt2; simp at hlt2)
        have c1 := hc k ss[k] (List.getElem?_eq_getElem hlt1)
        have c2 := hc' k tt[k] (List.getElem?_eq_getElem hlt2)
        have k1 : (k : Int) < n := by omega
        clear hc hc'
        by_cases he : ss[k] = tt[k]
        · have HG := Ytobdfocfkomagaa.base.Shut.mk (take_more HI.out.1 hlt1 hlt2 he)
          rw [← he] at c2
          generalize ss[k] = x at c1 c2
          clear he
          go_wp2
          go_big_region
          go_wp2
          go_roundw
          case rel => exact ⟨k + 1, by go_num, by omega, ⟨HG.out, HI.out.2.drew⟩⟩
          case measure => simp [intOf]; omega
        · have HE := Ytobdfocfkomagaa.base.Shut.mk (show ss ≠ tt from by intro h; subst h; exact he rfl)
          have e1 := ne_str he
          generalize ss[k] = x at c1 e1 he
          generalize tt[k] = y at c2 e1 he
          clear he
          go_wp2
          go_big_region
          go_wp2
          go_ret
          exact ⟨by rw [decide_eq_false HE.out]; rfl, HI.out.2.drew⟩
      · obtain rfl : k = n := by omega
        have HT := Ytobdfocfkomagaa.base.Shut.mk (eq_of_take HI.out.1 (by rw [H.out.2.2.1]; exact Nat.le_refl _) (by rw [H.out.2.2.2]; exact Nat.le_refl _))
        go_wp2
        go_ret
        exact ⟨by rw [decide_eq_true HT.out]; rfl, HI.out.2⟩
  · have hne : ss ≠ tt := fun e => hl (by rw [e])
    rw [decide_eq_false hne]
    obtain ⟨n, hn⟩ : ∃ n, ss.length = n := ⟨_, rfl⟩
    obtain ⟨m, hm⟩ : ∃ m, tt.length = m := ⟨_, rfl⟩
    rw [hn, hm] at hl ⊢
    have hnm : ¬ (n : Int) = m := by omega
    clear hr hr' hs ht hne hn hm hl
    go_enter Try.func81, Try.ntmps81
    go_wp2
    go_ret
    exact ⟨rfl, same w⟩
theorem requal_walk (a b : SI) (w : World) (ha : SOk w a) (hb : SOk w b) :
    Calls Try.prog 53 #[a.v, b.v] w fun e w' => e = .returned (.bool (decide (a.l = b.l))) ∧ Below w.heap.size w w' :=
  Ytobdfocfkomagaa.oct.same_walk a.A b.A a.c b.c a.l b.l w ha.len hb.len ha.reads hb.reads
set_option maxRecDepth 100000 in
set_option maxHeartbeats 800000 in
theorem same_walk (r s : RI) (w : World) (hr : ROk w r) (hs : ROk w s) :
    Calls Try.prog 58 #[r.v, s.v] w fun e w' => e = .returned (.bool (sameR r s)) ∧ Below w.heap.size w w' := by
  have h1 := newer (same w) (.cells #[r.x.v, r.y.v] 77)
  have h2 := newer h1 (.cells #[s.x.v, s.y.v] 77)
  have e1 := fun (u : World) (hu : Below w.heap.size w u) => equal_walk r.x s.x u (hr.x.keep hu) (hs.x.keep hu)
  have e2 := fun (u : World) (hu : Below w.heap.size w u) => equal_walk r.y s.y u (hr.y.keep hu) (hs.y.keep hu)
  have rA := (Row.new w #[r.x.v, r.y.v] 77).below (newer (same (w.alloc (.cells #[r.x.v, r.y.v] 77))) (.cells #[s.x.v, s.y.v] 77))
  have rB := Row.new (w.alloc (.cells #[r.x.v, r.y.v] 77)) #[s.x.v, s.y.v] 77
  rw [World.size_alloc] at rB
  obtain ⟨V, hV⟩ : ∃ V, (w.alloc (.cells #[r.x.v, r.y.v] 77)).alloc (.cells #[s.x.v, s.y.v] 77) = V := ⟨_, rfl⟩
  rw [hV] at h2 rA rB
  obtain ⟨q, hq⟩ : ∃ q, w.heap.size = q := ⟨_, rfl⟩
  rw [hq] at rA rB
  have hdef : sameR r s = (decide (r.x.l = s.x.l) && decide (r.y.l = s.y.l)) := rfl
  obtain ⟨p1, hp1⟩ : ∃ p1, decide (r.x.l = s.x.l) = p1 := ⟨_, rfl⟩
  obtain ⟨p2, hp2⟩ : ∃ p2, decide (r.y.l = s.y.l) = p2 := ⟨_, rfl⟩
  rw [hp1] at e1 hdef
  rw [hp2] at e2 hdef
  have hv1 : r.v = .agg #[r.x.v, r.y.v] := rfl
  have hv2 : s.v = .agg #[s.x.v, s.y.v] := rfl
  have o1 : r.x.v.oneCell' = true := rfl
  have o2 : r.y.v.oneCell' = true := rfl
  have o3 : s.x.v.oneCell' = true := rfl
  have o4 : s.y.v.oneCell' = true := rfl
  have c1 : r.x.v.cells = #[r.x.v] := rfl
  have c2 : r.y.v.cells = #[r.y.v] := rfl
  have c3 : s.x.v.cells = #[s.x.v] := rfl
  have c4 : s.y.v.cells = #[s.y.v] := rfl
  rw [hv1, hv2]
  generalize r.x.v = a1 at *
  generalize r.y.v = a2 at *
  generalize s.x.v = b1 at *
  generalize s.y.v = b2 at *
  have H := Ytobdfocfkomagaa.base.Shut.mk (And.intro e1 (And.intro e2 (And.intro h2 (And.intro rA (And.intro rB hdef)))))
  have x0 := rA.cell 0
  have x1 := rA.cell 1
  have y0 := rB.cell 0
  have y1 := rB.cell 1
  clear e1 e2 h1 h2 rA rB hdef hp1 hp2 hv1 hv2 hr hs
  cases p1 with
  | false =>
    go_enter Try.func58, Try.ntmps58
    go_wp2_with fail
    refine (H.out.1 _ H.out.2.2.1).mono ?_
    rintro e w1 ⟨rfl, hb1⟩
    have H1 := Ytobdfocfkomagaa.base.Shut.mk (chain H.out.2.2.1 hb1)
    clear hb1
    go_wp2
    go_ret
    exact ⟨by rw [H.out.2.2.2.2.2]; rfl, H1.out⟩
  | true =>
    go_enter Try.func58, Try.ntmps58
    go_wp2_with fail
    refine (H.out.1 _ H.out.2.2.1).mono ?_
    rintro e w1 ⟨rfl, hb1⟩
    have H1 := Ytobdfocfkomagaa.base.Shut.mk (chain H.out.2.2.1 hb1)
    have z1 := (H.out.2.2.2.1.below hb1).cell 1
    have z3 := (H.out.2.2.2.2.1.below hb1).cell 1
    clear hb1 x0 x1 y0 y1
    go_wp2_with fail
    refine (H.out.2.1 _ H1.out).mono ?_
    rintro e w2 ⟨rfl, hb2⟩
    have H2 := Ytobdfocfkomagaa.base.Shut.mk (chain H1.out hb2)
    clear hb2 z1 z3
    go_wp2
    go_ret
    exact ⟨by rw [H.out.2.2.2.2.2]; rfl, H2.out⟩
set_option maxRecDepth 100000 in
set_option maxHeartbeats 800000 in
theorem rsame_walk (r s : RI) (w : World) (hr : ROk w r) (hs : ROk w s) :
    Calls Try.prog 55 #[r.v, s.v] w fun e w' => e = .returned (.bool (sameR r s)) ∧ Below w.heap.size w w' := by
  have h1 := newer (same w) (.cells #[r.x.v, r.y.v] 77)
  have h2 := newer h1 (.cells #[s.x.v, s.y.v] 77)
  have e1 := fun (u : World) (hu : Below w.heap.size w u) => requal_walk r.x s.x u (hr.x.keep hu) (hs.x.keep hu)
  have e2 := fun (u : World) (hu : Below w.heap.size w u) => requal_walk r.y s.y u (hr.y.keep hu) (hs.y.keep hu)
  have rA := (Row.new w #[r.x.v, r.y.v] 77).below (newer (same (w.alloc (.cells #[r.x.v, r.y.v] 77))) (.cells #[s.x.v, s.y.v] 77))
  have rB := Row.new (w.alloc (.cells #[r.x.v, r.y.v] 77)) #[s.x.v, s.y.v] 77
  rw [World.size_alloc] at rB
  obtain ⟨V, hV⟩ : ∃ V, (w.alloc (.cells #[r.x.v, r.y.v] 77)).alloc (.cells #[s.x.v, s.y.v] 77) = V := ⟨_, rfl⟩
  rw [hV] at h2 rA rB
  obtain ⟨q, hq⟩ : ∃ q, w.heap.size = q := ⟨_, rfl⟩
  rw [hq] at rA rB
  have hdef : sameR r s = (decide (r.x.l = s.x.l) && decide (r.y.l = s.y.l)) := rfl
  obtain ⟨p1, hp1⟩ : ∃ p1, decide (r.x.l = s.x.l) = p1 := ⟨_, rfl⟩
  obtain ⟨p2, hp2⟩ : ∃ p2, decide (r.y.l = s.y.l) = p2 := ⟨_, rfl⟩
  rw [hp1] at e1 hdef
  rw [hp2] at e2 hdef
  have hv1 : r.v = .agg #[r.x.v, r.y.v] := rfl
  have hv2 : s.v = .agg #[s.x.v, s.y.v] := rfl
  have o1 : r.x.v.oneCell' = true := rfl
  have o2 : r.y.v.oneCell' = true := rfl
  have o3 : s.x.v.oneCell' = true := rfl
  have o4 : s.y.v.oneCell' = true := rfl
  have c1 : r.x.v.cells = #[r.x.v] := rfl
  have c2 : r.y.v.cells = #[r.y.v] := rfl
  have c3 : s.x.v.cells = #[s.x.v] := rfl
  have c4 : s.y.v.cells = #[s.y.v] := rfl
  rw [hv1, hv2]
  generalize r.x.v = a1 at *
  generalize r.y.v = a2 at *
  generalize s.x.v = b1 at *
  generalize s.y.v = b2 at *
  have H := Ytobdfocfkomagaa.base.Shut.mk (And.intro e1 (And.intro e2 (And.intro h2 (And.intro rA (And.intro rB hdef)))))
  have x0 := rA.cell 0
  have x1 := rA.cell 1
  have y0 := rB.cell 0
  have y1 := rB.cell 1
  clear e1 e2 h1 h2 rA rB hdef hp1 hp2 hv1 hv2 hr hs
  cases p1 with
  | false =>
    go_enter Try.func55, Try.ntmps55
    go_wp2_with fail
    refine (H.out.1 _ H.out.2.2.1).mono ?_
    rintro e w1 ⟨rfl, hb1⟩
    have H1 := Ytobdfocfkomagaa.base.Shut.mk (chain H.out.2.2.1 hb1)
    clear hb1
    go_wp2
    go_ret
    exact ⟨by rw [H.out.2.2.2.2.2]; rfl, H1.out⟩
  | true =>
    go_enter Try.func55, Try.ntmps55
    go_wp2_with fail
    refine (H.out.1 _ H.out.2.2.1).mono ?_
    rintro e w1 ⟨rfl, hb1⟩
    have H1 := Ytobdfocfkomagaa.base.Shut.mk (chain H.out.2.2.1 hb1)
    have z1 := (H.out.2.2.2.1.below hb1).cell 1
    have z3 := (H.out.2.2.2.2.1.below hb1).cell 1
    clear hb1 x0 x1 y0 y1
    go_wp2_with fail
    refine (H.out.2.1 _ H1.out).mono ?_
    rintro e w2 ⟨rfl, hb2⟩
    have H2 := Ytobdfocfkomagaa.base.Shut.mk (chain H1.out hb2)
    clear hb2 z1 z3
    go_wp2
    go_ret
    exact ⟨by rw [H.out.2.2.2.2.2]; rfl, H2.out⟩
end Go.Proofs.Ytobdfocfkomagaa.rev
