/- Columns: whether two are the same (dtable). -/
import Derived.Test.YtobdfocfkomagaaRevCol
namespace Go.Proofs.Ytobdfocfkomagaa.rev
open Go.ChangeShapes Go.WideShapes Go.ChangeAt Go.RowKit
open Ytobdfocfkomagaa.base (size_mk chain newer drewn same ba_ext)
open Ytobdfocfkomagaa.oct (ne_str)
open Ytobdfocfkomagaa.row2 (Row CReads)

attribute [local go_sem] oi_one oi_cells run_store_oi
/-- a column -/
structure KI where
  nm : ByteArray
  kd : Int
  o : OI
def KI.v (k : KI) : Value := .agg #[.string k.nm, .int .i64 k.kd, k.o.v]
def sameK (k h : KI) : Bool := decide (k.nm = h.nm) && decide (k.kd = h.kd) && decide (k.o.l = h.o.l)
set_option maxRecDepth 100000 in
set_option maxHeartbeats 800000 in
theorem sameCol_walk (r s : KI) (w : World) (hr : OOk w r.o) (hs : OOk w s.o) :
    Calls Try.prog 94 #[r.v, s.v] w fun e w' => e = .returned (.bool (sameK r s)) ∧ Below w.heap.size w w' := by
  have h1 := newer (same w) (.cells #[.string r.nm, .int .i64 r.kd, r.o.v] 121)
  have h2 := newer h1 (.cells #[.string s.nm, .int .i64 s.kd, s.o.v] 121)
  have e1 := fun (u : World) (hu : Below w.heap.size w u) => equalV_walk r.o s.o u (hr.keep hu) (hs.keep hu)
  have rA := (Row.new w #[.string r.nm, .int .i64 r.kd, r.o.v] 121).below (newer (same (w.alloc (.cells #[.string r.nm, .int .i64 r.kd, r.o.v] 121))) (.cells #[.string s.nm, .int .i64 s.kd, s.o.v] 121))
  have rB := Row.new (w.alloc (.cells #[.string r.nm, .int .i64 r.kd, r.o.v] 121)) #[.string s.nm, .int .i64 s.kd, s.o.v] 121
  rw [World.size_alloc] at rB
  obtain ⟨V, hV⟩ : ∃ V, (w.alloc (.cells #[.string r.nm, .int .i64 r.kd, r.o.v] 121)).alloc (.cells #[.string s.nm, .int .i64 s.kd, s.o.v] 121) = V := ⟨_, rfl⟩
  rw [hV] at h2 rA rB
  obtain ⟨q, hq⟩ : ∃ q, w.heap.size = q := ⟨_, rfl⟩
  rw [hq] at rA rB
  have hdef : sameK r s = (decide (r.nm = s.nm) && decide (r.kd = s.kd) && decide (r.o.l = s.o.l)) := rfl
  have x0 := rA.cell 0
  have x1 := rA.cell 1
  have x2 := rA.cell 2
  have y0 := rB.cell 0
  have y1 := rB.cell 1
  have y2 := rB.cell 2
  have H := Ytobdfocfkomagaa.base.Shut.mk (And.intro (e1 V h2) (And.intro h2 hdef))
  clear h1 h2 rA rB e1 hr hs hdef
  obtain ⟨rn, rk, ro⟩ := r
  obtain ⟨sn, sk, so⟩ := s
  simp only at H x0 x1 x2 y0 y1 y2 hV
  show Calls Try.prog 94 #[.agg #[.string rn, .int .i64 rk, ro.v], .agg #[.string sn, .int .i64 sk, so.v]] w _
  by_cases c1 : rn = sn
  · subst c1
    by_cases c2 : rk = sk
    · subst c2
      go_enter Try.func94, Try.ntmps94
      go_wp2_with fail
      refine H.out.1.mono ?_
      rintro e w1 ⟨rfl, hb1⟩
      have H1 := Ytobdfocfkomagaa.base.Shut.mk (chain H.out.2.1 hb1)
      clear hb1
      go_wp2
      refine bodyPost_ret (results_tmp rfl _ _ _) rfl ?_
      exact ⟨by rw [H.out.2.2]; simp, H1.out⟩
    · have d2 := beq_int_false c2
      have C2 := Ytobdfocfkomagaa.base.Shut.mk c2
      clear c2
      go_enter Try.func94, Try.ntmps94
      go_wp2
      refine bodyPost_ret (results_tmp rfl _ _ _) rfl ?_
      exact ⟨by rw [H.out.2.2, decide_eq_false C2.out]; simp, by first | exact H.out.2.1 | (rw [← hq]; exact H.out.2.1)⟩
  · have d1 := ne_str c1
    have C1 := Ytobdfocfkomagaa.base.Shut.mk c1
    clear c1
    go_enter Try.func94, Try.ntmps94
    go_wp2
    refine bodyPost_ret (results_tmp rfl _ _ _) rfl ?_
    exact ⟨by rw [H.out.2.2, decide_eq_false C1.out]; simp, by first | exact H.out.2.1 | (rw [← hq]; exact H.out.2.1)⟩

def cellsK (l : List KI) : List Value := l.flatMap (fun x => [.string x.nm, .int .i64 x.kd, x.o.v])
theorem cellsK_get (l : List KI) (i : Nat) (x : KI) (h : l[i]? = some x) : (cellsK l)[i * 3]? = some (.string x.nm) ∧ (cellsK l)[i * 3 + 1]? = some (.int .i64 x.kd) ∧ (cellsK l)[i * 3 + 2]? = some x.o.v := by
  induction l generalizing i with
  | nil => simp at h
  | cons y t ih =>
    have e : cellsK (y :: t) = .string y.nm :: .int .i64 y.kd :: y.o.v :: cellsK t := rfl
    rw [e]
    cases i with
    | zero => obtain rfl : y = x := by simpa using h
              exact ⟨rfl, rfl, rfl⟩
    | succ i => rw [show (i + 1) * 3 = i * 3 + 1 + 1 + 1 by omega]; exact ih i (by simpa using h)
/-- a list of columns, and where it lies -/
structure FI where
  A : Option Addr
  c : Nat
  l : List KI
def FI.v (o : FI) : Value := .slice o.A o.l.length o.c
structure FOk (w : World) (o : FI) : Prop where
  cells : CReads w o.A (cellsK o.l)
  len : o.l.length ≤ maxLen
  ok : ∀ k ∈ o.l, OOk w k.o
theorem FOk.keep {w w' : World} {o : FI} (h : FOk w o) (hb : Below w.heap.size w w') : FOk w' o := ⟨h.cells.keep hb, h.len, fun k hk => (h.ok k hk).keep hb⟩
theorem FOk.at_ {w : World} {o : FI} (h : FOk w o) {i : Nat} {x : KI} (hi : o.l[i]? = some x) : ∃ b off, o.A = some ⟨b, off, none⟩ ∧ w.cell? ⟨b, off + i * 3, none⟩ = some (.string x.nm) ∧ w.cell? ⟨b, off + i * 3 + 1, none⟩ = some (.int .i64 x.kd) ∧ w.cell? ⟨b, off + i * 3 + 2, none⟩ = some x.o.v ∧ OOk w x.o := by
  have hg := cellsK_get o.l i x hi
  obtain ⟨b, off, hA, hlt, hc⟩ := h.cells (by intro e; rw [e] at hg; simp at hg)
  exact ⟨b, off, hA, hc _ _ hg.1, by rw [Nat.add_assoc]; exact hc _ _ hg.2.1, by rw [Nat.add_assoc]; exact hc _ _ hg.2.2, h.ok x (List.mem_of_getElem? hi)⟩
/-- two lists of columns say the same -/
def sameF : List KI → List KI → Bool
  | [], [] => true
  | a :: s, b :: t => sameK a b && sameF s t
  | _, _ => false
theorem sameF_len : ∀ (s t : List KI), s.length ≠ t.length → sameF s t = false
  | [], [], h => absurd rfl h
  | [], _ :: _, _ => rfl
  | _ :: _, [], _ => rfl
  | a :: s, b :: t, h => by rw [sameF, sameF_len s t (fun e => h (by simp [e])), Bool.and_false]
theorem sameF_step {s t : List KI} {k : Nat} {x y : KI} (hx : s[k]? = some x) (hy : t[k]? = some y) : sameF (s.drop k) (t.drop k) = (sameK x y && sameF (s.drop (k + 1)) (t.drop (k + 1))) := by
  obtain ⟨h1, rfl⟩ := List.getElem?_eq_some_iff.1 hx
  obtain ⟨h2, rfl⟩ := List.getElem?_eq_some_iff.1 hy
  rw [List.drop_eq_getElem_cons h1, List.drop_eq_getElem_cons h2, sameF]
set_option maxRecDepth 100000 in
set_option maxHeartbeats 1600000 in
theorem equalCols_walk (a b : FI) (w : World) (ha : FOk w a) (hb : FOk w b) :
    Calls Try.prog 93 #[a.v, b.v, .func (.func 94) #[] #[]] w fun e w' => e = .returned (.bool (sameF a.l b.l)) ∧ Below w.heap.size w w' := by
  by_cases hl : a.l.length = b.l.length
  · obtain ⟨n, hn⟩ : ∃ n, a.l.length = n := ⟨_, rfl⟩
    have hn' : b.l.length = n := by omega
    have hs63 : n ≤ 9223372036854775807 := by have := ha.len; unfold maxLen at this; omega
    have H := Ytobdfocfkomagaa.base.Shut.mk (And.intro ha (And.intro hb (And.intro hn hn')))
    show Calls Try.prog 93 #[.slice a.A a.l.length a.c, .slice b.A b.l.length b.c, _] w _
    rw [hn, hn']
    clear ha hb hn hn' hl
    go_enter Try.func93, Try.ntmps93
    go_wp2
    go_loopw [17] (fun i wr => ∃ k : Nat, i = .int .i64 k ∧ k ≤ n ∧ Ytobdfocfkomagaa.base.Shut (sameF a.l b.l = sameF (a.l.drop k) (b.l.drop k) ∧ Below w.heap.size w wr)) (fun i _ => n - (intOf i).toNat)
    case atStart => exact ⟨0, rfl, Nat.zero_le _, ⟨rfl, same w⟩⟩
    case round =>
      obtain ⟨k, rfl, hk, HI⟩ := hrel
      by_cases hlt : k < n
      · obtain ⟨x, hx⟩ : ∃ x, a.l[k]? = some x := ⟨_, List.getElem?_eq_getElem (by rw [H.out.2.2.1]; exact hlt)⟩
        obtain ⟨y, hy⟩ : ∃ y, b.l[k]? = some y := ⟨_, List.getElem?_eq_getElem (by rw [H.out.2.2.2]; exact hlt)⟩
        obtain ⟨p, off, hA, c0, c1, c2, hok⟩ := (H.out.1.keep HI.out.2).at_ hx
        have hn1 := newer (same wr) (.cells #[.string x.nm, .int .i64 x.kd, x.o.v] 121)
        have hn2 := newer hn1 (.cells #[.string y.nm, .int .i64 y.kd, y.o.v] 121)
        obtain ⟨p', off', hB, d0, d1, d2, hok'⟩ := (H.out.2.1.keep (chain HI.out.2 hn1)).at_ hy
        have hs1 := sameCol_walk x y _ (hok.keep hn2) (hok'.keep (newer (same _) (.cells #[.string y.nm, .int .i64 y.kd, y.o.v] 121)))
        have rA := (Row.new wr #[.string x.nm, .int .i64 x.kd, x.o.v] 121).below (newer (same (wr.alloc (.cells #[.string x.nm, .int .i64 x.kd, x.o.v] 121))) (.cells #[.string y.nm, .int .i64 y.kd, y.o.v] 121))
        have rB := Row.new (wr.alloc (.cells #[.string x.nm, .int .i64 x.kd, x.o.v] 121)) #[.string y.nm, .int .i64 y.kd, y.o.v] 121
        obtain ⟨V, hV⟩ : ∃ V, (wr.alloc (.cells #[.string x.nm, .int .i64 x.kd, x.o.v] 121)).alloc (.cells #[.string y.nm, .int .i64 y.kd, y.o.v] 121) = V := ⟨_, rfl⟩
        rw [World.size_alloc] at rB
        rw [hV] at hn2 hs1 rA rB
        have a0 := rA.cell 0
        have a1 := rA.cell 1
        have a2 := rA.cell 2
        have b0 := rB.cell 0
        have b1 := rB.cell 1
        have b2 := rB.cell 2
        have HS : Ytobdfocfkomagaa.base.Shut (Calls Try.prog 94 #[.agg #[.string x.nm, .int .i64 x.kd, x.o.v], .agg #[.string y.nm, .int .i64 y.kd, y.o.v]] V fun e w' => e = .returned (.bool (sameK x y)) ∧ Below V.heap.size V w') := ⟨hs1⟩
        have HN := Ytobdfocfkomagaa.base.Shut.mk (chain HI.out.2 hn2)
        clear hs1 rA rB hn1 hn2
        have k1 : (k : Int) < n := by omega
        have HG := Ytobdfocfkomagaa.base.Shut.mk (HI.out.1.trans (sameF_step hx hy))
        clear hx hy hok hok'
        simp only [hA, hB]
        go_wp2_with fail
        refine HS.out.mono ?_
        rintro e w5 ⟨rfl, hb5⟩
        have H5 := Ytobdfocfkomagaa.base.Shut.mk (chain HN.out hb5)
        clear hb5
        cases hS : sameK x y with
        | true =>
          rw [hS] at HG
          clear hS
          go_wp2
          go_roundw
          case rel => exact ⟨k + 1, by go_num, by omega, ⟨by rw [HG.out, Bool.true_and], H5.out⟩⟩
          case measure => simp [intOf]; omega
        | false =>
          rw [hS] at HG
          clear hS
          go_wp2
          go_ret
          exact ⟨by rw [HG.out]; rfl, H5.out⟩
      · obtain rfl : k = n := by omega
        go_wp2
        go_ret
        refine ⟨?_, HI.out.2⟩
        rw [HI.out.1, List.drop_of_length_le (by rw [H.out.2.2.1]; exact Nat.le_refl _), List.drop_of_length_le (by rw [H.out.2.2.2]; exact Nat.le_refl _)]
        rfl
  · rw [sameF_len _ _ hl]
    obtain ⟨n, hn⟩ : ∃ n, a.l.length = n := ⟨_, rfl⟩
    obtain ⟨m, hm⟩ : ∃ m, b.l.length = m := ⟨_, rfl⟩
    show Calls Try.prog 93 #[.slice a.A a.l.length a.c, .slice b.A b.l.length b.c, _] w _
    rw [hn, hm] at hl ⊢
    have hnm : ¬ (n : Int) = m := by omega
    clear ha hb hn hm hl
    go_enter Try.func93, Try.ntmps93
    go_wp2
    go_ret
    exact ⟨rfl, same w⟩
end Go.Proofs.Ytobdfocfkomagaa.rev
