/- Lists of rules and changes; the walk of revise.may. -/
import Derived.Test.YtobdfocfkomagaaRevBase
import Derived.Deep.RegionHeld3
namespace Go.Proofs.Ytobdfocfkomagaa.rev
open Go.ChangeShapes Go.WideShapes Go.ChangeAt Go.RowKit
open Ytobdfocfkomagaa.base (size_mk chain newer drewn same ba_ext)
open Ytobdfocfkomagaa.row2 (Row CReads)

def cellR (r : RI) : List Value := [r.x.v, r.y.v]
def cellsR (rs : List RI) : List Value := rs.flatMap cellR
theorem cellsR_len (rs : List RI) : (cellsR rs).length = rs.length * 2 := by
  induction rs with
  | nil => rfl
  | cons x r ih => unfold cellsR at *; rw [List.flatMap_cons, List.length_append, ih, List.length_cons]; show 2 + _ = _; omega
theorem cellsR_app (a b : List RI) : cellsR (a ++ b) = cellsR a ++ cellsR b := by unfold cellsR; rw [List.flatMap_append]
theorem cellsR_get (rs : List RI) (i : Nat) (r : RI) (h : rs[i]? = some r) : (cellsR rs)[i * 2]? = some r.x.v ∧ (cellsR rs)[i * 2 + 1]? = some r.y.v := by
  induction rs generalizing i with
  | nil => simp at h
  | cons x t ih =>
    have e : cellsR (x :: t) = x.x.v :: x.y.v :: cellsR t := rfl
    rw [e]
    cases i with
    | zero => obtain rfl : x = r := by simpa using h
              exact ⟨rfl, rfl⟩
    | succ i => rw [show (i + 1) * 2 = i * 2 + 1 + 1 by omega]; exact ih i (by simpa using h)
theorem cellsR_one (rs : List RI) : ∀ u ∈ cellsR rs, u.oneCell' = true := by
  intro u hu
  unfold cellsR at hu
  obtain ⟨r, _, h⟩ := List.mem_flatMap.1 hu
  simp only [cellR, List.mem_cons, List.not_mem_nil, or_false] at h
  rcases h with rfl | rfl <;> rfl
theorem cellsR_take (rs : List RI) (i : Nat) : (cellsR rs).take (i * 2) = cellsR (rs.take i) := by
  induction rs generalizing i with
  | nil => simp [cellsR]
  | cons x t ih =>
    cases i with
    | zero => rw [Nat.zero_mul, List.take_zero, List.take_zero]; rfl
    | succ i =>
      rw [List.take_succ_cons, show (i + 1) * 2 = i * 2 + 1 + 1 by omega]
      show x.x.v :: x.y.v :: (cellsR t).take (i * 2) = x.x.v :: x.y.v :: cellsR (t.take i)
      rw [ih]
theorem cellsR_drop (rs : List RI) (i : Nat) : (cellsR rs).drop (i * 2) = cellsR (rs.drop i) := by
  induction rs generalizing i with
  | nil => simp [cellsR]
  | cons x t ih =>
    cases i with
    | zero => rw [Nat.zero_mul]; rfl
    | succ i =>
      rw [List.drop_succ_cons, show (i + 1) * 2 = i * 2 + 1 + 1 by omega]
      show (cellsR t).drop (i * 2) = _
      rw [ih]
/-- a list of rules that lies at A -/
structure RL (w : World) (A : Option Addr) (rs : List RI) : Prop where
  cells : CReads w A (cellsR rs)
  ok : ∀ r ∈ rs, ROk w r
theorem RL.keep {w w' : World} {A : Option Addr} {rs : List RI} (h : RL w A rs) (hb : Below w.heap.size w w') : RL w' A rs := ⟨h.cells.keep hb, fun r hr => (h.ok r hr).keep hb⟩
theorem RL.at_ {w : World} {A : Option Addr} {rs : List RI} (h : RL w A rs) {i : Nat} {r : RI} (hi : rs[i]? = some r) : ∃ b off, A = some ⟨b, off, none⟩ ∧ b < w.heap.size ∧ w.cell? ⟨b, off + i * 2, none⟩ = some r.x.v ∧ w.cell? ⟨b, off + i * 2 + 1, none⟩ = some r.y.v ∧ ROk w r := by
  have hg := cellsR_get rs i r hi
  obtain ⟨b, off, hA, hlt, hc⟩ := h.cells (by intro e; rw [e] at hg; simp at hg)
  exact ⟨b, off, hA, hlt, hc _ _ hg.1, by rw [Nat.add_assoc]; exact hc _ _ hg.2, h.ok r (List.mem_of_getElem? hi)⟩
/-- a change -/
structure CI where
  put : Bool
  at_ : Int
  r : RI
def CI.cells (c : CI) : Array Value := #[.bool c.put, .int .i64 c.at_, c.r.x.v, c.r.y.v]
def CI.v (c : CI) : Value := .agg c.cells
structure COk (w : World) (c : CI) : Prop where
  r : ROk w c.r
  bd : -9223372036854775808 ≤ c.at_ ∧ c.at_ ≤ 9223372036854775807
theorem COk.keep {w w' : World} {c : CI} (h : COk w c) (hb : Below w.heap.size w w') : COk w' c := ⟨h.r.keep hb, h.bd⟩
def sameAt (rs : List RI) (i : Nat) (r : RI) : Bool := match rs[i]? with | some s => sameR s r | none => false
def mayR (rs : List RI) (c : CI) : Bool := if c.put then decide (rs.length < 48 ∧ 0 ≤ c.at_ ∧ c.at_ ≤ rs.length) else decide (0 ≤ c.at_ ∧ c.at_ < rs.length) && sameAt rs c.at_.toNat c.r
theorem four_keep {o i j q a : Nat} {v0 v1 v2 v3 v4 : Value} {u w' : World} (hb : Below u.heap.size u w') (h : u.cell? ⟨o, i, none⟩ = some v0 ∧ u.cell? ⟨o, j, none⟩ = some v1 ∧ u.cell? ⟨q, 1, none⟩ = some v2 ∧ u.cell? ⟨q, 2, none⟩ = some v3 ∧ u.cell? ⟨q, a, none⟩ = some v4) :
    w'.cell? ⟨o, i, none⟩ = some v0 ∧ w'.cell? ⟨o, j, none⟩ = some v1 ∧ w'.cell? ⟨q, 1, none⟩ = some v2 ∧ w'.cell? ⟨q, 2, none⟩ = some v3 ∧ w'.cell? ⟨q, a, none⟩ = some v4 :=
  have k := fun {p : Addr} {v : Value} (h : u.cell? p = some v) => (hb.cell (World.block_lt_of_cell? u p h)).trans h
  ⟨k h.1, k h.2.1, k h.2.2.1, k h.2.2.2.1, k h.2.2.2.2⟩
set_option maxRecDepth 100000 in
set_option maxHeartbeats 1600000 in
theorem may_walk (A : Option Addr) (n c : Nat) (rs : List RI) (C : CI) (hn : rs.length = n) (hn2 : n ≤ 1000) (w : World) (hr : RL w A rs) (hC : COk w C) :
    Calls Try.prog 47 #[.slice A n c, C.v] w fun e w' => e = .returned (.bool (mayR rs C)) ∧ Below w.heap.size w w' := by
  obtain ⟨put, a, r⟩ := C
  obtain ⟨hCr, hCb⟩ := hC
  simp only at hCr hCb
  have hb := newer (same w) (.cells #[.bool put, .int .i64 a, r.x.v, r.y.v] 79)
  have hx := Row.new w #[.bool put, .int .i64 a, r.x.v, r.y.v] 79
  show Calls Try.prog 47 #[.slice A n c, .agg #[.bool put, .int .i64 a, r.x.v, r.y.v]] w _
  obtain ⟨q, hq⟩ : ∃ q, w.heap.size = q := ⟨_, rfl⟩
  obtain ⟨V, hV⟩ : ∃ V, w.alloc (.cells #[.bool put, .int .i64 a, r.x.v, r.y.v] 79) = V := ⟨_, rfl⟩
  rw [hV, hq] at hx
  rw [hV] at hb
  have hdef : mayR rs ⟨put, a, r⟩ = if put then decide (n < 48 ∧ 0 ≤ a ∧ a ≤ n) else decide (0 ≤ a ∧ a < n) && sameAt rs a.toNat r := by rw [← hn]; rfl
  have x0 := hx.cell 0
  have x1 := hx.cell 1
  have x2 := hx.cell 2
  have x3 := hx.cell 3
  have HB := Ytobdfocfkomagaa.base.Shut.mk hb
  have o1 : r.x.v.oneCell' = true := rfl
  have o2 : r.y.v.oneCell' = true := rfl
  have c1 : r.x.v.cells = #[r.x.v] := rfl
  have c2 : r.y.v.cells = #[r.y.v] := rfl
  cases put with
  | true =>
    simp only [if_true] at hdef
    clear hb hx hr hn hCr
    by_cases h48 : n < 48
    · have e1 : (n : Int) < 48 := by omega
      by_cases h0 : 0 ≤ a
      · by_cases h1 : a ≤ n
        · have e2 : decide (0 ≤ a) = true := decide_eq_true h0
          have e3 : decide (a ≤ (n : Int)) = true := decide_eq_true h1
          have HD := Ytobdfocfkomagaa.base.Shut.mk (show mayR rs ⟨true, a, r⟩ = true by rw [hdef]; exact decide_eq_true ⟨h48, h0, h1⟩)
          clear hdef
          generalize r.x.v = y1 at *
          generalize r.y.v = y2 at *
          go_enter Try.func47, Try.ntmps47
          go_wp2
          go_ret
          exact ⟨by rw [HD.out]; first | rfl | simp, by first | exact HB.out | exact hq ▸ HB.out⟩
        · have e2 : decide (0 ≤ a) = true := decide_eq_true h0
          have e3 : decide (a ≤ (n : Int)) = false := decide_eq_false h1
          have HD := Ytobdfocfkomagaa.base.Shut.mk (show mayR rs ⟨true, a, r⟩ = false by rw [hdef]; exact decide_eq_false (fun h => h1 h.2.2))
          clear hdef
          generalize r.x.v = y1 at *
          generalize r.y.v = y2 at *
          go_enter Try.func47, Try.ntmps47
          go_wp2
          go_ret
          exact ⟨by rw [HD.out]; first | rfl | simp, by first | exact HB.out | exact hq ▸ HB.out⟩
      · have e2 : decide (0 ≤ a) = false := decide_eq_false h0
        have HD := Ytobdfocfkomagaa.base.Shut.mk (show mayR rs ⟨true, a, r⟩ = false by rw [hdef]; exact decide_eq_false (fun h => h0 h.2.1))
        clear hdef
        generalize r.x.v = y1 at *
        generalize r.y.v = y2 at *
        go_enter Try.func47, Try.ntmps47
        go_wp2
        go_ret
        exact ⟨by rw [HD.out]; first | rfl | simp, by first | exact HB.out | exact hq ▸ HB.out⟩
    · have e1 : ¬ (n : Int) < 48 := by omega
      have HD := Ytobdfocfkomagaa.base.Shut.mk (show mayR rs ⟨true, a, r⟩ = false by rw [hdef]; exact decide_eq_false (fun h => h48 h.1))
      clear hdef
      generalize r.x.v = y1 at *
      generalize r.y.v = y2 at *
      go_enter Try.func47, Try.ntmps47
      go_wp2
      go_ret
      exact ⟨by rw [HD.out]; first | rfl | simp, by first | exact HB.out | exact hq ▸ HB.out⟩
  | false =>
    simp only [Bool.false_eq_true, if_false] at hdef
    by_cases h0 : 0 ≤ a
    · by_cases h1 : a < n
      · obtain ⟨k, rfl⟩ : ∃ k : Nat, a = k := ⟨a.toNat, by omega⟩
        obtain ⟨s, hs⟩ : ∃ s, rs[k]? = some s := ⟨_, List.getElem?_eq_getElem (by omega)⟩
        obtain ⟨b, off, rfl, hblt, z0, z1, hsok⟩ := (hr.keep hb).at_ hs
        have hsm := same_walk s r V.drew (hsok.keep (drewn (same V))) ((hCr.keep hb).keep (drewn (same V)))
        have hd2 : mayR rs ⟨false, k, r⟩ = sameR s r := by
          rw [hdef, decide_eq_true ⟨h0, h1⟩, Bool.true_and, Int.toNat_natCast]
          unfold sameAt
          rw [hs]
        have HD := Ytobdfocfkomagaa.base.Shut.mk (And.intro hd2 hsm)
        have o3 : s.x.v.oneCell' = true := rfl
        have o4 : s.y.v.oneCell' = true := rfl
        have c3 : s.x.v.cells = #[s.x.v] := rfl
        have c4 : s.y.v.cells = #[s.y.v] := rfl
        clear hdef hb hx hr hn hCr hs hsok hd2 hsm
        have HD2 : Ytobdfocfkomagaa.base.Shut (Calls Try.prog 58 #[.agg #[s.x.v, s.y.v], .agg #[r.x.v, r.y.v]] V.drew fun e w' => e = .returned (.bool (sameR s r)) ∧ Below V.drew.heap.size V.drew w') := ⟨HD.out.2⟩
        have HD3 := Ytobdfocfkomagaa.base.Shut.mk HD.out.1
        clear HD
        generalize sameR s r = S at HD2 HD3
        generalize r.x.v = y1 at *
        generalize r.y.v = y2 at *
        generalize s.x.v = y3 at *
        generalize s.y.v = y4 at *
        go_enter Try.func47, Try.ntmps47
        go_wp2
        go_region_held3 (fun w' => w'.cell? ⟨b, off + k * 2, none⟩ = some y3 ∧ w'.cell? ⟨b, off + k * 2 + 1, none⟩ = some y4 ∧ w'.cell? ⟨q, 1, none⟩ = some (.int .i64 (k : Int)) ∧ w'.cell? ⟨q, 2, none⟩ = some y1 ∧ w'.cell? ⟨q, 3, none⟩ = some y2)
          (first | assumption | go_keep)
          (first | (go_at_call 58; (with_reducible refine Calls.mono HD2.out ?_); rintro e w5 ⟨rfl, hb5⟩; have H5 := Ytobdfocfkomagaa.base.Shut.mk (chain (drewn (same V)) hb5); have hk5 := four_keep H5.out (And.intro z0 (And.intro z1 (And.intro x1 (And.intro x2 x3)))); clear hb5))
        go_wp2
        go_ret
        exact ⟨by rw [HD3.out]; rfl, by first | exact chain HB.out H5.out | exact hq ▸ chain HB.out H5.out⟩
      · have hf : mayR rs ⟨false, a, r⟩ = false := by rw [hdef, decide_eq_false (fun h => h1 h.2)]; rfl
        have HD := Ytobdfocfkomagaa.base.Shut.mk hf
        have e1 : decide (a < (n : Int)) = false := decide_eq_false h1
        have e0 : decide (0 ≤ a) = true := decide_eq_true h0
        clear hdef hb hx hr hn hCr hf
        generalize r.x.v = y1 at *
        generalize r.y.v = y2 at *
        go_enter Try.func47, Try.ntmps47
        go_wp2
        go_big_region
        go_wp2
        go_ret
        exact ⟨by rw [HD.out]; first | rfl | simp, by first | exact HB.out.drew | exact hq ▸ HB.out.drew⟩
    · have hf : mayR rs ⟨false, a, r⟩ = false := by rw [hdef, decide_eq_false (fun h => h0 h.1)]; rfl
      have HD := Ytobdfocfkomagaa.base.Shut.mk hf
      have e0 : decide (0 ≤ a) = false := decide_eq_false h0
      clear hdef hb hx hr hn hCr hf
      generalize r.x.v = y1 at *
      generalize r.y.v = y2 at *
      go_enter Try.func47, Try.ntmps47
      go_wp2
      go_big_region
      go_wp2
      go_ret
      exact ⟨by rw [HD.out]; first | rfl | simp, by first | exact HB.out.drew | exact hq ▸ HB.out.drew⟩
end Go.Proofs.Ytobdfocfkomagaa.rev
