/- The walk of Check. -/
import Derived.Test.YtobdfocfkomagaaNodeRight
namespace Go.Proofs.Ytobdfocfkomagaa.node
open Go.ChangeShapes Go.WideShapes Go.ChangeAt Go.RowKit
open Ytobdfocfkomagaa.base (size_mk chain newer drewn same ba_ext)

theorem size_bd {ps : PL} (hs : Nice ps) (leaf : Bool) : sizeN ⟨leaf, ps⟩ ≤ 2100000 := by
  unfold sizeN
  have h1 : (headL leaf ps.length).length ≤ 11 := by have := oct.num_len (ps.length : Int); unfold headL; rw [List.length_cons]; omega
  have h2 : ∀ l : PL, (∀ x ∈ l, x.1.size ≤ 1000 ∧ x.2.size ≤ 1000) → (l.map wideP).sum ≤ 2020 * l.length := by
    intro l
    induction l with
    | nil => intro _; simp
    | cons x r ih =>
      intro h
      have := ih (fun y hy => h y (List.mem_cons_of_mem _ hy))
      have := wide_le2 (h x (List.mem_cons_self ..))
      rw [List.map_cons, List.sum_cons, List.length_cons]
      omega
  have h3 := h2 ps (fun x hx => by
    obtain ⟨i, hi, rfl⟩ := List.getElem_of_mem hx
    have := hs.sizes i
    rw [at0_get (List.getElem?_eq_getElem hi)] at this
    exact this)
  have h4 := hs.len
  show (headL leaf ps.length).length + (ps.map wideP).sum ≤ _
  omega
set_option maxRecDepth 100000 in
set_option maxHeartbeats 800000 in
theorem check_walk (leaf : Bool) (A : Option Addr) (n c : Nat) (ps : PL) (hn : ps.length = n) (hs : Nice ps) (w : World) (hr : PReads w A ps) :
    Calls Try.prog 32 #[nv leaf A n c] w fun e w' => e = .returned (.int .i64 (checkN ⟨leaf, ps⟩)) ∧ Below w.heap.size w w' := by
  have hb := newer (same w) (.cells #[.bool leaf, .slice A n c] 49)
  have hx := Row.new w #[.bool leaf, .slice A n c] 49
  obtain ⟨q, hq⟩ : ∃ q, w.heap.size = q := ⟨_, rfl⟩
  obtain ⟨V, hV⟩ : ∃ V, w.alloc (.cells #[.bool leaf, .slice A n c] 49) = V := ⟨_, rfl⟩
  rw [hV, hq] at hx
  rw [hV] at hb
  have x0 : V.cell? ⟨q, 0, none⟩ = some (.bool leaf) := hx.cell 0
  have x1 : V.cell? ⟨q, 1, none⟩ = some (.slice A n c) := hx.cell 1
  have hrV := hr.keep hb
  have h1 := right_walk leaf A n c ps hn hs V hrV
  have h2 := fun (u : World) (hu : Below V.heap.size V u) => size_walk leaf A n c ps hn hs u (hrV.keep hu)
  have hbd := size_bd hs leaf
  have hdef : checkN ⟨leaf, ps⟩ = if rightN ⟨leaf, ps⟩ = false then 2 else if 480 < sizeN ⟨leaf, ps⟩ then 5 else 0 := rfl
  have H := Ytobdfocfkomagaa.base.Shut.mk (And.intro h1 (And.intro h2 (And.intro hb (And.intro hx hdef))))
  clear h1 h2 hb hx hdef hr hrV hn hs
  generalize checkN ⟨leaf, ps⟩ = C at H ⊢
  generalize rightN ⟨leaf, ps⟩ = R at H
  generalize sizeN ⟨leaf, ps⟩ = Z at H hbd
  cases R with
  | false =>
    go_enter Try.func32, Try.ntmps32
    go_wp2_with fail
    refine H.out.1.mono ?_
    rintro e w1 ⟨rfl, hb1⟩
    have H1 := Ytobdfocfkomagaa.base.Shut.mk (chain H.out.2.2.1 hb1)
    clear hb1
    go_wp2
    go_ret
    exact ⟨by rw [H.out.2.2.2.2]; rfl, H1.out⟩
  | true =>
    have hw : (480 < (Z : Int) ∧ C = 5) ∨ (¬ 480 < (Z : Int) ∧ C = 0) := by
      rw [H.out.2.2.2.2, if_neg (by decide)]
      by_cases h : 480 < Z
      · exact .inl ⟨by omega, if_pos h⟩
      · exact .inr ⟨by omega, if_neg h⟩
    rcases hw with ⟨hz, rfl⟩ | ⟨hz, rfl⟩
    all_goals
      go_enter Try.func32, Try.ntmps32
      go_wp2_with fail
      refine H.out.1.mono ?_
      rintro e w1 ⟨rfl, hb1⟩
      have y0 : w1.cell? ⟨q, 0, none⟩ = some (.bool leaf) := (H.out.2.2.2.1.below hb1).cell 0
      have y1 : w1.cell? ⟨q, 1, none⟩ = some (.slice A n c) := (H.out.2.2.2.1.below hb1).cell 1
      have H1 := Ytobdfocfkomagaa.base.Shut.mk (And.intro (H.out.2.1 w1 hb1) (chain H.out.2.2.1 hb1))
      clear hb1
      go_wp2_with fail
      refine H1.out.1.mono ?_
      rintro e w2 ⟨rfl, hb2⟩
      have H2 := Ytobdfocfkomagaa.base.Shut.mk (chain H1.out.2 hb2)
      clear hb2
      go_wp2
      go_ret
      exact ⟨rfl, H2.out⟩
end Go.Proofs.Ytobdfocfkomagaa.node
