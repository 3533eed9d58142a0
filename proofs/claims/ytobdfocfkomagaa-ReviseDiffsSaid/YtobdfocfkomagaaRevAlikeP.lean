/- How many rules are alike, from the front (plain). -/
import Derived.Test.YtobdfocfkomagaaRevLcs
import Derived.Test.YtobdfocfkomagaaRow2
namespace Go.Proofs.Ytobdfocfkomagaa.rev
open Go.ChangeShapes Go.WideShapes Go.ChangeAt Go.RowKit
open Ytobdfocfkomagaa.base (size_mk chain newer drewn same ba_ext)
open Ytobdfocfkomagaa.row2 (Row CReads own_keep)
/-- of the first i and the first k -/
def Pf (rs ss : List RI) (i k : Nat) : Nat := lcsR (rs.take i).reverse (ss.take k).reverse
theorem Pf_zero1 (rs ss : List RI) (k : Nat) : Pf rs ss 0 k = 0 := by simp [Pf, lcsR]
theorem Pf_zero2 (rs ss : List RI) (i : Nat) : Pf rs ss i 0 = 0 := by unfold Pf; rw [List.take_zero, List.reverse_nil]; exact lcsR_nil _
theorem Pf_le (rs ss : List RI) (i k : Nat) : Pf rs ss i k ≤ i ∧ Pf rs ss i k ≤ k := by
  have := lcsR_le (rs.take i).reverse (ss.take k).reverse
  rw [List.length_reverse, List.length_reverse, List.length_take, List.length_take] at this
  unfold Pf
  omega
theorem take_rev {rs : List RI} {i : Nat} {x : RI} (h : rs[i]? = some x) : (rs.take (i + 1)).reverse = x :: (rs.take i).reverse := by
  rw [List.take_add_one, h]
  simp
theorem Pf_step {rs ss : List RI} {i k : Nat} {x y : RI} (hx : rs[i]? = some x) (hy : ss[k]? = some y) : Pf rs ss (i + 1) (k + 1) = if sameR x y then Pf rs ss i k + 1 else max (Pf rs ss i (k + 1)) (Pf rs ss (i + 1) k) := by
  unfold Pf
  rw [take_rev hx, take_rev hy, lcsR]
theorem Pf_end (rs ss : List RI) : Pf rs ss rs.length ss.length = lcsR rs.reverse ss.reverse := by unfold Pf; rw [List.take_length, List.take_length]
/-- a row of numbers -/
structure Line (w : World) (g n : Nat) (f : Nat → Nat) : Prop where
  row : ∃ C, Row w g C 3 ∧ C.size = n ∧ ∀ k, k < n → C[k]? = some (.int .i64 (f k : Int))
theorem Line.below {w w' : World} {g n : Nat} {f : Nat → Nat} (h : Line w g n f) (hb : Below w.heap.size w w') : Line w' g n f := by
  obtain ⟨C, hr, hs, ha⟩ := h.row
  exact ⟨⟨C, hr.below hb, hs, ha⟩⟩
theorem Line.at_ {w : World} {g n : Nat} {f : Nat → Nat} (h : Line w g n f) (k : Nat) (hk : k < n) : w.cell? ⟨g, k, none⟩ = some (.int .i64 (f k : Int)) := by
  obtain ⟨C, hr, hs, ha⟩ := h.row
  exact hr.at_ (ha k hk)
theorem Line.frozen {w : World} {g n : Nat} {f : Nat → Nat} (h : Line w g n f) (i : Nat) : w.frozen? ⟨g, i, none⟩ = false := by
  obtain ⟨C, hr, hs, ha⟩ := h.row
  exact hr.frozen i
theorem Line.set {w : World} {g n : Nat} {f : Nat → Nat} (h : Line w g n f) (k v : Nat) (hk : k < n) : Line (w.setCell ⟨g, k, none⟩ (.int .i64 (v : Int))) g n (fun b => if b = k then v else f b) := by
  obtain ⟨C, hr, hs, ha⟩ := h.row
  refine ⟨⟨_, hr.set k _, by simpa using hs, fun b h2 => ?_⟩⟩
  by_cases e : b = k
  · subst e
    rw [Array.getElem?_setIfInBounds_self, if_pos (by omega), if_pos rfl]
  · rw [Array.getElem?_setIfInBounds_ne (by omega), if_neg e]
    exact ha b h2
theorem Line.congr {w : World} {g n : Nat} {f h : Nat → Nat} (l : Line w g n f) (e : ∀ k, k < n → f k = h k) : Line w g n h := by
  obtain ⟨C, hr, hs, ha⟩ := l.row
  exact ⟨⟨C, hr, hs, fun k hk => by rw [← e k hk]; exact ha k hk⟩⟩
def midL (rs ss : List RI) (i k j : Nat) : Nat := if j ≤ k then Pf rs ss (i + 1) j else Pf rs ss i j
theorem midL_start (rs ss : List RI) (i j : Nat) : Pf rs ss i j = midL rs ss i 0 j := by
  unfold midL
  split
  · obtain rfl : j = 0 := by omega
    rw [Pf_zero2, Pf_zero2]
  · rfl
theorem midL_end (rs ss : List RI) (i k j : Nat) (h : j ≤ k) : midL rs ss i k j = Pf rs ss (i + 1) j := by unfold midL; rw [if_pos h]
theorem midL_step (rs ss : List RI) (i k j : Nat) : (if j = k + 1 then Pf rs ss (i + 1) (k + 1) else midL rs ss i k j) = midL rs ss i (k + 1) j := by
  unfold midL
  by_cases h : j = k + 1
  · subst h; rw [if_pos rfl, if_pos (Nat.le_refl _)]
  · rw [if_neg h]
    by_cases h2 : j ≤ k
    · rw [if_pos h2, if_pos (by omega)]
    · rw [if_neg h2, if_neg (by omega)]
end Go.Proofs.Ytobdfocfkomagaa.rev
