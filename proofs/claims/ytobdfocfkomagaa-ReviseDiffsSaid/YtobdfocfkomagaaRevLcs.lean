/- How many rules of two lists are alike (plain). -/
import Derived.Test.YtobdfocfkomagaaRevMay
namespace Go.Proofs.Ytobdfocfkomagaa.rev
/-- row by row, from the suffixes -/
def lcsR : List RI → List RI → Nat
  | [], _ => 0
  | _ :: _, [] => 0
  | x :: s, y :: t => if sameR x y then lcsR s t + 1 else max (lcsR s (y :: t)) (lcsR (x :: s) t)
termination_by s t => s.length + t.length
theorem lcsR_nil (s : List RI) : lcsR s [] = 0 := by cases s <;> simp [lcsR]
theorem lcsR_le : ∀ (s t : List RI), lcsR s t ≤ s.length ∧ lcsR s t ≤ t.length
  | [], t => by simp [lcsR]
  | x :: s, [] => by simp [lcsR]
  | x :: s, y :: t => by
    have h1 := lcsR_le s t
    have h2 := lcsR_le s (y :: t)
    have h3 := lcsR_le (x :: s) t
    rw [lcsR]
    simp only [List.length_cons] at *
    split <;> omega
termination_by s t => s.length + t.length
end Go.Proofs.Ytobdfocfkomagaa.rev
