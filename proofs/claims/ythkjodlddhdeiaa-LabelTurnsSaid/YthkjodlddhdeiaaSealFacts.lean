/- Plain facts on sealed blocks: what Put laid is taken; what is of two blocks is torn. -/
import Derived.Test.YthkjodlddhdeiaaSealTake
namespace Go.Proofs.Ythkjodlddhdeiaa.seal
open Go.RowKit
open Ythkjodlddhdeiaa.base
open Ythkjodlddhdeiaa.oct (fixed readI read_fixed rd rd_beN beN_len u64of)
open Ythkjodlddhdeiaa.crc (sealed rightB byte4)

theorem sealed_len (l : List UInt8) : (sealed l).length = l.length + 4 := by simp [sealed, byte4]
theorem blockL_parts (n : Int) (l : List UInt8) (h : l.length ≤ 490) : ∃ G H, blockL n l = fixed n 8 ++ (fixed (l.length : Int) 2 ++ G) ++ (fixed n 8 ++ H) ∧ G.length = 246 ∧ H.length = 244 ∧ (G ++ H).take l.length = l := by
  refine ⟨l.take 246 ++ List.replicate (246 - (l.take 246).length) 0, l.drop 246 ++ List.replicate (244 - (l.drop 246).length) 0, ?_, ?_, ?_, ?_⟩
  · unfold blockL; simp only [List.append_assoc]
  · rw [List.length_append, List.length_replicate, List.length_take]; omega
  · rw [List.length_append, List.length_replicate, List.length_drop]; omega
  · by_cases h6 : l.length ≤ 246
    · rw [List.take_of_length_le h6, List.append_assoc, List.take_left]
    · have e0 : 246 - (l.take 246).length = 0 := by rw [List.length_take]; omega
      rw [e0, List.replicate_zero, List.append_nil, ← List.append_assoc, List.take_append_drop, List.take_left]
/-- a sealed block, by its parts -/
theorem put_parts (n : Int) (l : List UInt8) (h : l.length ≤ 490) : ∃ G H C, sealed (blockL n l) = fixed n 8 ++ (fixed (l.length : Int) 2 ++ (G ++ (fixed n 8 ++ (H ++ C)))) ∧ G.length = 246 ∧ H.length = 244 ∧ C.length = 4 ∧ (G ++ H).take l.length = l := by
  obtain ⟨G, H, hb, hG, hH, ht⟩ := blockL_parts n l h
  refine ⟨G, H, byte4 (crc.sum (blockL n l)), ?_, hG, hH, rfl, ht⟩
  show blockL n l ++ byte4 (crc.sum (blockL n l)) = _
  generalize byte4 (crc.sum (blockL n l)) = C
  rw [hb]
  simp only [List.append_assoc]
theorem drop_at {a b : List UInt8} {k : Nat} (h : k = a.length) : (a ++ b).drop k = b := by subst h; exact List.drop_left
theorem take_at {a b : List UInt8} {k : Nat} (h : k = a.length) : (a ++ b).take k = a := by subst h; exact List.take_left
theorem put_front (n : Int) (l : List UInt8) (h : l.length ≤ 490) : (sealed (blockL n l)).take 8 = fixed n 8 := by
  obtain ⟨G, H, C, e, hG, hH, hC, _⟩ := put_parts n l h
  rw [e, take_at (fixed8_len n).symm]
theorem put_back (n : Int) (l : List UInt8) (h : l.length ≤ 490) : ((sealed (blockL n l)).drop 256).take 8 = fixed n 8 := by
  obtain ⟨G, H, C, e, hG, hH, hC, _⟩ := put_parts n l h
  rw [e, ← List.append_assoc (fixed (l.length : Int) 2), ← List.append_assoc (fixed n 8), drop_at (by simp [fixed8_len, fixed2_len, hG]), take_at (fixed8_len n).symm]
theorem put_len (n : Int) (l : List UInt8) (h : l.length ≤ 490) : (sealed (blockL n l)).length = 512 := by rw [sealed_len, blockL_len n l h]
theorem rd_zero (l : List UInt8) (h : ∀ c ∈ l, c = 0) : rd l = 0 := by
  have : ∀ (r : List UInt8), (∀ c ∈ r, c = 0) → r.foldl (fun c b => c * 256 + b.toNat) 0 = 0 := by
    intro r
    induction r with
    | nil => intro _; rfl
    | cons b r ih =>
      intro h
      rw [List.foldl_cons, h b (by simp)]
      exact ih (fun c hc => h c (by simp [hc]))
  exact this l h
theorem readI_zero (l : List UInt8) (h : ∀ c ∈ l, c = 0) : readI l = 0 := by
  unfold readI
  rw [rd_zero _ (fun c hc => h c (List.mem_of_mem_take hc))]
  unfold wrap64
  omega
theorem blank_halves (l : List UInt8) (hl : l.length = 512) (h : (halvesL l).1 ≠ 0 ∨ (halvesL l).2 ≠ 0) : blankL l = false := by
  cases hb : blankL l with
  | false => rfl
  | true =>
    have hz : ∀ c ∈ l, c = 0 := by intro c hc; have := List.all_eq_true.1 hb c hc; simpa using this
    have e1 : (halvesL l).1 = 0 := by unfold halvesL; rw [if_pos hl]; exact readI_zero _ (fun c hc => hz c (List.mem_of_mem_take hc))
    have e2 : (halvesL l).2 = 0 := by unfold halvesL; rw [if_pos hl]; exact readI_zero _ (fun c hc => hz c (List.mem_of_mem_drop (List.mem_of_mem_take hc)))
    rcases h with h | h <;> contradiction
theorem put_halves (n : Int) (l : List UInt8) (h : l.length ≤ 490) (h1 : 1 ≤ n) (h2 : n ≤ 4611686018427387904) : halvesL (sealed (blockL n l)) = (n, n) := by
  unfold halvesL
  rw [if_pos (put_len n l h), put_front n l h, put_back n l h, read_fixed n ⟨by omega, by omega⟩]
theorem right_sealed (l : List UInt8) : rightB (sealed l) = true := by
  unfold rightB
  rw [sealed_len, decide_eq_true (by omega), Bool.true_and, show l.length + 4 - 4 = l.length from by omega]
  have : (sealed l).take l.length = l := take_at rfl
  rw [this]
  simp
theorem read_two (k : Nat) (h : k ≤ 490) : readI (fixed (k : Int) 2) = k := by
  unfold readI fixed
  have e : min (2 : Int).toNat 8 = 2 := by decide
  rw [e, List.take_of_length_le (by rw [beN_len]; omega), rd_beN]
  unfold u64of wrap64
  omega
/-- what was put is taken -/
theorem take_put (n : Int) (l : List UInt8) (h : l.length ≤ 490) (h1 : 1 ≤ n) (h2 : n ≤ 4611686018427387904) :
    takeE (sealed (blockL n l)) = 0 ∧ takeN (sealed (blockL n l)) = n ∧ takeS (sealed (blockL n l)) = l := by
  have hh := put_halves n l h h1 h2
  have hl := put_len n l h
  obtain ⟨p1, p2⟩ := put_ok n l h1 h2 h
  obtain ⟨G, H, C, e, hG, hH, hC, ht⟩ := put_parts n l h
  have h8 : (sealed (blockL n l)).drop 8 = fixed (l.length : Int) 2 ++ (G ++ (fixed n 8 ++ (H ++ C))) := by rw [e, drop_at (fixed8_len n).symm]
  have hk : readI (((sealed (blockL n l)).drop 8).take 2) = l.length := by rw [h8, take_at (fixed2_len _).symm, read_two _ h]
  have h10 : ((sealed (blockL n l)).drop 10).take 246 = G := by
    rw [e, ← List.append_assoc, drop_at (by simp [fixed8_len, fixed2_len]), take_at hG.symm]
  have h264 : ((sealed (blockL n l)).drop 264).take 244 = H := by
    rw [e, ← List.append_assoc, ← List.append_assoc, ← List.append_assoc, drop_at (by simp [fixed8_len, fixed2_len, hG]), take_at hH.symm]
  have htx : textL (sealed (blockL n l)) = l := by
    unfold textL
    rw [hk, h10, h264]
    exact ht
  have hok : takeOk (sealed (blockL n l)) := by
    unfold takeOk
    rw [hh, hk, htx]
    exact ⟨rfl, right_sealed _, by omega, p1, p2⟩
  have hE : takeE (sealed (blockL n l)) = 0 := by
    unfold takeE
    rw [if_pos hl, blank_halves _ hl (by rw [hh]; left; show n ≠ 0; omega), hh, if_neg (by decide), if_pos rfl, if_pos hok]
  refine ⟨hE, ?_, ?_⟩
  · unfold takeN; rw [if_pos hE, hh]
  · unfold takeS; rw [if_pos hE, htx]
/-- halves of two numbers: torn -/
theorem take_torn (l : List UInt8) (hl : l.length = 512) (h : (halvesL l).1 ≠ (halvesL l).2) : takeE l = 10 ∧ takeN l = 0 ∧ takeS l = [] := by
  have hE : takeE l = 10 := by
    unfold takeE
    have hb : blankL l = false := blank_halves l hl (by
      by_cases h0 : (halvesL l).1 = 0
      · right; intro h2; exact h (by rw [h0, h2])
      · exact .inl h0)
    rw [if_pos hl, hb, if_neg (by decide), if_neg h]
  obtain ⟨a, b, c⟩ := take_fails l 10 hE (by decide)
  exact ⟨c, a, b⟩
end Go.Proofs.Ythkjodlddhdeiaa.seal
