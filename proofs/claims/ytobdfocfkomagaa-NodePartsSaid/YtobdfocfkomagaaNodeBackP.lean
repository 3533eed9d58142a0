/- What was put is taken, plainly. -/
import Derived.Test.YtobdfocfkomagaaNodeTakeP
namespace Go.Proofs.Ytobdfocfkomagaa.node
open Go
open Ytobdfocfkomagaa.oct (num text takeText take num_len num_pos takeText_len takeText_text take_num num_take)

theorem mk_data (s : ByteArray) : (⟨s.data.toList.toArray⟩ : ByteArray) = s := by cases s; simp
theorem size_list (s : ByteArray) : s.data.toList.length = s.size := by simp
theorem fits_of {leaf : Bool} {x : ByteArray × ByteArray} (h : fitsP leaf x = true) : 1 ≤ x.1.size ∧ x.1.size ≤ 48 ∧ x.2.size ≤ 160 := by
  unfold fitsP at h
  have := of_decide_eq_true h
  obtain ⟨h1, h2, ⟨_, h3⟩ | ⟨_, h3⟩⟩ := this
  · exact ⟨h1, h2, h3⟩
  · exact ⟨h1, h2, by omega⟩
theorem right_fits {n : Nd} (h : rightN n = true) : ∀ x ∈ n.l, 1 ≤ x.1.size ∧ x.1.size ≤ 48 ∧ x.2.size ≤ 160 := by
  intro x hx
  obtain ⟨i, hi, rfl⟩ := List.getElem_of_mem hx
  have := (right_of h).2 i hi
  unfold okAt at this
  rw [at0_get (List.getElem?_eq_getElem hi), Bool.and_eq_true] at this
  exact fits_of this.1
theorem loop_back (behind : List UInt8) : ∀ (l acc : List (ByteArray × ByteArray)), (∀ x ∈ l, x.1.size ≤ 48 ∧ x.2.size ≤ 160) → loopN 160 l.length acc (l.flatMap pairL ++ behind) = some (acc ++ l)
  | [], acc, _ => by rw [List.length_nil, loopN, List.append_nil]
  | x :: r, acc, h => by
    have hx := h x (List.mem_cons_self ..)
    rw [List.length_cons, loopN, List.flatMap_cons]
    unfold pairL
    rw [List.append_assoc, List.append_assoc, takeText_text _ _ _ (by rw [size_list]; omega) (by rw [size_list]; omega)]
    simp only [ne_eq, not_true_eq_false, if_false]
    rw [takeText_text _ _ _ (by rw [size_list]; omega) (by rw [size_list]; omega)]
    simp only [ne_eq, not_true_eq_false, if_false]
    rw [mk_data, mk_data]
    have := loop_back behind r (acc ++ [(x.1, x.2)]) (fun y hy => h y (List.mem_cons_of_mem _ hy))
    unfold pairL at this
    rw [this]
    simp
theorem count_le (l : List (ByteArray × ByteArray)) : l.length ≤ (l.map wideP).sum := by
  induction l with
  | nil => exact Nat.le_refl _
  | cons x r ih =>
    rw [List.length_cons, List.map_cons, List.sum_cons]
    have : 1 ≤ wideP x := by unfold wideP; have := num_pos (x.1.size : Int); omega
    omega
theorem put_take {n : Nd} (h : checkN n = 0) : takeN 160 (putN n).1 = (n, 0) := by
  obtain ⟨hp, hs, hr⟩ := put_ok h
  have hf := right_fits hr
  have hc := count_le n.l
  have hcn : n.l.length ≤ 480 := by unfold sizeN at hs; omega
  have hlen : (putN n).1.length = 480 := by rw [hp]; show (textN n ++ _).length = 480; rw [List.length_append, text_len, List.length_replicate]; omega
  have hdrop : (putN n).1.drop 1 = num (n.l.length : Int) ++ (n.l.flatMap pairL ++ List.replicate (480 - sizeN n) 0) := by
    rw [hp]
    show (textN n ++ _).drop 1 = _
    unfold textN headL
    simp
  have hhead : ((putN n).1.head? == some 1) = n.leaf := by
    rw [hp]
    show ((textN n ++ _).head? == some 1) = n.leaf
    unfold textN headL
    cases n.leaf <;> rfl
  unfold takeN
  rw [if_neg (fun e => e hlen), hdrop, take_num _ (by omega)]
  simp only [ne_eq, not_true_eq_false, if_false]
  rw [show (min (n.l.length : Int) 480).toNat = n.l.length by omega, loop_back _ _ _ (fun x hx => (hf x hx).2), hhead]
  unfold endN
  simp only [List.nil_append]
  rw [if_pos]
  rw [hp]
theorem take_put {page : List UInt8} {m : Nd} (h : takeN 160 page = (m, 0)) : putN m = (page, 0) := by
  unfold takeN at h
  split at h
  · cases (congrArg Prod.snd h)
  · generalize take (page.drop 1) = q at h
    obtain ⟨count, r, e⟩ := q
    simp only at h
    split at h
    · cases (congrArg Prod.snd h)
    · unfold endN at h
      split at h
      · cases (congrArg Prod.snd h)
      · split at h
        · have := congrArg Prod.fst h
          simp only at this
          rw [← this]
          assumption
        · cases (congrArg Prod.snd h)
theorem take_bad {page : List UInt8} (h : (takeN 160 page).2 ≠ 0) : takeN 160 page = (zeroN, 4) := by
  unfold takeN at h ⊢
  split
  · rfl
  · rename_i hl
    rw [if_neg hl] at h
    generalize take (page.drop 1) = q at h ⊢
    obtain ⟨count, r, e⟩ := q
    simp only at h ⊢
    split
    · rfl
    · rename_i he
      rw [if_neg he] at h
      unfold endN at h ⊢
      split
      · rfl
      · split
        · rename_i l _ hp
          rename_i heq
          rw [heq] at h
          simp only at h
          rw [if_pos hp] at h
          exact absurd rfl h
        · rfl
end Go.Proofs.Ytobdfocfkomagaa.node
