/- Parts, plainly: what the law asks. -/
import Derived.Test.YtobdfocfkomagaaNodePartsP
import Derived.Test.YtobdfocfkomagaaNodePartsW
namespace Go.Proofs.Ytobdfocfkomagaa.node
open Go

theorem flat_len_ge : ∀ (P : List PL), (∀ p ∈ P, p ≠ []) → P.length ≤ P.flatten.length
  | [], _ => Nat.le_refl _
  | p :: r, h => by
    have := flat_len_ge r (fun q hq => h q (by simp [hq]))
    have hp := List.length_pos_iff.2 (h p (by simp))
    rw [List.length_cons, List.flatten_cons, List.length_append]
    omega
theorem even_of_ok {L P : List PL} (h : EvenOf L P) (hL : ∀ p ∈ L, p ≠ [] ∧ sumW p ≤ 478) : (∀ p ∈ P, p ≠ [] ∧ sumW p ≤ 478) ∧ P.flatten = L.flatten ∧ P.length = L.length := by
  rcases h with ⟨_, rfl⟩ | ⟨pre, a, b, rfl, rfl⟩
  · exact ⟨hL, rfl, rfl⟩
  · have ha := hL a (by simp)
    have hb := hL b (by simp)
    have he := even_ok 478 a.length a b ha.1 hb.1 ha.2 hb.2
    refine ⟨fun p hp => ?_, ?_, by simp⟩
    · rcases List.mem_append.1 hp with h | h
      · exact hL p (by simp [h])
      · simp only [List.mem_cons, List.not_mem_nil, or_false] at h
        rcases h with rfl | rfl
        · exact ⟨he.2.1, he.2.2.2.1⟩
        · exact ⟨he.2.2.1, he.2.2.2.2⟩
    · rw [List.flatten_append, List.flatten_append, List.flatten_cons, List.flatten_cons, List.flatten_nil, List.append_nil, he.1]
      simp
theorem at0_mid (pre p post : PL) (i : Nat) (hi : i < p.length) : at0 (pre ++ p ++ post) (pre.length + i) = at0 p i := by
  unfold at0
  rw [List.getD_eq_getElem?_getD, List.getD_eq_getElem?_getD, List.append_assoc, List.getElem?_append_right (by omega), Nat.add_sub_cancel_left, List.getElem?_append_left hi]
theorem right_mid {leaf : Bool} {pre p post : PL} (h : rightN ⟨leaf, pre ++ p ++ post⟩ = true) (hne : p ≠ []) : rightN ⟨leaf, p⟩ = true := by
  have hr := right_of h
  have hp := List.length_pos_iff.2 hne
  rw [right_all (n := ⟨leaf, p⟩)]
  · exact decide_eq_true hp
  · intro k hk
    simp only at hk
    have h1 := hr.2 (pre.length + k) (by simp only [List.length_append]; omega)
    unfold okAt at h1 ⊢
    simp only at h1 ⊢
    rw [at0_mid pre p post k hk] at h1
    rw [Bool.and_eq_true] at h1 ⊢
    refine ⟨h1.1, ?_⟩
    by_cases h0 : k = 0
    · subst h0; rfl
    · have h2 := h1.2
      rw [Bool.or_eq_true] at h2 ⊢
      rcases h2 with h2 | h2
      · have : pre.length + k = 0 := by simpa using h2
        omega
      · rw [show pre.length + k - 1 = pre.length + (k - 1) by omega, at0_mid pre p post (k - 1) (by omega)] at h2
        exact .inr h2
theorem flat_mid : ∀ (P : List PL) (p : PL), p ∈ P → ∃ pre post, P.flatten = pre ++ p ++ post
  | [], p, h => by cases h
  | q :: r, p, h => by
    rcases List.mem_cons.1 h with rfl | h
    · exact ⟨[], r.flatten, by simp⟩
    · obtain ⟨pre, post, e⟩ := flat_mid r p h
      exact ⟨q ++ pre, post, by rw [List.flatten_cons, e]; simp⟩
/-- what the law asks of the parts -/
theorem parts_ok {leaf : Bool} {ps : PL} {P : List PL} (hrt : rightN ⟨leaf, ps⟩ = true) (h60 : ps.length ≤ 60) (h : EvenOf (cutP 478 ps [] 0 []) P) :
    P.flatten = ps ∧ P.length = (cutP 478 ps [] 0 []).length ∧ P.length ≤ 60 ∧ (∀ p ∈ P, p ≠ [] ∧ checkN ⟨leaf, p⟩ = 0 ∧ p.length ≤ 60) ∧ (checkN ⟨leaf, ps⟩ = 0 → P.length = 1) := by
  have hne := (right_of hrt).1
  have hfits := cut_fits 478 ps [] 0 [] (fun x hx => by
    obtain ⟨j, hj, rfl⟩ := List.getElem_of_mem hx
    have := (wide_right hrt (k := j) hj).1
    rw [at0_get (List.getElem?_eq_getElem hj)] at this
    omega) rfl (by decide) (.inr (by intro e; rw [e] at hne; simp at hne)) (fun p hp => by cases hp) (fun _ => rfl)
  obtain ⟨e1, e2, e3⟩ := even_of_ok h hfits
  have hflat : P.flatten = ps := by rw [e2, cut_flat]; rfl
  have hle := flat_len_ge P (fun p hp => (e1 p hp).1)
  refine ⟨hflat, e3, by rw [hflat] at hle; omega, fun p hp => ?_, fun hc => ?_⟩
  · obtain ⟨pre, post, e⟩ := flat_mid P p hp
    rw [hflat] at e
    have hlen := congrArg List.length e
    rw [List.length_append, List.length_append] at hlen
    have hp1 := e1 p hp
    refine ⟨hp1.1, ?_, by omega⟩
    have hr : rightN ⟨leaf, p⟩ = true := right_mid (by rw [← e]; exact hrt) hp1.1
    unfold checkN
    rw [if_neg (by rw [hr]; decide), sumW_size (by omega), if_neg (by omega)]
  · obtain ⟨_, hs, _⟩ := put_ok hc
    rw [sumW_size (by omega)] at hs
    rw [e3, cut_one 478 ps [] 0 (by omega)]
    rfl
theorem ok_nice {m : Nd} (h : checkN m = 0) : Nice m.l := by
  obtain ⟨_, hsz, hrt⟩ := put_ok h
  have h1 := count_le m.l
  have hs : (m.l.map wideP).sum ≤ sizeN m := by unfold sizeN; omega
  refine ⟨by omega, fun k => ?_⟩
  by_cases hk : k < m.l.length
  · have := right_fits hrt _ (List.getElem_mem hk)
    rw [at0_get (List.getElem?_eq_getElem hk)]
    omega
  · unfold at0
    rw [List.getD_eq_getElem?_getD, List.getElem?_eq_none (by omega)]
    simp [ByteArray.size]
end Go.Proofs.Ytobdfocfkomagaa.node
