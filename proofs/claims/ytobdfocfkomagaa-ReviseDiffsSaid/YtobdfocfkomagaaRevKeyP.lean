/- Rules by what they say; common parts; changes done and undone (plain). -/
import Derived.Test.YtobdfocfkomagaaRevDiffP
import Derived.Test.YtobdfocfkomagaaRevUndo
namespace Go.Proofs.Ytobdfocfkomagaa.rev
theorem tail_sub {α : Type} {z x : α} {c s : List α} (h : (z :: c).Sublist (x :: s)) : c.Sublist s := by
  cases h with
  | cons _ h => exact (List.sublist_cons_self z c).trans h
  | cons_cons _ h => exact h
section
variable {α : Type} [DecidableEq α]
def lcsG : List α → List α → Nat
  | [], _ => 0
  | _ :: _, [] => 0
  | x :: s, y :: t => if x = y then lcsG s t + 1 else max (lcsG s (y :: t)) (lcsG (x :: s) t)
termination_by s t => s.length + t.length
theorem lcsG_nil (s : List α) : lcsG s [] = 0 := by cases s <;> simp [lcsG]
theorem lcsG_max : ∀ (s t c : List α), c.Sublist s → c.Sublist t → c.length ≤ lcsG s t
  | [], t, c, h1, _ => by rw [List.sublist_nil.1 h1]; exact Nat.zero_le _
  | x :: s, [], c, _, h2 => by rw [List.sublist_nil.1 h2]; exact Nat.zero_le _
  | x :: s, y :: t, c, h1, h2 => by
    rw [lcsG]
    by_cases e : x = y
    · subst e
      rw [if_pos rfl]
      cases c with
      | nil => exact Nat.zero_le _
      | cons z c =>
        have := lcsG_max s t c (tail_sub h1) (tail_sub h2)
        simp only [List.length_cons]
        omega
    · rw [if_neg e]
      by_cases g1 : c.Sublist s
      · exact Nat.le_trans (lcsG_max s (y :: t) c g1 h2) (Nat.le_max_left _ _)
      · by_cases g2 : c.Sublist t
        · exact Nat.le_trans (lcsG_max (x :: s) t c h1 g2) (Nat.le_max_right _ _)
        · exfalso
          cases h1 with
          | cons _ h => exact g1 h
          | cons_cons _ h =>
            cases h2 with
            | cons _ h => exact g2 h
            | cons_cons _ h => exact e rfl
termination_by s t => s.length + t.length
theorem lcsG_sub : ∀ (s t : List α), ∃ c : List α, c.Sublist s ∧ c.Sublist t ∧ c.length = lcsG s t
  | [], t => ⟨[], List.nil_sublist _, List.nil_sublist _, by simp [lcsG]⟩
  | x :: s, [] => ⟨[], List.nil_sublist _, List.nil_sublist _, by simp [lcsG]⟩
  | x :: s, y :: t => by
    rw [lcsG]
    by_cases e : x = y
    · subst e
      rw [if_pos rfl]
      obtain ⟨c, h1, h2, h3⟩ := lcsG_sub s t
      exact ⟨x :: c, h1.cons_cons x, h2.cons_cons x, by rw [List.length_cons, h3]⟩
    · rw [if_neg e]
      by_cases g : lcsG s (y :: t) ≤ lcsG (x :: s) t
      · obtain ⟨c, h1, h2, h3⟩ := lcsG_sub (x :: s) t
        exact ⟨c, h1, h2.cons y, by rw [h3]; omega⟩
      · obtain ⟨c, h1, h2, h3⟩ := lcsG_sub s (y :: t)
        exact ⟨c, h1.cons x, h2, by rw [h3]; omega⟩
termination_by s t => s.length + t.length
theorem lcsG_rev (s t : List α) : lcsG s.reverse t.reverse = lcsG s t := by
  apply Nat.le_antisymm
  · obtain ⟨c, h1, h2, h3⟩ := lcsG_sub s.reverse t.reverse
    rw [← h3, ← List.length_reverse]
    exact lcsG_max s t c.reverse (by simpa using h1.reverse) (by simpa using h2.reverse)
  · obtain ⟨c, h1, h2, h3⟩ := lcsG_sub s t
    rw [← h3, ← List.length_reverse]
    exact lcsG_max _ _ c.reverse h1.reverse h2.reverse
theorem lcsG_self (s : List α) : lcsG s s = s.length := by
  apply Nat.le_antisymm
  · obtain ⟨c, h1, _, h3⟩ := lcsG_sub s s
    rw [← h3]
    exact h1.length_le
  · exact lcsG_max s s s (List.Sublist.refl s) (List.Sublist.refl s)
theorem lcsG_ins (t p q : List α) (x : α) : lcsG t (p ++ q) ≤ lcsG t (p ++ x :: q) := by
  obtain ⟨c, h1, h2, h3⟩ := lcsG_sub t (p ++ q)
  rw [← h3]
  exact lcsG_max _ _ c h1 (h2.trans (List.Sublist.append (List.Sublist.refl p) (List.sublist_cons_self x q)))
theorem lcsG_del (t p q : List α) (x : α) : lcsG t (p ++ x :: q) ≤ lcsG t (p ++ q) + 1 := by
  obtain ⟨c, h1, h2, h3⟩ := lcsG_sub t (p ++ x :: q)
  rw [← h3]
  obtain ⟨c1, c2, rfl, g1, g2⟩ := List.sublist_append_iff.1 h2
  cases g2 with
  | cons _ g =>
    exact Nat.le_succ_of_le (lcsG_max _ _ _ h1 (g1.append g))
  | @cons_cons c3 _ _ g =>
    have := lcsG_max t (p ++ q) (c1 ++ c3) ((List.Sublist.append (List.Sublist.refl c1) (List.sublist_cons_self x c3)).trans h1) (g1.append g)
    simp only [List.length_append, List.length_cons] at *
    omega
end
abbrev KT := List ByteArray × List ByteArray
/-- what a rule says -/
def key (r : RI) : KT := (r.x.l, r.y.l)
theorem sameR_key (r s : RI) : sameR r s = decide (key r = key s) := by
  unfold sameR key
  by_cases h1 : r.x.l = s.x.l <;> by_cases h2 : r.y.l = s.y.l <;> simp [h1, h2]
abbrev keys (rs : List RI) : List KT := rs.map key
theorem lcsR_key : ∀ (s t : List RI), lcsR s t = lcsG (keys s) (keys t)
  | [], t => by simp [lcsR, lcsG, keys]
  | x :: s, [] => by simp [lcsR, lcsG, keys]
  | x :: s, y :: t => by
    have h1 := lcsR_key s t
    have h2 := lcsR_key s (y :: t)
    have h3 := lcsR_key (x :: s) t
    simp only [keys, List.map_cons] at *
    rw [lcsR, lcsG, h1, h2, h3, sameR_key]
    by_cases e : key x = key y <;> simp [e]
termination_by s t => s.length + t.length
theorem lcsR_rev (s t : List RI) : lcsR s.reverse t.reverse = lcsR s t := by
  rw [lcsR_key, lcsR_key, keys, keys, List.map_reverse, List.map_reverse, lcsG_rev]
theorem lcsR_self (s : List RI) : lcsR s s = s.length := by rw [lcsR_key, lcsG_self, keys, List.length_map]
/-- how many changes are told -/
theorem diffL_count : ∀ (s t : List RI) (a : Nat), (diffL s t a).length + 2 * lcsR s t = s.length + t.length
  | [], [], _ => by simp [diffL, lcsR]
  | x :: s, [], a => by
    have := diffL_count s [] a
    rw [diffL, lcsR_nil]
    rw [lcsR_nil] at this
    simp at *
    omega
  | [], y :: t, a => by
    have := diffL_count [] t (a + 1)
    rw [diffL]
    simp [lcsR] at *
    omega
  | x :: s, y :: t, a => by
    have h1 := diffL_count s t (a + 1)
    have h2 := diffL_count s (y :: t) a
    have h3 := diffL_count (x :: s) t (a + 1)
    rw [diffL, lcsR]
    simp only [List.length_cons] at *
    split
    · omega
    · split
      · simp only [List.length_cons]
        omega
      · simp only [List.length_cons]
        omega
termination_by s t => s.length + t.length
theorem diffL_self (s : List RI) (a : Nat) : diffL s s a = [] := by
  have := diffL_count s s a
  rw [lcsR_self] at this
  exact List.length_eq_zero_iff.1 (by omega)
/-- a change by what it says -/
structure CK where
  put : Bool
  at_ : Int
  k : KT
def ckey (c : CI) : CK := ⟨c.put, c.at_, key c.r⟩
def mayK (ks : List KT) (c : CK) : Bool := if c.put then decide (ks.length < 48 ∧ 0 ≤ c.at_ ∧ c.at_ ≤ ks.length) else decide (0 ≤ c.at_ ∧ c.at_ < ks.length) && decide (ks[c.at_.toNat]? = some c.k)
def stepK (ks : List KT) (c : CK) : Option (List KT) := if mayK ks c then some (if c.put then ks.take c.at_.toNat ++ [c.k] ++ ks.drop c.at_.toNat else ks.take c.at_.toNat ++ ks.drop (c.at_.toNat + 1)) else none
def applyK : List KT → List CK → Option (List KT)
  | ks, [] => some ks
  | ks, c :: t => match stepK ks c with | none => none | some ks' => applyK ks' t
theorem may_key (rs : List RI) (c : CI) : mayR rs c = mayK (keys rs) (ckey c) := by
  unfold mayR mayK ckey
  simp only [List.length_map]
  split
  · rfl
  · congr 1
    unfold sameAt
    rw [List.getElem?_map]
    cases rs[c.at_.toNat]? with
    | none => simp
    | some s => simp [sameR_key]
theorem step_key (rs : List RI) (c : CI) : (stepR rs c).map keys = stepK (keys rs) (ckey c) := by
  have h := may_key rs c
  unfold stepR stepK
  rw [h]
  by_cases hm : mayK (keys rs) (ckey c) = true
  · rw [if_pos hm, if_pos hm]
    obtain ⟨put, i, r⟩ := c
    cases put
    · show some (keys (delR rs i.toNat)) = some ((keys rs).take i.toNat ++ (keys rs).drop (i.toNat + 1))
      simp [keys, delR, List.map_take, List.map_drop]
    · show some (keys (insR rs i.toNat r)) = some ((keys rs).take i.toNat ++ [key r] ++ (keys rs).drop i.toNat)
      simp [keys, insR, List.map_take, List.map_drop]
  · rw [if_neg hm, if_neg hm]
    rfl
theorem apply_key : ∀ (cs : List CI) (rs : List RI), (applyR rs cs).map keys = applyK (keys rs) (cs.map ckey)
  | [], rs => rfl
  | c :: t, rs => by
    have h := step_key rs c
    rw [List.map_cons, applyR, applyK, ← h]
    cases stepR rs c with
    | none => rfl
    | some rs' => exact apply_key t rs'
theorem applyK_append : ∀ (cs ds : List CK) (ks : List KT), applyK ks (cs ++ ds) = (applyK ks cs).bind (fun l => applyK l ds)
  | [], ds, ks => rfl
  | c :: t, ds, ks => by
    rw [List.cons_append, applyK, applyK]
    cases stepK ks c with
    | none => rfl
    | some l => exact applyK_append t ds l
def flipK (c : CK) : CK := { c with put := !c.put }
theorem applyK_one (ks : List KT) (c : CK) : applyK ks [c] = stepK ks c := by
  rw [applyK]
  cases stepK ks c <;> rfl
theorem step_put {ks : List KT} {i : Int} {k : KT} {l : List KT} (h : stepK ks ⟨true, i, k⟩ = some l) : ks.length < 48 ∧ ∃ p q, ks = p ++ q ∧ i = (p.length : Int) ∧ l = p ++ k :: q := by
  unfold stepK mayK at h
  simp only [if_true] at h
  split at h
  · rename_i h1
    have h2 := of_decide_eq_true h1
    cases h
    refine ⟨h2.1, ks.take i.toNat, ks.drop i.toNat, (List.take_append_drop _ _).symm, ?_, by simp⟩
    rw [List.length_take]
    omega
  · cases h
theorem step_del {ks : List KT} {i : Int} {k : KT} {l : List KT} (h : stepK ks ⟨false, i, k⟩ = some l) : ∃ p q, ks = p ++ k :: q ∧ i = (p.length : Int) ∧ l = p ++ q := by
  unfold stepK mayK at h
  simp only [Bool.false_eq_true, if_false, Bool.and_eq_true, decide_eq_true_eq] at h
  split at h
  · rename_i h1
    cases h
    obtain ⟨⟨h2, h3⟩, h4⟩ := h1
    obtain ⟨hlt, h5⟩ := List.getElem?_eq_some_iff.1 h4
    refine ⟨ks.take i.toNat, ks.drop (i.toNat + 1), ?_, ?_, rfl⟩
    · rw [← h5, ← List.drop_eq_getElem_cons hlt, List.take_append_drop]
    · rw [List.length_take]
      omega
  · cases h
theorem put_step {p q : List KT} {k : KT} (h : p.length + q.length < 48) : stepK (p ++ q) ⟨true, (p.length : Int), k⟩ = some (p ++ k :: q) := by
  unfold stepK mayK
  simp only [if_true, List.length_append, Int.toNat_natCast, List.take_left, List.drop_left]
  rw [if_pos (decide_eq_true ⟨h, by omega, by omega⟩)]
  simp
theorem del_step {p q : List KT} {k : KT} : stepK (p ++ k :: q) ⟨false, (p.length : Int), k⟩ = some (p ++ q) := by
  unfold stepK mayK
  have h1 : (p ++ k :: q)[p.length]? = some k := by rw [List.getElem?_append_right (Nat.le_refl _), Nat.sub_self]; rfl
  have h2 : (p ++ k :: q).drop (p.length + 1) = q := by rw [← List.drop_drop, List.drop_left]; rfl
  simp only [Bool.false_eq_true, if_false, Int.toNat_natCast, List.take_left, h1, h2]
  rw [if_pos]
  simp only [Bool.and_eq_true, decide_eq_true_eq, List.length_append, List.length_cons]
  exact ⟨⟨by omega, by omega⟩, trivial⟩
theorem step_len {ks l : List KT} {c : CK} (h : stepK ks c = some l) (hl : ks.length ≤ 48) : l.length ≤ 48 := by
  obtain ⟨put, i, k⟩ := c
  cases put
  · obtain ⟨p, q, rfl, -, rfl⟩ := step_del h
    simp only [List.length_append, List.length_cons] at *
    omega
  · obtain ⟨h1, p, q, rfl, -, rfl⟩ := step_put h
    simp only [List.length_append, List.length_cons] at *
    omega
theorem step_back {ks l : List KT} {c : CK} (h : stepK ks c = some l) (hl : ks.length ≤ 48) : stepK l (flipK c) = some ks := by
  obtain ⟨put, i, k⟩ := c
  cases put
  · obtain ⟨p, q, rfl, rfl, rfl⟩ := step_del h
    simp only [List.length_append, List.length_cons] at hl
    exact put_step (by omega)
  · obtain ⟨h1, p, q, rfl, rfl, rfl⟩ := step_put h
    exact del_step
/-- what was done is undone -/
theorem apply_back : ∀ (cs : List CK) (ks l : List KT), applyK ks cs = some l → ks.length ≤ 48 → applyK l (cs.reverse.map flipK) = some ks
  | [], ks, l, h, _ => by cases h; rfl
  | c :: t, ks, l, h, hl => by
    rw [applyK] at h
    cases hs : stepK ks c with
    | none => rw [hs] at h; cases h
    | some ks1 =>
      rw [hs] at h
      have ih := apply_back t ks1 l h (step_len hs hl)
      rw [List.reverse_cons, List.map_append, applyK_append, ih]
      show applyK ks1 [flipK c] = some ks
      rw [applyK_one]
      exact step_back hs hl
theorem undo_key (cs : List CI) : (undoC cs).map ckey = (cs.map ckey).reverse.map flipK := by
  unfold undoC
  rw [List.map_map, ← List.map_reverse, List.map_map]
  rfl
/-- the changes between two lists lead from the one to the other -/
theorem diff_leads : ∀ (s t : List RI) (a : Nat) (pre : List KT), pre.length = a → a + s.length + t.length ≤ 48 → applyK (pre ++ keys s) ((diffL s t a).map ckey) = some (pre ++ keys t)
  | [], [], a, pre, _, _ => by rw [diffL]; rfl
  | x :: s, [], a, pre, hp, hl => by
    rw [diffL, List.map_cons, applyK]
    show (match stepK (pre ++ key x :: keys s) ⟨false, (a : Int), key x⟩ with | none => none | some ks' => applyK ks' _) = _
    rw [← hp, del_step]
    exact diff_leads s [] pre.length pre rfl (by simp at *; omega)
  | [], y :: t, a, pre, hp, hl => by
    rw [diffL, List.map_cons, applyK]
    show (match stepK (pre ++ []) ⟨true, (a : Int), key y⟩ with | none => none | some ks' => applyK ks' _) = _
    simp only [List.length_cons, List.length_nil] at hl
    rw [← hp, put_step (by simp; omega)]
    have := diff_leads [] t (pre.length + 1) (pre ++ [key y]) (by simp) (by simp; omega)
    simpa [keys] using this
  | x :: s, y :: t, a, pre, hp, hl => by
    simp only [List.length_cons] at hl
    have e1 : keys (x :: s) = key x :: keys s := rfl
    have e2 : keys (y :: t) = key y :: keys t := rfl
    rw [diffL, sameR_key]
    by_cases e : key x = key y
    · rw [if_pos (decide_eq_true e)]
      have := diff_leads s t (a + 1) (pre ++ [key x]) (by simp [hp]) (by omega)
      rw [e1, e2, ← e]
      simpa using this
    · rw [if_neg (by simpa using e)]
      split
      · rw [List.map_cons, applyK]
        show (match stepK (pre ++ key x :: keys s) ⟨false, (a : Int), key x⟩ with | none => none | some ks' => applyK ks' _) = _
        rw [← hp, del_step]
        exact diff_leads s (y :: t) pre.length pre rfl (by simp only [List.length_cons]; omega)
      · rw [List.map_cons, applyK]
        show (match stepK (pre ++ keys (x :: s)) ⟨true, (a : Int), key y⟩ with | none => none | some ks' => applyK ks' _) = _
        rw [← hp, put_step (by simp only [List.length_map, List.length_cons]; omega)]
        have := diff_leads (x :: s) t (pre.length + 1) (pre ++ [key y]) (by simp) (by simp only [List.length_cons]; omega)
        rw [e2]
        simpa using this
termination_by s t => s.length + t.length
/-- no changes that lead from a list to another one are fewer than what both have beside what is alike -/
theorem apply_far (b : List KT) : ∀ (cs : List CK) (ks l : List KT) (e : Nat), applyK ks cs = some l → b.length + ks.length ≤ 2 * lcsG b ks + e → b.length + l.length ≤ 2 * lcsG b l + (e + cs.length)
  | [], ks, l, e, h, he => by cases h; simpa using he
  | c :: t, ks, l, e, h, he => by
    rw [applyK] at h
    cases hs : stepK ks c with
    | none => rw [hs] at h; cases h
    | some ks1 =>
      rw [hs] at h
      have key1 : b.length + ks1.length ≤ 2 * lcsG b ks1 + (e + 1) := by
        obtain ⟨put, i, k⟩ := c
        cases put
        · obtain ⟨p, q, rfl, -, rfl⟩ := step_del hs
          have := lcsG_del b p q k
          simp only [List.length_append, List.length_cons] at *
          omega
        · obtain ⟨-, p, q, rfl, -, rfl⟩ := step_put hs
          have := lcsG_ins b p q k
          simp only [List.length_append, List.length_cons] at *
          omega
      have := apply_far b t ks1 l (e + 1) h key1
      rw [List.length_cons]
      omega
theorem few {rs us : List RI} {cs : List CI} (h : applyR rs cs = some us) : (diffL rs us 0).length ≤ cs.length := by
  have h1 : applyK (keys rs) (cs.map ckey) = some (keys us) := by rw [← apply_key, h]; rfl
  have h2 := apply_far (keys rs) _ _ _ 0 h1 (by rw [lcsG_self]; omega)
  have h3 := diffL_count rs us 0
  rw [lcsR_key] at h3
  simp only [List.length_map] at h2
  omega
theorem like_keys {rs ss : List RI} (h : keys rs = keys ss) : rs.length = ss.length ∧ ∀ (i : Nat) (x y : RI), rs[i]? = some x → ss[i]? = some y → sameR x y = true := by
  refine ⟨by have := congrArg List.length h; simpa using this, fun i x y hx hy => ?_⟩
  have h1 : (keys rs)[i]? = some (key x) := by rw [List.getElem?_map, hx]; rfl
  have h2 : (keys ss)[i]? = some (key y) := by rw [List.getElem?_map, hy]; rfl
  rw [h, h2] at h1
  rw [sameR_key]
  exact decide_eq_true (Option.some.inj h1).symm
/-- there and back -/
theorem there_and_back {rs ss : List RI} (h1 : rs.length ≤ 24) (h2 : ss.length ≤ 24) : ∃ us, applyR rs (diffL rs ss 0) = some us ∧ keys us = keys ss ∧ ∃ vs, applyR us (undoC (diffL rs ss 0)) = some vs ∧ keys vs = keys rs := by
  have hd := diff_leads rs ss 0 [] rfl (by omega)
  rw [List.nil_append, List.nil_append, ← apply_key] at hd
  obtain ⟨us, hu, hk⟩ := Option.map_eq_some_iff.1 hd
  have hb := apply_back ((diffL rs ss 0).map ckey) (keys rs) (keys us) (by rw [← apply_key, hu]; rfl) (by simp; omega)
  rw [← undo_key, ← apply_key] at hb
  obtain ⟨vs, hv, hkv⟩ := Option.map_eq_some_iff.1 hb
  exact ⟨us, hu, hk, vs, hv, hkv⟩
end Go.Proofs.Ytobdfocfkomagaa.rev
