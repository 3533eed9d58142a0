/- A region that draws its order, by what is held whatever has come up. -/
import Derived.Test.YtobdfocfkomagaaBase
import Derived.Orders
namespace Go.Proofs.Ytobdfocfkomagaa.base
open Go
variable {P : Program} {ops : Array Oper} {Q : Exit → Act → World → Prop} {md : Region.Mode}

theorem countP_set_lt : ∀ (l : List Bool) (i : Nat), l[i]? = some false → (l.set i true).countP (fun b => !b) + 1 = l.countP (fun b => !b)
  | [], i, h => by simp at h
  | x :: r, 0, h => by
    obtain rfl : x = false := by simpa using h
    simp
  | x :: r, i + 1, h => by
    have := countP_set_lt r i (by simpa using h)
    rw [List.set_cons_succ, List.countP_cons, List.countP_cons]
    omega
theorem ready_false {listed : Array Bool} {i : Nat} (h : i ∈ Region.ready md ops listed) (hs : listed.size = ops.size) : listed.toList[i]? = some false := by
  unfold Region.ready at h
  rw [List.mem_filter, List.mem_range, Bool.and_eq_true] at h
  have h2 := h.2.1
  have hlt : i < listed.size := by omega
  simp [Array.getD, hlt] at h2
  simp [hlt, h2]
theorem dep_of {listed : Array Bool} {i m : Nat} {o : Oper} {e : Edge} (h : i ∈ Region.ready md ops listed) (ho : ops[i]? = some o) (he : o.after[m]? = some e) (hb : Region.binds md e = true) : listed.getD e.on false = true := by
  unfold Region.ready at h
  rw [List.mem_filter, List.mem_range, Bool.and_eq_true] at h
  have h2 := h.2.2
  rw [ho] at h2
  simp only [Option.map_some, Option.getD_some] at h2
  rw [Array.all_eq_true] at h2
  obtain ⟨hm, rfl⟩ := Array.getElem?_eq_some_iff.1 he
  have := h2 m hm
  rw [hb] at this
  simpa using this
theorem ready_lt {listed : Array Bool} {i : Nat} (h : i ∈ Region.ready md ops listed) : i < ops.size := by
  unfold Region.ready at h
  rw [List.mem_filter, List.mem_range] at h
  exact h.1
theorem wpAny_inv (I : Array Bool → Act → World → Prop) (hsz : ∀ listed a w, I listed a w → listed.size = ops.size)
    (hdone : ∀ listed a w, I listed a w → Region.ready md ops listed = [] → Q .normal a w)
    (hstep : ∀ listed a w i, I listed a w → i ∈ Region.ready md ops listed → wpOp P ops Q i (I (listed.setIfInBounds i true)) a w) :
    ∀ (fuel : Nat) (listed : Array Bool) (a : Act) (w : World), I listed a w → listed.toList.countP (fun b => !b) ≤ fuel → wpAny P md ops Q fuel listed a w
  | 0, listed, a, w, hI, hc => by
    have hnil : Region.ready md ops listed = [] := by
      rw [List.eq_nil_iff_forall_not_mem]
      intro i hi
      have := countP_set_lt _ _ (ready_false hi (hsz _ _ _ hI))
      omega
    exact ⟨hnil, hdone _ _ _ hI hnil⟩
  | fuel + 1, listed, a, w, hI, hc => by
    refine ⟨hdone _ _ _ hI, fun i hi => wpOp_mono (fun a' w' h => wpAny_inv I hsz hdone hstep fuel _ a' w' h ?_) (hstep _ _ _ _ hI hi)⟩
    have := countP_set_lt _ _ (ready_false hi (hsz _ _ _ hI))
    rw [Array.toList_setIfInBounds]
    omega
theorem wp_region_inv {id : Nat} {a : Act} {w : World} (I : Array Bool → Act → World → Prop) (hm : P.follows .mixedOrders = true) (hsz : ∀ listed a w, I listed a w → listed.size = ops.size)
    (h0 : I (Array.replicate ops.size false) a w.drew)
    (hdone : ∀ listed a w, I listed a w → Region.ready .any ops listed = [] → Q .normal a w)
    (hstep : ∀ listed a w i, I listed a w → i ∈ Region.ready .any ops listed → wpOp P ops Q i (I (listed.setIfInBounds i true)) a w) : (Code.region id ops true).wp P Q a w :=
  wp_region_any hm (wpAny_inv I hsz hdone hstep _ _ _ _ h0 (by
    refine Nat.le_trans (List.countP_le_length) ?_
    simp))
def fwdB (md : Region.Mode) (ops : Array Oper) : Bool := (List.range ops.size).all fun i => ((ops[i]?).map fun o => o.after.all fun e => !Region.binds md e || decide (e.on < i)).getD true
theorem all_listed {listed : Array Bool} (hf : fwdB md ops = true) (hr : Region.ready md ops listed = []) (hs : listed.size = ops.size) : ∀ i, i < ops.size → listed.getD i false = true := by
  intro i
  induction i using Nat.strongRecOn with
  | _ i ih =>
    intro hi
    cases hb : listed.getD i false with
    | true => rfl
    | false =>
      exfalso
      have hmem : i ∈ Region.ready md ops listed := by
        unfold Region.ready
        rw [List.mem_filter, List.mem_range]
        refine ⟨hi, ?_⟩
        have h1 : listed.getD i true = false := by
          have : i < listed.size := by omega
          simp [Array.getD, this] at hb ⊢
          exact hb
        rw [h1]
        unfold fwdB at hf
        rw [List.all_eq_true] at hf
        have hfi := hf i (List.mem_range.2 hi)
        cases ho : ops[i]? with
        | none => rw [Array.getElem?_eq_getElem hi] at ho; cases ho
        | some o =>
          rw [ho] at hfi
          simp only [Option.map_some, Option.getD_some, Bool.not_false, Bool.true_and] at hfi ⊢
          rw [Array.all_eq_true] at hfi ⊢
          intro j hj
          have := hfi j hj
          rw [Bool.or_eq_true] at this ⊢
          rcases this with h | h
          · exact .inl h
          · have hlt := of_decide_eq_true h
            exact .inr (ih _ hlt (by omega))
      rw [hr] at hmem
      cases hmem
theorem wpOp_run {i : Nat} {o : Oper} {K : Act → World → Prop} {a : Act} {w : World} (ho : ops[i]? = some o) (hg : o.guard = none) (h : ∀ K' : Act → World → Prop, (∀ a w, K a w → K' a w) → Oper.wp P o a w K' Q) : wpOp P ops Q i K a w := by
  unfold wpOp
  rw [ho]
  simp only
  rw [if_pos (by simp [Region.wanted, hg])]
  exact .inl (h K (fun _ _ h => h))
end Go.Proofs.Ytobdfocfkomagaa.base
