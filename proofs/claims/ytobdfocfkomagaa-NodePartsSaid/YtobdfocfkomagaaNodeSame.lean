/- The walks of the reference's SamePairs and Same. -/
import Derived.Test.YtobdfocfkomagaaNodeRPut
import Derived.Laws.StructEq
import Derived.BigRegion
namespace Go.Proofs.Ytobdfocfkomagaa.node
open Go.ChangeShapes Go.WideShapes Go.ChangeAt Go.RowKit
open Ytobdfocfkomagaa.base (size_mk chain newer drewn same ba_ext)

theorem pair_flds : Try.prog.underlying 60 = some (.struct (Try.prog.fieldsOf 60)) ∧ Try.prog.stoodInHeld 60 = false := ⟨by kernel_rfl, by kernel_rfl⟩
theorem pair_neq (a b c d : ByteArray) (u : World) : (binOp .neq 60 (.agg #[.string a, .string b]) (.agg #[.string c, .string d])).run Try.prog u = .ok (.bool (!decide ((a, b) = (c, d)))) u := by
  rw [run_neq_struct, run_equalIn_struct _ _ _ _ _ pair_flds.1 pair_flds.2]
  have hu := Try.underlying60
  have hs := Try.underlying9
  simp only [Program.fieldsOf, hu]
  by_cases h1 : a = c
  · by_cases h2 : b = d
    · subst h1 h2
      simp [Op.eqFields, go_sem, hs]
    · have e : (b.toList == d.toList) = false := by rw [req_dec, decide_eq_false h2]
      subst h1
      simp [Op.eqFields, go_sem, hs, e, h2]
  · have e : (a.toList == c.toList) = false := by rw [req_dec, decide_eq_false h1]
    simp [Op.eqFields, go_sem, hs, e, h1]
def samePB (ps qs : PL) : Bool := decide (ps = qs)
theorem same_len {ps qs : PL} (h : ps.length ≠ qs.length) : samePB ps qs = false := decide_eq_false (fun e => h (by rw [e]))
theorem same_bad {ps qs : PL} {k : Nat} (h : at0 ps k ≠ at0 qs k) : samePB ps qs = false := decide_eq_false (fun e => h (by rw [e]))
theorem same_all {ps qs : PL} (hl : ps.length = qs.length) (h : ∀ k, k < ps.length → at0 ps k = at0 qs k) : samePB ps qs = true := by
  refine decide_eq_true (List.ext_getElem hl fun i h1 h2 => ?_)
  have := h i h1
  rw [at0_get (List.getElem?_eq_getElem h1), at0_get (List.getElem?_eq_getElem h2)] at this
  exact this
set_option maxRecDepth 100000 in
set_option maxHeartbeats 1600000 in
theorem samePairs_walk (A B : Option Addr) (n c m d : Nat) (ps qs : PL) (hn : ps.length = n) (hm : qs.length = m) (hn2 : n ≤ 10000) (w : World) (hr : PReads w A ps) (hr2 : PReads w B qs) :
    Calls Try.prog 30 #[.slice A n c, .slice B m d] w fun e w' => e = .returned (.bool (samePB ps qs)) ∧ Below w.heap.size w w' := by
  by_cases hnm : n = m
  · subst hnm
    have HS := Ytobdfocfkomagaa.base.Shut.mk (And.intro (And.intro hr hr2) (And.intro hn hm))
    clear hr hr2 hn hm
    go_enter Try.func30, Try.ntmps30
    go_wp2
    go_loopw [5] (fun i wr => ∃ k : Nat, k ≤ n ∧ i = .int .i64 k ∧ Ytobdfocfkomagaa.base.Shut (Below w.heap.size w wr ∧ ∀ j, j < k → at0 ps j = at0 qs j)) (fun i _ => n - (intOf i).toNat)
    case atStart => exact ⟨0, Nat.zero_le _, rfl, ⟨same w, fun j hj => by omega⟩⟩
    case round =>
      obtain ⟨k, hk, rfl, HR⟩ := hrel
      by_cases hlt : k < n
      · have hlt' : (k : Int) < n := by omega
        obtain ⟨b, off, rfl, c0, c1, -⟩ := (HS.out.1.1.keep HR.out.1).at_ (k := k) (by rw [HS.out.2.1]; exact hlt)
        obtain ⟨b', off', rfl, e0, e1, -⟩ := (HS.out.1.2.keep HR.out.1).at_ (k := k) (by rw [HS.out.2.2]; exact hlt)
        have hq := fun u : World => pair_neq (at0 ps k).1 (at0 ps k).2 (at0 qs k).1 (at0 qs k).2 u
        by_cases he : at0 ps k = at0 qs k
        · have h1 : (((at0 ps k).1, (at0 ps k).2) = ((at0 qs k).1, (at0 qs k).2)) = True := by simp [he]
          simp only [h1] at hq
          have HK := Ytobdfocfkomagaa.base.Shut.mk (show ∀ j, j < k + 1 → at0 ps j = at0 qs j from fun j hj => if e : j = k then by rw [e]; exact he else HR.out.2 j (by omega))
          clear he h1
          generalize (at0 ps k).1 = x1 at c0 hq
          generalize (at0 ps k).2 = x2 at c1 hq
          generalize (at0 qs k).1 = y1 at e0 hq
          generalize (at0 qs k).2 = y2 at e1 hq
          go_wp2
          go_big_region
          go_wp2
          go_roundw
          case rel => exact ⟨k + 1, by omega, by go_num, ⟨HR.out.1.drew, HK.out⟩⟩
          case measure => simp [intOf]; omega
        · have hb := same_bad he
          have h1 : (((at0 ps k).1, (at0 ps k).2) = ((at0 qs k).1, (at0 qs k).2)) = False := eq_false he
          simp only [h1] at hq
          have HK := Ytobdfocfkomagaa.base.Shut.mk hb
          clear he h1 hb
          generalize (at0 ps k).1 = x1 at c0 hq
          generalize (at0 ps k).2 = x2 at c1 hq
          generalize (at0 qs k).1 = y1 at e0 hq
          generalize (at0 qs k).2 = y2 at e1 hq
          go_wp2
          go_big_region
          go_wp2
          go_ret
          exact ⟨by rw [HK.out]; rfl, HR.out.1.drew⟩
      · obtain rfl : k = n := by omega
        have hT := same_all (ps := ps) (qs := qs) (by rw [HS.out.2.1, HS.out.2.2]) (fun j hj => HR.out.2 j (by rw [HS.out.2.1] at hj; exact hj))
        have HT := Ytobdfocfkomagaa.base.Shut.mk hT
        clear hT
        go_wp2
        go_ret
        exact ⟨by rw [HT.out]; rfl, HR.out.1⟩
  · have hT := same_len (ps := ps) (qs := qs) (by omega)
    have HT := Ytobdfocfkomagaa.base.Shut.mk hT
    have hne : ¬ (n : Int) = m := by omega
    clear hT hn hm hr hr2
    go_enter Try.func30, Try.ntmps30
    go_wp2
    go_ret
    exact ⟨by rw [HT.out]; rfl, same w⟩
def sameN (a b : Nd) : Bool := a.leaf == b.leaf && samePB a.l b.l
theorem same_refl (a : Nd) : sameN a a = true := by unfold sameN samePB; simp
theorem same_iff {a b : Nd} : sameN a b = true ↔ a = b := by
  obtain ⟨l1, p1⟩ := a
  obtain ⟨l2, p2⟩ := b
  simp [sameN, samePB]
set_option maxRecDepth 100000 in
set_option maxHeartbeats 1600000 in
theorem same_walk (l1 l2 : Bool) (A B : Option Addr) (n c m d : Nat) (ps qs : PL) (hn : ps.length = n) (hm : qs.length = m) (hn2 : n ≤ 10000) (w : World) (hr : PReads w A ps) (hr2 : PReads w B qs) :
    Calls Try.prog 42 #[nv l1 A n c, nv l2 B m d] w fun e w' => e = .returned (.bool (sameN ⟨l1, ps⟩ ⟨l2, qs⟩)) ∧ Below w.heap.size w w' := by
  have h1 := newer (same w) (.cells #[.bool l1, .slice A n c] 49)
  have h2 := newer h1 (.cells #[.bool l2, .slice B m d] 49)
  have hsp := fun (u : World) (hu : Below w.heap.size w u) => samePairs_walk A B n c m d ps qs hn hm hn2 u (hr.keep hu) (hr2.keep hu)
  have H := Ytobdfocfkomagaa.base.Shut.mk (And.intro h2 hsp)
  clear h1 h2 hsp hn hm hr hr2
  by_cases hl : l1 = l2
  · subst hl
    go_enter Try.func42, Try.ntmps42
    go_wp2_with fail
    refine (H.out.2 _ H.out.1).mono ?_
    rintro e w1 ⟨rfl, hb1⟩
    have HB := Ytobdfocfkomagaa.base.Shut.mk (chain H.out.1 hb1)
    clear hb1
    go_wp2
    go_ret
    exact ⟨by simp [sameN], HB.out⟩
  · have hne : (l1 == l2) = false := beq_eq_false_iff_ne.2 hl
    go_enter Try.func42, Try.ntmps42
    go_wp2
    go_ret
    exact ⟨by simp [sameN, hne], H.out.1⟩
end Go.Proofs.Ytobdfocfkomagaa.node
