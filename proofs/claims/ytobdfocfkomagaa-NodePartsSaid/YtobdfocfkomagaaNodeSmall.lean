/- Small; how a node is read out of an argument. -/
import Derived.Test.YtobdfocfkomagaaNodeLives
import Derived.Deep.Slices
import Derived.Deep.Fields
import Derived.ChangeSame
namespace Go.Proofs.Ytobdfocfkomagaa.node
open Go.ChangeShapes Go.WideShapes Go.ChangeAt Go.RowKit Go.Deep
open Ytobdfocfkomagaa.base (size_mk chain newer drewn same ba_ext)

def smallB (ps : PL) : Bool := decide (ps.length ≤ 60) && (List.range ps.length).all (fun k => decide ((at0 ps k).1.size ≤ 300 ∧ (at0 ps k).2.size ≤ 600))
theorem small_nice {ps : PL} (h : smallB ps = true) : Nice ps := by
  unfold smallB at h
  rw [Bool.and_eq_true, decide_eq_true_eq, List.all_eq_true] at h
  refine ⟨by omega, fun k => ?_⟩
  by_cases hk : k < ps.length
  · have := of_decide_eq_true (h.2 k (List.mem_range.2 hk))
    omega
  · unfold at0
    rw [List.getD_eq_getElem?_getD, List.getElem?_eq_none (by omega)]
    exact ⟨Nat.zero_le _, Nat.zero_le _⟩
theorem small_long {ps : PL} (h : 60 < ps.length) : smallB ps = false := by unfold smallB; rw [decide_eq_false (by omega)]; rfl
theorem small_bad {ps : PL} {k : Nat} (hk : k < ps.length) (h : ¬ ((at0 ps k).1.size ≤ 300 ∧ (at0 ps k).2.size ≤ 600)) : smallB ps = false := by
  unfold smallB
  have : (List.range ps.length).all (fun k => decide ((at0 ps k).1.size ≤ 300 ∧ (at0 ps k).2.size ≤ 600)) = false := by
    rw [List.all_eq_false]
    exact ⟨k, List.mem_range.2 hk, by rw [decide_eq_false h]; decide⟩
  rw [this, Bool.and_false]
theorem small_good {ps : PL} (hl : ps.length ≤ 60) (h : ∀ k, k < ps.length → (at0 ps k).1.size ≤ 300 ∧ (at0 ps k).2.size ≤ 600) : smallB ps = true := by
  unfold smallB
  rw [Bool.and_eq_true, decide_eq_true_eq, List.all_eq_true]
  exact ⟨hl, fun k hk => decide_eq_true (h k (List.mem_range.1 hk))⟩
set_option maxRecDepth 100000 in
set_option maxHeartbeats 800000 in
theorem small_walk (leaf : Bool) (A : Option Addr) (n c : Nat) (ps : PL) (hn : ps.length = n) (w : World) (hr : PReads w A ps) :
    Calls Try.prog 25 #[nv leaf A n c] w fun e w' => e = .returned (.bool (smallB ps)) ∧ Below w.heap.size w w' := by
  have hb := newer (same w) (.cells #[.bool leaf, .slice A n c] 50)
  have hx := Row.new w #[.bool leaf, .slice A n c] 50
  obtain ⟨q, hq⟩ : ∃ q, w.heap.size = q := ⟨_, rfl⟩
  obtain ⟨V, hV⟩ : ∃ V, w.alloc (.cells #[.bool leaf, .slice A n c] 50) = V := ⟨_, rfl⟩
  rw [hV, hq] at hx
  rw [hV] at hb
  have x1 : V.cell? ⟨q, 1, none⟩ = some (.slice A n c) := hx.cell 1
  have hlong := @small_long ps
  have hbad := fun k => @small_bad ps k
  have hgood := @small_good ps
  rw [hn] at hlong hgood
  simp only [hn] at hbad
  have H := Ytobdfocfkomagaa.base.Shut.mk (And.intro hb (And.intro (hr.keep hb) (And.intro hn (And.intro hlong (And.intro hbad hgood)))))
  clear hb hx hr hn hlong hbad hgood
  generalize smallB ps = R at H ⊢
  by_cases h60 : 60 < n
  · have h60' : (60 : Int) < n := by omega
    have HR := Ytobdfocfkomagaa.base.Shut.mk (H.out.2.2.2.1 h60)
    go_enter Try.func25, Try.ntmps25
    go_wp2
    go_ret
    exact ⟨by rw [HR.out]; rfl, H.out.1⟩
  · have h60' : ¬ (60 : Int) < n := by omega
    go_enter Try.func25, Try.ntmps25
    go_wp2
    go_loop [3] (fun i => ∃ k : Nat, k ≤ n ∧ i = .int .i64 k ∧ Ytobdfocfkomagaa.base.Shut (∀ j, j < k → (at0 ps j).1.size ≤ 300 ∧ (at0 ps j).2.size ≤ 600)) (fun i => n - (intOf i).toNat)
    case atStart => exact ⟨0, Nat.zero_le _, rfl, ⟨fun j hj => by omega⟩⟩
    case round =>
      obtain ⟨k, hk, rfl, HR⟩ := hrel
      by_cases hlt : k < n
      · have hlt' : (k : Int) < n := by omega
        have hkp : k < ps.length := by rw [H.out.2.2.1]; exact hlt
        obtain ⟨b, off, rfl, c0, c1, -⟩ := H.out.2.1.at_ hkp
        have hf := H.out.2.2.2.2.1 k hlt
        have HF := Ytobdfocfkomagaa.base.Shut.mk hf
        have hways : 300 < (at0 ps k).1.size ∨ ((at0 ps k).1.size ≤ 300 ∧ 600 < (at0 ps k).2.size) ∨ ((at0 ps k).1.size ≤ 300 ∧ (at0 ps k).2.size ≤ 600) := by omega
        have HWAY := Ytobdfocfkomagaa.base.Shut.mk hways
        clear hf
        generalize hkx : (at0 ps k).1 = kx at c0 hways HF HWAY
        generalize hvx : (at0 ps k).2 = vx at c1 hways HF HWAY
        have HE := Ytobdfocfkomagaa.base.Shut.mk (And.intro hkx hvx)
        clear hkx hvx
        rcases hways with a | ⟨a, a2⟩ | ⟨a, a2⟩
        · have HX := Ytobdfocfkomagaa.base.Shut.mk (HF.out (by omega))
          have a' : (300 : Int) < kx.size := by omega
          clear a
          go_wp2
          go_ret
          exact ⟨by rw [HX.out]; rfl, by rw [← hq]; exact H.out.1⟩
        · have HX := Ytobdfocfkomagaa.base.Shut.mk (HF.out (by omega))
          have a' : ¬ (300 : Int) < kx.size := by omega
          have a2' : (600 : Int) < vx.size := by omega
          clear a a2
          go_wp2
          go_ret
          exact ⟨by rw [HX.out]; rfl, by rw [← hq]; exact H.out.1⟩
        · have HX := Ytobdfocfkomagaa.base.Shut.mk (And.intro a a2)
          have a' : ¬ (300 : Int) < kx.size := by omega
          have a2' : ¬ (600 : Int) < vx.size := by omega
          clear a a2
          go_wp2
          go_round
          case rel => exact ⟨k + 1, by omega, by go_num, ⟨fun j hj => by
            by_cases e : j = k
            · rw [e, HE.out.1, HE.out.2]; exact HX.out
            · exact HR.out j (by omega)⟩⟩
          case measure => simp [intOf]; omega
      · obtain rfl : k = n := by omega
        have HX := Ytobdfocfkomagaa.base.Shut.mk (H.out.2.2.2.2.2 (by omega) (fun j hj => HR.out j hj))
        clear HR
        go_wp2
        go_ret
        exact ⟨by rw [HX.out]; rfl, by rw [← hq]; exact H.out.1⟩
end Go.Proofs.Ytobdfocfkomagaa.node
