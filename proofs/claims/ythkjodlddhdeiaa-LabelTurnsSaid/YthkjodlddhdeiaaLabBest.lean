/- The labels of two blocks: the iterator's contract. -/
import Derived.Test.YthkjodlddhdeiaaLabLoad
import Derived.RangeFuncNested
import Derived.RangeFuncBound
import Derived.RangeFuncCalls
import Derived.RangeFuncLeaves
import Derived.Shelf.Abstract
import Derived.Shelf.RegionOpen
import Derived.WalkKit
import Derived.OwnWalkIn
import Derived.TacticsInMore
import Derived.LoopNIn
import Derived.LoopIn
namespace Go.Proofs.Ythkjodlddhdeiaa.label
open Go.ChangeShapes Go.WideShapes Go.ChangeAt Go.RowKit Go.Shelf
open Ythkjodlddhdeiaa.base Ythkjodlddhdeiaa.disk
open Ythkjodlddhdeiaa.seal (takeE takeN takeS)

attribute [local go_sem] Oper.semAt_some

/-- a block's label -/
def cand (i : Int) (s : List UInt8) : List (Int × Lb) := if takeE s = 0 ∧ (parseL (takeN s) (takeS s)).2 = 0 then [(i, (parseL (takeN s) (takeS s)).1)] else []
theorem cand_len (i : Int) (s : List UInt8) : (cand i s).length ≤ 1 := by unfold cand; split <;> simp
theorem takeS_small (s : List UInt8) : (takeS s).length ≤ 490 := by
  unfold takeS
  split
  · unfold Ythkjodlddhdeiaa.seal.textL
    simp only [List.length_take, List.length_append, List.length_drop]
    omega
  · simp

def upTo (s0 s1 : ByteArray) : Nat → List (Int × Lb)
  | 0 => []
  | 1 => cand 0 s0.data.toList
  | _ => cand 0 s0.data.toList ++ cand 1 s1.data.toList
theorem at0 (s0 s1 : ByteArray) (u : World) : (Instr.index 126 (.agg #[.string s0, .string s1]) (.int .i64 0)).run Try.prog u = .ok (.string s0) u := by
  have hu := Try.underlying126
  simp [go_sem, Instr.index]
theorem at1 (s0 s1 : ByteArray) (u : World) : (Instr.index 126 (.agg #[.string s0, .string s1]) (.int .i64 1)).run Try.prog u = .ok (.string s1) u := by
  have hu := Try.underlying126
  simp [go_sem, Instr.index]

theorem labels_in (n : Nat) (s0 s1 : ByteArray) (w : World) :
    CallsIn Fence.wide n Try.prog 106 #[.agg (pairC s0 s1)] w fun e w' => e = .returned (.func (.func 112) #[] #[.pointer (some ⟨w.heap.size, 0, none⟩)]) ∧ w' = w.alloc (.cells (pairC s0 s1) 126) := by
  refine callsIn_of_wp Try.func106 rfl trivial ?_ rfl
  simp only [Try.ntmps106, List.size_toArray, List.length_cons, List.length_nil, Nat.reduceAdd, Nat.reduceSub, Array.replicate_succ, Array.replicate_zero, List.push_toArray, List.append_toArray, List.nil_append, List.cons_append]
  gi_wp2
  go_ret
  exact ⟨rfl, rfl⟩

set_option maxRecDepth 100000 in
set_option maxHeartbeats 1600000 in
theorem labels1_in (n : Nat) (hn : 1 ≤ n) (l Bn n₀ : Nat) (s0 s1 : ByteArray) (J Jx : List (Int × Lb) → World → Prop)
    (hJ : ∀ s W W', J s W → Below W.heap.size W W' → J s W') (hJx : ∀ s W W', Jx s W → Below W.heap.size W W' → Jx s W')
    (hY : ∀ pre x W, J pre W → pre.length < 2 → YieldAt Fence.wide (n - 1) Try.prog l #[.int .i64 x.1, x.2.v] W fun e W' =>
      (e = .returned (.bool true) ∧ J (pre ++ [x]) W' ∧ Below n₀ W W') ∨ (e = .returned (.bool false) ∧ Jx (pre ++ [x]) W'))
    (W : World) (hBn : Row W Bn (pairC s0 s1) 126) (h0 : J [] W) :
    CallsIn Fence.wide n Try.prog 112 #[.func (.yield l) #[] #[], .pointer (some ⟨Bn, 0, none⟩)] W fun e W' => (∃ v, e = .returned v) ∧
      ((∃ ys, ys = cand 0 s0.data.toList ++ cand 1 s1.data.toList ∧ J ys W') ∨ (∃ pre, True ∧ Jx pre W')) := by
  have c0 : W.cell? ⟨Bn, 0, none⟩ = some (.string s0) := hBn.cell 0
  have c1 : W.cell? ⟨Bn, 1, none⟩ = some (.string s1) := hBn.cell 1
  refine callsIn_of_wp Try.func112 rfl trivial ?_ rfl
  simp only [Try.ntmps112, List.size_toArray, List.length_cons, List.length_nil, Nat.reduceAdd, Nat.reduceSub, Array.replicate_succ, Array.replicate_zero, List.push_toArray, List.append_toArray, List.nil_append, List.cons_append]
  gi_wp2
  gi_loopw [11] (fun i wr => ∃ k : Nat, k ≤ 2 ∧ i = .int .i64 k ∧ J (upTo s0 s1 k) wr) (fun i _ => 2 - (intOf i).toNat)
  case atStart => exact ⟨0, by omega, rfl, h0⟩
  case round =>
    obtain ⟨k, hk, rfl, hj⟩ := hrel
    have hways : k = 0 ∨ k = 1 ∨ k = 2 := by omega
    rcases hways with rfl | rfl | rfl
    · have HC := Ythkjodlddhdeiaa.base.Shut.mk (show upTo s0 s1 1 = upTo s0 s1 0 ++ cand 0 s0.data.toList from by simp [upTo])
      have hl0 : (upTo s0 s1 0).length < 2 := by simp [upTo]
      have HI := Ythkjodlddhdeiaa.base.Shut.mk (show cand 0 s0.data.toList = if takeE s0.data.toList = 0 ∧ (parseL (takeN s0.data.toList) (takeS s0.data.toList)).2 = 0 then [(0, (parseL (takeN s0.data.toList) (takeS s0.data.toList)).1)] else [] from rfl)
      generalize upTo s0 s1 0 = pre at hj HC hl0
      have hts := takeS_small s0.data.toList
      have ht := fun u : World => Ythkjodlddhdeiaa.seal.take_walk s0 u
      generalize takeE s0.data.toList = te at ht HI
      generalize takeN s0.data.toList = tn at ht HI
      generalize takeS s0.data.toList = ts at ht HI hts
      generalize cand 0 s0.data.toList = cd at HC HI
      have hix := at0 s0 s1
      gi_wp2_with fail
      refine ⟨trivial, (callsIn_wide.2 (ht _)).mono ?_⟩
      rintro e w1 ⟨rfl, hb1⟩
      by_cases h1 : te = 0
      · subst h1
        have hp := fun u : World => parse_walk tn ⟨ts.toArray⟩ (by rw [size_mk]; unfold maxLen; omega) u
        simp only at hp
        have HI2 := Ythkjodlddhdeiaa.base.Shut.mk (show cd = if (parseL tn ts).2 = 0 then [(0, (parseL tn ts).1)] else [] by have h := HI.out; simpa using h)
        generalize parseL tn ts = PL at hp HI2
        obtain ⟨L, E⟩ := PL
        simp only at hp HI2
        clear HI
        gi_wp2_with fail
        refine ⟨trivial, (callsIn_wide.2 (hp _)).mono ?_⟩
        rintro e w2 ⟨rfl, hb2⟩
        by_cases h2 : E = 0
        · subst h2
          obtain rfl : cd = [(0, L)] := by have h := HI2.out; rwa [if_pos rfl] at h
          have hj2 := hJ _ _ _ hj (newer (chain hb1 hb2) (.cells L.cells 81))
          obtain ⟨fn, tmps, assign, body, hy, hR⟩ := hY pre (0, L) _ hj2 hl0
          obtain ⟨lt, la, lh, ln⟩ := L
          simp only at hy
          clear hj2 hj hb1 hb2
          gi_wp2
          refine hR.mono ?_
          rintro e w3 (⟨rfl, hj3, _⟩ | ⟨rfl, hjx⟩)
          · gi_wp2
            go_roundw
            case rel => exact ⟨1, by omega, by go_num, by rw [HC.out]; exact hj3⟩
            case measure => simp [intOf]
          · gi_wp2
            refine bodyPost_ret (results_none rfl _ _ _) rfl ?_
            exact ⟨⟨_, rfl⟩, .inr ⟨_, trivial, hjx⟩⟩
        · obtain rfl : cd = [] := by have h := HI2.out; rwa [if_neg h2] at h
          have hj3 := hJ _ _ _ hj (newer (chain hb1 hb2) (.cells L.cells 81))
          obtain ⟨lt, la, lh, ln⟩ := L
          clear hj hb1 hb2
          gi_wp2
          refine ⟨fun _ h => (by cases h), ?_⟩
          gi_wp2
          go_roundw
          case rel => exact ⟨1, by omega, by go_num, by rw [HC.out, List.append_nil]; exact hj3⟩
          case measure => simp [intOf]
      · obtain rfl : cd = [] := by have h := HI.out; rwa [if_neg (fun h => h1 h.1)] at h
        have hj3 := hJ _ _ _ hj hb1
        clear hj hb1 HI
        gi_wp2
        go_roundw
        case rel => exact ⟨1, by omega, by go_num, by rw [HC.out, List.append_nil]; exact hj3⟩
        case measure => simp [intOf]
    · have HC := Ythkjodlddhdeiaa.base.Shut.mk (show upTo s0 s1 2 = upTo s0 s1 1 ++ cand 1 s1.data.toList from rfl)
      have hl0 : (upTo s0 s1 1).length < 2 := Nat.lt_of_le_of_lt (cand_len _ _) (by decide)
      have HI := Ythkjodlddhdeiaa.base.Shut.mk (show cand 1 s1.data.toList = if takeE s1.data.toList = 0 ∧ (parseL (takeN s1.data.toList) (takeS s1.data.toList)).2 = 0 then [(1, (parseL (takeN s1.data.toList) (takeS s1.data.toList)).1)] else [] from rfl)
      generalize upTo s0 s1 1 = pre at hj HC hl0
      have hts := takeS_small s1.data.toList
      have ht := fun u : World => Ythkjodlddhdeiaa.seal.take_walk s1 u
      generalize takeE s1.data.toList = te at ht HI
      generalize takeN s1.data.toList = tn at ht HI
      generalize takeS s1.data.toList = ts at ht HI hts
      generalize cand 1 s1.data.toList = cd at HC HI
      have hix := at1 s0 s1
      gi_wp2_with fail
      refine ⟨trivial, (callsIn_wide.2 (ht _)).mono ?_⟩
      rintro e w1 ⟨rfl, hb1⟩
      by_cases h1 : te = 0
      · subst h1
        have hp := fun u : World => parse_walk tn ⟨ts.toArray⟩ (by rw [size_mk]; unfold maxLen; omega) u
        simp only at hp
        have HI2 := Ythkjodlddhdeiaa.base.Shut.mk (show cd = if (parseL tn ts).2 = 0 then [(1, (parseL tn ts).1)] else [] by have h := HI.out; simpa using h)
        generalize parseL tn ts = PL at hp HI2
        obtain ⟨L, E⟩ := PL
        simp only at hp HI2
        clear HI
        gi_wp2_with fail
        refine ⟨trivial, (callsIn_wide.2 (hp _)).mono ?_⟩
        rintro e w2 ⟨rfl, hb2⟩
        by_cases h2 : E = 0
        · subst h2
          obtain rfl : cd = [(1, L)] := by have h := HI2.out; rwa [if_pos rfl] at h
          have hj2 := hJ _ _ _ hj (newer (chain hb1 hb2) (.cells L.cells 81))
          obtain ⟨fn, tmps, assign, body, hy, hR⟩ := hY pre (1, L) _ hj2 hl0
          obtain ⟨lt, la, lh, ln⟩ := L
          simp only at hy
          clear hj2 hj hb1 hb2
          gi_wp2
          refine hR.mono ?_
          rintro e w3 (⟨rfl, hj3, _⟩ | ⟨rfl, hjx⟩)
          · gi_wp2
            go_roundw
            case rel => exact ⟨2, by omega, by go_num, by rw [HC.out]; exact hj3⟩
            case measure => simp [intOf]
          · gi_wp2
            refine bodyPost_ret (results_none rfl _ _ _) rfl ?_
            exact ⟨⟨_, rfl⟩, .inr ⟨_, trivial, hjx⟩⟩
        · obtain rfl : cd = [] := by have h := HI2.out; rwa [if_neg h2] at h
          have hj3 := hJ _ _ _ hj (newer (chain hb1 hb2) (.cells L.cells 81))
          obtain ⟨lt, la, lh, ln⟩ := L
          clear hj hb1 hb2
          gi_wp2
          refine ⟨fun _ h => (by cases h), ?_⟩
          gi_wp2
          go_roundw
          case rel => exact ⟨2, by omega, by go_num, by rw [HC.out, List.append_nil]; exact hj3⟩
          case measure => simp [intOf]
      · obtain rfl : cd = [] := by have h := HI.out; rwa [if_neg (fun h => h1 h.1)] at h
        have hj3 := hJ _ _ _ hj hb1
        clear hj hb1 HI
        gi_wp2
        go_roundw
        case rel => exact ⟨2, by omega, by go_num, by rw [HC.out, List.append_nil]; exact hj3⟩
        case measure => simp [intOf]
    · gi_wp2
      go_end0
      exact ⟨⟨_, rfl⟩, .inl ⟨_, rfl, hj⟩⟩
end Go.Proofs.Ythkjodlddhdeiaa.label
