/- No disk, and one that nothing made. -/
import Derived.Test.YthkjodlddhdeiaaDiskCopy
namespace Go.Proofs.Ythkjodlddhdeiaa.disk
open Go.ChangeShapes Go.WideShapes Go.ChangeAt Go.RowKit
open Ythkjodlddhdeiaa.base

def Un (w : World) (v : Value) : Prop := v = .pointer none ∨ ∃ b, v = pd b ∧ w.cell? ⟨b, 0, none⟩ = some (.slice none 0 0)
theorem neq_nil_nil (w : World) : (binOp .neq 62 (.slice none 0 0) (.slice none 0 0)).run Try.prog w = .ok (.bool false) w := by
  have := run_neq_slice_nil_any (P := Try.prog) w 62 105 none 0 0 0 0 Try.underlying62
  exact this
set_option maxRecDepth 100000 in
set_option maxHeartbeats 400000 in
theorem made_un {w : World} {v : Value} (h : Un w v) : Calls Try.prog 60 #[v] w fun e w' => e = .returned (.bool false) ∧ w = w' := by
  rcases h with rfl | ⟨b, rfl, hc⟩
  · exact made_nil w
  · have hn := neq_nil_nil w
    go_enter Try.func60, Try.ntmps60
    go_wp2
    go_ret
    exact ⟨rfl, rfl⟩
set_option maxRecDepth 100000 in
set_option maxHeartbeats 400000 in
theorem may_un {w : World} {v : Value} (h : Un w v) (i : Int) : Calls Try.prog 58 #[v, .int .i64 i] w fun e w' => e = .returned (.int .i64 1) ∧ w = w' := by
  have HM := Ythkjodlddhdeiaa.base.Shut.mk (made_un h)
  clear h
  go_enter Try.func58, Try.ntmps58
  go_wp2_with fail
  refine HM.out.mono ?_
  rintro e w0 ⟨rfl, rfl⟩
  go_wp2
  go_ret
  exact ⟨rfl, rfl⟩
set_option maxRecDepth 100000 in
set_option maxHeartbeats 400000 in
theorem read_un {w : World} {v : Value} (h : Un w v) (i : Int) : Calls Try.prog 25 #[v, .int .i64 i] w fun e w' => e = .returned (.tuple #[.string ⟨([] : List UInt8).toArray⟩, .int .i64 1]) ∧ w = w' := by
  have HM := Ythkjodlddhdeiaa.base.Shut.mk (may_un h i)
  clear h
  go_enter Try.func25, Try.ntmps25
  go_wp2_with fail
  refine HM.out.mono ?_
  rintro e w0 ⟨rfl, rfl⟩
  go_wp2
  go_ret2
  exact ⟨rfl, rfl⟩
set_option maxRecDepth 100000 in
set_option maxHeartbeats 400000 in
theorem write_un {w : World} {v : Value} (h : Un w v) (i : Int) (s : ByteArray) : Calls Try.prog 21 #[v, .int .i64 i, .string s] w fun e w' => e = .returned (.int .i64 1) ∧ w = w' := by
  have HM := Ythkjodlddhdeiaa.base.Shut.mk (may_un h i)
  clear h
  go_enter Try.func21, Try.ntmps21
  go_wp2_with fail
  refine HM.out.mono ?_
  rintro e w0 ⟨rfl, rfl⟩
  go_wp2
  go_ret
  exact ⟨rfl, rfl⟩
set_option maxRecDepth 100000 in
set_option maxHeartbeats 400000 in
theorem flush_un {w : World} {v : Value} (h : Un w v) : Calls Try.prog 23 #[v] w fun e w' => e = .returned (.int .i64 1) ∧ w = w' := by
  have HM := Ythkjodlddhdeiaa.base.Shut.mk (may_un h 0)
  clear h
  go_enter Try.func23, Try.ntmps23
  go_wp2_with fail
  refine HM.out.mono ?_
  rintro e w0 ⟨rfl, rfl⟩
  go_wp2
  go_ret
  exact ⟨rfl, rfl⟩
set_option maxRecDepth 100000 in
set_option maxHeartbeats 400000 in
theorem arm_un {w : World} {v : Value} (h : Un w v) (i : Int) : Calls Try.prog 34 #[v, .int .i64 i] w fun e w' => e = .returned (.int .i64 1) ∧ w = w' := by
  have HM := Ythkjodlddhdeiaa.base.Shut.mk (may_un h 0)
  clear h
  go_enter Try.func34, Try.ntmps34
  go_wp2_with fail
  refine HM.out.mono ?_
  rintro e w0 ⟨rfl, rfl⟩
  go_wp2
  go_ret
  exact ⟨rfl, rfl⟩
set_option maxRecDepth 100000 in
set_option maxHeartbeats 400000 in
theorem crash_un {w : World} {v : Value} (h : Un w v) (fv : Value) : Calls Try.prog 24 #[v, fv] w fun e w' => e = .returned (.int .i64 1) ∧ w = w' := by
  have HM := Ythkjodlddhdeiaa.base.Shut.mk (made_un h)
  clear h
  go_enter Try.func24, Try.ntmps24
  go_wp2_with fail
  refine HM.out.mono ?_
  rintro e w0 ⟨rfl, rfl⟩
  go_wp2
  go_ret
  exact ⟨rfl, rfl⟩
set_option maxRecDepth 100000 in
set_option maxHeartbeats 400000 in
theorem len_un {w : World} {v : Value} (h : Un w v) : Calls Try.prog 33 #[v] w fun e w' => e = .returned (.int .i64 0) ∧ w = w' := by
  have HM := Ythkjodlddhdeiaa.base.Shut.mk (made_un h)
  clear h
  go_enter Try.func33, Try.ntmps33
  go_wp2_with fail
  refine HM.out.mono ?_
  rintro e w0 ⟨rfl, rfl⟩
  go_wp2
  go_ret
  exact ⟨rfl, rfl⟩
set_option maxRecDepth 100000 in
set_option maxHeartbeats 400000 in
theorem loose_un {w : World} {v : Value} (h : Un w v) : Calls Try.prog 29 #[v] w fun e w' => e = .returned (.int .i64 0) ∧ w = w' := by
  have HM := Ythkjodlddhdeiaa.base.Shut.mk (made_un h)
  clear h
  go_enter Try.func29, Try.ntmps29
  go_wp2_with fail
  refine HM.out.mono ?_
  rintro e w0 ⟨rfl, rfl⟩
  go_wp2
  go_ret
  exact ⟨rfl, rfl⟩
set_option maxRecDepth 100000 in
set_option maxHeartbeats 400000 in
theorem copy_un {w : World} {v : Value} (h : Un w v) : Calls Try.prog 32 #[v] w fun e w' => e = .returned (.pointer none) ∧ w = w' := by
  have HM := Ythkjodlddhdeiaa.base.Shut.mk (made_un h)
  clear h
  go_enter Try.func32, Try.ntmps32
  go_wp2_with fail
  refine HM.out.mono ?_
  rintro e w0 ⟨rfl, rfl⟩
  go_wp2
  go_ret
  exact ⟨rfl, rfl⟩
set_option maxRecDepth 100000 in
set_option maxHeartbeats 400000 in
/-- Flush, whatever the state -/
theorem flush_walk {w : World} {base d f s : Nat} {D : Dk} (h : At w base d f s D) (hW : D.W.length ≤ 1000000) :
    Calls Try.prog 23 #[pd d] w fun e w' => e = .returned (.int .i64 (flushE D)) ∧ At w' base d f s (flushD D) ∧ Only [d, f] w w' := by
  have hmay := may_walk h 0
  have hn1 := h.wf.n1
  by_cases hg : D.gone = true
  · have hm : mayE D 0 = 7 := by unfold mayE; rw [if_pos hg]
    have hE : flushE D = 7 := by unfold flushE; rw [if_pos hg]
    have hD : flushD D = D := by unfold flushD; rw [if_pos hg]
    rw [hm] at hmay
    rw [hE, hD]
    have HM := Ythkjodlddhdeiaa.base.Shut.mk (And.intro hmay h)
    clear hmay h hg hm hE hD hW hn1
    go_enter Try.func23, Try.ntmps23
    go_wp2_with fail
    refine HM.out.1.mono ?_
    rintro e w0 ⟨rfl, rfl⟩
    go_wp2
    go_ret
    exact ⟨rfl, HM.out.2, Only.refl _ _⟩
  · have hg' : D.gone = false := by simpa using hg
    have hm : mayE D 0 = 0 := by unfold mayE; rw [if_neg hg, if_pos (by omega)]
    by_cases hz : D.fuse = 0
    · have hb7 : burnE D = 7 := by unfold burnE; rw [if_pos hz]
      have hE : flushE D = 7 := by unfold flushE; rw [if_neg hg, hb7]
      have hD : flushD D = burnD D := by unfold flushD; rw [if_neg hg, if_pos hz]
      have hbw := burn_walk h
      rw [hm] at hmay
      rw [hb7] at hbw
      rw [hE, hD]
      have HM := Ythkjodlddhdeiaa.base.Shut.mk (And.intro hmay hbw)
      clear hmay hbw h hg hg' hm hE hD hW hn1 hz hb7
      go_enter Try.func23, Try.ntmps23
      go_wp2_with fail
      refine HM.out.1.mono ?_
      rintro e w0 ⟨rfl, rfl⟩
      go_wp2_with fail
      refine HM.out.2.mono ?_
      rintro e w1 ⟨rfl, hA1, hO1⟩
      go_wp2
      go_ret
      exact ⟨rfl, hA1, hO1.mono (by simp)⟩
    · have hE : flushE D = 0 := by unfold flushE burnE; rw [if_neg hg, if_neg hz]
      have hD : flushD D = { burnD D with F := applyW (burnD D).F (burnD D).W, W := [] } := by unfold flushD; rw [if_neg hg, if_neg hz, burnD_F, burnD_W]
      rw [hE, hD]
      exact flush_ok h hg' hz _ rfl hW
end Go.Proofs.Ythkjodlddhdeiaa.disk
