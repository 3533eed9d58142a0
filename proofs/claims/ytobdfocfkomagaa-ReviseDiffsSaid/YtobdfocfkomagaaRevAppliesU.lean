/- What Apply and Undo tell, in one form. -/
import Derived.Test.YtobdfocfkomagaaRevLives
import Derived.Test.YtobdfocfkomagaaRevTSmall
import Derived.Test.YtobdfocfkomagaaRevCFew
import Derived.Test.YtobdfocfkomagaaRevUndo
import Derived.Test.YtobdfocfkomagaaRevRUndo
namespace Go.Proofs.Ytobdfocfkomagaa.rev
open Go.ChangeShapes Go.WideShapes Go.ChangeAt Go.RowKit
open Ytobdfocfkomagaa.base (size_mk chain newer drewn same ba_ext)
open Ytobdfocfkomagaa.row2 (Row CReads own_keep)

theorem sameF_refl : ∀ l : List KI, sameF l l = true := by
  intro l
  induction l with
  | nil => simp [sameF]
  | cons x t ih => simp [sameF, sameK, ih]
theorem sameFr_refl (t : TI) : sameFr t t = true := by
  unfold sameFr
  simp [sameF_refl]
theorem likeR_refl (rs : List RI) : likeR rs rs := ⟨rfl, fun i x y hx hy => by rw [hx] at hy; cases hy; unfold sameR; simp⟩
/-- what Apply tells: a table, its rules, an error's number -/
def outA (t : TI) (o : Option (List RI)) : TI × List RI × Int := match o with | none => (zti, [], 2) | some rs => (t, rs, 0)
def outU (cs : List CI) (o : Option (List RI)) : List CI × Int := match o with | none => ([], 2) | some _ => (undoC cs, 0)
theorem outA_ok {w : World} {t : TI} (h : TOk w t) (o : Option (List RI)) : TOk w (outA t o).1 := by
  cases o with
  | none => exact ⟨zfi_ok w, zfi_ok w⟩
  | some rs => exact h
theorem rl_nil (w : World) (A : Option Addr) : RL w A [] := ⟨fun h => absurd rfl h, fun r hr => by cases hr⟩
theorem cl_nil (w : World) (A : Option Addr) : CL w A [] := ⟨fun h => absurd rfl h, fun r hr => by cases hr⟩
def AppU (w : World) (p : TI × List RI × Int) (e : Ending) (w' : World) : Prop := Below w.heap.size w w' ∧ ∃ A c, e = .returned (.tuple #[.agg (p.1.cells (.slice A p.2.1.length c)), .int .i64 p.2.2]) ∧ RL w' A p.2.1 ∧ (A = none → p.2.1.length = 0 ∧ c = 0) ∧ p.2.1.length ≤ 100
def UndU (w : World) (p : List CI × Int) (e : Ending) (w' : World) : Prop := Below w.heap.size w w' ∧ ∃ A c, e = .returned (.tuple #[.slice A p.1.length c, .int .i64 p.2]) ∧ CL w' A p.1
theorem fi_k (f : FI) : f.v.cells = #[f.v] := rfl
theorem AppliedV.u {w w' : World} {t : TI} {o : Option (List RI)} {e : Ending} (h : AppliedV w (.string t.nm) t.ins.v t.outs.v (.int .i64 t.po) (.int .i64 t.ag) o e w') : AppU w (outA t o) e w' := by
  cases o with
  | none =>
    obtain ⟨hb, he⟩ := h
    exact ⟨hb, none, 0, he, rl_nil _ _, fun _ => ⟨rfl, rfl⟩, Nat.zero_le _⟩
  | some rs =>
    obtain ⟨hb, A, c, he, hr⟩ := h
    exact ⟨hb, A, c, he, hr.rl, hr.nil, hr.len⟩
theorem applyU (t : TI) (A : Option Addr) (n c : Nat) (rs : List RI) (B : Option Addr) (m d : Nat) (cs : List CI) (hn : rs.length = n) (hn2 : n ≤ 100) (hA : A = none → n = 0 ∧ c = 0) (hm : cs.length = m) (hm2 : m ≤ 100) (w : World) (hr : RL w A rs) (hC : CL w B cs) :
    Calls Try.prog 15 #[.agg (t.cells (.slice A n c)), .slice B m d] w (AppU w (outA t (applyR rs cs))) :=
  (apply_walk (.string t.nm) t.ins.v t.outs.v (.int .i64 t.po) (.int .i64 t.ag) A n c rs B m d cs rfl rfl rfl rfl rfl rfl rfl rfl rfl rfl hn hn2 hA hm hm2 w hr hC).mono fun e w' h => (h.v hr.ok hC.ok (by omega)).u
theorem rapplyU (t : TI) (A : Option Addr) (n c : Nat) (rs : List RI) (B : Option Addr) (m d : Nat) (cs : List CI) (hn : rs.length = n) (hm : cs.length = m) (hm2 : m ≤ 100) (w : World) (hr : RV w A c rs) (hC : CL w B cs) :
    Calls Try.prog 16 #[.agg (t.cells (.slice A n c)), .slice B m d] w (AppU w (outA t (applyR rs cs))) := by
  subst hn
  exact (rapply_walk (.string t.nm) t.ins.v t.outs.v (.int .i64 t.po) (.int .i64 t.ag) A c rs B m d cs rfl rfl rfl rfl rfl rfl rfl rfl rfl rfl hm hm2 w hr hC).mono fun e w' h => h.u
theorem Undone.u {w w' : World} {cs : List CI} {o : Option (List RI)} {e : Ending} (h : Undone w cs o e w') (hc : ∀ c ∈ cs, COk w c) : UndU w (outU cs o) e w' := by
  cases o with
  | none =>
    obtain ⟨hb, he⟩ := h
    exact ⟨hb, none, 0, he, cl_nil _ _⟩
  | some rs =>
    obtain ⟨hb, A, c, he, hown⟩ := h
    refine ⟨hb, A, c, ?_, CReads.of_own hown, fun x hx => ?_⟩
    · show e = .returned (.tuple #[.slice A (undoC cs).length c, .int .i64 0])
      rw [undoC_len]
      exact he
    · have hx' : x ∈ cs.reverse.map flip := hx
      obtain ⟨y, hy, rfl⟩ := List.mem_map.1 hx'
      have := (hc y (List.mem_reverse.1 hy)).keep hb
      exact ⟨this.r, this.bd⟩
theorem undoU (t : TI) (A : Option Addr) (n c : Nat) (rs : List RI) (B : Option Addr) (m d : Nat) (cs : List CI) (hn : rs.length = n) (hn2 : n ≤ 100) (hA : A = none → n = 0 ∧ c = 0) (hm : cs.length = m) (hm2 : m ≤ 100) (hB : B = none → m = 0 ∧ d = 0) (w : World) (hr : RL w A rs) (hC : CL w B cs) :
    Calls Try.prog 17 #[.agg (t.cells (.slice A n c)), .slice B m d] w (UndU w (outU cs (applyR rs cs))) :=
  (undo_walk (.string t.nm) t.ins.v t.outs.v (.int .i64 t.po) (.int .i64 t.ag) A n c rs B m d cs rfl rfl rfl rfl rfl rfl rfl rfl rfl rfl hn hn2 hA hm hm2 hB w hr hC).mono fun e w' h => h.u hC.ok
theorem rundoU (t : TI) (A : Option Addr) (n c : Nat) (rs : List RI) (B : Option Addr) (m d : Nat) (cs : List CI) (hn : rs.length = n) (hm : cs.length = m) (hm2 : m ≤ 100) (w : World) (hr : RV w A c rs) (hC : CL w B cs) :
    Calls Try.prog 18 #[.agg (t.cells (.slice A n c)), .slice B m d] w (UndU w (outU cs (applyR rs cs))) :=
  (rundo_walk (.string t.nm) t.ins.v t.outs.v (.int .i64 t.po) (.int .i64 t.ag) A n c rs B m d cs rfl rfl rfl rfl rfl rfl rfl rfl rfl rfl hn hm hm2 w hr hC).mono fun e w' h => h.u hC.ok
end Go.Proofs.Ytobdfocfkomagaa.rev
