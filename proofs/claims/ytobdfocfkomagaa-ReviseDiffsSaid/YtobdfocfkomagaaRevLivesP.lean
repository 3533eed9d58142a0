/- The document's example of changes (plain). -/
import Derived.Test.YtobdfocfkomagaaRevDiff
import Derived.Test.YtobdfocfkomagaaRevRulesW
import Derived.Test.YtobdfocfkomagaaRevTSame
import Derived.Test.YtobdfocfkomagaaRevRSame
import Derived.Test.YtobdfocfkomagaaRevCFew
namespace Go.Proofs.Ytobdfocfkomagaa.rev
open Ytobdfocfkomagaa.row2 (Row CReads own_keep)
open Ytobdfocfkomagaa.base (size_mk chain newer drewn same ba_ext)
abbrev bX : ByteArray := ⟨#[120]⟩
abbrev bY : ByteArray := ⟨#[121]⟩
abbrev bZ : ByteArray := ⟨#[122]⟩
abbrev bW : ByteArray := ⟨#[119]⟩
/-- a rule of one text -/
def one (r : RI) (s : ByteArray) : Prop := r.x.l = [s] ∧ r.y.l = []
theorem one_same {r s : RI} {a b : ByteArray} (hr : one r a) (hs : one s b) : sameR r s = decide (a = b) := by
  unfold sameR
  rw [hr.1, hr.2, hs.1, hs.2]
  simp
theorem isOne.one {w : World} {r : RI} {s : ByteArray} (h : isOne w r s) : one r s := by
  obtain ⟨g, rfl, _⟩ := h
  exact ⟨rfl, rfl⟩
theorem three {rs : List RI} {a b c : ByteArray} {w : World} (hl : rs.length = 3) (h : ∀ (i : Nat) (r : RI) (s : ByteArray), rs[i]? = some r → [a, b, c][i]? = some s → isOne w r s) : ∃ r0 r1 r2, rs = [r0, r1, r2] ∧ one r0 a ∧ one r1 b ∧ one r2 c ∧ ∀ r ∈ rs, ROk w r := by
  match rs, hl with
  | [r0, r1, r2], _ =>
    have h0 := h 0 r0 a rfl rfl
    have h1 := h 1 r1 b rfl rfl
    have h2 := h 2 r2 c rfl rfl
    refine ⟨r0, r1, r2, rfl, h0.one, h1.one, h2.one, fun r hr => ?_⟩
    simp only [List.mem_cons, List.not_mem_nil, or_false] at hr
    rcases hr with rfl | rfl | rfl
    · exact h0.ok
    · exact h1.ok
    · exact h2.ok
theorem ex_diff {r0 r1 r2 s0 s1 s2 : RI} (h0 : one r0 bX) (h1 : one r1 bY) (h2 : one r2 bZ) (g0 : one s0 bY) (g1 : one s1 bW) (g2 : one s2 bZ) : diffL [r0, r1, r2] [s0, s1, s2] 0 = [⟨false, 0, r0⟩, ⟨true, 1, s1⟩] := by
  have e00 := one_same h0 g0
  have e01 := one_same h0 g1
  have e02 := one_same h0 g2
  have e10 := one_same h1 g0
  have e11 := one_same h1 g1
  have e12 := one_same h1 g2
  have e20 := one_same h2 g0
  have e21 := one_same h2 g1
  have e22 := one_same h2 g2
  rw [show decide (bX = bY) = false by decide] at e00
  rw [show decide (bX = bW) = false by decide] at e01
  rw [show decide (bX = bZ) = false by decide] at e02
  rw [show decide (bY = bY) = true by decide] at e10
  rw [show decide (bY = bW) = false by decide] at e11
  rw [show decide (bY = bZ) = false by decide] at e12
  rw [show decide (bZ = bY) = false by decide] at e20
  rw [show decide (bZ = bW) = false by decide] at e21
  rw [show decide (bZ = bZ) = true by decide] at e22
  simp [diffL, lcsR, e00, e01, e02, e10, e11, e12, e20, e21, e22]
theorem ex_apply {r0 r1 r2 x0 s1 : RI} (h0 : one r0 bX) (hx : one x0 bX) : applyR [r0, r1, r2] [⟨false, 0, x0⟩, ⟨true, 1, s1⟩] = some [r1, s1, r2] := by
  have e := one_same h0 hx
  rw [show decide (bX = bX) = true by decide] at e
  simp [applyR, stepR, mayR, sameAt, e, insR, delR]
theorem ex_like {r1 s1 r2 v0 v1 v2 : RI} (h1 : one r1 bY) (g1 : one s1 bW) (h2 : one r2 bZ) (k0 : one v0 bY) (k1 : one v1 bW) (k2 : one v2 bZ) : likeR [r1, s1, r2] [v0, v1, v2] := by
  refine ⟨rfl, fun i x y hx hy => ?_⟩
  match i with
  | 0 => cases hx; cases hy; rw [one_same h1 k0]; decide
  | 1 => cases hx; cases hy; rw [one_same g1 k1]; decide
  | 2 => cases hx; cases hy; rw [one_same h2 k2]; decide
  | i + 3 => simp at hx
/-- the frame of the law's tables -/
def ti0 : TI := ⟨t0, zfi, zfi, 0, 0⟩
theorem ti0_ok (w : World) : TOk w ti0 := ⟨zfi_ok w, zfi_ok w⟩
theorem ti0_same : sameFr ti0 ti0 = true := by
  unfold sameFr ti0
  simp [zfi, sameF]
theorem ex_diffO {rs ss : List RI} (h1 : rs.length = 3) (h2 : ss.length = 3) : diffO ti0 ti0 rs ss = (diffL rs ss 0, 0) := by
  unfold diffO
  rw [ti0_same, if_pos rfl, if_neg (by omega)]
end Go.Proofs.Ytobdfocfkomagaa.rev
