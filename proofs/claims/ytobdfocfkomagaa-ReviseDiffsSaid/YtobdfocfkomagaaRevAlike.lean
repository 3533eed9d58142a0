/- The walk of revise.Alike. -/
import Derived.Test.YtobdfocfkomagaaRevAlikeP
import Derived.Test.YtobdfocfkomagaaRevFrame
import Derived.Laws.MakeOwn
namespace Go.Proofs.Ytobdfocfkomagaa.rev
open Go.ChangeShapes Go.WideShapes Go.ChangeAt Go.RowKit
open Ytobdfocfkomagaa.base (size_mk chain newer drewn same ba_ext)
open Ytobdfocfkomagaa.row2 (Row CReads own_keep)

attribute [local go_sem] si_one si_cells run_store_si fi_one fi_cells run_store_fi
theorem info_int : ∃ i, Try.prog.info? 3 = some i ∧ i.zero = some (.int .i64 0) ∧ i.size = 1 ∧ i.bytes = 8 := by
  have h : (Try.prog.info? 3).map (fun i => (i.zero, i.size, i.bytes)) = some (some (.int .i64 0), 1, 8) := by kernel_rfl
  obtain ⟨i, hi, hh⟩ := Option.map_eq_some_iff.1 h
  simp only [Prod.mk.injEq] at hh
  exact ⟨i, hi, hh.1, hh.2.1, hh.2.2⟩
def shutMI (n m : Value) : Sem Value := Instr.makeSlice 97 n m
theorem mi_shut (n m : Value) : Instr.makeSlice 97 n m = shutMI n m := rfl
theorem made_ints (m : Nat) : madeCells (Value.int .i64 0).cells m = Array.replicate m (.int .i64 0) := by
  apply Array.ext
  · simp [madeCells]
  · intro j h1 h2
    simp [madeCells, Value.cells, Nat.mod_one]
theorem run_mi (n : Nat) (h : n ≤ 200) (u : World) : (shutMI (.int .i64 ((n : Int) + 1)) (.int .i64 ((n : Int) + 1))).run Try.prog u = .ok (.slice (some ⟨u.heap.size, 0, none⟩) (n + 1) (n + 1)) (u.alloc (.cells (Array.replicate (n + 1) (.int .i64 0)) 3)) := by
  obtain ⟨i, hi, hz, hs, hb⟩ := info_int
  have hr := run_make (P := Try.prog) u 97 3 i _ Try.underlying97 hi hz .i64 .i64 ((n + 1 : Nat) : Int) ((n + 1 : Nat) : Int) (by omega) (Int.le_refl _) (by rw [hb]; omega) (by omega)
  simp only [hs, Int.toNat_natCast, Nat.mul_one] at hr
  rw [made_ints] at hr
  exact hr
attribute [local go_sem ↓] mi_shut
set_option maxRecDepth 100000 in
set_option maxHeartbeats 3200000 in
theorem alike_walk (t u : TI) (A B : Option Addr) (n c m d : Nat) (rs ss : List RI) (hn : rs.length = n) (hm : ss.length = m) (hn2 : n ≤ 100) (hm2 : m ≤ 100) (w : World) (hr : RL w A rs) (hs : RL w B ss) :
    Calls Try.prog 23 #[.agg (t.cells (.slice A n c)), .agg (u.cells (.slice B m d))] w fun e w' => e = .returned (.int .i64 (Pf rs ss n m : Int)) ∧ Below w.heap.size w w' := by
  have h1 := newer (same w) (.cells (t.cells (.slice A n c)) 27)
  have h2 := newer h1 (.cells (u.cells (.slice B m d)) 27)
  have rA := (Row.new w (t.cells (.slice A n c)) 27).below (newer (same (w.alloc (.cells (t.cells (.slice A n c)) 27))) (.cells (u.cells (.slice B m d)) 27))
  have rB := Row.new (w.alloc (.cells (t.cells (.slice A n c)) 27)) (u.cells (.slice B m d)) 27
  rw [World.size_alloc] at rB
  obtain ⟨V, hV⟩ : ∃ V, (w.alloc (.cells (t.cells (.slice A n c)) 27)).alloc (.cells (u.cells (.slice B m d)) 27) = V := ⟨_, rfl⟩
  rw [hV] at h2 rA rB
  obtain ⟨q, hq⟩ : ∃ q, w.heap.size = q := ⟨_, rfl⟩
  rw [hq] at rA rB
  have hmk := run_mi m (by omega) V
  have hL : Line (V.alloc (.cells (Array.replicate (m + 1) (.int .i64 0)) 3)) V.heap.size (m + 1) (Pf rs ss 0) :=
    ⟨⟨_, Row.new V _ _, by simp, fun k hk => by rw [Array.getElem?_replicate, if_pos hk, Pf_zero1]; rfl⟩⟩
  obtain ⟨g, hg⟩ : ∃ g, V.heap.size = g := ⟨_, rfl⟩
  have hU := newer (same V) (.cells (Array.replicate (m + 1) (.int .i64 0)) 3)
  generalize V.alloc (.cells (Array.replicate (m + 1) (.int .i64 0)) 3) = U at hmk hL hU
  have H := Ytobdfocfkomagaa.base.Shut.mk (And.intro (hr.keep h2) (And.intro (hs.keep h2) (And.intro hn (And.intro hm (And.intro (by rw [← hg]; exact hL : Line U g (m + 1) (Pf rs ss 0)) hU)))))
  obtain ⟨tn, ti, to_, tp, ta⟩ := t
  obtain ⟨un, ui, uo, up, ua⟩ := u
  have x5 := (rA.below hU).cell 5
  have y5 := rB.cell 5
  have HR := Ytobdfocfkomagaa.base.Shut.mk (And.intro rA (And.intro rB h2))
  clear h1 h2 rA rB hr hs hn hm hL hU
  simp only [TI.cells] at x5 y5 hV
  rw [hg] at hmk
  show Calls Try.prog 23 #[.agg #[.string tn, ti.v, to_.v, .int .i64 tp, .int .i64 ta, .slice A n c], .agg #[.string un, ui.v, uo.v, .int .i64 up, .int .i64 ua, .slice B m d]] w _
  go_enter Try.func23, Try.ntmps23
  go_wp2
  go_loopw [20] (fun i wr => ∃ i' : Nat, i' ≤ n ∧ i = .int .i64 (i' : Int) ∧ Ytobdfocfkomagaa.base.Shut (Line wr g (m + 1) (Pf rs ss i') ∧ Below V.heap.size V wr)) (fun i _ => n - (intOf i).toNat)
  case atStart => exact ⟨0, Nat.zero_le _, rfl, ⟨H.out.2.2.2.2.1, H.out.2.2.2.2.2⟩⟩
  case round =>
    obtain ⟨i, hi, rfl, HI⟩ := hrel
    by_cases hlt : i < n
    · have hlt' : (i : Int) < n := by omega
      have hi0 : (0 : Int) ≤ i := by omega
      obtain ⟨x, hx⟩ : ∃ x, rs[i]? = some x := ⟨_, List.getElem?_eq_getElem (by rw [H.out.2.2.1]; omega)⟩
      obtain ⟨b, off, rfl, hblt, m0, m1, hok⟩ := (H.out.1.keep HI.out.2).at_ hx
      obtain ⟨qx, hqx⟩ : ∃ qx, wr.heap.size = qx := ⟨_, rfl⟩
      obtain ⟨W1, hW1⟩ : ∃ W1, wr.alloc (.cells #[x.x.v, x.y.v] 77) = W1 := ⟨_, rfl⟩
      have hb1 : Below wr.heap.size wr W1 := by rw [← hW1]; exact newer (same wr) _
      have hrx : Row W1 wr.heap.size #[x.x.v, x.y.v] 77 := by rw [← hW1]; exact Row.new wr _ _
      rw [hqx] at hrx
      have yW : W1.cell? ⟨q + 1, 5, none⟩ = some (.slice B m d) := (HR.out.2.1.below (chain HI.out.2 hb1)).cell 5
      have HX := Ytobdfocfkomagaa.base.Shut.mk (And.intro hx (And.intro (H.out.1.ok x (List.mem_of_getElem? hx)) (And.intro (HI.out.1.below hb1) (And.intro (chain HI.out.2 hb1) hrx))))
      clear hx hblt hok hrx hb1
      go_wp2
      clear hW1
      go_loopw [8, 27] (fun co k wr => ∃ k' : Nat, k' ≤ m ∧ co = .int .i64 (Pf rs ss i k' : Int) ∧ k = .int .i64 (k' : Int) ∧ Ytobdfocfkomagaa.base.Shut (Line wr g (m + 1) (midL rs ss i k') ∧ Below V.heap.size V wr ∧ Row wr qx #[x.x.v, x.y.v] 77)) (fun _ k _ => m - (intOf k).toNat)
      case atStart => exact ⟨0, Nat.zero_le _, by rw [Pf_zero2]; rfl, rfl, ⟨HX.out.2.2.1.congr (fun k _ => midL_start rs ss i k), HX.out.2.2.2.1, HX.out.2.2.2.2⟩⟩
      case round =>
        obtain ⟨k, hk, rfl, rfl, HJ⟩ := hrel
        by_cases hkl : k < m
        · have hkl' : (k : Int) < m := by omega
          have hk0 : (0 : Int) ≤ k := by omega
          have hk1 : (0 : Int) ≤ (k : Int) + 1 := by omega
          have hk2 : (k : Int) + 1 < (m : Int) + 1 := by omega
          have hk3 : (k : Int) < (m : Int) + 1 := by omega
          obtain ⟨y, hy⟩ : ∃ y, ss[k]? = some y := ⟨_, List.getElem?_eq_getElem (by rw [H.out.2.2.2.1]; omega)⟩
          obtain ⟨b', off', rfl, hblt', n0, n1, hok'⟩ := (H.out.2.1.keep HJ.out.2.1).at_ hy
          obtain ⟨qy, hqy⟩ : ∃ qy, wr.heap.size = qy := ⟨_, rfl⟩
          obtain ⟨W2, hW2⟩ : ∃ W2, wr.alloc (.cells #[y.x.v, y.y.v] 77) = W2 := ⟨_, rfl⟩
          have hb2 : Below wr.heap.size wr W2 := by rw [← hW2]; exact newer (same wr) _
          have hry : Row W2 wr.heap.size #[y.x.v, y.y.v] 77 := by rw [← hW2]; exact Row.new wr _ _
          rw [hqy] at hry
          have hl2 := (HJ.out.1.below hb2).at_ (k + 1) (by omega)
          rw [show midL rs ss i k (k + 1) = Pf rs ss i (k + 1) from if_neg (by omega)] at hl2
          have a0 := (HJ.out.2.2.below hb2).cell 0
          have a1 := (HJ.out.2.2.below hb2).cell 1
          have b0 := hry.cell 0
          have b1 := hry.cell 1
          have hsm := same_walk x y W2 (HX.out.2.1.keep (chain HJ.out.2.1 hb2)) (hok'.keep hb2)
          have hst := Pf_step HX.out.1 hy
          have HY := Ytobdfocfkomagaa.base.Shut.mk (And.intro hsm (And.intro hst (And.intro (HJ.out.1.below hb2) (And.intro (chain HJ.out.2.1 hb2) (HJ.out.2.2.below hb2)))))
          have hP1 := Pf_le rs ss i (k + 1)
          have hP2 := Pf_le rs ss i k
          have hP3 := Pf_le rs ss (i + 1) k
          clear hsm hst hok' hblt' hb2 hry hy
          go_wp2_with fail
          clear hW2
          refine HY.out.1.mono ?_
          rintro e w5 ⟨rfl, hb5⟩
          have hL5 := HY.out.2.2.1.below hb5
          have hP := HY.out.2.1
          have H5 := Ytobdfocfkomagaa.base.Shut.mk (And.intro hL5 (And.intro (chain HY.out.2.2.2.1 hb5) (And.intro (HY.out.2.2.2.2.below hb5) hP)))
          have hfz : w5.frozen? ⟨g, k + 1, none⟩ = false := hL5.frozen _
          have hc1 := hL5.at_ (k + 1) (by omega)
          have hc0 := hL5.at_ k (by omega)
          rw [show midL rs ss i k (k + 1) = Pf rs ss i (k + 1) from if_neg (by omega)] at hc1
          rw [show midL rs ss i k k = Pf rs ss (i + 1) k from if_pos (Nat.le_refl _)] at hc0
          clear hL5 hP hb5
          cases hsm : sameR x y
          · rw [hsm, if_neg Bool.false_ne_true] at H5
            go_wp2
            go_roundw
            case rel =>
              refine ⟨k + 1, by omega, rfl, by go_num, ⟨?_, ?_, ?_⟩⟩
              · have h4 := H5.out.1.set (k + 1) (max (Pf rs ss i (k + 1)) (Pf rs ss (i + 1) k)) (by omega)
                rw [show ((max (Pf rs ss i (k + 1)) (Pf rs ss (i + 1) k) : Nat) : Int) = (if Pf rs ss i (k + 1) < Pf rs ss (i + 1) k then (Pf rs ss (i + 1) k : Int) else (Pf rs ss i (k + 1) : Int)) by split <;> omega] at h4
                exact h4.congr (fun j _ => by rw [← midL_step, H5.out.2.2.2])
              · exact H5.out.2.1.setCell (p := ⟨g, k + 1, none⟩) (by show V.heap.size ≤ g; omega) _
              · obtain ⟨C, hC, _, _⟩ := H5.out.1.row
                exact H5.out.2.2.1.other g (k + 1) _ (Row.apart H5.out.2.2.1 hC (by decide))
            case measure => simp [intOf]; omega
          · rw [hsm, if_pos rfl] at H5
            go_wp2
            go_roundw
            case rel =>
              refine ⟨k + 1, by omega, rfl, by go_num, ⟨?_, ?_, ?_⟩⟩
              · have h4 := H5.out.1.set (k + 1) (Pf rs ss i k + 1) (by omega)
                exact h4.congr (fun j _ => by rw [← midL_step, H5.out.2.2.2])
              · exact H5.out.2.1.setCell (p := ⟨g, k + 1, none⟩) (by show V.heap.size ≤ g; omega) _
              · obtain ⟨C, hC, _, _⟩ := H5.out.1.row
                exact H5.out.2.2.1.other g (k + 1) _ (Row.apart H5.out.2.2.1 hC (by decide))
            case measure => simp [intOf]; omega
        · obtain rfl : k = m := by omega
          go_wp2
          go_roundw
          case rel => exact ⟨i + 1, by omega, by go_num, ⟨HJ.out.1.congr (fun j hj => midL_end rs ss i k j (by omega)), HJ.out.2.1⟩⟩
          case measure => simp [intOf]; omega
    · obtain rfl : i = n := by omega
      have x5 := (HR.out.1.below HI.out.2).cell 5
      have y5 := (HR.out.2.1.below HI.out.2).cell 5
      simp only [TI.cells] at x5 y5
      have hl := HI.out.1.at_ m (by omega)
      have hm0 : (0 : Int) ≤ m := by omega
      have hm1 : (m : Int) < (m : Int) + 1 := by omega
      go_wp2
      go_ret
      exact ⟨rfl, chain HR.out.2.2 HI.out.2⟩
end Go.Proofs.Ytobdfocfkomagaa.rev
