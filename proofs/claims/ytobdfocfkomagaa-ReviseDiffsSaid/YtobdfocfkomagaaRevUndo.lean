/- The walk of revise.Undo. -/
import Derived.Test.YtobdfocfkomagaaRevReverse
import Derived.BigRegion
namespace Go.Proofs.Ytobdfocfkomagaa.rev
open Go.ChangeShapes Go.WideShapes Go.ChangeAt Go.RowKit
open Ytobdfocfkomagaa.base (size_mk chain newer drewn same ba_ext)
open Ytobdfocfkomagaa.row2 (Row CReads own_keep)

attribute [local go_sem] si_one si_cells run_store_si
def flip (c : CI) : CI := { c with put := !c.put }
def undoC (cs : List CI) : List CI := cs.reverse.map flip
theorem undoC_len (cs : List CI) : (undoC cs).length = cs.length := by simp [undoC]
theorem get0_undo (cs : List CI) (p : Nat) (hp : p < cs.length) : get0 (undoC cs) p = flip (get0 cs (cs.length - 1 - p)) := by
  have h1 : (undoC cs)[p]? = some (flip (cs[cs.length - 1 - p]'(by omega))) := by
    unfold undoC
    rw [List.getElem?_map, List.getElem?_reverse hp, List.getElem?_eq_getElem (by omega)]
    rfl
  rw [get0_of h1, get0_of (List.getElem?_eq_getElem (by omega))]
theorem OwnC.flip1 {w u : World} {base g n c : Nat} {f : Nat → CI} {t : Nat} (ho : OwnC u base g n c (fun p => if p < t then flip (f p) else f p)) (hb : Below base w u) (h : t < n) :
    OwnC (u.setCell ⟨g, t * 4, none⟩ (.bool (!(f t).put))) base g n c (fun p => if p < t + 1 then flip (f p) else f p) ∧ Below base w (u.setCell ⟨g, t * 4, none⟩ (.bool (!(f t).put))) := by
  obtain ⟨⟨C, hr, hs, ha⟩, hbg, hle, hm⟩ := ho
  refine ⟨⟨⟨_, hr.set (t * 4) _, by simpa using hs, fun p hp => ?_⟩, hbg, hle, hm⟩, hb.setCell (p := ⟨g, t * 4, none⟩) hbg _⟩
  have h0 := ha p hp
  have hsz : p * 4 + 3 < C.size := (Array.getElem?_eq_some_iff.1 h0.2.2.2).1
  by_cases e : p = t
  · subst e
    simp only [Nat.lt_irrefl, if_false] at h0
    simp only [Nat.lt_succ_self, if_true]
    refine ⟨?_, ?_, ?_, ?_⟩
    · rw [Array.getElem?_setIfInBounds_self]; simp [flip]; omega
    · rw [Array.getElem?_setIfInBounds_ne (by omega)]; exact h0.2.1
    · rw [Array.getElem?_setIfInBounds_ne (by omega)]; exact h0.2.2.1
    · rw [Array.getElem?_setIfInBounds_ne (by omega)]; exact h0.2.2.2
  · have e2 : (p < t + 1) = (p < t) := by apply propext; omega
    simp only [e2]
    refine ⟨?_, ?_, ?_, ?_⟩
    · rw [Array.getElem?_setIfInBounds_ne (by omega)]; exact h0.1
    · rw [Array.getElem?_setIfInBounds_ne (by omega)]; exact h0.2.1
    · rw [Array.getElem?_setIfInBounds_ne (by omega)]; exact h0.2.2.1
    · rw [Array.getElem?_setIfInBounds_ne (by omega)]; exact h0.2.2.2
/-- what Undo tells -/
def Undone (w : World) (cs : List CI) (o : Option (List RI)) (e : Ending) (w' : World) : Prop :=
  Below w.heap.size w w' ∧ match o with
    | none => e = .returned (.tuple #[.slice none 0 0, .int .i64 2])
    | some _ => ∃ A c, e = .returned (.tuple #[.slice A cs.length c, .int .i64 0]) ∧ w'.ownsRow w.heap.size 79 4 (.slice A cs.length c) cs.length (cellsC (undoC cs))
set_option maxRecDepth 100000 in
set_option maxHeartbeats 3200000 in
theorem reverse_nil (A : Option Addr) (c : Nat) (w : World) :
    Calls Try.prog 52 #[.slice A 0 c] w fun e w' => e = .returned (.tuple #[]) ∧ w' = w := by
  go_enter Try.func52, Try.ntmps52
  go_wp2
  go_loopw [2, 3] (fun i j wr => i = .int .i64 0 ∧ j = .int .i64 (-1) ∧ wr = w) (fun _ _ _ => 0)
  case atStart => exact ⟨rfl, rfl, rfl⟩
  case round =>
    obtain ⟨rfl, rfl, rfl⟩ := hrel
    go_wp2
    refine bodyPost_end (results_none rfl _ _ _) rfl ?_
    exact ⟨rfl, rfl⟩
set_option maxRecDepth 100000 in
set_option maxHeartbeats 3200000 in
theorem undo_walk (x0 x1 x2 x3 x4 : Value) (A : Option Addr) (n c : Nat) (rs : List RI) (B : Option Addr) (m d : Nat) (cs : List CI) (o0 : x0.oneCell' = true) (o1 : x1.oneCell' = true) (o2 : x2.oneCell' = true) (o3 : x3.oneCell' = true) (o4 : x4.oneCell' = true)
    (k0 : x0.cells = #[x0]) (k1 : x1.cells = #[x1]) (k2 : x2.cells = #[x2]) (k3 : x3.cells = #[x3]) (k4 : x4.cells = #[x4])
    (hn : rs.length = n) (hn2 : n ≤ 100) (hA : A = none → n = 0 ∧ c = 0) (hm : cs.length = m) (hm2 : m ≤ 100) (hB : B = none → m = 0 ∧ d = 0) (w : World) (hr : RL w A rs) (hC : CL w B cs) :
    Calls Try.prog 17 #[.agg (tcells x0 x1 x2 x3 x4 A n c), .slice B m d] w (Undone w cs (applyR rs cs)) := by
  have hb := newer (same w) (.cells (tcells x0 x1 x2 x3 x4 A n c) 27)
  have hx := Row.new w (tcells x0 x1 x2 x3 x4 A n c) 27
  obtain ⟨q, hq⟩ : ∃ q, w.heap.size = q := ⟨_, rfl⟩
  obtain ⟨V, hV⟩ : ∃ V, w.alloc (.cells (tcells x0 x1 x2 x3 x4 A n c) 27) = V := ⟨_, rfl⟩
  rw [hV] at hb hx
  rw [hq] at hx
  have hrV := hr.keep hb
  have hCV := hC.keep hb
  have hap := apply_walk x0 x1 x2 x3 x4 A n c rs B m d cs o0 o1 o2 o3 o4 k0 k1 k2 k3 k4 hn hn2 hA hm hm2 V hrV hCV
  have t0 := hx.cell 0
  have t1 := hx.cell 1
  have t2 := hx.cell 2
  have t3 := hx.cell 3
  have t4 := hx.cell 4
  have t5 := hx.cell 5
  have H := Ytobdfocfkomagaa.base.Shut.mk (And.intro hap (And.intro hb (And.intro hx (And.intro hrV (And.intro hCV (And.intro hn hm))))))
  clear hap hb hx hrV hCV hr hC hn hm
  go_enter Try.func17, Try.ntmps17
  go_wp2_with fail
  refine H.out.1.mono ?_
  rintro e w1 hw1
  have HA := Ytobdfocfkomagaa.base.Shut.mk hw1
  clear hw1
  have s0 := fun (a : Addr) (u : World) (md : Mode) => run_store Try.prog u a x0 md o0
  have s1 := fun (a : Addr) (u : World) (md : Mode) => run_store Try.prog u a x1 md o1
  have s2 := fun (a : Addr) (u : World) (md : Mode) => run_store Try.prog u a x2 md o2
  have s3 := fun (a : Addr) (u : World) (md : Mode) => run_store Try.prog u a x3 md o3
  have s4 := fun (a : Addr) (u : World) (md : Mode) => run_store Try.prog u a x4 md o4
  cases hS : applyR rs cs with
  | none =>
    have HS := Ytobdfocfkomagaa.base.Shut.mk hS
    have hw2 := HA.out
    rw [hS] at hw2
    obtain ⟨hb1, rfl⟩ := hw2
    have HB1 := Ytobdfocfkomagaa.base.Shut.mk hb1
    clear hS hb1
    go_wp2
    refine bodyPost_ret (results_tmp2 rfl _ _ _) rfl ?_
    refine ⟨chain (chain H.out.2.1 HB1.out) (newer (same w1) _), ?_⟩
    rw [HS.out]
    rfl
  | some rs' =>
    have HS := Ytobdfocfkomagaa.base.Shut.mk hS
    have hw2 := HA.out
    rw [hS] at hw2
    obtain ⟨hb1, A1, c1, rfl, hown1⟩ := hw2
    obtain ⟨W2, hW2⟩ : ∃ W2, w1.alloc (.cells #[x0, x1, x2, x3, x4, .slice A1 rs'.length c1] 27) = W2 := ⟨_, rfl⟩
    have hb2 : Below V.heap.size V W2 := by rw [← hW2]; exact newer hb1 _
    have hcl := cloneChange.clone_walk W2 B m d (cellsC cs) (by rw [cellsC_len, H.out.2.2.2.2.2.2]) (by omega) (cellsC_one cs) (H.out.2.2.2.2.1.keep hb2).cells hB
    have HB1 := Ytobdfocfkomagaa.base.Shut.mk (And.intro hb2 hcl)
    have HW := Ytobdfocfkomagaa.base.Shut.mk hW2
    clear hS hb1 hown1 hb2 hcl
    go_wp2_with fail
    clear hW2
    refine HB1.out.2.mono ?_
    rintro e w3 ⟨A3, c3, rfl, hown3, hb3⟩
    have H3 := Ytobdfocfkomagaa.base.Shut.mk (And.intro hown3 hb3)
    clear hown3 hb3
    by_cases hm0 : m = 0
    · subst hm0
      go_wp2_with fail
      refine (reverse_nil A3 c3 w3).mono ?_
      rintro e w4 ⟨rfl, rfl⟩
      go_wp2
      go_loopw [25] (fun i wr => i = .int .i64 0 ∧ wr = w4) (fun _ _ => 0)
      case atStart => exact ⟨rfl, rfl⟩
      case round =>
        obtain ⟨rfl, rfl⟩ := hrel
        go_wp2
        refine bodyPost_ret (results_tmp2 rfl _ _ _) rfl ?_
        refine ⟨chain (chain H.out.2.1 HB1.out.1) H3.out.2, ?_⟩
        rw [HS.out]
        have hcs : cs = [] := List.length_eq_zero_iff.1 H.out.2.2.2.2.2.2
        refine ⟨A3, c3, by rw [hcs]; rfl, ?_⟩
        subst hcs
        exact own_weak H3.out.1 (chain H.out.2.1 HB1.out.1).size
    · obtain ⟨g, hAg, hown4⟩ : ∃ g, A3 = some ⟨g, 0, none⟩ ∧ OwnC w3 W2.heap.size g m c3 (get0 cs) := by
        have ho := H3.out.1
        obtain ⟨hl, ⟨hv, h0⟩ | ⟨g', cap, cur, hv, _⟩⟩ := ho
        · exact absurd h0 hm0
        · cases hv
          exact ⟨g', rfl, OwnC.of H.out.2.2.2.2.2.2 H3.out.1⟩
      subst hAg
      have hrv := reverse_walk g m c3 W2.heap.size (get0 cs) (by omega) w3 hown4
      go_wp2_with fail
      refine hrv.mono ?_
      rintro e w4 ⟨rfl, hown5, hb5⟩
      have H5 := Ytobdfocfkomagaa.base.Shut.mk (And.intro hown5 hb5)
      clear hown5 hb5 hrv hown4
      go_wp2
      go_loopw [25] (fun i wr => ∃ t : Nat, t ≤ m ∧ i = .int .i64 t ∧ Ytobdfocfkomagaa.base.Shut (OwnC wr W2.heap.size g m c3 (fun p => if p < t then flip (get0 cs (m - 1 - p)) else get0 cs (m - 1 - p)) ∧ Below W2.heap.size W2 wr)) (fun i _ => m - (intOf i).toNat)
      case atStart => exact ⟨0, Nat.zero_le _, rfl, ⟨by simpa using H5.out.1, H3.out.2.trans H5.out.2⟩⟩
      case round =>
        obtain ⟨t, ht, rfl, HR⟩ := hrel
        by_cases hlt : t < m
        · have hlt' : (t : Int) < m := by omega
          obtain ⟨C, hr, hsz, ha⟩ := HR.out.1.row
          replace hr : Row wr g C 79 := hr
          have ha0 := (ha t hlt).1
          simp only [Nat.lt_irrefl, if_false] at ha0
          have c0 := hr.at_ ha0
          have f0 := hr.frozen (t * 4)
          have HQ := Ytobdfocfkomagaa.base.Shut.mk (OwnC.flip1 (f := fun p => get0 cs (m - 1 - p)) HR.out.1 HR.out.2 hlt)
          clear hr hsz ha ha0
          go_wp2
          go_roundw
          case rel => exact ⟨t + 1, by omega, by go_num, ⟨HQ.out.1, HQ.out.2⟩⟩
          case measure => simp [intOf]; omega
        · obtain rfl : t = m := by omega
          go_wp2
          refine bodyPost_ret (results_tmp2 rfl _ _ _) rfl ?_
          refine ⟨chain (chain H.out.2.1 HB1.out.1) HR.out.2, ?_⟩
          rw [HS.out]
          have hm := H.out.2.2.2.2.2.2
          refine ⟨some ⟨g, 0, none⟩, c3, by rw [hm]; rfl, ?_⟩
          rw [hm]
          refine own_weak (base := W2.heap.size) (HR.out.1.to (by rw [undoC_len, hm]) (fun p hp => ?_)) (chain H.out.2.1 HB1.out.1).size
          rw [get0_undo cs p (by omega), if_pos hp, hm]
end Go.Proofs.Ytobdfocfkomagaa.rev
