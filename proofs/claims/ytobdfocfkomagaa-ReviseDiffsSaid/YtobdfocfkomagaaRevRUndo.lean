/- The walk of the reference's Undo. -/
import Derived.Test.YtobdfocfkomagaaRevUndo
import Derived.Test.YtobdfocfkomagaaRevRApply
namespace Go.Proofs.Ytobdfocfkomagaa.rev
open Go.ChangeShapes Go.WideShapes Go.ChangeAt Go.RowKit
open Ytobdfocfkomagaa.base (size_mk chain newer drewn same ba_ext)
open Ytobdfocfkomagaa.row2 (Row CReads own_keep)

attribute [local go_sem] si_one si_cells run_store_si
def shutRU (ats : Array TypeId) (ty : TypeId) (args : Array Value) : Sem Value := Builtin.append_ ats ty args
theorem ru_shut (ats : Array TypeId) (ty : TypeId) (args : Array Value) : Builtin.append_ ats ty args = shutRU ats ty args := rfl
attribute [local go_sem ↓] ru_shut
theorem undoC_take (cs : List CI) (k : Nat) (hk : k < cs.length) (c : CI) (hc : cs[cs.length - 1 - k]? = some c) : (undoC cs).take (k + 1) = (undoC cs).take k ++ [flip c] := by
  have h1 : (undoC cs)[k]? = some (flip c) := by
    unfold undoC
    rw [List.getElem?_map, List.getElem?_reverse hk, hc]
    rfl
  rw [List.take_add_one, h1]
  rfl
theorem cellsC_app (a b : List CI) : cellsC (a ++ b) = cellsC a ++ cellsC b := by unfold cellsC; rw [List.flatMap_append]
set_option maxRecDepth 100000 in
set_option maxHeartbeats 3200000 in
theorem rundo_walk (x0 x1 x2 x3 x4 : Value) (A : Option Addr) (n c : Nat) (rs : List RI) (B : Option Addr) (m d : Nat) (cs : List CI) (o0 : x0.oneCell' = true) (o1 : x1.oneCell' = true) (o2 : x2.oneCell' = true) (o3 : x3.oneCell' = true) (o4 : x4.oneCell' = true)
    (k0 : x0.cells = #[x0]) (k1 : x1.cells = #[x1]) (k2 : x2.cells = #[x2]) (k3 : x3.cells = #[x3]) (k4 : x4.cells = #[x4])
    (hn : rs.length = n) (hm : cs.length = m) (hm2 : m ≤ 100) (w : World) (hr : RV w A c rs) (hC : CL w B cs) :
    Calls Try.prog 18 #[.agg (tcells x0 x1 x2 x3 x4 A n c), .slice B m d] w (Undone w cs (applyR rs cs)) := by
  subst hn
  have hb := newer (same w) (.cells (tcells x0 x1 x2 x3 x4 A rs.length c) 27)
  have hx := Row.new w (tcells x0 x1 x2 x3 x4 A rs.length c) 27
  obtain ⟨q, hq⟩ : ∃ q, w.heap.size = q := ⟨_, rfl⟩
  obtain ⟨V, hV⟩ : ∃ V, w.alloc (.cells (tcells x0 x1 x2 x3 x4 A rs.length c) 27) = V := ⟨_, rfl⟩
  rw [hV] at hb hx
  rw [hq] at hx
  have hrV := hr.keep hb
  have hCV := hC.keep hb
  have hap := rapply_walk x0 x1 x2 x3 x4 A c rs B m d cs o0 o1 o2 o3 o4 k0 k1 k2 k3 k4 hm hm2 V hrV hCV
  have t0 := hx.cell 0
  have t1 := hx.cell 1
  have t2 := hx.cell 2
  have t3 := hx.cell 3
  have t4 := hx.cell 4
  have t5 := hx.cell 5
  have H := Ytobdfocfkomagaa.base.Shut.mk (And.intro hap (And.intro hb (And.intro hx (And.intro hrV (And.intro hCV hm)))))
  clear hap hb hx hrV hCV hr hC hm
  obtain ⟨tn, htn⟩ : ∃ tn, rs.length = tn := ⟨_, rfl⟩
  rw [htn] at H t5 hV
  go_enter Try.func18, Try.ntmps18
  simp only [htn]
  go_wp2_with fail
  refine H.out.1.mono ?_
  rintro e w1 hw1
  have HA := Ytobdfocfkomagaa.base.Shut.mk hw1
  clear hw1
  have s0 := fun (a : Addr) (u : World) (md : Mode) => run_store Try.prog u a x0 md o0
  have s1 := fun (a : Addr) (u : World) (md : Mode) => run_store Try.prog u a x1 md o1
  have s2 := fun (a : Addr) (u : World) (md : Mode) => run_store Try.prog u a x2 md o2
  have s3 := fun (a : Addr) (u : World) (md : Mode) => run_store Try.prog u a x3 md o3
  have s4 := fun (a : Addr) (u : World) (md : Mode) => run_store Try.prog u a x4 md o4
  cases hS : applyR rs cs with
  | none =>
    have HS := Ytobdfocfkomagaa.base.Shut.mk hS
    have hw2 := HA.out
    rw [hS] at hw2
    obtain ⟨hb1, rfl⟩ := hw2
    have HB1 := Ytobdfocfkomagaa.base.Shut.mk hb1
    clear hS hb1
    go_wp2
    refine bodyPost_ret (results_tmp2 rfl _ _ _) rfl ?_
    refine ⟨chain (chain H.out.2.1 HB1.out) (newer (same w1) _), ?_⟩
    rw [HS.out]
    rfl
  | some rs' =>
    have HS := Ytobdfocfkomagaa.base.Shut.mk hS
    have hw2 := HA.out
    rw [hS] at hw2
    obtain ⟨hb1, A1, c1, rfl, hown1⟩ := hw2
    obtain ⟨W2, hW2⟩ : ∃ W2, w1.alloc (.cells #[x0, x1, x2, x3, x4, .slice A1 rs'.length c1] 27) = W2 := ⟨_, rfl⟩
    have hb2 : Below V.heap.size V W2 := by rw [← hW2]; exact newer hb1 _
    have HB1 := Ytobdfocfkomagaa.base.Shut.mk (And.intro hb2 (H.out.2.2.2.2.1.keep hb2))
    have HW := Ytobdfocfkomagaa.base.Shut.mk hW2
    clear hS hb1 hown1 hb2
    go_wp2
    go_loopw [8, 9] (fun v i wr => ∃ (k : Nat) (A3 : Option Addr) (c3 : Nat), k ≤ m ∧ v = .slice A3 k c3 ∧ i = .int .i64 ((m : Int) - 1 - (k : Int)) ∧ Ytobdfocfkomagaa.base.Shut (wr.ownsRow W2.heap.size 79 4 (.slice A3 k c3) k (cellsC ((undoC cs).take k)) ∧ Below W2.heap.size W2 wr)) (fun _ i _ => (intOf i + 1).toNat)
    case atStart => exact ⟨0, none, 0, Nat.zero_le _, rfl, by go_num, ⟨World.ownsRow_nil _ _ _ _, same _⟩⟩
    case round =>
      obtain ⟨k, A3, c3, hk, rfl, rfl, HR⟩ := hrel
      by_cases hlt : k < m
      · obtain ⟨s, hs⟩ : ∃ s, m - 1 - k = s := ⟨_, rfl⟩
        rw [show (m : Int) - 1 - (k : Int) = (s : Int) by omega]
        have hsm : s < m := by omega
        have hs0 : (0 : Int) ≤ s := by omega
        have hkm : s < cs.length := by rw [H.out.2.2.2.2.2]; exact hsm
        obtain ⟨C, hC⟩ : ∃ C, cs[s]? = some C := ⟨_, List.getElem?_eq_getElem hkm⟩
        obtain ⟨b, off, rfl, hblt, e0, e1, e2, e3, hok⟩ := (HB1.out.2.keep HR.out.2).at_ hC
        have hnw := drewn (newer (same wr) (.cells #[.bool (!C.put), .int .i64 C.at_, C.r.x.v, C.r.y.v] 79))
        have hown1 := own_keep HR.out.1 (fun g _ hg => hnw.block g hg)
        have hone : CReads (wr.alloc (.cells #[.bool (!C.put), .int .i64 C.at_, C.r.x.v, C.r.y.v] 79)).drew (some ⟨wr.heap.size, 0, none⟩) (cellsC [flip C]) := fun _ => ⟨wr.heap.size, 0, rfl, by show wr.heap.size < (wr.alloc _).heap.size; rw [World.size_alloc]; exact Nat.lt_succ_self _, fun j v hj => by
          have hr1 := (Row.new wr #[.bool (!C.put), .int .i64 C.at_, C.r.x.v, C.r.y.v] 79).below (drewn (same _))
          rw [Nat.zero_add]
          refine hr1.at_ ?_
          simpa [cellsC, flip, CI.cells] using hj⟩
        have hsz : W2.heap.size ≤ (wr.alloc (.cells #[.bool (!C.put), .int .i64 C.at_, C.r.x.v, C.r.y.v] 79)).drew.heap.size := (chain HR.out.2 hnw).size
        obtain ⟨A4, c4, w4, hrun, hown4, hgr⟩ := cloneChange.append_new (wr.alloc (.cells #[.bool (!C.put), .int .i64 C.at_, C.r.x.v, C.r.y.v] 79)).drew W2.heap.size (some ⟨wr.heap.size, 0, none⟩) 1 1 (cellsC [flip C]) rfl (by decide) (cellsC_one _) hone (fun h => by cases h) (.slice A3 k c3) k _ (by omega) hown1 hsz
        rw [← cellsC_app, ← undoC_take cs k (by rw [H.out.2.2.2.2.2]; exact hlt) C (by rw [H.out.2.2.2.2.2, hs]; exact hC)] at hown4
        have hB4 : Below W2.heap.size W2 w4 := (chain HR.out.2 hnw).grown hgr hsz (fun g hg => (own_block hown1 g hg).1)
        have HQ := Ytobdfocfkomagaa.base.Shut.mk (And.intro hown4 hB4)
        rw [ru_shut] at hrun
        clear hnw hown1 hone hsz hown4 hB4 hgr hok hblt hC hkm
        go_wp2
        go_big_region
        go_wp2
        go_roundw
        case rel => exact ⟨k + 1, A4, c4, by omega, rfl, by rw [show (s : Int) - 1 = (m : Int) - 1 - ((k + 1 : Nat) : Int) by omega], ⟨HQ.out.1, HQ.out.2⟩⟩
        case measure => simp [intOf]
      · obtain rfl : k = m := by omega
        go_wp2
        refine bodyPost_ret (results_tmp2 rfl _ _ _) rfl ?_
        refine ⟨chain (chain H.out.2.1 HB1.out.1) HR.out.2, ?_⟩
        rw [HS.out]
        have hm := H.out.2.2.2.2.2
        refine ⟨A3, c3, by rw [hm]; rfl, ?_⟩
        rw [hm]
        have h := HR.out.1
        rw [List.take_of_length_le (by rw [undoC_len, hm]; exact Nat.le_refl _)] at h
        exact own_weak h (chain H.out.2.1 HB1.out.1).size
end Go.Proofs.Ytobdfocfkomagaa.rev
