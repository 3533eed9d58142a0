/- The walk of revise.Diff. -/
import Derived.Test.YtobdfocfkomagaaRevLayW
import Derived.Test.YtobdfocfkomagaaRevDiffP
import Derived.Test.YtobdfocfkomagaaRevFrame
import Derived.Test.YtobdfocfkomagaaRevRUndo
namespace Go.Proofs.Ytobdfocfkomagaa.rev
open Go.ChangeShapes Go.WideShapes Go.ChangeAt Go.RowKit
open Ytobdfocfkomagaa.base (size_mk chain newer drewn same ba_ext)
open Ytobdfocfkomagaa.row2 (Row CReads own_keep)

attribute [local go_sem] si_one si_cells run_store_si fi_one fi_cells run_store_fi
def shutDF (ats : Array TypeId) (ty : TypeId) (args : Array Value) : Sem Value := Builtin.append_ ats ty args
theorem df_shut (ats : Array TypeId) (ty : TypeId) (args : Array Value) : Builtin.append_ ats ty args = shutDF ats ty args := rfl
attribute [local go_sem ↓] df_shut
/-- what Diff answers: the changes, and the error's number -/
def diffO (t u : TI) (rs ss : List RI) : List CI × Int := if sameFr t u then if 24 < rs.length ∨ 24 < ss.length then ([], 24) else (diffL rs ss 0, 0) else ([], 2)
def Diffed (w : World) (o : List CI × Int) (e : Ending) (w' : World) : Prop :=
  Below w.heap.size w w' ∧ ∃ A c, e = .returned (.tuple #[.slice A o.1.length c, .int .i64 o.2]) ∧ w'.ownsRow w.heap.size 79 4 (.slice A o.1.length c) o.1.length (cellsC o.1)
theorem Diffed.err {w w' : World} {i : Int} (h : Below w.heap.size w w') : Diffed w ([], i) (.returned (.tuple #[.slice none 0 0, .int .i64 i])) w' :=
  ⟨h, none, 0, rfl, World.ownsRow_nil _ _ _ _⟩
/-- the changes told so far, a place i, a place k -/
structure DiffAt (W wr : World) (A : Option Addr) (c i k : Nat) (rs ss : List RI) (out : List CI) : Prop where
  own : wr.ownsRow W.heap.size 79 4 (.slice A out.length c) out.length (cellsC out)
  below : Below W.heap.size W wr
  rest : out ++ Dc rs ss i k = diffL rs ss 0
  few : out.length ≤ i + k
theorem DiffAt.start (W : World) (rs ss : List RI) : DiffAt W W none 0 0 0 rs ss [] := ⟨World.ownsRow_nil _ _ _ _, same _, rfl, Nat.le_refl _⟩
theorem DiffAt.both {W wr w' : World} {A : Option Addr} {c i k : Nat} {rs ss : List RI} {out : List CI} (h : DiffAt W wr A c i k rs ss out) {x y : RI} (hx : rs[i]? = some x) (hy : ss[k]? = some y) (hs : sameR x y = true) (hb : Below wr.heap.size wr w') : DiffAt W w' A c (i + 1) (k + 1) rs ss out :=
  ⟨own_keep h.own (fun g _ hg => hb.block g hg), chain h.below hb, by rw [← Dc_same hx hy hs]; exact h.rest, by have := h.few; omega⟩
/-- one change more -/
theorem DiffAt.more {W wr w1 : World} {A : Option Addr} {c i k : Nat} {rs ss : List RI} {out : List CI} (h : DiffAt W wr A c i k rs ss out) (hb : Below wr.heap.size wr w1) (C : CI) (i' k' : Nat) (hik : i + k + 1 ≤ i' + k') (hk : i + k ≤ 100) (hd : Dc rs ss i k = C :: Dc rs ss i' k')
    (ats : Array TypeId) (ty : TypeId) (hats : ats = #[28, 28]) (hty : ty = 28) :
    ∃ A4 c4 w4, (shutDF ats ty #[.slice A out.length c, .slice (some ⟨w1.heap.size, 0, none⟩) 1 1]).run Try.prog (w1.alloc (.cells #[.bool C.put, .int .i64 C.at_, C.r.x.v, C.r.y.v] 79)) = .ok (.slice A4 (out.length + 1) c4) w4 ∧ DiffAt W w4 A4 c4 i' k' rs ss (out ++ [C]) := by
  have hnw := chain hb (newer (same w1) (.cells #[.bool C.put, .int .i64 C.at_, C.r.x.v, C.r.y.v] 79))
  have hown1 := own_keep h.own (fun g _ hg => hnw.block g hg)
  have hone : CReads (w1.alloc (.cells #[.bool C.put, .int .i64 C.at_, C.r.x.v, C.r.y.v] 79)) (some ⟨w1.heap.size, 0, none⟩) (cellsC [C]) := fun _ => ⟨w1.heap.size, 0, rfl, by show w1.heap.size < (w1.alloc _).heap.size; rw [World.size_alloc]; exact Nat.lt_succ_self _, fun j v hj => by
    have hr1 := Row.new w1 #[.bool C.put, .int .i64 C.at_, C.r.x.v, C.r.y.v] 79
    rw [Nat.zero_add]
    refine hr1.at_ ?_
    simpa [cellsC, CI.cells] using hj⟩
  have hsz : W.heap.size ≤ (w1.alloc (.cells #[.bool C.put, .int .i64 C.at_, C.r.x.v, C.r.y.v] 79)).heap.size := (chain h.below hnw).size
  obtain ⟨A4, c4, w4, hrun, hown4, hgr⟩ := cloneChange.append_new (w1.alloc (.cells #[.bool C.put, .int .i64 C.at_, C.r.x.v, C.r.y.v] 79)) W.heap.size (some ⟨w1.heap.size, 0, none⟩) 1 1 (cellsC [C]) rfl (by decide) (cellsC_one _) hone (fun h => by cases h) (.slice A out.length c) out.length _ (by have := h.few; omega) hown1 hsz
  rw [← cellsC_app] at hown4
  have hB4 : Below W.heap.size W w4 := (chain h.below hnw).grown hgr hsz (fun g hg => (own_block hown1 g hg).1)
  subst hats hty
  refine ⟨A4, c4, w4, hrun, ⟨by rw [List.length_append]; exact hown4, hB4, by rw [List.append_assoc]; show out ++ (C :: Dc rs ss i' k') = _; rw [← hd]; exact h.rest, by rw [List.length_append]; have := h.few; simp only [List.length_singleton]; omega⟩⟩
set_option maxRecDepth 100000 in
set_option maxHeartbeats 3200000 in
theorem diff_walk (t u : TI) (A B : Option Addr) (n c m d : Nat) (rs ss : List RI) (hn : rs.length = n) (hm : ss.length = m) (hn2 : n ≤ 100) (hm2 : m ≤ 100) (w : World) (ht : TOk w t) (hu : TOk w u) (hr : RL w A rs) (hs : RL w B ss) :
    Calls Try.prog 21 #[.agg (t.cells (.slice A n c)), .agg (u.cells (.slice B m d))] w (Diffed w (diffO t u rs ss)) := by
  have h1 := newer (same w) (.cells (t.cells (.slice A n c)) 27)
  have h2 := newer h1 (.cells (u.cells (.slice B m d)) 27)
  have rA := (Row.new w (t.cells (.slice A n c)) 27).below (newer (same (w.alloc (.cells (t.cells (.slice A n c)) 27))) (.cells (u.cells (.slice B m d)) 27))
  have rB := Row.new (w.alloc (.cells (t.cells (.slice A n c)) 27)) (u.cells (.slice B m d)) 27
  rw [World.size_alloc] at rB
  obtain ⟨V, hV⟩ : ∃ V, (w.alloc (.cells (t.cells (.slice A n c)) 27)).alloc (.cells (u.cells (.slice B m d)) 27) = V := ⟨_, rfl⟩
  rw [hV] at h2 rA rB
  have e1 := framed_walk t u A B n c m d V.drew (ht.keep (drewn h2)) (hu.keep (drewn h2))
  obtain ⟨q, hq⟩ : ∃ q, w.heap.size = q := ⟨_, rfl⟩
  rw [hq] at rA rB
  have H := Ytobdfocfkomagaa.base.Shut.mk (And.intro e1 (And.intro (drewn h2) (And.intro (hr.keep (drewn h2)) (And.intro (hs.keep (drewn h2)) (And.intro hn hm)))))
  have HO := Ytobdfocfkomagaa.base.Shut.mk (show diffO t u rs ss = if sameFr t u then if 24 < n ∨ 24 < m then ([], 24) else (diffL rs ss 0, 0) else ([], 2) by subst hn hm; rfl)
  generalize sameFr t u = fr at H HO
  obtain ⟨tn, ti, to_, tp, ta⟩ := t
  obtain ⟨un, ui, uo, up, ua⟩ := u
  have x0 := rA.cell 0
  have x1 := rA.cell 1
  have x2 := rA.cell 2
  have x3 := rA.cell 3
  have x4 := rA.cell 4
  have x5 := rA.cell 5
  have y0 := rB.cell 0
  have y1 := rB.cell 1
  have y2 := rB.cell 2
  have y3 := rB.cell 3
  have y4 := rB.cell 4
  have y5 := rB.cell 5
  clear h1 h2 rA rB e1 ht hu hr hs hn hm
  simp only [TI.cells] at x0 x1 x2 x3 x4 x5 y0 y1 y2 y3 y4 y5 hV
  simp only [TI.cells] at H
  show Calls Try.prog 21 #[.agg #[.string tn, ti.v, to_.v, .int .i64 tp, .int .i64 ta, .slice A n c], .agg #[.string un, ui.v, uo.v, .int .i64 up, .int .i64 ua, .slice B m d]] w _
  go_enter Try.func21, Try.ntmps21
  go_wp2
  go_big_region
  go_wp2_with fail
  refine H.out.1.mono ?_
  rintro e w1 ⟨rfl, hb1⟩
  have H1 := Ytobdfocfkomagaa.base.Shut.mk (chain H.out.2.1 hb1)
  have HR := Ytobdfocfkomagaa.base.Shut.mk (And.intro (H.out.2.2.1.keep hb1) (H.out.2.2.2.1.keep hb1))
  clear hb1
  cases fr
  · go_wp2
    refine bodyPost_ret (results_tmp2 rfl _ _ _) rfl ?_
    rw [HO.out]
    exact Diffed.err H1.out
  · rw [if_pos rfl] at HO
    by_cases hbn : 24 < n
    · have hbn' : (24 : Int) < n := by omega
      go_wp2
      refine bodyPost_ret (results_tmp2 rfl _ _ _) rfl ?_
      rw [HO.out, if_pos (.inl hbn)]
      exact Diffed.err H1.out
    · have hbn' : ¬ (24 : Int) < n := by omega
      by_cases hbm : 24 < m
      · have hbm' : (24 : Int) < m := by omega
        go_wp2
        refine bodyPost_ret (results_tmp2 rfl _ _ _) rfl ?_
        rw [HO.out, if_pos (.inr hbm)]
        exact Diffed.err H1.out
      · have hbm' : ¬ (24 : Int) < m := by omega
        rw [if_neg (by omega)] at HO
        go_wp2_with fail
        refine (lay_walk A B n m c d rs ss H.out.2.2.2.2.1 H.out.2.2.2.2.2 (by omega) (by omega) w1 HR.out.1 HR.out.2).mono ?_
        rintro e W ⟨g, rfl, hg, hgs, hbW⟩
        have HW := Ytobdfocfkomagaa.base.Shut.mk (And.intro (chain H1.out hbW) (And.intro hg (And.intro (HR.out.1.keep hbW) (HR.out.2.keep hbW))))
        clear hbW hg hgs
        go_wp2
        go_loopw [9, 10, 11] (fun l x y wr => ∃ (i k : Nat) (A3 : Option Addr) (c3 : Nat) (out : List CI), i ≤ n ∧ k ≤ m ∧ l = .slice A3 out.length c3 ∧ x = .int .i64 i ∧ y = .int .i64 k ∧ Ytobdfocfkomagaa.base.Shut (DiffAt W wr A3 c3 i k rs ss out)) (fun _ x y _ => (n - (intOf x).toNat) + (m - (intOf y).toNat))
        case atStart => exact ⟨0, 0, none, 0, [], Nat.zero_le _, Nat.zero_le _, rfl, rfl, rfl, ⟨DiffAt.start W rs ss⟩⟩
        case round =>
          obtain ⟨i, k, A3, c3, out, hi, hk, rfl, rfl, rfl, HA⟩ := hrel
          have hi0 : (0 : Int) ≤ i := by omega
          have hk0 : (0 : Int) ≤ k := by omega
          by_cases hin : i < n
          · have hin' : (i : Int) < n := by omega
            obtain ⟨x, hx⟩ : ∃ x, rs[i]? = some x := ⟨_, List.getElem?_eq_getElem (by rw [H.out.2.2.2.2.1]; omega)⟩
            by_cases hkm : k < m
            · have hkm' : (k : Int) < m := by omega
              have hkne : ((k : Int) == (m : Int)) = false := by rw [beq_eq_false_iff_ne]; omega
              obtain ⟨y, hy⟩ : ∃ y, ss[k]? = some y := ⟨_, List.getElem?_eq_getElem (by rw [H.out.2.2.2.2.2]; omega)⟩
              obtain ⟨b, off, rfl, hblt, m0, m1, hok⟩ := (HW.out.2.2.1.keep HA.out.below).at_ hx
              obtain ⟨b', off', rfl, hblt', n0, n1, hok'⟩ := (HW.out.2.2.2.keep HA.out.below).at_ hy
              have HS : Ytobdfocfkomagaa.base.Shut (Calls Try.prog 58 #[.agg #[x.x.v, x.y.v], .agg #[y.x.v, y.y.v]] wr.drew fun e w' => e = .returned (.bool (sameR x y)) ∧ Below wr.drew.heap.size wr.drew w') := ⟨same_walk x y wr.drew (hok.keep (drewn (same wr))) (hok'.keep (drewn (same wr)))⟩
              obtain ⟨sm, hsm⟩ : ∃ sm, sameR x y = sm := ⟨_, rfl⟩
              rw [hsm] at HS
              clear hok hok' hblt hblt'
              obtain ⟨y1, hy1⟩ : ∃ v, x.x.v = v := ⟨_, rfl⟩
              obtain ⟨y2, hy2⟩ : ∃ v, x.y.v = v := ⟨_, rfl⟩
              obtain ⟨y3, hy3⟩ : ∃ v, y.x.v = v := ⟨_, rfl⟩
              obtain ⟨y4, hy4⟩ : ∃ v, y.y.v = v := ⟨_, rfl⟩
              have HV := Ytobdfocfkomagaa.base.Shut.mk (And.intro hy1 (And.intro hy2 (And.intro hy3 (And.intro hy4 hsm))))
              rw [hy1] at m0 HS
              rw [hy2] at m1 HS
              rw [hy3] at n0 HS
              rw [hy4] at n1 HS
              clear hy1 hy2 hy3 hy4 hsm
              go_wp2
              go_region_held3 (fun w' => w'.cell? ⟨b, off + i * 2, none⟩ = some y1 ∧ w'.cell? ⟨b, off + i * 2 + 1, none⟩ = some y2 ∧ w'.cell? ⟨b', off' + k * 2, none⟩ = some y3 ∧ w'.cell? ⟨b', off' + k * 2 + 1, none⟩ = some y4)
                (first | assumption | go_keep)
                (first | (go_at_call 58; (with_reducible refine Calls.mono HS.out ?_); rintro e w5 ⟨rfl, hb5⟩; have H5 := Ytobdfocfkomagaa.base.Shut.mk (chain (drewn (same wr)) hb5); have hk5 := (show w5.cell? ⟨b, off + i * 2, none⟩ = some y1 ∧ w5.cell? ⟨b, off + i * 2 + 1, none⟩ = some y2 ∧ w5.cell? ⟨b', off' + k * 2, none⟩ = some y3 ∧ w5.cell? ⟨b', off' + k * 2 + 1, none⟩ = some y4 from ⟨(H5.out.cell (World.block_lt_of_cell? wr _ m0)).trans m0, (H5.out.cell (World.block_lt_of_cell? wr _ m1)).trans m1, (H5.out.cell (World.block_lt_of_cell? wr _ n0)).trans n0, (H5.out.cell (World.block_lt_of_cell? wr _ n1)).trans n1⟩); clear hb5))
              cases sm
              · have hG := HW.out.2.1.below (chain HA.out.below H5.out)
                have h1 := hG.at_ (i + 1) k (by omega) (by omega)
                have h2 := hG.at_ i (k + 1) (by omega) (by omega)
                have hi1 : (i : Int) + 1 < 25 := by omega
                have hk1 : (k : Int) + 1 < 25 := by omega
                by_cases hle : Lc rs ss i (k + 1) ≤ Lc rs ss (i + 1) k
                · have hle' : ((Lc rs ss i (k + 1) : Nat) : Int) ≤ ((Lc rs ss (i + 1) k : Nat) : Int) := by omega
                  go_wp2
                  go_big_region
                  have hb6 := drewn H5.out
                  have hk6 : w5.drew.cell? ⟨b, off + i * 2, none⟩ = some y1 ∧ w5.drew.cell? ⟨b, off + i * 2 + 1, none⟩ = some y2 := ⟨hk5.1, hk5.2.1⟩
                  generalize w5.drew = w6 at hb6 hk6 ⊢
                  obtain ⟨hc1, hc2⟩ := hk6
                  obtain ⟨A4, c4, w4, hrun, hA4⟩ := HA.out.more hb6 ⟨false, (k : Nat), x⟩ (i + 1) k (by omega) (by omega) (Dc_del hx hy HV.out.2.2.2.2 hle) _ _ rfl rfl
                  have HA4 := Ytobdfocfkomagaa.base.Shut.mk hA4
                  clear hA4
                  simp only [HV.out.1, HV.out.2.1] at hrun
                  go_wp2
                  go_roundw
                  case rel => exact ⟨i + 1, k, A4, c4, _, by omega, by omega, by rw [List.length_append]; rfl, by go_num, rfl, HA4⟩
                  case measure => simp [intOf]; omega
                · have hle' : ¬ ((Lc rs ss i (k + 1) : Nat) : Int) ≤ ((Lc rs ss (i + 1) k : Nat) : Int) := by omega
                  go_wp2
                  go_big_region
                  have hb6 := drewn H5.out
                  have hk6 : w5.drew.cell? ⟨b', off' + k * 2, none⟩ = some y3 ∧ w5.drew.cell? ⟨b', off' + k * 2 + 1, none⟩ = some y4 := ⟨hk5.2.2.1, hk5.2.2.2⟩
                  generalize w5.drew = w6 at hb6 hk6 ⊢
                  obtain ⟨hc1, hc2⟩ := hk6
                  obtain ⟨A4, c4, w4, hrun, hA4⟩ := HA.out.more hb6 ⟨true, (k : Nat), y⟩ i (k + 1) (by omega) (by omega) (Dc_put hx hy HV.out.2.2.2.2 hle) _ _ rfl rfl
                  have HA4 := Ytobdfocfkomagaa.base.Shut.mk hA4
                  clear hA4
                  simp only [HV.out.2.2.1, HV.out.2.2.2.1] at hrun
                  go_wp2
                  go_roundw
                  case rel => exact ⟨i, k + 1, A4, c4, _, by omega, by omega, by rw [List.length_append]; rfl, rfl, by go_num, HA4⟩
                  case measure => simp [intOf]; omega
              · go_wp2
                go_roundw
                case rel => exact ⟨i + 1, k + 1, A3, c3, out, by omega, by omega, rfl, by go_num, by go_num, ⟨HA.out.both hx hy HV.out.2.2.2.2 H5.out⟩⟩
                case measure => simp [intOf]; omega
            · obtain rfl : k = m := by omega
              have hkk : ¬ ((k : Nat) : Int) < (k : Nat) := Int.lt_irrefl _
              go_wp2
              go_big_region
              go_wp2
              go_big_region
              have hb6 := drewn (drewn (same wr))
              generalize wr.drew.drew = w6 at hb6 ⊢
              obtain ⟨b, off, rfl, hblt, m0, m1, hok⟩ := (HW.out.2.2.1.keep (chain HA.out.below hb6)).at_ hx
              have hdd : Dc rs ss i k = ⟨false, (k : Nat), x⟩ :: Dc rs ss (i + 1) k := by
                have := Dc_dels (ss := ss) hx
                rw [H.out.2.2.2.2.2] at this
                exact this
              obtain ⟨A4, c4, w4, hrun, hA4⟩ := HA.out.more hb6 ⟨false, (k : Nat), x⟩ (i + 1) k (by omega) (by omega) hdd _ _ rfl rfl
              have HA4 := Ytobdfocfkomagaa.base.Shut.mk hA4
              clear hA4 hdd hblt hok
              simp only at hrun
              go_wp2
              go_roundw
              case rel => exact ⟨i + 1, k, A4, c4, _, by omega, by omega, by rw [List.length_append]; rfl, by go_num, rfl, HA4⟩
              case measure => simp [intOf]; omega
          · obtain rfl : i = n := by omega
            by_cases hkm : k < m
            · have hkm' : (k : Int) < m := by omega
              obtain ⟨y, hy⟩ : ∃ y, ss[k]? = some y := ⟨_, List.getElem?_eq_getElem (by rw [H.out.2.2.2.2.2]; omega)⟩
              have hii : ¬ ((i : Nat) : Int) < (i : Nat) := Int.lt_irrefl _
              have hkne : ((k : Int) == (m : Int)) = false := by rw [beq_eq_false_iff_ne]; omega
              go_wp2
              go_big_region
              go_wp2
              go_big_region
              have hb6 := drewn (drewn (same wr))
              generalize wr.drew.drew = w6 at hb6 ⊢
              obtain ⟨b, off, rfl, hblt, m0, m1, hok⟩ := (HW.out.2.2.2.keep (chain HA.out.below hb6)).at_ hy
              have hdd : Dc rs ss i k = ⟨true, (k : Nat), y⟩ :: Dc rs ss i (k + 1) := by
                have := Dc_puts (rs := rs) hy
                rw [H.out.2.2.2.2.1] at this
                exact this
              obtain ⟨A4, c4, w4, hrun, hA4⟩ := HA.out.more hb6 ⟨true, (k : Nat), y⟩ i (k + 1) (by omega) (by omega) hdd _ _ rfl rfl
              have HA4 := Ytobdfocfkomagaa.base.Shut.mk hA4
              clear hA4 hdd hblt hok
              simp only at hrun
              go_wp2
              go_roundw
              case rel => exact ⟨i, k + 1, A4, c4, _, by omega, by omega, by rw [List.length_append]; rfl, rfl, by go_num, HA4⟩
              case measure => simp [intOf]; omega
            · obtain rfl : k = m := by omega
              go_wp2
              refine bodyPost_ret (results_tmp2 rfl _ _ _) rfl ?_
              have hrest := HA.out.rest
              have hn := H.out.2.2.2.2.1
              have hm := H.out.2.2.2.2.2
              subst hn hm
              rw [Dc_end, List.append_nil] at hrest
              rw [HO.out]
              subst hrest
              exact ⟨chain HW.out.1 HA.out.below, A3, c3, rfl, own_weak HA.out.own HW.out.1.size⟩
end Go.Proofs.Ytobdfocfkomagaa.rev
