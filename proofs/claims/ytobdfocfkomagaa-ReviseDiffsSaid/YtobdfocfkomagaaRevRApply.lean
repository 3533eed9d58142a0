/- The walk of the reference's Apply. -/
import Derived.Test.YtobdfocfkomagaaRevDone
namespace Go.Proofs.Ytobdfocfkomagaa.rev
open Go.ChangeShapes Go.WideShapes Go.ChangeAt Go.RowKit
open Ytobdfocfkomagaa.base (size_mk chain newer drewn same ba_ext)
open Ytobdfocfkomagaa.row2 (Row CReads own_keep)

attribute [local go_sem] si_one si_cells run_store_si
/-- a slice of rules that may be used further -/
structure RV (w : World) (A : Option Addr) (c : Nat) (rs : List RI) : Prop where
  rl : RL w A rs
  cap : rs.length ≤ c
  nil : A = none → rs.length = 0 ∧ c = 0
  spot : ∀ a, A = some a → a.spot = none
  len : rs.length ≤ 100
theorem RV.keep {w w' : World} {A : Option Addr} {c : Nat} {rs : List RI} (h : RV w A c rs) (hb : Below w.heap.size w w') : RV w' A c rs := ⟨h.rl.keep hb, h.cap, h.nil, h.spot, h.len⟩
theorem RV.of_own {w : World} {base c : Nat} {A : Option Addr} {rs : List RI} (h : w.ownsRow base 77 2 (.slice A rs.length c) rs.length (cellsR rs)) (hok : ∀ r ∈ rs, ROk w r) (hl : rs.length ≤ 100) : RV w A c rs := by
  refine ⟨⟨CReads.of_own h, hok⟩, own_cap h, ?_, ?_, hl⟩
  · intro hA
    obtain ⟨_, ⟨hv, h0⟩ | ⟨g', cap, cur, hv, _⟩⟩ := h
    · have : c = 0 := by injection hv
      exact ⟨h0, this⟩
    · rw [hA] at hv; cases hv
  · intro a ha
    obtain ⟨_, ⟨hv, h0⟩ | ⟨g', cap, cur, hv, _⟩⟩ := h
    · rw [ha] at hv; cases hv
    · rw [ha] at hv; cases hv; rfl
theorem step_mem {rs rs' : List RI} {c : CI} (h : stepR rs c = some rs') : (∀ r ∈ rs', r ∈ rs ∨ r = c.r) ∧ (rs.length ≤ 100 → rs'.length ≤ 100) := by
  unfold stepR at h
  cases hM : mayR rs c with
  | false => rw [hM] at h; cases h
  | true =>
    rw [hM, if_pos rfl] at h
    obtain ⟨put, a, r⟩ := c
    cases put with
    | true =>
      obtain rfl : insR rs a.toNat r = rs' := by simpa using h
      have := may_put hM
      exact ⟨fun x hx => mem_ins hx, fun _ => by rw [ins_len (by omega)]; omega⟩
    | false =>
      obtain rfl : delR rs a.toNat = rs' := by simpa using h
      have := may_del hM
      exact ⟨fun x hx => .inl (mem_del hx), fun _ => by rw [del_len (by omega)]; omega⟩
theorem apply_mem : ∀ (cs : List CI) (rs rs' : List RI), applyR rs cs = some rs' → (∀ r ∈ rs', r ∈ rs ∨ ∃ c ∈ cs, r = c.r) ∧ (rs.length ≤ 100 → rs'.length ≤ 100)
  | [], rs, rs', h => by
    rw [applyR] at h; cases h
    exact ⟨fun r hr => .inl hr, id⟩
  | c :: t, rs, rs', h => by
    rw [applyR] at h
    cases hs : stepR rs c with
    | none => rw [hs] at h; cases h
    | some r1 =>
      rw [hs] at h
      have h1 := step_mem hs
      have h2 := apply_mem t r1 rs' h
      refine ⟨fun r hr => ?_, fun hl => h2.2 (h1.2 hl)⟩
      rcases h2.1 r hr with h | ⟨c', hc', h⟩
      · rcases h1.1 r h with h | h
        · exact .inl h
        · exact .inr ⟨c, by simp, h⟩
      · exact .inr ⟨c', by simp [hc'], h⟩
/-- what Apply tells, of either -/
def AppliedV (w : World) (x0 x1 x2 x3 x4 : Value) (o : Option (List RI)) (e : Ending) (w' : World) : Prop :=
  Below w.heap.size w w' ∧ match o with
    | none => e = .returned (.tuple #[ztable, .int .i64 2])
    | some rs => ∃ A c, e = .returned (.tuple #[.agg (tcells x0 x1 x2 x3 x4 A rs.length c), .int .i64 0]) ∧ RV w' A c rs
theorem Applied.v {w w' : World} {x0 x1 x2 x3 x4 : Value} {rs : List RI} {cs : List CI} {e : Ending} (h : Applied w x0 x1 x2 x3 x4 (applyR rs cs) e w') (hr : ∀ r ∈ rs, ROk w r) (hc : ∀ c ∈ cs, COk w c) (hl : rs.length ≤ 100) : AppliedV w x0 x1 x2 x3 x4 (applyR rs cs) e w' := by
  unfold Applied at h
  unfold AppliedV
  cases ha : applyR rs cs with
  | none => rw [ha] at h; exact h
  | some rs' =>
    rw [ha] at h
    obtain ⟨hb, A, c, he, hown⟩ := h
    have hm := apply_mem cs rs rs' ha
    refine ⟨hb, A, c, he, RV.of_own hown (fun r hr' => ?_) (hm.2 hl)⟩
    rcases hm.1 r hr' with h | ⟨c', hc', rfl⟩
    · exact (hr r h).keep hb
    · exact ((hc c' hc').keep hb).r
theorem five_keep {o i q : Nat} {v0 v1 v2 v3 v4 : Value} {u w' : World} (hb : Below u.heap.size u w') (h : u.cell? ⟨o, i, none⟩ = some v0 ∧ u.cell? ⟨o, i + 1, none⟩ = some v1 ∧ u.cell? ⟨o, i + 2, none⟩ = some v2 ∧ u.cell? ⟨o, i + 3, none⟩ = some v3 ∧ u.cell? ⟨q, 5, none⟩ = some v4) :
    w'.cell? ⟨o, i, none⟩ = some v0 ∧ w'.cell? ⟨o, i + 1, none⟩ = some v1 ∧ w'.cell? ⟨o, i + 2, none⟩ = some v2 ∧ w'.cell? ⟨o, i + 3, none⟩ = some v3 ∧ w'.cell? ⟨q, 5, none⟩ = some v4 :=
  have k := fun {p : Addr} {v : Value} (h : u.cell? p = some v) => (hb.cell (World.block_lt_of_cell? u p h)).trans h
  ⟨k h.1, k h.2.1, k h.2.2.1, k h.2.2.2.1, k h.2.2.2.2⟩
/-- how it stands between two changes -/
structure RApp (w wr : World) (q : Nat) (x0 x1 x2 x3 x4 : Value) (A : Option Addr) (c : Nat) (rs : List RI) : Prop where
  below : Below w.heap.size w wr
  box : Row wr q (tcells x0 x1 x2 x3 x4 A rs.length c) 27
  zero : Row wr (q + 1) zcells 27
  rv : RV wr A c rs
  ok0 : ∀ r ∈ rs, ROk w r
  apart : rs ≠ [] → ∀ a, A = some a → a.block ≠ q ∧ a.block ≠ q + 1
theorem setc_below {w wr : World} {q i : Nat} {v : Value} (h : Below w.heap.size w wr) (hq : w.heap.size ≤ q) : Below w.heap.size w (wr.setCell ⟨q, i, none⟩ v) := h.setCell (p := ⟨q, i, none⟩) hq v
theorem CL.of_setc {w wr : World} {A : Option Addr} {cs : List CI} (h : CL w A cs) (hb : Below w.heap.size w wr) : CL wr A cs := h.keep hb
set_option maxRecDepth 100000 in
set_option maxHeartbeats 3200000 in
theorem rapply_walk (x0 x1 x2 x3 x4 : Value) (A : Option Addr) (c : Nat) (rs : List RI) (B : Option Addr) (m d : Nat) (cs : List CI) (o0 : x0.oneCell' = true) (o1 : x1.oneCell' = true) (o2 : x2.oneCell' = true) (o3 : x3.oneCell' = true) (o4 : x4.oneCell' = true)
    (k0 : x0.cells = #[x0]) (k1 : x1.cells = #[x1]) (k2 : x2.cells = #[x2]) (k3 : x3.cells = #[x3]) (k4 : x4.cells = #[x4])
    (hm : cs.length = m) (hm2 : m ≤ 100) (w : World) (hr : RV w A c rs) (hC : CL w B cs) :
    Calls Try.prog 16 #[.agg (tcells x0 x1 x2 x3 x4 A rs.length c), .slice B m d] w (AppliedV w x0 x1 x2 x3 x4 (applyR rs cs)) := by
  have hb := newer (same w) (.cells (tcells x0 x1 x2 x3 x4 A rs.length c) 27)
  have hx := Row.new w (tcells x0 x1 x2 x3 x4 A rs.length c) 27
  have hb2 := newer hb (.cells zcells 27)
  have hx2 := hx.below (newer (same (w.alloc (.cells (tcells x0 x1 x2 x3 x4 A rs.length c) 27))) (.cells zcells 27))
  have hz := Row.new (w.alloc (.cells (tcells x0 x1 x2 x3 x4 A rs.length c) 27)) zcells 27
  rw [World.size_alloc] at hz
  obtain ⟨q, hq⟩ : ∃ q, w.heap.size = q := ⟨_, rfl⟩
  obtain ⟨V, hV⟩ : ∃ V, (w.alloc (.cells (tcells x0 x1 x2 x3 x4 A rs.length c) 27)).alloc (.cells zcells 27) = V := ⟨_, rfl⟩
  rw [hV] at hb2 hx2 hz
  rw [hq] at hx2 hz
  have s0 := fun (a : Addr) (u : World) (md : Mode) => run_store Try.prog u a x0 md o0
  have s1 := fun (a : Addr) (u : World) (md : Mode) => run_store Try.prog u a x1 md o1
  have s2 := fun (a : Addr) (u : World) (md : Mode) => run_store Try.prog u a x2 md o2
  have s3 := fun (a : Addr) (u : World) (md : Mode) => run_store Try.prog u a x3 md o3
  have s4 := fun (a : Addr) (u : World) (md : Mode) => run_store Try.prog u a x4 md o4
  have hap0 : rs ≠ [] → ∀ a, A = some a → a.block ≠ q ∧ a.block ≠ q + 1 := by
    intro hne a ha
    obtain ⟨b, off, hA, hlt, _⟩ := hr.rl.cells (by
      intro e
      have := congrArg List.length e
      rw [cellsR_len] at this
      exact hne (List.length_eq_zero_iff.1 (by rw [List.length_nil] at this; omega)))
    rw [ha] at hA; cases hA
    constructor <;> (simp only; omega)
  have H := Ytobdfocfkomagaa.base.Shut.mk (And.intro (show RApp w V q x0 x1 x2 x3 x4 A c rs from ⟨hb2, hx2, hz, hr.keep hb2, hr.rl.ok, hap0⟩) (And.intro hC hm))
  clear hb hx hb2 hx2 hz hr hC hm hap0
  go_enter Try.func16, Try.ntmps16
  go_wp2
  go_loopw [6] (fun i wr => ∃ (k : Nat) (rs' : List RI) (A' : Option Addr) (c' : Nat), k ≤ m ∧ i = .int .i64 k ∧ Ytobdfocfkomagaa.base.Shut (RApp w wr q x0 x1 x2 x3 x4 A' c' rs' ∧ applyR rs cs = applyR rs' (cs.drop k))) (fun i _ => m - (intOf i).toNat)
  case atStart => exact ⟨0, rs, A, c, Nat.zero_le _, rfl, ⟨H.out.1, rfl⟩⟩
  case round =>
    obtain ⟨k, rs', A', c', hk, rfl, HR⟩ := hrel
    by_cases hlt : k < m
    · have hlt' : (k : Int) < m := by omega
      have hkm : k < cs.length := by rw [H.out.2.2]; exact hlt
      obtain ⟨C, hC⟩ : ∃ C, cs[k]? = some C := ⟨_, List.getElem?_eq_getElem hkm⟩
      have hdrop : cs.drop k = C :: cs.drop (k + 1) := by
        rw [List.drop_eq_getElem_cons hkm]
        rw [List.getElem?_eq_getElem hkm] at hC
        rw [Option.some.inj hC]
      obtain ⟨b, off, rfl, hblt, e0, e1, e2, e3, hok⟩ := (H.out.2.1.keep HR.out.1.below).at_ hC
      obtain ⟨n', hn'⟩ : ∃ n', rs'.length = n' := ⟨_, rfl⟩
      have e5 := HR.out.1.box.cell 5
      have hrv := HR.out.1.rv
      have hdone := done_walk A' n' c' rs' C hn' (by rw [← hn']; exact hrv.len) (by rw [← hn']; exact hrv.cap) (fun h => by rw [← hn']; exact hrv.nil h) hrv.spot wr.drew (hrv.rl.keep (drewn (same wr))) (hok.keep (drewn (same wr)))
      obtain ⟨put, a, r⟩ := C
      simp only at e0 e1 e2 e3
      have HDN : Ytobdfocfkomagaa.base.Shut (Calls Try.prog 50 #[.slice A' n' c', .agg #[.bool put, .int .i64 a, r.x.v, r.y.v]] wr.drew (Done wr.drew (stepR rs' ⟨put, a, r⟩))) := ⟨hdone⟩
      rw [hn'] at e5
      have HK := Ytobdfocfkomagaa.base.Shut.mk (And.intro hdrop (And.intro hok (And.intro hn' (And.intro hrv hC))))
      clear hdone hdrop hok hrv hC hblt hkm hlt hn'
      cases hS : stepR rs' ⟨put, a, r⟩ with
      | none =>
        rw [hS] at HDN
        have HS := Ytobdfocfkomagaa.base.Shut.mk hS
        clear hS
        generalize r.x.v = y1 at e2 HDN
        generalize r.y.v = y2 at e3 HDN
        go_wp2
        go_region_held3 (fun w' => w'.cell? ⟨b, off + k * 4, none⟩ = some (.bool put) ∧ w'.cell? ⟨b, off + k * 4 + 1, none⟩ = some (.int .i64 a) ∧ w'.cell? ⟨b, off + k * 4 + 2, none⟩ = some y1 ∧ w'.cell? ⟨b, off + k * 4 + 3, none⟩ = some y2 ∧ w'.cell? ⟨q, 5, none⟩ = some (.slice A' n' c'))
          (first | assumption | go_keep)
          (first | (go_at_call 50; (with_reducible refine Calls.mono HDN.out ?_); rintro e w5 ⟨hb5, rfl⟩; have H5 := Ytobdfocfkomagaa.base.Shut.mk (chain (drewn (same wr)) hb5); have hk5 := five_keep H5.out (And.intro e0 (And.intro e1 (And.intro e2 (And.intro e3 e5)))); clear hb5))
        have hz5 := HR.out.1.zero.below H5.out
        have z0 := hz5.cell 0
        have z1 := hz5.cell 1
        have z2 := hz5.cell 2
        have z3 := hz5.cell 3
        have z4 := hz5.cell 4
        have z5 := hz5.cell 5
        have f0 := hz5.frozen 0
        have f1 := hz5.frozen 1
        have f2 := hz5.frozen 2
        have f3 := hz5.frozen 3
        have f4 := hz5.frozen 4
        have f5 := hz5.frozen 5
        have HZ := Ytobdfocfkomagaa.base.Shut.mk hz5
        clear hz5 hk5 e0 e1 e2 e3 e5
        go_wp2
        refine bodyPost_ret (v := .tuple #[ztable, .int .i64 2]) (res_tb (p := 4) (u := 5) rfl _ _ (q + 1) _ _ _ _ _ _ rfl (six_set HZ.out rfl _ _ _ _ _ _)) rfl ?_
        have hno : applyR rs cs = none := by rw [HR.out.2, HK.out.1, applyR, HS.out]
        rw [hno]
        refine ⟨?_, rfl⟩
        have hB := chain HR.out.1.below H5.out
        exact six_below hB (by omega) _ _ _ _ _ _
      | some rs2 =>
        rw [hS] at HDN
        have HS := Ytobdfocfkomagaa.base.Shut.mk hS
        clear hS
        have hdn : Ytobdfocfkomagaa.base.Shut (Calls Try.prog 50 #[.slice A' n' c', .agg #[.bool put, .int .i64 a, r.x.v, r.y.v]] wr.drew fun e w' => ∃ A2 c2, e = .returned (.tuple #[.slice A2 rs2.length c2, .bool true]) ∧ Below wr.drew.heap.size wr.drew w' ∧ w'.ownsRow wr.drew.heap.size 77 2 (.slice A2 rs2.length c2) rs2.length (cellsR rs2)) := ⟨HDN.out.mono fun e w' ⟨h1, A2, c2, h2, h3⟩ => ⟨A2, c2, h2, h1, h3⟩⟩
        clear HDN
        generalize r.x.v = y1 at e2 hdn
        generalize r.y.v = y2 at e3 hdn
        go_wp2
        go_region_held3 (fun w' => w'.cell? ⟨b, off + k * 4, none⟩ = some (.bool put) ∧ w'.cell? ⟨b, off + k * 4 + 1, none⟩ = some (.int .i64 a) ∧ w'.cell? ⟨b, off + k * 4 + 2, none⟩ = some y1 ∧ w'.cell? ⟨b, off + k * 4 + 3, none⟩ = some y2 ∧ w'.cell? ⟨q, 5, none⟩ = some (.slice A' n' c'))
          (first | assumption | go_keep)
          (first | (go_at_call 50; (with_reducible refine Calls.mono hdn.out ?_); rintro e w5 ⟨A2, c2, rfl, hb5, hown5⟩; have H5 := Ytobdfocfkomagaa.base.Shut.mk (And.intro (chain (drewn (same wr)) hb5) hown5); have hk5 := five_keep H5.out.1 (And.intro e0 (And.intro e1 (And.intro e2 (And.intro e3 e5)))); clear hb5 hown5))
        have hx5 := HR.out.1.box.below H5.out.1
        have g5 := hx5.frozen 5
        have HX5 := Ytobdfocfkomagaa.base.Shut.mk hx5
        obtain ⟨d0, d1, d2, d3, d4⟩ := hk5
        have hN : RApp w (w5.setCell ⟨q, 5, none⟩ (.slice A2 rs2.length c2)) q x0 x1 x2 x3 x4 A2 c2 rs2 := by
          have hsm := step_mem HS.out
          have hB5 := chain HR.out.1.below H5.out.1
          have hokw : ∀ x ∈ rs2, ROk w x := fun x hx => by
            rcases hsm.1 x hx with h | rfl
            · exact HR.out.1.ok0 x h
            · exact (H.out.2.1.ok _ (List.mem_of_getElem? HK.out.2.2.2.2)).r
          refine ⟨setc_below hB5 (Nat.le_of_eq hq), ?_, (HR.out.1.zero.below H5.out.1).other q 5 _ (by omega), ?_, hokw, ?_⟩
          · exact hx5.set 5 (.slice A2 rs2.length c2)
          · refine RV.of_own (base := wr.drew.heap.size) (own_keep H5.out.2 (fun g hg hg2 => Below.heap_setCell w5 ⟨q, 5, none⟩ _ g ?_)) (fun x hx => ?_) (hsm.2 HR.out.1.rv.len)
            · have : q < wr.heap.size := HR.out.1.box.lt
              have h2 : wr.drew.heap.size = wr.heap.size := rfl
              simp only [ne_eq]
              omega
            · exact (hokw x hx).keep (setc_below hB5 (Nat.le_of_eq hq))
          · intro hne a ha
            have hz1 : q + 1 < wr.heap.size := HR.out.1.zero.lt
            have h2 : wr.drew.heap.size = wr.heap.size := rfl
            have := (own_block H5.out.2 a.block (by rw [ha]; rfl)).1
            constructor <;> omega
        have HN := Ytobdfocfkomagaa.base.Shut.mk hN
        clear hN hx5 e0 e1 e2 e3 e5
        go_wp2
        go_roundw
        case rel => exact ⟨k + 1, rs2, A2, c2, by omega, by go_num, ⟨HN.out, by rw [HR.out.2, HK.out.1, applyR, HS.out]⟩⟩
        case measure => simp [intOf]; omega
    · obtain rfl : k = m := by omega
      have hend : applyR rs cs = some rs' := by rw [HR.out.2, List.drop_of_length_le (by rw [H.out.2.2]; exact Nat.le_refl _), applyR]
      have hT := HR.out.1.box
      have hZ := HR.out.1.zero
      have HE := Ytobdfocfkomagaa.base.Shut.mk (And.intro hend (And.intro hT hZ))
      have e0 := hT.cell 0
      have e1 := hT.cell 1
      have e2 := hT.cell 2
      have e3 := hT.cell 3
      have e4 := hT.cell 4
      have e5 := hT.cell 5
      have z0 := hZ.cell 0
      have z1 := hZ.cell 1
      have z2 := hZ.cell 2
      have z3 := hZ.cell 3
      have z4 := hZ.cell 4
      have z5 := hZ.cell 5
      have f0 := hZ.frozen 0
      have f1 := hZ.frozen 1
      have f2 := hZ.frozen 2
      have f3 := hZ.frozen 3
      have f4 := hZ.frozen 4
      have f5 := hZ.frozen 5
      clear hend hT hZ hlt
      go_wp2
      refine bodyPost_ret (v := .tuple #[.agg (tcells x0 x1 x2 x3 x4 A' rs'.length c'), .int .i64 0]) (res_tb (p := 4) (u := 5) rfl _ _ (q + 1) _ _ _ _ _ _ rfl (six_set HE.out.2.2 rfl _ _ _ _ _ _)) rfl ?_
      rw [HE.out.1]
      refine ⟨six_below HR.out.1.below (by omega) _ _ _ _ _ _, A', c', rfl, ?_⟩
      have hrv := HR.out.1.rv
      have hBf := six_below (q := q + 1) HR.out.1.below (by omega) x0 x1 x2 x3 x4 (.slice A' rs'.length c')
      refine ⟨⟨hrv.rl.cells.move (fun a ha hne => ?_), fun r hr => (HR.out.1.ok0 r hr).keep hBf⟩, hrv.cap, hrv.nil, hrv.spot, hrv.len⟩
      have hne' : rs' ≠ [] := by intro e; rw [e] at hne; exact hne rfl
      exact six_heap _ _ _ (HR.out.1.apart hne' a ha).2 _ _ _ _ _ _
end Go.Proofs.Ytobdfocfkomagaa.rev
