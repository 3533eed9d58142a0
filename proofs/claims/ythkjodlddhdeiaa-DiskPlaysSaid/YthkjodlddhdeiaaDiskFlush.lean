/- The walk of disk.Flush. -/
import Derived.Test.YthkjodlddhdeiaaDiskWrite
import Derived.LoopTactic
namespace Go.Proofs.Ythkjodlddhdeiaa.disk
open Go.ChangeShapes Go.WideShapes Go.ChangeAt Go.RowKit
open Ythkjodlddhdeiaa.base

theorem row_some {w : World} {base size n : Nat} {e : TypeId} {v : Value} {xs : List Value} (h : w.ownsRow base e size v n xs) (hn : 0 < n) : ∃ g c, v = .slice (some ⟨g, 0, none⟩) n c := by
  obtain ⟨_, ⟨rfl, h0⟩ | ⟨g, cap, cur, rfl, _⟩⟩ := h
  · omega
  · exact ⟨g, cap, rfl⟩
/-- loose writes done, one behind the other -/
def applyW (F : List UInt8) (W : List (Nat × List UInt8)) : List UInt8 := W.foldl (fun F p => setBlk F p.1 p.2) F
theorem applyW_snoc (F : List UInt8) (W : List (Nat × List UInt8)) (k : Nat) (h : k < W.length) : applyW F (W.take (k + 1)) = setBlk (applyW F (W.take k)) W[k].1 W[k].2 := by
  unfold applyW
  rw [List.take_succ_eq_append_getElem h, List.foldl_append]
  rfl
def flushE (D : Dk) : Int := if D.gone = true then 7 else burnE D
def flushD (D : Dk) : Dk := if D.gone = true then D else if D.fuse = 0 then burnD D else { burnD D with F := applyW D.F D.W, W := [] }
theorem flat_len (W : List (Nat × List UInt8)) (n : Nat) (h : ∀ p ∈ W, p.1 < n ∧ p.2.length = 512) : (W.flatMap looseCells).length = W.length * 513 := by
  induction W with
  | nil => rfl
  | cons p r ih =>
    rw [List.flatMap_cons, List.length_append, ih (fun q hq => h q (List.mem_cons_of_mem _ hq)), List.length_cons]
    have := (h p (List.mem_cons_self ..)).2
    simp [looseCells, bytesOf, this]
    omega
theorem flat_get (W : List (Nat × List UInt8)) (n : Nat) (h : ∀ p ∈ W, p.1 < n ∧ p.2.length = 512) (k : Nat) (hk : k < W.length) (j : Nat) (v : Value) (hv : (looseCells W[k])[j]? = some v) : (W.flatMap looseCells)[k * 513 + j]? = some v := by
  induction W generalizing k with
  | nil => simp at hk
  | cons p r ih =>
    have hp := (h p (List.mem_cons_self ..)).2
    have hpl : (looseCells p).length = 513 := by simp [looseCells, bytesOf, hp]
    rw [List.flatMap_cons]
    cases k with
    | zero =>
      have hj := (List.getElem?_eq_some_iff.1 hv).1
      rw [Nat.zero_mul, Nat.zero_add, List.getElem?_append_left (by simpa using hj)]
      exact hv
    | succ k =>
      rw [List.getElem?_append_right (by rw [hpl]; omega), hpl, show (k + 1) * 513 + j - 513 = k * 513 + j from by omega]
      exact ih (fun q hq => h q (List.mem_cons_of_mem _ hq)) k (by simpa using hk) hv
theorem loose_range {w : World} {base g n cap : Nat} {W : List (Nat × List UInt8)} (hW : ∀ p ∈ W, p.1 < n ∧ p.2.length = 512) (h : w.ownsRow base 107 513 (.slice (some ⟨g, 0, none⟩) W.length cap) W.length (W.flatMap looseCells)) (k : Nat) (hk : k < W.length) :
    w.rangeAt g (k * 513) (looseCells W[k]) := by
  intro j v hj
  have hj2 := (List.getElem?_eq_some_iff.1 hj).1
  have hl : (looseCells W[k]).length = 513 := by have := (hW W[k] (List.getElem_mem hk)).2; simp [looseCells, bytesOf, this]
  rw [h.cellAt _ (by omega)]
  exact flat_get W n hW k hk j v hj
theorem size513 : (Try.prog.info? 107).map (·.size) = some 513 := by kernel_rfl
theorem zero513 : Try.zeroCells107.size = 513 := by kernel_rfl
theorem loose_one (p : Nat × List UInt8) : ∀ v ∈ looseCells p, v.oneCell' = true := by
  intro v hv
  rcases List.mem_cons.1 hv with rfl | hv
  · rfl
  · exact bytesOf_one _ v hv
theorem loose_length (p : Nat × List UInt8) (h : p.2.length = 512) : (looseCells p).length = 513 := by simp [looseCells, bytesOf, h]
theorem Only.row {w w' : World} {l : List Nat} {base n size : Nat} {t : TypeId} {v : Value} {xs : List Value} (h : Only l w w') (hr : w.ownsRow base t size v n xs) (hn : ∀ g, v.ownBlock = some g → g ∉ l) : w'.ownsRow base t size v n xs := by
  refine row_kept hr (fun g hg => ?_)
  obtain ⟨_, cu, hc⟩ := row_type hr g hg
  exact h.block g (lt_of_obj hc) (hn g hg)
theorem Only.cellAt {w w' : World} {l : List Nat} (h : Only l w w') {b i : Nat} {v : Value} (hc : w.cell? ⟨b, i, none⟩ = some v) (hn : b ∉ l) : w'.cell? ⟨b, i, none⟩ = some v := by
  rw [World.cell?_of_block (w := w) (h.block b (World.block_lt_of_cell? w _ hc) hn)]
  exact hc
/-- a block of the disk's bytes, of its loose writes, of its fields: three blocks -/
theorem At.ne_df {w : World} {base d f s : Nat} {D : Dk} (h : At w base d f s D) : d ≠ f ∧ d ≠ s := by
  obtain ⟨hw, hb, ⟨fc, cs, lv, h1, h2, h3, h4⟩⟩ := h
  obtain ⟨c1, hc1⟩ := (row_type h4 f rfl).2
  obtain ⟨c2, hc2⟩ := (row_type h2 s rfl).2
  exact ⟨fun e => by rw [e] at h1; exact absurd (obj_type h1 hc1) (by decide), fun e => by rw [e] at h1; exact absurd (obj_type h1 hc2) (by decide)⟩
theorem At.ne_loose {w : World} {base d f s g cap n : Nat} {D : Dk} (h : At w base d f s D) {xs : List Value} (hr : w.ownsRow base 107 513 (.slice (some ⟨g, 0, none⟩) n cap) n xs) : g ≠ d ∧ g ≠ f ∧ g ≠ s := by
  obtain ⟨hw, hb, ⟨fc, cs, lv, h1, h2, h3, h4⟩⟩ := h
  obtain ⟨c1, hc1⟩ := (row_type h4 f rfl).2
  obtain ⟨c2, hc2⟩ := (row_type h2 s rfl).2
  obtain ⟨c3, hc3⟩ := (row_type hr g rfl).2
  exact ⟨fun e => by rw [e] at hc3; exact absurd (obj_type hc3 h1) (by decide), fun e => by rw [e] at hc3; exact absurd (obj_type hc3 hc1) (by decide), fun e => by rw [e] at hc3; exact absurd (obj_type hc3 hc2) (by decide)⟩
attribute [local go_sem ↓] load_shut store_shut
set_option maxRecDepth 100000 in
set_option maxHeartbeats 1600000 in
theorem flush_ok {w : World} {base d f s : Nat} {D : Dk} (h : At w base d f s D) (hg : D.gone = false) (hz : D.fuse ≠ 0) (D1 : Dk) (hD1 : burnD D = D1) (hW : D.W.length ≤ 1000000) :
    Calls Try.prog 23 #[pd d] w fun e w' => e = .returned (.int .i64 0) ∧ At w' base d f s { D1 with F := applyW D1.F D1.W, W := [] } ∧ Only [d, f] w w' := by
  have hm := may_walk h 0
  have hn1 := h.wf.n1
  have hm0 : mayE D 0 = 0 := by unfold mayE; rw [if_neg (by rw [hg]; decide), if_pos (by omega)]
  rw [hm0] at hm
  have hb0 : burnE D = 0 := by unfold burnE; rw [if_neg hz]
  have hbw := burn_walk h
  rw [hb0, hD1] at hbw
  have hW1 : D1.W = D.W := by rw [← hD1]; exact burnD_W D
  rw [← hW1] at hW
  have HM := Shut.mk (And.intro hm hbw)
  have HW := Shut.mk hW
  clear hm hm0 hb0 hbw h hg hz hW hD1 hW1 hn1
  go_enter Try.func23, Try.ntmps23
  go_wp2_with fail
  refine HM.out.1.mono ?_
  rintro e w0 ⟨rfl, rfl⟩
  go_wp2_with fail
  refine HM.out.2.mono ?_
  rintro e w1 ⟨rfl, hA1, hO1⟩
  obtain ⟨fc, cs, lv, c0, c1, c2, c3, c4, cf, hrS, hrW, hrF⟩ := hA1.cells
  have HA := Shut.mk (And.intro hA1 (And.intro hO1 hrW))
  obtain ⟨a, cap, rfl⟩ := row_val hrW
  have hnd := hA1.ne_df.1
  have HC := Shut.mk (And.intro c0 (And.intro c2 cf))
  obtain ⟨n, hn⟩ : ∃ n, n = D1.W.length := ⟨_, rfl⟩
  have hn2 : n ≤ 1000000 := by rw [hn]; exact HW.out
  rw [← hn] at c2
  have HN := Shut.mk hn
  clear hA1 hO1 hrS hrF hrW c0 c1 c3 c4 hn
  go_wp2
  go_loopw [22] (fun i wr => ∃ k : Nat, k ≤ n ∧ i = .int .i64 k ∧ Shut (At wr base d f s { D1 with F := applyW D1.F (D1.W.take k) } ∧ Only [f] w1 wr)) (fun i _ => n - (intOf i).toNat)
  case atStart => exact ⟨0, Nat.zero_le _, rfl, ⟨by simpa [applyW] using HA.out.1, Only.refl _ _⟩⟩
  case round =>
    obtain ⟨k, hk, rfl, HR⟩ := hrel
    by_cases hlt : k < n
    · have hlt' : k < D1.W.length := by rw [← HN.out]; exact hlt
      have ha : ∃ g, a = some ⟨g, 0, none⟩ := by
        obtain ⟨g, c, hgc⟩ := row_some HA.out.2.2 (by omega)
        cases hgc
        exact ⟨g, rfl⟩
      obtain ⟨g, rfl⟩ := ha
      obtain ⟨p, hp⟩ : ∃ p, p = D1.W[k] := ⟨_, rfl⟩
      have hpw : p.1 < D1.n ∧ p.2.length = 512 := by rw [hp]; exact HA.out.1.wf.W _ (List.getElem_mem _)
      obtain ⟨hgd, hgf, hgs⟩ := HA.out.1.ne_loose HA.out.2.2
      have hrg : wr.rangeAt g (k * 513) (looseCells p) := by rw [hp]; exact loose_range HA.out.1.wf.W (HR.out.2.row HA.out.2.2 (fun g' h' => by cases h'; simpa using hgf)) k hlt'
      have hc0 := HR.out.2.cellAt HC.out.1 (by simpa using hnd)
      have SI : Shut ((Try.prog.info? 107).map (·.size) = some (looseCells p).toArray.size ∧ Try.zeroCells107.size = (looseCells p).toArray.size) := ⟨by rw [List.size_toArray, loose_length p hpw.2]; exact size513, zero513.trans (by rw [List.size_toArray, loose_length p hpw.2])⟩
      have hsz : (Try.prog.info? 107).map (·.size) = some (looseCells p).length := by rw [loose_length p hpw.2]; exact size513
      have HP := Shut.mk (And.intro hp (And.intro hpw (And.intro hlt' (And.intro hrg (And.intro hsz hc0)))))
      have hp1 : (p.1 : Int) < (D1.n : Int) := by omega
      have hp0 : (0 : Int) ≤ (p.1 : Int) := by omega
      have hkk : (k : Int) < (n : Int) := by omega
      have hk0 : (0 : Int) ≤ (k : Int) := by omega
      clear hp hpw cf c2 hgd hgf hgs hrg hsz
      go_wp2_with (first | (refine wpList_load_mid rfl 107 _ rfl g (k * 513) rfl (looseCells p) _ HP.out.2.2.2.1 Try.underlying107 rfl HP.out.2.2.2.2.1 ?_) | (refine wpList_store_row rfl 107 _ _ rfl _ _ rfl rfl _ _ (heap_alloc_new _ _) SI.out.1 SI.out.2 (all_oneCell_toArray (loose_one p)) ?_))
      rw [World.setRow_alloc_new]
      generalize hx : wr.heap.size = x
      generalize hVV : wr.alloc (Obj.cells (looseCells p).toArray 107) = V
      have hBV : Below wr.heap.size wr V := by rw [← hVV]; exact newer (same wr) _
      have hXV : V.heap[x]? = some (.cells (looseCells p).toArray 107 (0, 0)) := by rw [← hVV, ← hx]; exact heap_alloc_new _ _
      have hAV := (HR.out.1.below hBV).below (drewn (same V))
      obtain ⟨fc2, cs2, lv2, -, -, -, -, -, -, -, -, hrF⟩ := hAV.cells
      have hx0 : V.cell? ⟨x, 0, none⟩ = some (.int .i64 (p.1 : Int)) := by rw [cell_of_row V x 0 _ _ _ hXV]; rfl
      have hx1 : V.drew.rangeAt x 1 (bytesOf p.2) := by
        intro j v hj
        rw [World.cell?_drew, cell_of_row V x (1 + j) _ _ _ hXV, ← hj]
        simp [looseCells, Nat.add_comm]
      have hld := run_loadAt_mid (P := Try.prog) V.drew x 1 105 (bytesOf p.2) _ hx1 Try.underlying105 rfl (by rw [bytesOf_length, HP.out.2.1.2]; exact size512)
      have hth := row_there hrF HP.out.2.1.1
      have hst := run_storeAt_mid (P := Try.prog) V.drew f (p.1 * 512) 105 (bytesOf p.2).toArray (by rw [List.size_toArray, bytesOf_length, HP.out.2.1.2]; exact hth) (by rw [List.size_toArray, bytesOf_length, HP.out.2.1.2]; exact size512) (all_oneCell_toArray (bytesOf_one p.2))
      have hcV : V.cell? ⟨d, 0, none⟩ = some (.slice (some ⟨f, 0, none⟩) D1.n fc) := by rw [hBV.cell (World.block_lt_of_cell? wr _ hc0)]; exact hc0
      have HV := Shut.mk (And.intro hAV (And.intro hBV hVV))
      clear hBV hXV hAV hx1 hrF hth hVV hx hc0
      rw [load_shut] at hld
      rw [store_shut] at hst
      simp only [Act.put]
      go_big_region
      go_wp2
      go_roundw
      case rel =>
        have hw := HV.out.1.flushed p.1 HP.out.2.1.1 p.2 HP.out.2.1.2
        refine ⟨k + 1, by omega, by go_num, ⟨?_, ?_⟩⟩
        · rw [applyW_snoc _ _ _ hlt', ← HP.out.1]
          exact hw.1
        · exact ((HR.out.2.trans (Only.of_below [f] HV.out.2.1)).trans ((Only.refl _ _).drew)).trans hw.2
      case measure => simp [intOf]; omega
    · have e : k = n := by omega
      subst e
      have hfz : wr.frozen? ⟨d, 2, none⟩ = false := by rw [World.frozen?_of_block (w := w1) (HR.out.2.block d (World.block_lt_of_cell? w1 _ c2) (by simpa using hnd))]; exact cf 2
      have hc2 := HR.out.2.cellAt c2 (by simpa using hnd)
      clear cf c2
      go_wp2
      have hfin := HR.out.1.loosed (.slice none 0 0) [] (by simp) (World.ownsRow_nil _ _ _ _)
      rw [HN.out, List.take_length] at hfin
      have hon : Only [d, f] w (wr.setCell ⟨d, 2, none⟩ (.slice none 0 0)) := ((HA.out.2.1.mono (by simp)).trans (HR.out.2.mono (by simp))).trans ((Only.cell _ _ _ _).mono (by simp))
      go_ret
      exact ⟨rfl, hfin, hon⟩
end Go.Proofs.Ythkjodlddhdeiaa.disk
