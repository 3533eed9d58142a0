/- The walk of disk.Crash. -/
import Derived.Test.YthkjodlddhdeiaaDiskFall
import Derived.Test.YthkjodlddhdeiaaClone
import Derived.StillTailTactics
namespace Go.Proofs.Ythkjodlddhdeiaa.disk
open Go.ChangeShapes Go.WideShapes Go.ChangeAt Go.RowKit
open Ythkjodlddhdeiaa.base

/-- a list of ints that can be read -/
def Ints (w : World) (v : Value) (L : List Int) : Prop :=
  (L = [] ∧ ∃ a c, v = .slice a 0 c) ∨ ∃ g o c, v = .slice (some ⟨g, o, none⟩) L.length c ∧ ∀ j x, L[j]? = some x → w.cell? ⟨g, o + j, none⟩ = some (.int .i64 x)
theorem zip_take {α β : Type} : ∀ (W : List α) (F : List β) (k : Nat), (W.take k).zip F = (W.zip F).take k
  | [], _, _ => by simp
  | _ :: _, [], k => by cases k <;> simp
  | a :: W, b :: F, 0 => rfl
  | a :: W, b :: F, k + 1 => by simp [zip_take W F k]
def crashF (F : List UInt8) (W : List (Nat × List UInt8)) (fates : List Int) : List UInt8 := (W.zip fates).foldl (fun F q => fallF F q.1 q.2) F
theorem crashF_snoc (F : List UInt8) (W : List (Nat × List UInt8)) (fates : List Int) (k : Nat) (h : k < W.length) (hf : k < fates.length) :
    crashF F (W.take (k + 1)) fates = fallF (crashF F (W.take k) fates) W[k] fates[k] := by
  unfold crashF
  have e : (W.zip fates).length = min W.length fates.length := List.length_zip
  have hk : k < (W.zip fates).length := by rw [e]; omega
  rw [zip_take, zip_take, List.take_succ_eq_append_getElem hk, List.foldl_append]
  simp
theorem crashF_past (F : List UInt8) (W : List (Nat × List UInt8)) (fates : List Int) (k : Nat) (hf : fates.length ≤ k) :
    crashF F (W.take (k + 1)) fates = crashF F (W.take k) fates := by
  unfold crashF
  have e : (W.zip fates).length ≤ k := by rw [List.length_zip]; omega
  rw [zip_take, zip_take, List.take_of_length_le (by omega), List.take_of_length_le e]
def crashD (D : Dk) (fates : List Int) : Dk := { D with F := crashF D.F D.W fates, S := crashF D.F D.W fates, W := [], gone := false, fuse := -1 }
def shutLoad7 (v : Value) : Sem Value := Instr.loadAt 107 v
theorem load7_shut (v : Value) : Instr.loadAt 107 v = shutLoad7 v := rfl
/-- the seen blocks, anew -/
theorem At.reseen {w : World} {base d f s s' c' base' : Nat} {D : Dk} {S' : List UInt8} (h : At w base d f s D) (hr : w.ownsRow base' 105 512 (.slice (some ⟨s', 0, none⟩) D.n c') D.n (bytesOf S')) (hb' : base ≤ base') (hne : f ≠ s') :
    At (w.setCell ⟨d, 1, none⟩ (.slice (some ⟨s', 0, none⟩) D.n c')) base d f s' { D with S := S' } := by
  obtain ⟨hw, hb, ⟨fc, cs, lv0, h1, h2, h3, h4⟩⟩ := h
  have key : ∀ {size n : Nat} {e : TypeId} {v : Value} {xs : List Value}, w.ownsRow base e size v n xs → e ≠ 65 → (w.setCell ⟨d, 1, none⟩ (.slice (some ⟨s', 0, none⟩) D.n c')).ownsRow base e size v n xs := by
    intro size n e v xs hr he
    refine row_kept hr (fun g hg => ?_)
    obtain ⟨_, cur, hc⟩ := row_type hr g hg
    refine Below.heap_setCell _ _ _ _ (fun e2 => ?_)
    have e3 : g = d := e2
    subst e3
    exact he (obj_type hc h1)
  have hlow := low_row hr hb'
  have hS : S'.length = D.n * 512 := by have := hlow.1; rwa [bytesOf_length] at this
  have hs' : base ≤ s' := (row_type hlow s' rfl).1
  exact ⟨⟨hw.n1, hw.n2, hw.F, hS, hw.W, hw.low, hw.high⟩, ⟨hb.1, hb.2.1, hs', hne⟩, ⟨fc, c', lv0, heap_setCell_same _ _ 1 _ _ _ h1, key hlow (by decide), key h3 (by decide), key h4 (by decide)⟩⟩
attribute [local go_sem ↓] load7_shut
set_option maxRecDepth 100000 in
set_option maxHeartbeats 1600000 in
theorem crash_walk {w : World} {base d f s : Nat} {D : Dk} (h : At w base d f s D) (hbase : base ≤ w.heap.size) (fv : Value) (fates : List Int) (hfv : Ints w fv fates) (hff : ∀ g o n c, fv = .slice (some ⟨g, o, none⟩) n c → 0 < n → g ≠ f) (hfl : fates.length ≤ 9223372036854775807) (hW : D.W.length ≤ 1000000) :
    Calls Try.prog 24 #[pd d, fv] w fun e w' => ∃ s', e = .returned (.int .i64 0) ∧ w.heap.size ≤ s' ∧ At w' base d f s' (crashD D fates) ∧ Only [d, f] w w' := by
  have hm := made_walk h
  have HM := Shut.mk hm
  obtain ⟨fc, cs, lv, c0, c1, c2, c3, c4, cf, hrS, hrW, hrF⟩ := h.cells
  obtain ⟨a, cap, rfl⟩ := row_val hrW
  have HA := Shut.mk (And.intro h (And.intro hrW (And.intro c0 (And.intro c2 (And.intro cf (And.intro hfv (And.intro hff hbase)))))))
  have hnd := h.ne_df.1
  obtain ⟨n, hn⟩ : ∃ n, n = D.W.length := ⟨_, rfl⟩
  have hn2 : n ≤ 1000000 := by rw [hn]; exact hW
  rw [← hn] at c2
  have HN := Shut.mk hn
  obtain ⟨fa, m, fcap, hfm, rfl⟩ : ∃ fa m fcap, m = fates.length ∧ fv = .slice fa m fcap := by
    rcases hfv with ⟨rfl, a', c, rfl⟩ | ⟨g, o, c, rfl, _⟩
    · exact ⟨a', 0, c, rfl, rfl⟩
    · exact ⟨_, _, c, rfl, rfl⟩
  have hm63 : m ≤ 9223372036854775807 := by rw [hfm]; exact hfl
  have HFM := Shut.mk hfm
  clear hm h hrS hrF hrW c0 c1 c3 c4 hn hW hfv hff hbase hfl hfm
  go_enter Try.func24, Try.ntmps24
  go_wp2_with fail
  refine HM.out.mono ?_
  rintro e w0 ⟨rfl, rfl⟩
  go_wp2
  go_loopw [15] (fun i wr => ∃ k : Nat, k ≤ n ∧ i = .int .i64 k ∧ Shut (At wr base d f s { D with F := crashF D.F (D.W.take k) fates } ∧ Only [f] w wr)) (fun i _ => n - (intOf i).toNat)
  case atStart => exact ⟨0, Nat.zero_le _, rfl, ⟨by simpa [crashF] using HA.out.1, Only.refl _ _⟩⟩
  case round =>
    obtain ⟨k, hk, rfl, HR⟩ := hrel
    by_cases hlt : k < n
    · have hlt' : k < D.W.length := by rw [← HN.out]; exact hlt
      have ha : ∃ g, a = some ⟨g, 0, none⟩ := by
        obtain ⟨g, c, hgc⟩ := row_some HA.out.2.1 (by omega)
        cases hgc
        exact ⟨g, rfl⟩
      obtain ⟨g, rfl⟩ := ha
      obtain ⟨p, hp⟩ : ∃ p, p = D.W[k] := ⟨_, rfl⟩
      have hpw : p.1 < D.n ∧ p.2.length = 512 := by rw [hp]; exact HA.out.1.wf.W _ (List.getElem_mem _)
      obtain ⟨hgd, hgf, hgs⟩ := HA.out.1.ne_loose HA.out.2.1
      have hrg : wr.rangeAt g (k * 513) (looseCells p) := by rw [hp]; exact loose_range HA.out.1.wf.W (HR.out.2.row HA.out.2.1 (fun g' h' => by cases h'; simpa using hgf)) k hlt'
      have SI : Shut ((Try.prog.info? 107).map (·.size) = some (looseCells p).toArray.size ∧ Try.zeroCells107.size = (looseCells p).toArray.size) := ⟨by rw [List.size_toArray, loose_length p hpw.2]; exact size513, zero513.trans (by rw [List.size_toArray, loose_length p hpw.2])⟩
      have hsz : (Try.prog.info? 107).map (·.size) = some (looseCells p).length := by rw [loose_length p hpw.2]; exact size513
      have HP := Shut.mk (And.intro hp (And.intro hpw (And.intro hlt' (And.intro hrg hsz))))
      have hkk : (k : Int) < (n : Int) := by omega
      have hk0 : (0 : Int) ≤ (k : Int) := by omega
      have hways : ((k : Int) < (m : Int)) ∨ ¬ ((k : Int) < (m : Int)) := by omega
      clear hp hpw cf c2 hgd hgf hgs hrg hsz
      rcases hways with hkm | hkm
      all_goals
        go_wp2_with (first | (refine wpList_load_mid rfl 107 _ rfl g (k * 513) rfl (looseCells p) _ HP.out.2.2.2.1 Try.underlying107 rfl HP.out.2.2.2.2 ?_) | (refine wpList_store_row rfl 107 _ _ rfl _ _ rfl rfl _ _ (heap_alloc_new _ _) SI.out.1 SI.out.2 (all_oneCell_toArray (loose_one p)) ?_))
      · rw [World.setRow_alloc_new]
        generalize hx : wr.heap.size = x
        generalize hVV : wr.alloc (Obj.cells (looseCells p).toArray 107) = V
        have hBV : Below wr.heap.size wr V := by rw [← hVV]; exact newer (same wr) _
        have hXV : V.heap[x]? = some (.cells (looseCells p).toArray 107 (0, 0)) := by rw [← hVV, ← hx]; exact heap_alloc_new _ _
        have hAV := (HR.out.1.below hBV).below (drewn (same V))
        have hran : V.drew.rangeAt x 0 (looseCells p) := by
          intro j v hj
          rw [World.cell?_drew, cell_of_row V x (0 + j) _ _ _ hXV, ← hj]
          simp
        have hld := run_loadAt_mid (P := Try.prog) V.drew x 0 107 (looseCells p) _ hran Try.underlying107 rfl HP.out.2.2.2.2
        rw [load7_shut] at hld
        have hkf : k < fates.length := by rw [← HFM.out]; omega
        obtain ⟨ft, hft⟩ : ∃ ft, ft = fates[k] := ⟨_, rfl⟩
        have hcall := fall_walk hAV p HP.out.2.1.1 HP.out.2.1.2 ft _ rfl
        have hfac : ∃ g o, fa = some ⟨g, o, none⟩ ∧ V.cell? ⟨g, o + k, none⟩ = some (.int .i64 ft) := by
          rcases HA.out.2.2.2.2.2.1 with ⟨hnil, _⟩ | ⟨g, o, c, hs, hc⟩
          · rw [hnil] at hkf; simp at hkf
          · cases hs
            refine ⟨g, o, rfl, ?_⟩
            have h1 := hc k ft (by rw [hft]; exact List.getElem?_eq_getElem hkf)
            have h2 := HR.out.2.cellAt h1 (by simpa using HA.out.2.2.2.2.2.2.1 _ _ _ _ rfl (by omega))
            rw [hBV.cell (World.block_lt_of_cell? wr _ h2)]
            exact h2
        obtain ⟨fg, fo, rfl, hfc⟩ := hfac
        have HV := Shut.mk (And.intro hBV (And.intro hVV (And.intro hcall hft)))
        clear hBV hXV hAV hran hVV hx hcall hft
        go_still_tail 6, (by kernel_rfl)
        change wpList _ _ _ _ _ V.drew
        go_wp2_with fail
        refine HV.out.2.2.1.mono ?_
        rintro e w2 ⟨rfl, hA2, hO2⟩
        have H2 := Shut.mk (And.intro hA2 hO2)
        clear hA2 hO2 hld hfc
        go_wp2
        go_roundw
        case rel =>
          refine ⟨k + 1, by omega, by go_num, ⟨?_, (HR.out.2.trans (Only.of_below [f] HV.out.1)).trans (((Only.refl _ _).drew).trans H2.out.2)⟩⟩
          rw [crashF_snoc _ _ _ _ hlt' hkf, ← HP.out.1, ← HV.out.2.2.2]
          exact H2.out.1
        case measure => simp [intOf]; omega
      · rw [World.setRow_alloc_new]
        generalize hVV : wr.alloc (Obj.cells (looseCells p).toArray 107) = V
        have hBV : Below wr.heap.size wr V := by rw [← hVV]; exact newer (same wr) _
        have HV := Shut.mk hBV
        clear hBV hVV
        go_wp2
        go_roundw
        case rel =>
          refine ⟨k + 1, by omega, by go_num, ⟨?_, HR.out.2.trans (Only.of_below [f] HV.out)⟩⟩
          rw [crashF_past _ _ _ _ (by rw [← HFM.out]; omega)]
          exact HR.out.1.below HV.out
        case measure => simp [intOf]; omega
    · have e : k = n := by omega
      subst e
      have hA3 := HR.out.1
      rw [HN.out, List.take_length] at hA3
      obtain ⟨fc3, cs3, lv3, d0, d1, d2, d3, d4, df, hS3, hW3, hF3⟩ := hA3.cells
      have H3 := Shut.mk (And.intro hA3 (And.intro hS3 (And.intro hW3 hF3)))
      clear hA3 hS3 hW3 hF3 cf c2
      have hU1 := H3.out.1.loosed (.slice none 0 0) [] (by simp) (World.ownsRow_nil _ _ _ _)
      have hU2 : At (((wr.setCell ⟨d, 2, none⟩ (.slice none 0 0)).setCell ⟨d, 4, none⟩ (.bool false)).setCell ⟨d, 3, none⟩ (.int .i64 (-1))) base d f s { D with F := crashF D.F D.W fates, W := [], fuse := -1, gone := false } :=
        hU1.turned (fun q _ hn => by rw [Below.heap_setCell _ _ _ _ hn, Below.heap_setCell _ _ _ _ hn]) (-1) false (by omega) (by omega) (fun a b c hd => heap_setCell_same _ _ 3 _ _ _ (heap_setCell_same _ _ 4 _ _ _ hd))
      have hU3 : Only [d] wr (((wr.setCell ⟨d, 2, none⟩ (.slice none 0 0)).setCell ⟨d, 4, none⟩ (.bool false)).setCell ⟨d, 3, none⟩ (.int .i64 (-1))) := ((Only.cell _ _ _ _).trans (Only.cell _ _ _ _)).trans (Only.cell _ _ _ _)
      have HU := Shut.mk (And.intro hU2 hU3)
      clear hU1 hU2 hU3 d1
      go_wp2_with fail
      generalize ((wr.setCell ⟨d, 2, none⟩ (.slice none 0 0)).setCell ⟨d, 4, none⟩ (.bool false)).setCell ⟨d, 3, none⟩ (.int .i64 (-1)) = U at HU
      have hrowF : U.ownsRow base 105 512 (.slice (some ⟨f, 0, none⟩) D.n fc3) D.n (bytesOf (crashF D.F D.W fates)) := by
        refine HU.out.2.row H3.out.2.2.2 (fun g hg => ?_)
        cases hg
        simpa using Ne.symm hnd
      refine (clone_blocks hrowF (bytesOf_one _) (by have := HA.out.1.wf.n2; omega)).mono ?_
      intro e w2 hcl
      obtain ⟨s', cs', rfl, hrow2, hb2⟩ := hcl.some
      have hfU : f < U.heap.size := by
        obtain ⟨_, cu, hc⟩ := row_type hrowF f rfl
        exact lt_of_obj hc
      have hs'U : U.heap.size ≤ s' := (row_type hrow2 s' rfl).1
      have hwU : w.heap.size ≤ U.heap.size := Nat.le_trans HR.out.2.size HU.out.2.size
      have hfin := (HU.out.1.below hb2).reseen hrow2 (Nat.le_trans HA.out.2.2.2.2.2.2.2 hwU) (by omega)
      have hon : Only [d, f] w (w2.setCell ⟨d, 1, none⟩ (.slice (some ⟨s', 0, none⟩) D.n cs')) := (((HR.out.2.mono (by simp)).trans (HU.out.2.mono (by simp))).trans (Only.of_below [d, f] hb2)).trans ((Only.cell _ _ _ _).mono (by simp))
      obtain ⟨fc4, cs4, lv4, -, e1, -, -, -, ef, -, -, -⟩ := (HU.out.1.below hb2).cells
      have he1 := e1
      have hf1 := ef 1
      have HF := Shut.mk (And.intro hfin (And.intro hon (Nat.le_trans hwU hs'U)))
      clear hfin hon hcl hrow2 hb2 hrowF hfU hs'U hwU d0 d2 d3 d4 df ef e1
      go_wp2
      go_ret
      exact ⟨s', rfl, HF.out.2.2, HF.out.1, HF.out.2.1⟩
end Go.Proofs.Ythkjodlddhdeiaa.disk
