/- The walk of a log's Append. -/
import Derived.Test.YthkjodlddhdeiaaWalOpen
import Derived.ArgAppend
namespace Go.Proofs.Ythkjodlddhdeiaa.wal
open Go.ChangeShapes Go.WideShapes Go.ChangeAt Go.RowKit
open Ythkjodlddhdeiaa.base Ythkjodlddhdeiaa.disk
open Ythkjodlddhdeiaa.oct (Reads)
open Ythkjodlddhdeiaa.seal (blockL)
open Ythkjodlddhdeiaa.crc (sealed)

theorem slice3_strs (a : Option Addr) (n cap : Nat) (h : n ≤ cap) (w : World) :
    (Instr.slice 53 (.slice a n cap) none (some (.int .i64 (n : Int))) (some (.int .i64 (n : Int)))).run Try.prog w = .ok (.slice a n n) w := by
  have ha : a.map (·.add 0) = a := by cases a with | none => rfl | some b => exact congrArg some (by unfold Addr.add; split <;> simp_all)
  have h1 : (n : Int) ≤ (cap : Int) := by omega
  simp [Instr.slice, run_underlying Try.underlying53, Instr.sliceBounds, Instr.sliceBound, asIntOf, h, str_size]
  intro _
  exact ha
theorem append_many {W : World} {base n : Nat} {A : Option Addr} {cap : Nat} {ss rs : List ByteArray} (h : W.ownsRow base 9 1 (.slice A n cap) n (oct.strs ss)) (hn : n + rs.length ≤ 1000000) (hm : 0 < rs.length) (ad : Addr) (c : Nat)
    (hc : ∀ j u, (oct.strs rs)[j]? = some u → W.cell? (ad.add j) = some u) :
    n ≤ cap ∧ ∃ A' cap' w6, (Builtin.append_ #[53, 53] 53 #[.slice A n n, .slice (some ad) rs.length c]).run Try.prog W = .ok (.slice A' (n + rs.length) cap') w6 ∧
      w6.ownsRow W.heap.size 9 1 (.slice A' (n + rs.length) cap') (n + rs.length) (oct.strs (ss ++ rs)) ∧ Below W.heap.size W w6 := by
  obtain ⟨i, hi, hz, hs, hb⟩ := info_parts oct.info_str
  have hlr : (oct.strs rs).length = rs.length * 1 := by simp [oct.strs]
  have happ : oct.strs ss ++ oct.strs rs = oct.strs (ss ++ rs) := by simp [oct.strs]
  obtain ⟨hxl, ⟨h1, h2⟩ | ⟨g, cap', cur, h1, hg1, hg2, hg3, hg4, hg5, hg6⟩⟩ := h
  · simp only [Value.slice.injEq] at h1
    obtain ⟨rfl, rfl, rfl⟩ := h1
    obtain rfl : ss = [] := List.eq_nil_of_length_eq_zero (by simpa [oct.strs] using hxl)
    obtain ⟨v', w6, hrun, hown, hgrow, _⟩ := run_append_own (P := Try.prog) (w := W) W.heap.size 53 53 9 i _ 1 16 Try.underlying53 hi hz hs hb rfl (by decide) (.slice none 0 0) 0 [] (World.ownsRow_nil _ _ _ _) ad rs.length c (oct.strs rs) hlr hc (strs_one rs) (by unfold maxLen; omega) (by omega) (Nat.le_refl _)
    obtain ⟨A', cap', rfl⟩ := row_val hown
    exact ⟨Nat.le_refl _, A', cap', w6, hrun, hown, (same W).grown hgrow (Nat.le_refl _) (fun k hk => by cases hk)⟩
  · simp only [Value.slice.injEq] at h1
    obtain ⟨rfl, _, rfl⟩ := h1
    obtain ⟨v', w6, hrun, hown, hgrow⟩ := run_append_arg_grows (P := Try.prog) W 53 53 9 i _ 1 16 Try.underlying53 hi hz hs hb rfl (by decide) ⟨g, 0, none⟩ n n (oct.strs ss) hxl (fun j u hj => by
        have hadd : (⟨g, 0, none⟩ : Addr).add j = ⟨g, j, none⟩ := by unfold Addr.add; split <;> simp_all
        rw [hadd, cell_of_row _ _ _ _ _ _ hg2]
        have hjn : j < n * 1 := by have := (List.getElem?_eq_some_iff.1 hj).1; omega
        rw [← hg6, List.getElem?_take, if_pos hjn] at hj
        simpa using hj) ad rs.length c (oct.strs rs) hlr hc (by omega) (by unfold maxLen; omega) (by omega)
    rw [happ] at hown
    obtain ⟨A', cap', rfl⟩ := row_val hown
    exact ⟨hg3, A', cap', w6, hrun, hown, (same W).grown hgrow (Nat.le_refl _) (fun k hk => by cases hk)⟩
theorem log_many {W w6 : World} {base l d : Nat} {G : Lg} {A' : Option Addr} {cap' : Nat} {rs : List ByteArray} (h : LogAt W base l d G) (hbase : base ≤ W.heap.size)
    (hf : G.tail + (G.recs.length + rs.length) ≤ 1125899906842624) (hn : G.recs.length + rs.length ≤ G.n)
    (hown : w6.ownsRow W.heap.size 9 1 (.slice A' (G.recs.length + rs.length) cap') (G.recs.length + rs.length) (oct.strs (G.recs ++ rs))) (hb : Below W.heap.size W w6) :
    LogAt (w6.setCell ⟨l, 4, none⟩ (.slice A' (G.recs.length + rs.length) cap')) base l d { G with recs := G.recs ++ rs } ∧ Only [l] W (w6.setCell ⟨l, 4, none⟩ (.slice A' (G.recs.length + rs.length) cap')) ∧ FreshRow W (w6.setCell ⟨l, 4, none⟩ (.slice A' (G.recs.length + rs.length) cap')) l := by
  obtain ⟨hw, hlo, rv, r1, r2⟩ := h
  have hlen : (G.recs ++ rs).length = G.recs.length + rs.length := List.length_append
  have hl6 : w6.heap[l]? = some (.cells #[pd d, .int .i64 G.from_, .int .i64 G.n, .int .i64 G.tail, rv] 78 (0, 0)) := by rw [hb.block l (lt_of_obj r1)]; exact r1
  refine ⟨⟨⟨hw.n1, hw.room, ?_, ?_⟩, hlo, .slice A' (G.recs.length + rs.length) cap', heap_setCell_same _ _ 4 _ _ _ hl6, ?_⟩, (Only.of_below [l] hb).trans (Only.cell _ _ _ _), fun rv' g hc hg => ?_⟩
  · show G.tail + (G.recs ++ rs).length ≤ _
    rw [hlen]; exact hf
  · show (G.recs ++ rs).length ≤ G.n
    rw [hlen]; exact hn
  · show World.ownsRow _ base _ _ _ (G.recs ++ rs).length _
    rw [hlen]
    have hlow := low_row hown hbase
    refine row_kept hlow (fun g hg => ?_)
    obtain ⟨_, cu, hc⟩ := row_type hlow g hg
    exact Below.heap_setCell _ _ _ _ (fun e => by
      have e2 : g = l := e
      rw [e2] at hc
      exact absurd (obj_type hc hl6) (by decide))
  · rw [cell_of_row _ _ 4 _ _ _ (heap_setCell_same _ _ 4 _ _ (.slice A' (G.recs.length + rs.length) cap') hl6)] at hc
    have hv : rv' = .slice A' (G.recs.length + rs.length) cap' := by simpa using hc.symm
    rw [hv] at hg
    exact (row_type hown g hg).1
/-- the disk behind so many stores -/
def putsD (G : Lg) (D : Dk) (p : Nat) : List ByteArray → Dk
  | [] => D
  | s :: r => putsD G (putD D (G.from_ + p % G.n) (sealed (blockL ((p : Int) + 1) s.data.toList))) (p + 1) r
theorem putsD_snoc (G : Lg) : ∀ (rs : List ByteArray) (D : Dk) (p k : Nat) (hk : k < rs.length), putsD G D p (rs.take (k + 1)) = putD (putsD G D p (rs.take k)) (G.from_ + (p + k) % G.n) (sealed (blockL (((p + k : Nat) : Int) + 1) rs[k].data.toList))
  | [], _, _, _, hk => by simp at hk
  | s :: r, D, p, 0, _ => rfl
  | s :: r, D, p, k + 1, hk => by
    have h := putsD_snoc G r (putD D (G.from_ + p % G.n) (sealed (blockL ((p : Int) + 1) s.data.toList))) (p + 1) k (by simpa using hk)
    rw [show p + 1 + k = p + (k + 1) from by omega] at h
    exact h
theorem putsD_keeps (G : Lg) : ∀ (rs : List ByteArray) (D : Dk) (p : Nat), (putsD G D p rs).gone = D.gone ∧ (putsD G D p rs).fuse = D.fuse ∧ (putsD G D p rs).n = D.n ∧ (putsD G D p rs).W.length = D.W.length + rs.length
  | [], D, _ => ⟨rfl, rfl, rfl, rfl⟩
  | s :: r, D, p => by
    obtain ⟨h1, h2, h3, h4⟩ := putsD_keeps G r (putD D (G.from_ + p % G.n) (sealed (blockL ((p : Int) + 1) s.data.toList))) (p + 1)
    exact ⟨h1, h2, h3, by rw [putsD, h4]; simp [putD]; omega⟩
set_option maxRecDepth 100000 in
set_option maxHeartbeats 800000 in
theorem append_full {w : World} {base l d : Nat} {G : Lg} (hl : LogAt w base l d G) (A : Option Addr) (cap : Nat) (rs : List ByteArray) (hr : Reads w A rs) (hs : ∀ s ∈ rs, s.size ≤ 490) (hrl : rs.length ≤ 9223372036854775807) (hfull : G.n < G.recs.length + rs.length) :
    Calls Try.prog 37 #[pl l, .slice A rs.length cap] w fun e w' => e = .returned (.int .i64 8) ∧ Below w.heap.size w w' := by
  have HH := Ythkjodlddhdeiaa.base.Shut.mk (And.intro (there_walk hl) (And.intro (contains_none (cap := cap) hr hs hrl) (room_walk hl)))
  have h1 : (G.n : Int) - (G.recs.length : Int) < (rs.length : Int) := by omega
  clear hl hr hs hfull
  go_enter Try.func37, Try.ntmps37
  go_wp2_with fail
  refine HH.out.1.mono ?_
  rintro e w0 ⟨rfl, rfl⟩
  go_wp2_with fail
  refine HH.out.2.1.mono ?_
  rintro e w0 ⟨rfl, rfl⟩
  go_wp2_with fail
  refine HH.out.2.2.mono ?_
  rintro e w1 ⟨rfl, hb⟩
  go_wp2
  go_ret
  exact ⟨rfl, hb⟩
def shutSl3 (v h m : Value) : Sem Value := Instr.slice 53 v none (some h) (some m)
theorem sl3 (v h m : Value) : Instr.slice 53 v none (some h) (some m) = shutSl3 v h m := rfl
attribute [local go_sem ↓] appS sl3
set_option maxRecDepth 100000 in
set_option maxHeartbeats 1600000 in
theorem append_ok {w : World} {base l d f s : Nat} {G : Lg} {D : Dk} (hl : LogAt w base l d G) (ha : At w base d f s D) (hbase : base ≤ w.heap.size) (hg : D.gone = false) (hz : D.fuse = -1) (hroom : G.from_ + G.n ≤ D.n) 
    (A : Option Addr) (cap : Nat) (rs : List ByteArray) (hW : D.W.length + rs.length ≤ 1000000) (hr : Reads w A rs) (hs : ∀ s ∈ rs, s.size ≤ 490) (hm : 0 < rs.length) (hfit : G.recs.length + rs.length ≤ G.n) (hfar : G.tail + (G.recs.length + rs.length) ≤ 1125899906842624)
    (hap : ∀ b off, A = some ⟨b, off, none⟩ → b ∉ [d, s]) :
    Calls Try.prog 37 #[pl l, .slice A rs.length cap] w fun e w' => e = .returned (.int .i64 0) ∧ At w' base d f s (putsD G D (G.tail + G.recs.length) rs) ∧ LogAt w' base l d { G with recs := G.recs ++ rs } ∧ Only [d, s, l] w w' ∧ FreshRow w w' l := by
  have hrl : rs.length ≤ 9223372036854775807 := by omega
  have HC := Ythkjodlddhdeiaa.base.Shut.mk (And.intro (there_walk hl) (And.intro (contains_none (cap := cap) hr hs hrl) (And.intro (room_walk hl) (fun (u : World) (hb : Below w.heap.size w u) => head_walk (hl.below hb)))))
  obtain ⟨b, off, hA, hbw, hcell⟩ := hr (fun e => by rw [e] at hm; simp at hm)
  have hbd := hap b off hA
  subst hA
  have h1 : ¬ (G.n : Int) - (G.recs.length : Int) < (rs.length : Int) := by omega
  have h2 : (G.tail : Int) + (G.recs.length : Int) + (rs.length : Int) ≤ 1125899906842624 := by omega
  have HH := Ythkjodlddhdeiaa.base.Shut.mk (And.intro hl (And.intro ha (And.intro hbase (And.intro hg (And.intro hz (And.intro hroom (And.intro hW (And.intro hs (And.intro hfit (And.intro hfar (And.intro hbd (And.intro hcell (And.intro hbw hm)))))))))))))
  obtain ⟨m, hmm⟩ : ∃ m, m = rs.length := ⟨_, rfl⟩
  rw [← hmm] at h1 h2 hrl HC ⊢
  have HM := Ythkjodlddhdeiaa.base.Shut.mk hmm
  clear hl ha hbase hg hz hroom hW hr hs hm hfit hfar hap hbw hcell hbd hmm
  go_enter Try.func37, Try.ntmps37
  go_wp2_with fail
  refine HC.out.1.mono ?_
  rintro e w0 ⟨rfl, rfl⟩
  go_wp2_with fail
  refine HC.out.2.1.mono ?_
  rintro e w0 ⟨rfl, rfl⟩
  go_wp2_with fail
  refine HC.out.2.2.1.mono ?_
  rintro e w1 ⟨rfl, hb1⟩
  have HB1 := Ythkjodlddhdeiaa.base.Shut.mk hb1
  clear hb1
  go_wp2_with fail
  refine (HC.out.2.2.2 _ HB1.out).mono ?_
  rintro e w2 ⟨rfl, hb2⟩
  have HB2 := Ythkjodlddhdeiaa.base.Shut.mk (chain HB1.out hb2)
  clear hb2
  go_wp2
  go_loopw [27] (fun i wr => ∃ k : Nat, k ≤ m ∧ i = .int .i64 k ∧ Ythkjodlddhdeiaa.base.Shut (At wr base d f s (putsD G D (G.tail + G.recs.length) (rs.take k)) ∧ LogAt wr base l d G ∧ Only [d, s] w wr)) (fun i _ => m - (intOf i).toNat)
  case atStart => exact ⟨0, Nat.zero_le _, rfl, ⟨HH.out.2.1.below HB2.out, HH.out.1.below HB2.out, Only.of_below _ HB2.out⟩⟩
  case round =>
    obtain ⟨k, hk, rfl, HR⟩ := hrel
    by_cases hlt : k < m
    · have hkr : k < rs.length := by rw [← HM.out]; exact hlt
      obtain ⟨t, ht⟩ : ∃ t, t = rs[k] := ⟨_, rfl⟩
      obtain ⟨q1, q2, q3, q4⟩ := putsD_keeps G (rs.take k) D (G.tail + G.recs.length)
      have hmod : (G.tail + G.recs.length + k) % G.n < G.n := Nat.mod_lt _ (by have := HH.out.1.wf.n1; omega)
      have hst := store_walk HR.out.2.1 HR.out.1 (G.tail + G.recs.length + k) (by have := HH.out.2.2.2.2.2.2.2.2.2.1; omega) (by rw [q1]; exact HH.out.2.2.2.1) (by rw [q2]; exact HH.out.2.2.2.2.1) (by rw [q3]; have := HH.out.2.2.2.2.2.1; omega) t (by rw [ht]; exact HH.out.2.2.2.2.2.2.2.1 _ (List.getElem_mem _)) (by rw [q4, List.length_take]; have := HH.out.2.2.2.2.2.2.1; omega)
      rw [Int.natCast_add, Int.natCast_add] at hst
      have hc := HR.out.2.2.cellAt (HH.out.2.2.2.2.2.2.2.2.2.2.2.1 k t (by rw [ht]; exact List.getElem?_eq_getElem hkr)) HH.out.2.2.2.2.2.2.2.2.2.2.1
      have HS := Ythkjodlddhdeiaa.base.Shut.mk (And.intro hst ht)
      have hkk : (k : Int) < (m : Int) := by omega
      have hk0 : (0 : Int) ≤ (k : Int) := by omega
      clear hst ht q1 q2 q3 q4 hmod
      go_wp2_with fail
      refine HS.out.1.mono ?_
      rintro e w3 ⟨rfl, hA3, hL3, hO3⟩
      have H3 := Ythkjodlddhdeiaa.base.Shut.mk (And.intro hA3 (And.intro hL3 hO3))
      clear hA3 hL3 hO3
      go_wp2
      go_roundw
      case rel =>
        refine ⟨k + 1, by omega, by go_num, ⟨?_, H3.out.2.1, HR.out.2.2.trans H3.out.2.2⟩⟩
        have := putsD_snoc G rs D (G.tail + G.recs.length) k hkr
        rw [this, ← HS.out.2]
        have h3 := H3.out.1
        rw [← Int.natCast_add, ← Int.natCast_add] at h3
        exact h3
      case measure => simp [intOf]; omega
    · obtain rfl : m = k := by omega
      have hA2 := HR.out.1
      rw [HM.out, List.take_length] at hA2
      obtain ⟨A0, cap0, -, -, -, -, c4, cf, hrow⟩ := HR.out.2.1.cells
      have hsrc : ∀ j u, (oct.strs rs)[j]? = some u → wr.cell? ((⟨b, off, none⟩ : Addr).add j) = some u := by
        intro j u hj
        unfold oct.strs at hj
        rw [List.getElem?_map] at hj
        obtain ⟨t, ht, rfl⟩ := Option.map_eq_some_iff.1 hj
        rw [Addr.add_mid]
        exact HR.out.2.2.cellAt (HH.out.2.2.2.2.2.2.2.2.2.2.2.1 j t ht) HH.out.2.2.2.2.2.2.2.2.2.2.1
      obtain ⟨hle, A', cap', w6, hrun, hown, hb6⟩ := append_many hrow (by have := HH.out.2.2.2.2.2.2.2.2.1; have := HH.out.1.wf.room; omega) HH.out.2.2.2.2.2.2.2.2.2.2.2.2.2 ⟨b, off, none⟩ cap hsrc
      have hsl := fun u : World => slice3_strs A0 G.recs.length cap0 hle u
      have hbw : base ≤ wr.heap.size := Nat.le_trans HH.out.2.2.1 HR.out.2.2.size
      have hmany := log_many HR.out.2.1 hbw HH.out.2.2.2.2.2.2.2.2.2.1 HH.out.2.2.2.2.2.2.2.2.1 hown hb6
      rw [← HM.out] at hrun hmany
      have hc6 : w6.cell? ⟨l, 4, none⟩ = some (.slice A0 G.recs.length cap0) := by rw [hb6.cell (World.block_lt_of_cell? wr _ c4)]; exact c4
      have hf6 : w6.frozen? ⟨l, 4, none⟩ = false := by rw [hb6.frozen (p := ⟨l, 4, none⟩) (World.block_lt_of_cell? wr _ c4)]; exact cf 4
      have hat := at_log hA2 HR.out.2.1 hmany.2.1
      have hfr : FreshRow w _ l := fun rv' g hc hg => Nat.le_trans HR.out.2.2.size (hmany.2.2 rv' g hc hg)
      have hon := (HR.out.2.2.mono (l' := [d, s, l]) (by simp)).trans (hmany.2.1.mono (by simp))
      have HF := Ythkjodlddhdeiaa.base.Shut.mk (And.intro hat (And.intro hmany.1 (And.intro hon hfr)))
      clear hA2 hrow hsrc hle hown hb6 hmany hbw hat hon hfr
      rw [appS] at hrun
      simp only [sl3] at hsl
      go_wp2
      go_ret
      exact ⟨rfl, HF.out.1, HF.out.2.1, HF.out.2.2.1, HF.out.2.2.2⟩
end Go.Proofs.Ythkjodlddhdeiaa.wal
