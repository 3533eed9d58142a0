/- The walk of wal.Open. -/
import Derived.Test.YthkjodlddhdeiaaWalFunc
import Derived.LoopTactic
namespace Go.Proofs.Ythkjodlddhdeiaa.wal
open Go.ChangeShapes Go.WideShapes Go.ChangeAt Go.RowKit
open Ythkjodlddhdeiaa.base Ythkjodlddhdeiaa.disk
open Ythkjodlddhdeiaa.oct (Reads)
open Ythkjodlddhdeiaa.seal (blockL)
open Ythkjodlddhdeiaa.crc (sealed)

/-- blocks that are no disk's -/
def Apart (w : World) (L : List Nat) : Prop := ∀ k ∈ L, ∀ cur t, w.heap[k]? = some (.cells cur t (0, 0)) → t ≠ 65 ∧ t ≠ 105 ∧ t ≠ 107
theorem at_apart {w w' : World} {base d f s : Nat} {D : Dk} {L : List Nat} (h : At w base d f s D) (ho : Only L w w') (ha : Apart w L) : At w' base d f s D := by
  obtain ⟨hw, hb, ⟨fc, cs, lv, h1, h2, h3, h4⟩⟩ := h
  have key : ∀ {size n : Nat} {e : TypeId} {v : Value} {xs : List Value}, w.ownsRow base e size v n xs → (e = 105 ∨ e = 107) → w'.ownsRow base e size v n xs := by
    intro size n e v xs hr he
    refine ho.row hr (fun g hg hm => ?_)
    obtain ⟨_, cu, hc⟩ := row_type hr g hg
    obtain ⟨_, n2, n3⟩ := ha g hm cu e hc
    rcases he with he | he
    · exact n2 he
    · exact n3 he
  exact ⟨hw, hb, ⟨fc, cs, lv, by rw [ho.block d (lt_of_obj h1) (fun hm => (ha d hm _ _ h1).1 rfl)]; exact h1, key h2 (.inl rfl), key h3 (.inr rfl), key h4 (.inl rfl)⟩⟩
/-- the block of a row of strings -/
def rowL (v : Value) : List Nat := v.ownBlock.toList
theorem apart_log {w : World} {base l d : Nat} {G : Lg} {A : Option Addr} {cap : Nat} (h : LogAt w base l d G) (hr : w.ownsRow base 9 1 (.slice A G.recs.length cap) G.recs.length (oct.strs G.recs)) : Apart w (l :: rowL (.slice A G.recs.length cap)) := by
  intro k hk cur t hc
  obtain ⟨_, _, rv, r1, _⟩ := h
  rcases List.mem_cons.1 hk with rfl | hk
  · rw [r1] at hc; cases hc; decide
  · have hg : Value.ownBlock (.slice A G.recs.length cap) = some k := by unfold rowL at hk; simpa using hk
    obtain ⟨_, cu, hc2⟩ := row_type hr k hg
    rw [hc2] at hc; cases hc; decide
theorem LogAt.lower {w : World} {b base l d : Nat} {G : Lg} (h : LogAt w b l d G) (hb : base ≤ b) : LogAt w base l d G := by
  obtain ⟨hw, hl, rv, r1, r2⟩ := h
  exact ⟨hw, Nat.le_trans hb hl, rv, r1, low_row r2 hb⟩
theorem log_ne_row {w : World} {base b l d : Nat} {G : Lg} {A : Option Addr} {cap n : Nat} {xs : List Value} (h : LogAt w base l d G) (hr : w.ownsRow b 9 1 (.slice A n cap) n xs) : l ∉ rowL (.slice A n cap) := by
  intro hm
  obtain ⟨_, _, rv, r1, _⟩ := h
  have hg : Value.ownBlock (.slice A n cap) = some l := by unfold rowL at hm; simpa using hm
  obtain ⟨_, cu, hc⟩ := row_type hr l hg
  exact absurd (obj_type hc r1) (by decide)
theorem rowL_ge {w : World} {b n cap : Nat} {A : Option Addr} {xs : List Value} (hr : w.ownsRow b 9 1 (.slice A n cap) n xs) : ∀ k ∈ rowL (.slice A n cap), b ≤ k := by
  intro k hm
  have hg : Value.ownBlock (.slice A n cap) = some k := by unfold rowL at hm; simpa using hm
  exact (row_type hr k hg).1
/-- append of one text that was laid last -/
theorem append_one {W : World} {base n : Nat} {A : Option Addr} {cap : Nat} {ss : List ByteArray} (h : W.ownsRow base 9 1 (.slice A n cap) n (oct.strs ss)) (hn : n ≤ 1000000) (hbase : base ≤ W.heap.size) (s : ByteArray) :
    ∃ A' cap' w6, (Builtin.append_ #[53, 53] 53 #[.slice A n cap, .slice (some ⟨W.heap.size, 0, none⟩) 1 1]).run Try.prog (W.alloc (.cells #[.string s] 9)) = .ok (.slice A' (n + 1) cap') w6 ∧
      w6.ownsRow base 9 1 (.slice A' (n + 1) cap') (n + 1) (oct.strs (ss ++ [s])) ∧ Only (rowL (.slice A n cap)) W w6 := by
  obtain ⟨i, hi, hz, hs, hb⟩ := info_parts oct.info_str
  have hkept : (W.alloc (.cells #[.string s] 9)).ownsRow base 9 1 (.slice A n cap) n (oct.strs ss) := h.alloc _
  obtain ⟨v', w6, hrun, hown, hgrow, _⟩ := run_append_own (P := Try.prog) (w := W.alloc (.cells #[.string s] 9)) base 53 53 9 i _ 1 16 Try.underlying53 hi hz hs hb rfl (by decide) _ n _ hkept ⟨W.heap.size, 0, none⟩ 1 1 [.string s] rfl
    (World.news_of_block (cs := #[.string s]) (t := 9) (fr := (0, 0)) (heap_alloc_new W _)) (by simp [Value.oneCell']) (by unfold maxLen; omega) (by omega) (by simp; omega)
  obtain ⟨A', cap', rfl⟩ := row_val hown
  refine ⟨A', cap', w6, hrun, ?_, ?_⟩
  · have e : oct.strs ss ++ [.string s] = oct.strs (ss ++ [s]) := by simp [oct.strs]
    rw [e] at hown
    exact hown
  · refine ⟨hgrow.os, hgrow.tape, hgrow.output, Nat.le_trans (by simp) hgrow.size, fun k hk hn2 => ?_⟩
    rw [hgrow.block k (by simp; omega) (fun e => hn2 (by unfold rowL; rw [← e]; simp)), Below.heap_alloc _ _ _ hk]
theorem log_more {W w6 : World} {base l d : Nat} {G : Lg} {A A' : Option Addr} {cap cap' : Nat} {s : ByteArray} (h : LogAt W base l d G) (hr : W.ownsRow base 9 1 (.slice A G.recs.length cap) G.recs.length (oct.strs G.recs))
    (hf : G.tail + (G.recs.length + 1) ≤ 1125899906842624) (hn : G.recs.length + 1 ≤ G.n)
    (hown : w6.ownsRow base 9 1 (.slice A' (G.recs.length + 1) cap') (G.recs.length + 1) (oct.strs (G.recs ++ [s]))) (ho : Only (rowL (.slice A G.recs.length cap)) W w6) :
    LogAt (w6.setCell ⟨l, 4, none⟩ (.slice A' (G.recs.length + 1) cap')) base l d { G with recs := G.recs ++ [s] } ∧ Only (l :: rowL (.slice A G.recs.length cap)) W (w6.setCell ⟨l, 4, none⟩ (.slice A' (G.recs.length + 1) cap')) := by
  obtain ⟨hw, hlo, rv, r1, r2⟩ := h
  have hlen : (G.recs ++ [s]).length = G.recs.length + 1 := by simp
  have hl6 : w6.heap[l]? = some (.cells #[pd d, .int .i64 G.from_, .int .i64 G.n, .int .i64 G.tail, rv] 78 (0, 0)) := by
    rw [ho.block l (lt_of_obj r1) (fun hm => ?_)]
    · exact r1
    · have hg : Value.ownBlock (.slice A G.recs.length cap) = some l := by unfold rowL at hm; simpa using hm
      obtain ⟨_, cu, hc⟩ := row_type hr l hg
      exact absurd (obj_type hc r1) (by decide)
  refine ⟨⟨⟨hw.n1, hw.room, ?_, ?_⟩, hlo, .slice A' (G.recs.length + 1) cap', heap_setCell_same _ _ 4 _ _ _ hl6, ?_⟩, ?_⟩
  · show G.tail + (G.recs ++ [s]).length ≤ _
    rw [hlen]; exact hf
  · show (G.recs ++ [s]).length ≤ G.n
    rw [hlen]; exact hn
  · show World.ownsRow _ base _ _ _ (G.recs ++ [s]).length _
    rw [hlen]
    refine row_kept hown (fun g hg => ?_)
    obtain ⟨_, cu, hc⟩ := row_type hown g hg
    exact Below.heap_setCell _ _ _ _ (fun e => by
      have e2 : g = l := e
      rw [e2] at hc
      exact absurd (obj_type hc hl6) (by decide))
  · exact (ho.mono (fun k hk => List.mem_cons_of_mem _ hk)).trans ((Only.cell _ _ _ _).mono (by simp))
def OpenOut (w : World) (base d f s : Nat) (D : Dk) (G : Lg) (e : Ending) (w' : World) : Prop := ∃ l, e = .returned (.tuple #[pl l, .int .i64 0]) ∧ LogAt w' base l d G ∧ At w' base d f s D ∧ Below w.heap.size w w'
attribute [local go_sem ↓] appS
set_option maxRecDepth 100000 in
set_option maxHeartbeats 1600000 in
theorem open_walk {w : World} {base d f s : Nat} {D : Dk} (ha : At w base d f s D) (hbase : base ≤ w.heap.size) (hg : D.gone = false) (G : Lg) (hG : G.Wf) (hroom : G.from_ + G.n ≤ D.n) (hsz : ∀ s ∈ G.recs, s.size ≤ 490)
    (hS : ∀ i (h : i < G.recs.length), readS D ((G.from_ + (G.tail + i) % G.n : Nat) : Int) = sealed (blockL (((G.tail + i : Nat) : Int) + 1) G.recs[i].data.toList)) :
    Calls Try.prog 36 #[pd d, .int .i64 G.from_, .int .i64 G.n, .int .i64 G.tail, .int .i64 ((G.tail : Int) + (G.recs.length : Int))] w (OpenOut w base d f s D G) := by
  have hread := read_walk ha 0
  have hn1 := ha.wf.n1
  have hn2 := ha.wf.n2
  rw [mayE_ok hg (by omega) (by omega)] at hread
  have hlen := len_walk ha
  have HH := Ythkjodlddhdeiaa.base.Shut.mk (And.intro hread (And.intro hlen (And.intro hsz (And.intro hS (And.intro hG (And.intro ha (And.intro hg (And.intro hroom hbase))))))))
  have b1 : (G.from_ : Int) + (G.n : Int) ≤ (D.n : Int) := by omega
  have b2 : (1 : Int) ≤ (G.n : Int) := by have := hG.n1; omega
  have b3 : (D.n : Int) ≤ 4096 := by omega
  have b4 : (G.tail : Int) + (G.recs.length : Int) ≤ 1125899906842624 := by have := hG.far; omega
  have b5 : (G.recs.length : Int) ≤ (G.n : Int) := by have := hG.full; omega
  obtain ⟨m, hm⟩ : ∃ m, m = G.recs.length := ⟨_, rfl⟩
  rw [← hm] at b4 b5 ⊢
  have HM := Ythkjodlddhdeiaa.base.Shut.mk hm
  clear hread hlen hsz hS hG ha hg hroom hbase hn1 hn2 hm
  go_enter Try.func36, Try.ntmps36
  go_wp2_with fail
  refine HH.out.1.mono ?_
  rintro e w0 ⟨rfl, rfl⟩
  go_wp2_with fail
  refine HH.out.2.1.mono ?_
  rintro e w0 ⟨rfl, rfl⟩
  go_wp2_with fail
  refine HH.out.2.1.mono ?_
  rintro e w0 ⟨rfl, rfl⟩
  go_wp2
  generalize hx : w.heap.size = l
  generalize hVV : w.alloc (Obj.cells #[pd d, .int .i64 G.from_, .int .i64 G.n, .int .i64 G.tail, .slice none 0 0] 78) = V
  have hV : LogAt V w.heap.size l d ⟨G.from_, G.n, G.tail, []⟩ ∧ Below w.heap.size w V ∧ At V base d f s D := by
    have hb : Below w.heap.size w V := by rw [← hVV]; exact newer (same w) _
    refine ⟨⟨⟨HH.out.2.2.2.2.1.n1, HH.out.2.2.2.2.1.room, by simp; have := HH.out.2.2.2.2.1.far; omega, by simp⟩, by omega, .slice none 0 0, by rw [← hVV, ← hx]; exact heap_alloc_new _ _, World.ownsRow_nil _ _ _ _⟩, hb, HH.out.2.2.2.2.2.1.below hb⟩
  have HV := Ythkjodlddhdeiaa.base.Shut.mk (And.intro hV hx)
  clear hV hVV hx
  go_loopw [15] (fun i wr => ∃ k : Nat, k ≤ m ∧ i = .int .i64 ((G.tail : Int) + (k : Int)) ∧ Ythkjodlddhdeiaa.base.Shut (LogAt wr w.heap.size l d ⟨G.from_, G.n, G.tail, G.recs.take k⟩ ∧ At wr base d f s D ∧ Below w.heap.size w wr)) (fun i _ => (G.tail + m) - (intOf i).toNat)
  case atStart => exact ⟨0, Nat.zero_le _, by simp, ⟨by rw [List.take_zero]; exact HV.out.1.1, HV.out.1.2.2, HV.out.1.2.1⟩⟩
  case round =>
    obtain ⟨k, hk, rfl, HR⟩ := hrel
    by_cases hlt : k < m
    · have hkr : k < G.recs.length := by rw [← HM.out]; exact hlt
      obtain ⟨t, ht⟩ : ∃ t, t = G.recs[k] := ⟨_, rfl⟩
      have hld := load_walk (HR.out.1.lower HH.out.2.2.2.2.2.2.2.2) HR.out.2.1 (G.tail + k) (by omega) (mayE_ok HH.out.2.2.2.2.2.2.1 (by omega) (by
          have h1 := HH.out.2.2.2.2.2.2.2.1
          have h2 : (G.tail + k) % G.n < G.n := Nat.mod_lt _ (by have := HH.out.2.2.2.2.1.n1; omega)
          show ((G.from_ + (G.tail + k) % G.n : Nat) : Int) < _
          omega)) t (by rw [ht]; exact HH.out.2.2.1 _ (List.getElem_mem _)) (by rw [ht]; exact HH.out.2.2.2.1 k hkr)
      rw [Int.natCast_add] at hld
      have HL := Ythkjodlddhdeiaa.base.Shut.mk (And.intro hld ht)
      clear hld ht
      have hkk : (k : Int) < (m : Int) := by omega
      go_wp2_with fail
      refine HL.out.1.mono ?_
      rintro e w1 ⟨rfl, hb1⟩
      have hL1 := HR.out.1.below hb1
      have hlk : (G.recs.take k).length = k := by rw [List.length_take]; omega
      obtain ⟨A, cap, -, -, -, -, c4, cf, hr⟩ := hL1.cells
      simp only [hlk] at c4 hr
      have hwf := HH.out.2.2.2.2.1
      obtain ⟨A', cap', w6, hrun, hown, ho6⟩ := append_one hr (by have := hwf.full; have := hwf.room; omega) (HR.out.2.2.trans (hb1.mono HR.out.2.2.size)).size t
      have hr' : w1.ownsRow w.heap.size 9 1 (.slice A (G.recs.take k).length cap) (G.recs.take k).length (oct.strs (G.recs.take k)) := by rw [hlk]; exact hr
      have hown' : w6.ownsRow w.heap.size 9 1 (.slice A' ((G.recs.take k).length + 1) cap') ((G.recs.take k).length + 1) (oct.strs (G.recs.take k ++ [t])) := by rw [hlk]; exact hown
      have ho6' : Only (rowL (.slice A (G.recs.take k).length cap)) w1 w6 := by rw [hlk]; exact ho6
      have hmore := log_more hL1 hr' (by show G.tail + ((G.recs.take k).length + 1) ≤ _; rw [hlk]; have := hwf.far; omega) (by show (G.recs.take k).length + 1 ≤ G.n; rw [hlk]; have := hwf.full; omega) hown' ho6'
      have hat := at_apart (HR.out.2.1.below hb1) hmore.2 (apart_log hL1 hr')
      have hlow : ∀ q ∈ l :: rowL (.slice A (G.recs.take k).length cap), w.heap.size ≤ q := by
        intro q hq
        rcases List.mem_cons.1 hq with rfl | hq
        · exact hL1.low
        · exact rowL_ge hr' q hq
      have hb2 := HR.out.2.2.trans (hb1.mono HR.out.2.2.size)
      have hbel := hmore.2.below hb2 hlow hb2.size
      have hln := log_ne_row hL1 hr
      rw [hlk] at hmore hat hbel
      have hc6 : w6.cell? ⟨l, 4, none⟩ = some (.slice A k cap) := ho6.cellAt c4 hln
      have hf6 : w6.frozen? ⟨l, 4, none⟩ = false := by rw [World.frozen?_of_block (w := w1) (ho6.block l (World.block_lt_of_cell? w1 _ c4) hln)]; exact cf 4
      have HK := Ythkjodlddhdeiaa.base.Shut.mk (And.intro hmore.1 (And.intro hat hbel))
      clear hmore hat hbel hown hown' ho6 ho6' hr hr' hL1 hb1 hlk hwf hlow hb2 hln
      rw [appS] at hrun
      go_wp2
      go_roundw
      case rel =>
        refine ⟨k + 1, by omega, by go_num, ⟨?_, HK.out.2.1, HK.out.2.2⟩⟩
        rw [List.take_succ_eq_append_getElem hkr, ← HL.out.2]
        exact HK.out.1
      case measure => simp [intOf]; omega
    · obtain rfl : m = k := by omega
      have hfin := HR.out.1
      rw [HM.out, List.take_length] at hfin
      have HF := Ythkjodlddhdeiaa.base.Shut.mk hfin
      clear hfin
      go_wp2
      go_ret2
      exact ⟨l, rfl, HF.out.lower HH.out.2.2.2.2.2.2.2.2, HR.out.2.1, HR.out.2.2⟩
end Go.Proofs.Ythkjodlddhdeiaa.wal
