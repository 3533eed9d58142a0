/- The reference's Write. -/
import Derived.Test.YthkjodlddhdeiaaRefApp
namespace Go.Proofs.Ythkjodlddhdeiaa.disk
open Go.ChangeShapes Go.WideShapes Go.ChangeAt Go.RowKit
open Ythkjodlddhdeiaa.base

def shutAppendR (ats : Array TypeId) (ty : TypeId) (args : Array Value) : Sem Value := Builtin.append_ ats ty args
theorem appendR_shut (ats : Array TypeId) (ty : TypeId) (args : Array Value) : Builtin.append_ ats ty args = shutAppendR ats ty args := rfl
attribute [local go_sem ↓] appendR_shut
theorem writeE_burn {D : Dk} {i : Int} (hm : mayE D i = 0) : writeE D i 512 = burnE D := by unfold writeE; rw [if_pos hm, if_pos rfl]
set_option maxRecDepth 100000 in
set_option maxHeartbeats 800000 in
theorem rwrite_walk {w : World} {base r b : Nat} {D : Dk} {z : Int} (h : RAt w base r b D z) (hbase : base ≤ w.heap.size) (i : Int) (l : List UInt8) (hW : D.W.length ≤ 100000) :
    Calls Try.prog 63 #[pd r, .int .i64 i, .string ⟨l.toArray⟩] w fun e w' => e = .returned (.int .i64 (writeE D i l.length)) ∧ RTo w base r (writeD D i l) w' := by
  have hth := there_walk h i
  have hgo := goes_walk h
  obtain ⟨cb, lv, -, -, -, c3, -, -, -⟩ := h.cells
  have H := Shut.mk (And.intro h (And.intro hbase hW))
  have hsz : (ByteArray.mk l.toArray).size = l.length := size_mk l
  clear h hbase hW
  cases hg : D.gone with
  | true =>
    have hm : mayE D i = 7 := by unfold mayE; rw [if_pos hg]
    have hE : writeE D i l.length = 7 := by unfold writeE; rw [if_neg (by rw [hm]; decide), hm]
    have hD : writeD D i l = D := by unfold writeD; rw [if_neg (by rw [hm]; exact fun h => absurd h.1 (by decide))]
    rw [hE, hD]
    rw [hg] at c3
    clear hm hE hD hth hgo hg
    go_enter Try.func63, Try.ntmps63
    go_wp2
    go_ret
    exact ⟨rfl, ⟨_, _, H.out.1⟩, OnlyT.refl _ _ _⟩
  | false =>
    rw [hg] at c3
    by_cases ht : 0 ≤ i ∧ i < (D.n : Int)
    · have hm : mayE D i = 0 := by unfold mayE; rw [if_neg (by rw [hg]; decide), if_pos ht]
      rw [decide_eq_true ht] at hth
      by_cases hl : l.length = 512
      · by_cases hz : D.fuse = 0
        · have hE : writeE D i l.length = 7 := by rw [hl, writeE_burn hm]; unfold burnE; rw [if_pos hz]
          have hD : writeD D i l = burnD D := by unfold writeD; rw [if_pos ⟨hm, hl⟩, if_pos hz]
          rw [hE, hD]
          rw [decide_eq_true hz] at hgo
          rw [hl] at hsz
          have HT := Shut.mk (And.intro hth hgo)
          clear hm hE hD hth hgo hg ht hz hl
          go_enter Try.func63, Try.ntmps63
          go_wp2_with fail
          refine HT.out.1.mono ?_
          rintro e w1 ⟨rfl, rfl⟩
          go_wp2_with fail
          refine HT.out.2.mono ?_
          rintro e w2 ⟨rfl, ⟨z', hA⟩, hO⟩
          have H2 := Shut.mk (And.intro hA hO)
          clear hA hO
          go_wp2
          go_ret
          exact ⟨rfl, ⟨_, _, H2.out.1⟩, H2.out.2⟩
        · have hE : writeE D i l.length = 0 := by rw [hl, writeE_burn hm]; unfold burnE; rw [if_neg hz]
          have hD : writeD D i l = { burnD D with W := (burnD D).W ++ [(i.toNat, l)], S := setBlk (burnD D).S i.toNat l } := by unfold writeD; rw [if_pos ⟨hm, hl⟩, if_neg hz, burnD_W, burnD_S]
          rw [hE, hD]
          rw [decide_eq_false hz] at hgo
          rw [hl] at hsz
          have hW1 : (burnD D).W.length ≤ 100000 := by rw [burnD_W]; exact H.out.2.2
          have hn1 : i.toNat < (burnD D).n ∧ ((i.toNat : Nat) : Int) = i := by rw [burnD_n]; omega
          have HT := Shut.mk (And.intro hth (And.intro hgo (And.intro hW1 (And.intro hn1 hl))))
          clear hm hE hD hth hgo hg ht hz hl hW1 hn1
          generalize burnD D = D1 at HT ⊢
          go_enter Try.func63, Try.ntmps63
          go_wp2_with fail
          refine HT.out.1.mono ?_
          rintro e w1 ⟨rfl, rfl⟩
          go_wp2_with fail
          refine HT.out.2.1.mono ?_
          rintro e w2 ⟨rfl, ⟨z', hA⟩, hO⟩
          obtain ⟨s, hs⟩ : ∃ s : ByteArray, s = ⟨l.toArray⟩ := ⟨_, rfl⟩
          have hB : Below w2.heap.size w2 (w2.alloc (.cells #[.int .i64 i, .string s] 137)) := newer (same w2) _
          have hA2 := hA.below hB
          obtain ⟨cb2, lv2, -, d1, -, -, -, -, hrow⟩ := hA2.cells
          have d1' : w2.cell? ⟨r, 1, none⟩ = some lv2 := by
            obtain ⟨_, lv0, -, k1, -⟩ := hA.cells
            rw [← hB.cell (p := ⟨r, 1, none⟩) (World.block_lt_of_cell? w2 _ k1)]
            exact d1
          have hbase2 : base ≤ w2.heap.size := Nat.le_trans H.out.2.1 hO.size
          obtain ⟨a2, cap2, hlv, -, -⟩ := own_slice hrow
          subst hlv
          obtain ⟨g6, cap6, w6, hrun, hown, hgrow⟩ := append_gen 54 137 2 24 Try.underlying54 rloose_info (by decide) (by decide) hrow (by have := HT.out.2.2.1; omega) (Nat.le_trans hbase2 hB.size) [.int .i64 i, .string s] rfl (by intro u hu; simp at hu; rcases hu with rfl | rfl <;> rfl)
            (World.news_of_block (cs := #[.int .i64 i, .string s]) (t := 137) (fr := (0, 0)) (heap_alloc_new w2 _))
          have hlen : (D1.W ++ [(i.toNat, l)]).length = D1.W.length + 1 := by simp
          obtain ⟨hA3, hO3, k1, k2⟩ := hA2.appended d1 hgrow (D1.W ++ [(i.toNat, l)]) (setBlk D1.S i.toNat l) (setBlk_len hA.wf.S HT.out.2.2.2.1.1 HT.out.2.2.2.2) (fun p hp => by
              rcases List.mem_append.1 hp with hp | hp
              · exact hA.wf.W p hp
              · rw [List.mem_singleton.1 hp]; exact ⟨HT.out.2.2.2.1.1, HT.out.2.2.2.2⟩) (by
              rw [hlen, List.flatMap_append]
              have e : [(i.toNat, l)].flatMap looseS = [.int .i64 i, .string s] := by simp only [List.flatMap_cons, List.flatMap_nil, List.append_nil, looseS, txt, hs, HT.out.2.2.2.1.2]
              rw [e]
              exact hown)
          have HF := Shut.mk (And.intro hA3 (hO.trans ((OnlyT.of_below hB).trans hO3)))
          rw [appendR_shut] at hrun
          rw [← hs]
          clear hA hO hB hA2 d1 hrow hown hgrow hA3 hO3 hbase2 hs
          go_wp2
          go_ret
          exact ⟨rfl, ⟨_, _, HF.out.1⟩, HF.out.2⟩
      · have hE : writeE D i l.length = 2 := by unfold writeE; rw [if_pos hm, if_neg hl]
        have hD : writeD D i l = D := by unfold writeD; rw [if_neg (fun h => hl h.2)]
        rw [hE, hD]
        have hl' : ¬ (l.length : Int) = 512 := by omega
        have HT := Shut.mk hth
        clear hm hE hD hth hgo hg ht hl hsz
        go_enter Try.func63, Try.ntmps63
        go_wp2_with fail
        refine HT.out.mono ?_
        rintro e w1 ⟨rfl, rfl⟩
        go_wp2
        go_ret
        exact ⟨rfl, ⟨_, _, H.out.1⟩, OnlyT.refl _ _ _⟩
    · have hm : mayE D i = 2 := by unfold mayE; rw [if_neg (by rw [hg]; decide), if_neg ht]
      have hE : writeE D i l.length = 2 := by unfold writeE; rw [if_neg (by rw [hm]; decide), hm]
      have hD : writeD D i l = D := by unfold writeD; rw [if_neg (by rw [hm]; exact fun h => absurd h.1 (by decide))]
      rw [hE, hD]
      rw [decide_eq_false ht] at hth
      have HT := Shut.mk hth
      clear hm hE hD hth hgo hg ht
      go_enter Try.func63, Try.ntmps63
      go_wp2_with fail
      refine HT.out.mono ?_
      rintro e w1 ⟨rfl, rfl⟩
      go_wp2
      go_ret
      exact ⟨rfl, ⟨_, _, H.out.1⟩, OnlyT.refl _ _ _⟩
end Go.Proofs.Ythkjodlddhdeiaa.disk
