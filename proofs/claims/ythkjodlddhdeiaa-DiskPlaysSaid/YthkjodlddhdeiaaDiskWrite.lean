/- The walk of disk.Write. -/
import Derived.Test.YthkjodlddhdeiaaDiskMid
import Derived.Deep.RegionHeld3
import Derived.Deep.AppendLies
import Derived.Deep.RegionLawGrows
import Derived.BigRegion
import Derived.ArgAppend
namespace Go.Proofs.Ythkjodlddhdeiaa.disk
open Go.ChangeShapes Go.WideShapes Go.ChangeAt Go.RowKit
open Ythkjodlddhdeiaa.base

def writeE (D : Dk) (i : Int) (k : Nat) : Int := if mayE D i = 0 then (if k = 512 then burnE D else 2) else mayE D i
def writeD (D : Dk) (i : Int) (s : List UInt8) : Dk :=
  if mayE D i = 0 ∧ s.length = 512 then (if D.fuse = 0 then burnD D else { burnD D with W := D.W ++ [(i.toNat, s)], S := setBlk D.S i.toNat s }) else D
theorem burnD_n (D : Dk) : (burnD D).n = D.n := by unfold burnD; split <;> rfl
theorem burnD_W (D : Dk) : (burnD D).W = D.W := by unfold burnD; split <;> rfl
theorem burnD_S (D : Dk) : (burnD D).S = D.S := by unfold burnD; split <;> rfl
theorem burnD_F (D : Dk) : (burnD D).F = D.F := by unfold burnD; split <;> rfl
/-- the literal's making, shut: the walk would open 'Instr.buildSlice' before it meets an equation on its run -/
def shutSlice (parts : Array (Nat × Value)) : Sem Value := Instr.buildSlice 63 1 parts
theorem slice_shut (parts : Array (Nat × Value)) : Instr.buildSlice 63 1 parts = shutSlice parts := rfl
def shutBuild (parts : Array (Nat × Value)) : Sem Value := Instr.build 107 parts
theorem build_shut (parts : Array (Nat × Value)) : Instr.build 107 parts = shutBuild parts := rfl
def shutAppend (ats : Array TypeId) (ty : TypeId) (args : Array Value) : Sem Value := Builtin.append_ ats ty args
theorem append_shut (ats : Array TypeId) (ty : TypeId) (args : Array Value) : Builtin.append_ ats ty args = shutAppend ats ty args := rfl
def shutLoad (v : Value) : Sem Value := Instr.loadAt 105 v
theorem load_shut (v : Value) : Instr.loadAt 105 v = shutLoad v := rfl
def shutSl (v h m : Value) : Sem Value := Instr.slice 63 v none (some h) (some m)
theorem sl_shut (v h m : Value) : Instr.slice 63 v none (some h) (some m) = shutSl v h m := rfl
def shutNeq (v h : Value) : Sem Value := binOp .neq 105 v h
theorem neq_shut (v h : Value) : binOp .neq 105 v h = shutNeq v h := rfl
def shutStore (v h : Value) : Sem Unit := Instr.storeAt 105 v h
theorem store_shut (v h : Value) : Instr.storeAt 105 v h = shutStore v h := rfl
theorem array_at (w : World) (a : Addr) (c : Nat) : (Instr.arrayAt 105 (.slice (some a) 512 c)).run Try.prog w = .ok (.pointer (some a)) w := by
  simp [Instr.arrayAt, run_underlying Try.underlying105]
attribute [local go_sem ↓] slice_shut build_shut append_shut load_shut sl_shut neq_shut store_shut
set_option maxRecDepth 100000 in
set_option maxHeartbeats 800000 in
theorem write_ok {w : World} {base d f s : Nat} {D : Dk} (h : At w base d f s D) (k : Nat) (hk : k < D.n) (hg : D.gone = false) (hz : D.fuse ≠ 0) (l : List UInt8) (hl : l.length = 512) (hW : D.W.length ≤ 1000000) (D1 : Dk) (hD1 : burnD D = D1) :
    Calls Try.prog 21 #[pd d, .int .i64 (k : Int), .string ⟨l.toArray⟩] w fun e w' => e = .returned (.int .i64 0) ∧ At w' base d f s { D1 with W := D1.W ++ [(k, l)], S := setBlk D1.S k l } ∧ Only [d, s] w w' := by
  have hm := may_walk h k
  have hm0 : mayE D (k : Int) = 0 := by unfold mayE; rw [if_neg (by rw [hg]; decide), if_pos (by omega)]
  rw [hm0] at hm
  have hb0 : burnE D = 0 := by unfold burnE; rw [if_neg hz]
  have hbw := burn_walk h
  rw [hb0, hD1] at hbw
  have hn1 : D1.n = D.n := by rw [← hD1]; exact burnD_n D
  have hW1 : D1.W = D.W := by rw [← hD1]; exact burnD_W D
  have HM := Shut.mk (And.intro hm hbw)
  have hsz : (ByteArray.mk l.toArray).size = 512 := by rw [size_mk, hl]
  have hcv := fun u : World => run_bw u l 512 hl
  rw [← hn1] at hk
  rw [← hW1] at hW
  have hki : (k : Int) < (D1.n : Int) := by omega
  have HK := Shut.mk (And.intro hk (And.intro hl hW))
  have hkk : (0 : Int) ≤ (k : Int) := by omega
  clear hm hm0 hb0 hbw h hk hg hz hl hW hD1 hn1 hW1
  go_enter Try.func21, Try.ntmps21
  go_wp2_with fail
  refine HM.out.1.mono ?_
  rintro e w0 ⟨rfl, rfl⟩
  go_wp2_with fail
  refine HM.out.2.mono ?_
  rintro e w1 ⟨rfl, hA1, hO1⟩
  have hge := bcap_ge w1 l
  have hcap : (512 : Int) ≤ (bcap w1 l : Int) := by have := HK.out.2.1; omega
  clear hge
  have hat := fun u : World => array_at u ⟨w1.heap.size, 0, none⟩ (bcap w1 l)
  have hld : ∀ (j : Nat) (v : Value), (bytesOf l)[j]? = some v → (bw w1 l).cell? ⟨w1.heap.size, 0 + j, none⟩ = some v := by
    intro j v hj
    obtain ⟨c, hc, rfl⟩ : ∃ c, l[j]? = some c ∧ Value.int .u8 (c.toNat : Int) = v := by simpa [bytesOf] using hj
    rw [Nat.zero_add]
    exact bw_cell w1 l j c hc
  have HLD := Shut.mk hld
  have hbl : (bytesOf l).length = 512 := by simp [bytesOf, HK.out.2.1]
  have HBL := Shut.mk hbl
  have SI : Shut ((Try.prog.info? 105).map (·.size) = some (bytesOf l).toArray.size ∧ Try.zeroCells105.size = (bytesOf l).toArray.size) := ⟨by rw [List.size_toArray, hbl]; exact size512, (show Try.zeroCells105.size = 512 by kernel_rfl).trans (by rw [List.size_toArray, hbl])⟩
  clear hld hbl
  go_wp2_with (first | (refine wpList_load_mid rfl 105 _ rfl w1.heap.size 0 rfl (bytesOf l) _ HLD.out Try.underlying105 rfl (by rw [HBL.out]; exact size512) ?_) | (refine wpList_store_row rfl 105 _ _ rfl _ _ rfl rfl _ _ (heap_alloc_new _ _) SI.out.1 SI.out.2 (all_oneCell_toArray (bytesOf_one l)) ?_))
  rw [World.setRow_alloc_new]
  generalize hx : (bw w1 l).heap.size = x
  generalize hWW : (bw w1 l).alloc (Obj.cells (bytesOf l).toArray 105) = W
  have hB : Below w1.heap.size w1 W := by rw [← hWW]; exact newer (bw_below w1 l) _
  have hX : W.heap[x]? = some (.cells (bytesOf l).toArray 105 (0, 0)) := by rw [← hWW, ← hx]; exact heap_alloc_new _ _
  have hxx : w1.heap.size ≤ x := by rw [← hx, bw_size]; omega
  have hA := hA1.below hB
  obtain ⟨fc, cs, lv, c0, c1, c2, c3, c4, cf, hrS, hrW, -⟩ := hA.cells
  have hran : W.rangeAt x 0 (bytesOf l) := by
    have := World.rangeAt_of_block hX 0 512
    have e : ((bytesOf l).toArray.extract 0 (0 + 512)).toList = bytesOf l := by simp [HBL.out]; exact List.take_of_length_le (by rw [HBL.out]; exact Nat.le_refl _)
    rwa [e] at this
  have hload := fun (u : World) (hu : u.rangeAt x 0 (bytesOf l)) => run_loadAt_mid (P := Try.prog) u x 0 105 (bytesOf l) _ hu Try.underlying105 rfl (by rw [HBL.out]; exact size512)
  have HLO := Shut.mk hload
  have hbuild := fun u : World => build_loose (k : Int) l HK.out.2.1 u
  have hcsz : (Value.int .i64 (k : Int) :: bytesOf l).toArray.size = 513 := by simp [HBL.out]
  have hcone : ∀ u ∈ (Value.int .i64 (k : Int) :: bytesOf l).toArray.toList, u.oneCell' = true := by
    intro u hu
    rcases List.mem_cons.1 (by simpa using hu) with rfl | hu
    · rfl
    · exact bytesOf_one l u hu
  have hslice := fun u : World => slice_loose (Value.int .i64 (k : Int) :: bytesOf l).toArray hcsz u
  obtain ⟨C, hC⟩ : ∃ C, C = (Value.int .i64 (k : Int) :: bytesOf l).toArray := ⟨_, rfl⟩
  rw [← hC] at hbuild hslice hcsz hcone
  obtain ⟨a, cap, rfl, hle, g6, cap6, w6, hrun, hown, hb6⟩ := append_loose hrW HK.out.2.2 C hcsz hcone
  have hsl := fun u : World => slice3_loose a D1.W.length cap hle u
  have hdW : d < W.heap.size := World.block_lt_of_cell? W _ c2
  have hA2 : At (w6.setCell ⟨d, 2, none⟩ (.slice (some ⟨g6, 0, none⟩) (D1.W.length + 1) cap6)) base d f s { D1 with W := D1.W ++ [(k, l)] } := by
    refine (hA.below hb6).loosed _ (D1.W ++ [(k, l)]) (fun p hp => ?_) ?_
    · rcases List.mem_append.1 hp with hp | hp
      · exact hA.wf.W p hp
      · rw [List.mem_singleton.1 hp]; exact ⟨HK.out.1, HK.out.2.1⟩
    · have hlow := low_row hown (base := base) (Nat.le_trans hA.low.1 (Nat.le_of_lt hdW))
      rw [List.length_append, List.flatMap_append]
      rw [hC] at hlow
      exact (by simpa [looseCells] using hlow)
  have hX2 : (w6.setCell ⟨d, 2, none⟩ (.slice (some ⟨g6, 0, none⟩) (D1.W.length + 1) cap6)).rangeAt x 0 (bytesOf l) := by
    intro j v hj
    have h1 := hran j v hj
    have hxd : x ≠ d := fun e => by
      rw [e] at h1
      rw [e] at hX
      have := obj_type hX (show W.heap[d]? = some _ from hA.fields.choose_spec.choose_spec.choose_spec.1)
      exact absurd this (by decide)
    rw [World.cell?_of_block (w := w6) (Below.heap_setCell _ _ _ _ hxd), hb6.cell (World.block_lt_of_cell? W _ h1)]
    exact h1
  have hO2 : Only [d] w (w6.setCell ⟨d, 2, none⟩ (.slice (some ⟨g6, 0, none⟩) (D1.W.length + 1) cap6)) :=
    (hO1.trans ((Only.of_below [d] (hB.trans (hb6.mono hB.size))))).trans (Only.cell _ _ _ _)
  have HA2 := Shut.mk (And.intro hA2 (And.intro hX2 hO2))
  have hldW := hload W.drew (by simpa using hran)
  have hca : (W.alloc (.cells C 107)).cell? ⟨d, 2, none⟩ = some (.slice a D1.W.length cap) := by rw [World.cell?_alloc_lt _ _ _ hdW]; exact c2
  have hcw : w6.cell? ⟨d, 2, none⟩ = some (.slice a D1.W.length cap) := by rw [hb6.cell (p := ⟨d, 2, none⟩) hdW]; exact c2
  have hfz : w6.frozen? ⟨d, 2, none⟩ = false := by rw [hb6.frozen (p := ⟨d, 2, none⟩) hdW]; exact cf 2
  have b1 : (0 : Int) ≤ (D1.W.length : Int) := by omega
  have b2 : (D1.W.length : Int) ≤ (cap : Int) := by omega
  clear hA hB hX hxx hWW hx hA1 hcap hat hcv SI HLD hcsz hcone hC hle hown hb6 hA2 hX2 hO1 hO2 hrS hrW hload hran c0 c1 c3 c4
  simp only [slice_shut] at hslice
  simp only [build_shut] at hbuild
  simp only [sl_shut] at hsl
  rw [load_shut] at hldW
  rw [append_shut] at hrun
  simp only [Act.put]
  go_big_region
  generalize w6.setCell ⟨d, 2, none⟩ (.slice (some ⟨g6, 0, none⟩) (D1.W.length + 1) cap6) = V at HA2
  clear hslice hbuild hsl hldW hrun hca hcw hfz b1 b2 c2 cf hdW
  obtain ⟨fc2, cs2, lv2, -, e1, -, -, -, -, hS2, -, -⟩ := HA2.out.1.cells
  have hr2 : V.rangeAt s (k * 512) (bytesOf (blk D1.S k)) := row_range hS2 HK.out.1
  have hbl : (blk D1.S k).length = 512 := blk_len HA2.out.1.wf.S HK.out.1
  have hl2 := run_loadAt_mid (P := Try.prog) V.drew s (k * 512) 105 (bytesOf (blk D1.S k)) _ (by simpa using hr2) Try.underlying105 rfl (by rw [bytesOf_length, hbl]; exact size512)
  have hl1 := HLO.out V.drew (by simpa using HA2.out.2.1)
  have hne := fun u : World => neq_blocks (blk D1.S k) l hbl HK.out.2.1 u
  have hrS := row_there hS2 HK.out.1
  have hst := run_storeAt_mid (P := Try.prog) V.drew.drew s (k * 512) 105 (bytesOf l).toArray (by rw [List.size_toArray, HBL.out]; simpa using hrS) (by rw [List.size_toArray, HBL.out]; exact size512) (all_oneCell_toArray (bytesOf_one l))
  have hl3 := HLO.out V.drew.drew (by simpa using HA2.out.2.1)
  rw [load_shut] at hl1 hl2 hl3
  rw [store_shut] at hst
  simp only [neq_shut] at hne
  clear hS2 hr2 hrS
  by_cases heq : blk D1.S k = l
  · have hb : (!(blk D1.S k == l)) = false := by simp [heq]
    rw [hb] at hne
    have HEQ := Shut.mk (And.intro heq hbl)
    clear hb heq hbl
    go_wp2
    go_big_region
    go_wp2
    have hfin : At V.drew base d f s { D1 with W := D1.W ++ [(k, l)], S := setBlk D1.S k l } := by
      have h1 := HA2.out.1.below (drewn (same V))
      have h2 : setBlk D1.S k l = D1.S := by rw [← HEQ.out.1]; exact setBlk_blk HA2.out.1.wf.S HK.out.1
      rw [h2]
      exact h1
    have hon : Only [d, s] w V.drew := (HA2.out.2.2.drew).mono (by simp)
    go_ret
    exact ⟨rfl, hfin, hon⟩
  · have hb : (!(blk D1.S k == l)) = true := by simp [heq]
    rw [hb] at hne
    have HEQ := Shut.mk (And.intro heq hbl)
    clear hb heq hbl
    go_wp2
    go_big_region
    go_wp2
    go_big_region
    go_wp2
    have h0 := (HA2.out.1.below (drewn (drewn (same V)))).seen k HK.out.1 l HK.out.2.1
    have hon : Only [d, s] w (V.drew.drew.setCells s (k * 512) (bytesOf l)) := ((HA2.out.2.2.drew.drew).mono (by simp)).trans (h0.2.mono (by simp))
    go_ret
    exact ⟨rfl, h0.1, hon⟩
/-- what Write answers, whatever is asked -/
theorem writeD_ok {D : Dk} {i : Int} {l : List UInt8} (h : mayE D i = 0) (hl : l.length = 512) (hz : D.fuse ≠ 0) : writeD D i l = { burnD D with W := (burnD D).W ++ [(i.toNat, l)], S := setBlk (burnD D).S i.toNat l } := by
  unfold writeD
  rw [if_pos ⟨h, hl⟩, if_neg hz, burnD_W, burnD_S]
set_option maxRecDepth 100000 in
set_option maxHeartbeats 800000 in
theorem write_walk {w : World} {base d f s : Nat} {D : Dk} (h : At w base d f s D) (i : Int) (l : List UInt8) (hlm : l.length ≤ 9223372036854775807) (hW : D.W.length ≤ 1000000) :
    Calls Try.prog 21 #[pd d, .int .i64 i, .string ⟨l.toArray⟩] w fun e w' => e = .returned (.int .i64 (writeE D i l.length)) ∧ At w' base d f s (writeD D i l) ∧ Only [d, s] w w' := by
  by_cases hm : mayE D i = 0
  · obtain ⟨hg, h1, h2⟩ := mayE_zero hm
    by_cases hl : l.length = 512
    · by_cases hz : D.fuse = 0
      · have hE : writeE D i l.length = 7 := by unfold writeE burnE; rw [if_pos hm, if_pos hl, if_pos hz]
        have hD : writeD D i l = burnD D := by unfold writeD; rw [if_pos ⟨hm, hl⟩, if_pos hz]
        have hmay := may_walk h i
        rw [hm] at hmay
        have hbw := burn_walk h
        have hb7 : burnE D = 7 := by unfold burnE; rw [if_pos hz]
        rw [hb7] at hbw
        rw [hE, hD]
        have hsz : (ByteArray.mk l.toArray).size = 512 := by rw [size_mk, hl]
        have HM := Shut.mk (And.intro hmay hbw)
        clear hmay hbw hE hD hb7 h hm hg h1 h2 hl hz hW hlm
        go_enter Try.func21, Try.ntmps21
        go_wp2_with fail
        refine HM.out.1.mono ?_
        rintro e w1 ⟨rfl, rfl⟩
        go_wp2_with fail
        refine HM.out.2.mono ?_
        rintro e w1 ⟨rfl, hA1, hO1⟩
        go_wp2
        go_ret
        exact ⟨rfl, hA1, hO1.mono (by simp)⟩
      · have hE : writeE D i l.length = 0 := by unfold writeE burnE; rw [if_pos hm, if_pos hl, if_neg hz]
        obtain ⟨k, rfl⟩ : ∃ k : Nat, i = k := ⟨i.toNat, by omega⟩
        rw [hE, writeD_ok hm hl hz]
        have := write_ok h k (by omega) hg hz l hl hW _ rfl
        exact this
    · have hE : writeE D i l.length = 2 := by unfold writeE; rw [if_pos hm, if_neg hl]
      have hD : writeD D i l = D := by unfold writeD; rw [if_neg (fun hh => hl hh.2)]
      have hmay := may_walk h i
      rw [hm] at hmay
      rw [hE, hD]
      have HM := Shut.mk (And.intro hmay h)
      have hsz : (ByteArray.mk l.toArray).size = l.length := size_mk l
      have hne : ((l.length : Int) != 512) = true := by simpa using (by omega : ¬ (l.length : Int) = 512)
      clear hmay hE hD h hm hg h1 h2 hl hW
      generalize ByteArray.mk l.toArray = b at hsz
      rw [← hsz] at hne hlm
      clear hsz
      go_enter Try.func21, Try.ntmps21
      go_wp2_with fail
      refine HM.out.1.mono ?_
      rintro e w1 ⟨rfl, rfl⟩
      go_wp2
      go_ret
      exact ⟨rfl, HM.out.2, Only.refl _ _⟩
  · have hE : writeE D i l.length = mayE D i := by unfold writeE; rw [if_neg hm]
    have hD : writeD D i l = D := by unfold writeD; rw [if_neg (fun hh => hm hh.1)]
    have hmay := may_walk h i
    rw [hE, hD]
    have HM := Shut.mk (And.intro hmay h)
    have hne : (mayE D i != 0) = true := by simpa using hm
    clear hmay hE hD h hW hlm
    generalize mayE D i = r at HM hne hm
    clear hm
    go_enter Try.func21, Try.ntmps21
    go_wp2_with fail
    refine HM.out.1.mono ?_
    rintro e w1 ⟨rfl, rfl⟩
    go_wp2
    go_ret
    exact ⟨rfl, HM.out.2, Only.refl _ _⟩
end Go.Proofs.Ythkjodlddhdeiaa.disk
