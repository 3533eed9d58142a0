/- Both disks: the program's at D, the reference's at D'. -/
import Derived.Test.YthkjodlddhdeiaaRefNew
namespace Go.Proofs.Ythkjodlddhdeiaa.disk
open Go.ChangeShapes Go.WideShapes Go.ChangeAt Go.RowKit
open Ythkjodlddhdeiaa.base

def aT : List TypeId := dT ++ rT
theorem OnlyT.mono {base : Nat} {ts ts' : List TypeId} {w w' : World} (h : OnlyT base ts w w') (hs : ∀ t ∈ ts, t ∈ ts') : OnlyT base ts' w w' :=
  ⟨h.os, h.tape, h.output, h.size, fun k hk hn => h.block k hk (hn.imp id (fun hc cur t hb ht => hc cur t hb (hs t ht)))⟩
theorem d_sub : ∀ t ∈ dT, t ∈ aT := fun t h => List.mem_append_left _ h
theorem r_sub : ∀ t ∈ rT, t ∈ aT := fun t h => List.mem_append_right _ h
structure Half (w0 w : World) (d r : Nat) (D D' : Dk) : Prop where
  st : St w0 w d D
  rt : ∃ b z, RAt w w0.heap.size r b D' z
theorem Half.mono {w0 w w' : World} {d r : Nat} {D D' : Dk} (h : Half w0 w d r D D') (hb : Below w.heap.size w w') : Half w0 w' d r D D' := by
  obtain ⟨b, z, hr⟩ := h.rt
  exact ⟨h.st.mono hb, b, z, hr.below hb⟩
/-- what a call leaves -/
def HTo (w0 w : World) (d r : Nat) (D D' : Dk) (w' : World) : Prop := Half w0 w' d r D D' ∧ OnlyT w0.heap.size aT w w'
theorem half_d {w0 w w' : World} {d r f s s' : Nat} {D D1 D' : Dk} {l : List Nat} (h : Half w0 w d r D D') (ha : At w w0.heap.size d f s D) (ha' : At w' w0.heap.size d f s' D1) (ho : Only l w w') (hl : ∀ k ∈ l, k = d ∨ k = f ∨ k = s) : HTo w0 w d r D1 D' w' := by
  have hT := ha.onlyT ho hl
  obtain ⟨b, z, hr⟩ := h.rt
  refine ⟨⟨st_step ha h.st.below ha' ho (fun k hk => ?_), b, z, hr.keepT hT⟩, hT.mono d_sub⟩
  rcases hl k hk with rfl | rfl | rfl
  · exact ha.low.1
  · exact ha.low.2.1
  · exact ha.low.2.2.1
theorem half_r {w0 w w' : World} {d r : Nat} {D D' D1 : Dk} (h : Half w0 w d r D D') (hr : RTo w w0.heap.size r D1 w') : HTo w0 w d r D D1 w' := by
  obtain ⟨⟨b, z, hr⟩, hT⟩ := hr
  obtain ⟨f, s, ha⟩ := h.st.at_
  exact ⟨⟨⟨⟨f, s, ha.keepT hT⟩, hT.below h.st.below h.st.below.size⟩, b, z, hr⟩, hT.mono r_sub⟩
section
variable {w0 w : World} {d r : Nat} {D D' : Dk}
theorem half_write (h : Half w0 w d r D D') (i : Int) (l : List UInt8) (hlm : l.length ≤ 9223372036854775807) (hW : D.W.length ≤ 100000) :
    Calls Try.prog 21 #[pd d, .int .i64 i, .string ⟨l.toArray⟩] w fun e w' => e = .returned (.int .i64 (writeE D i l.length)) ∧ HTo w0 w d r (writeD D i l) D' w' := by
  obtain ⟨f, s, ha⟩ := h.st.at_
  exact (write_walk ha i l hlm (by omega)).mono fun e w' ⟨he, ha', ho⟩ => ⟨he, half_d h ha ha' ho (fun k hk => by simp at hk; omega)⟩
theorem half_flush (h : Half w0 w d r D D') (hW : D.W.length ≤ 100000) :
    Calls Try.prog 23 #[pd d] w fun e w' => e = .returned (.int .i64 (flushE D)) ∧ HTo w0 w d r (flushD D) D' w' := by
  obtain ⟨f, s, ha⟩ := h.st.at_
  exact (flush_walk ha (by omega)).mono fun e w' ⟨he, ha', ho⟩ => ⟨he, half_d h ha ha' ho (fun k hk => by simp at hk; omega)⟩
theorem half_arm (h : Half w0 w d r D D') (n : Int) (hn : n ≤ 9223372036854775807) :
    Calls Try.prog 34 #[pd d, .int .i64 n] w fun e w' => e = .returned (.int .i64 (armE D)) ∧ HTo w0 w d r (armD D n) D' w' := by
  obtain ⟨f, s, ha⟩ := h.st.at_
  exact (arm_walk ha n hn).mono fun e w' ⟨he, ha', ho⟩ => ⟨he, half_d h ha ha' ho (fun k hk => by simp at hk; omega)⟩
theorem half_crash (h : Half w0 w d r D D') (v : Value) (L : List Int) (hv : ArgFates w0 w v L) (hW : D.W.length ≤ 100000) :
    Calls Try.prog 24 #[pd d, v] w fun e w' => e = .returned (.int .i64 0) ∧ HTo w0 w d r (crashD D L) D' w' := by
  obtain ⟨f, s, ha⟩ := h.st.at_
  exact (crash_walk ha h.st.below.size v L hv.1 (fun g o n c hg hn => by have := hv.2.1 g o n c hg hn; have := ha.low.2.1; omega) hv.2.2 (by omega)).mono fun e w' ⟨s', he, _, ha', ho⟩ => ⟨he, half_d h ha ha' ho (fun k hk => by simp at hk; omega)⟩
theorem half_rwrite (h : Half w0 w d r D D') (i : Int) (l : List UInt8) (hW : D'.W.length ≤ 100000) :
    Calls Try.prog 63 #[pd r, .int .i64 i, .string ⟨l.toArray⟩] w fun e w' => e = .returned (.int .i64 (writeE D' i l.length)) ∧ HTo w0 w d r D (writeD D' i l) w' := by
  obtain ⟨b, z, hr⟩ := h.rt
  exact (rwrite_walk hr h.st.below.size i l hW).mono fun e w' ⟨he, ht⟩ => ⟨he, half_r h ht⟩
theorem half_rflush (h : Half w0 w d r D D') (hW : D'.W.length ≤ 100000) :
    Calls Try.prog 65 #[pd r] w fun e w' => e = .returned (.int .i64 (flushE D')) ∧ HTo w0 w d r D (flushD D') w' := by
  obtain ⟨b, z, hr⟩ := h.rt
  exact (rflush_walk hr hW).mono fun e w' ⟨he, ht⟩ => ⟨he, half_r h ht⟩
theorem half_rarm (h : Half w0 w d r D D') (n : Int) (hn : -9223372036854775808 ≤ n ∧ n ≤ 9223372036854775807) :
    Calls Try.prog 66 #[pd r, .int .i64 n] w fun e w' => e = .returned (.int .i64 (armE D')) ∧ HTo w0 w d r D (armD D' n) w' := by
  obtain ⟨b, z, hr⟩ := h.rt
  exact (rarm_walk hr n hn).mono fun e w' ⟨he, ht⟩ => ⟨he, half_r h ht⟩
theorem half_rcrash (h : Half w0 w d r D D') (v : Value) (L : List Int) (hv : ArgFates w0 w v L) (hW : D'.W.length ≤ 100000) :
    Calls Try.prog 67 #[pd r, v] w fun e w' => e = .returned (.tuple #[]) ∧ HTo w0 w d r D (crashD D' L) w' := by
  obtain ⟨b, z, hr⟩ := h.rt
  exact (rcrash_walk hr v L hv.1 hv.2.1 hv.2.2 hW).mono fun e w' ⟨he, ht⟩ => ⟨he, half_r h ht⟩
theorem half_read (h : Half w0 w d r D D') (i : Int) :
    Calls Try.prog 25 #[pd d, .int .i64 i] w fun e w' => e = .returned (.tuple #[.string ⟨(readS D i).toArray⟩, .int .i64 (mayE D i)]) ∧ w = w' := read_st h.st i
theorem half_rread (h : Half w0 w d r D D') (hS : D'.S = applyW D'.F D'.W) (hW : D'.W.length ≤ 100000) (i : Int) :
    Calls Try.prog 64 #[pd r, .int .i64 i] w fun e w' => e = .returned (.tuple #[.string ⟨(readS D' i).toArray⟩, .int .i64 (mayE D' i)]) ∧ w = w' := by
  obtain ⟨b, z, hr⟩ := h.rt
  exact rread_walk hr hS hW i
end
/-- a block with bytes less -/
def shortL (n : Int) : List UInt8 := if 0 ≤ n ∧ n ≤ 512 then (blkL 120 121).drop n.toNat else []
theorem short_len (n : Int) : (shortL n).length ≤ 512 := by
  unfold shortL
  split
  · rw [List.length_drop, blkL_len]; omega
  · simp
theorem drop_text (B : List UInt8) (m : Nat) (hl : B.length = 512) : (ByteArray.mk B.toArray).extract m 512 = ⟨(B.drop m).toArray⟩ := by
  apply ba_ext
  simp [ByteArray.data_extract]
  exact List.take_of_length_le (by rw [List.length_drop]; omega)
set_option maxRecDepth 100000 in
set_option maxHeartbeats 400000 in
theorem short_walk (n : Int) (w : World) : Calls Try.prog 68 #[.int .i64 n] w fun e w' => e = .returned (.string ⟨(shortL n).toArray⟩) ∧ Below w.heap.size w w' := by
  have hblk := block_walk 120 121 w
  have hl := blkL_len 120 121
  have hdef : shortL n = if 0 ≤ n ∧ n ≤ 512 then (blkL 120 121).drop n.toNat else [] := rfl
  have HB := Ythkjodlddhdeiaa.base.Shut.mk (And.intro hblk hdef)
  clear hblk hdef
  generalize blkL 120 121 = B at HB hl
  by_cases h : 0 ≤ n ∧ n ≤ 512
  · obtain ⟨m, rfl⟩ := Int.eq_ofNat_of_zero_le h.1
    have hm : m ≤ 512 := by omega
    have h1 : ¬ ((m : Int) < 0) := by omega
    have h2 : ¬ ((512 : Int) < m) := by omega
    have hd : shortL (m : Int) = B.drop m := by rw [HB.out.2, if_pos h]; rfl
    have HD := Ythkjodlddhdeiaa.base.Shut.mk hd
    clear hd h
    go_enter Try.func68, Try.ntmps68
    go_wp2_with fail
    refine HB.out.1.mono ?_
    rintro e w1 ⟨rfl, hb1⟩
    have H1 := Ythkjodlddhdeiaa.base.Shut.mk hb1
    clear hb1
    go_wp2
    go_ret
    refine ⟨?_, H1.out⟩
    rw [HD.out]
    show Ending.returned (.string ((ByteArray.mk B.toArray).extract m 512)) = _
    rw [drop_text B m hl]
  · have hd : shortL n = [] := by rw [HB.out.2, if_neg h]
    have HD := Ythkjodlddhdeiaa.base.Shut.mk hd
    have hway : n < 0 ∨ (¬ n < 0 ∧ 512 < n) := by omega
    clear hd h
    rcases hway with hw | ⟨hw, hw2⟩
    all_goals
      go_enter Try.func68, Try.ntmps68
      go_wp2_with fail
      refine HB.out.1.mono ?_
      rintro e w1 ⟨rfl, hb1⟩
      have H1 := Ythkjodlddhdeiaa.base.Shut.mk hb1
      clear hb1
      go_wp2
      go_ret
      exact ⟨by rw [HD.out]; rfl, H1.out⟩
end Go.Proofs.Ythkjodlddhdeiaa.disk
