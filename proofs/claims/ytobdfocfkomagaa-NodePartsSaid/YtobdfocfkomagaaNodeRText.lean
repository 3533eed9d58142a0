/- The walks of the reference's Text, text, Size, Check. -/
import Derived.Test.YtobdfocfkomagaaNodeRRight
import Derived.Test.YtobdfocfkomagaaOctTxt
namespace Go.Proofs.Ytobdfocfkomagaa.node
open Go.ChangeShapes Go.WideShapes Go.ChangeAt Go.RowKit
open Ytobdfocfkomagaa.base (size_mk chain newer drewn same ba_ext)
open Ytobdfocfkomagaa.oct (num num_len num_pos text)

theorem rnum_size (n : Int) (hn : -9223372036854775808 ≤ n ∧ n ≤ 9223372036854775807) (w : World) :
    Calls Try.prog 86 #[.int .i64 n] w fun e w' => ∃ s, e = .returned (.string s) ∧ s = ⟨(num n).toArray⟩ ∧ Below w.heap.size w w' :=
  (oct.rnum_walk n hn w).mono fun e w' ⟨he, hb⟩ => ⟨_, he, rfl, hb⟩
set_option maxRecDepth 100000 in
set_option maxHeartbeats 400000 in
theorem rtextv_walk (s : ByteArray) (hs : s.size ≤ 1000) (w : World) : Calls Try.prog 87 #[.string s] w fun e w' => ∃ x, e = .returned (.string x) ∧ x = ⟨(text s.data.toList).toArray⟩ ∧ Below w.heap.size w w' := by
  have hn := rnum_size (s.size : Int) (by omega) w
  have hl := num_len (s.size : Int)
  have H := Ytobdfocfkomagaa.base.Shut.mk (And.intro hn hl)
  clear hn hl
  go_enter Try.func87, Try.ntmps87
  go_wp2_with fail
  refine H.out.1.mono ?_
  rintro e w1 ⟨x, rfl, hx, hb1⟩
  have hxs : x.size ≤ 10 := by rw [hx, size_mk]; exact H.out.2
  have hroom : ¬ 9223372036854775807 < x.size + s.size := by omega
  have HB := Ytobdfocfkomagaa.base.Shut.mk (And.intro hb1 hx)
  clear hb1 hx
  go_wp2
  go_ret
  refine ⟨_, rfl, ?_, HB.out.1⟩
  rw [HB.out.2]
  apply ba_ext
  unfold text
  simp [ByteArray.data_append]
/-- how it stands between two pairs -/
structure TextAt (w wr : World) (n : Nd) (k : Nat) (s : ByteArray) : Prop where
  below : Below w.heap.size w wr
  eq : s = ⟨(textTo n k).toArray⟩
set_option maxRecDepth 100000 in
set_option maxHeartbeats 1600000 in
theorem rtext_walk (leaf : Bool) (A : Option Addr) (n c : Nat) (ps : PL) (hn : ps.length = n) (hs : Nice ps) (w : World) (hr : PReads w A ps) :
    Calls Try.prog 71 #[nv leaf A n c] w fun e w' => ∃ s, e = .returned (.string s) ∧ s = ⟨(textN ⟨leaf, ps⟩).toArray⟩ ∧ Below w.heap.size w w' := by
  have hb := newer (same w) (.cells #[.bool leaf, .slice A n c] 49)
  have hx := Row.new w #[.bool leaf, .slice A n c] 49
  obtain ⟨q, hq⟩ : ∃ q, w.heap.size = q := ⟨_, rfl⟩
  obtain ⟨V, hV⟩ : ∃ V, w.alloc (.cells #[.bool leaf, .slice A n c] 49) = V := ⟨_, rfl⟩
  rw [hV, hq] at hx
  rw [hV] at hb
  have x0 : V.cell? ⟨q, 0, none⟩ = some (.bool leaf) := hx.cell 0
  have x1 : V.cell? ⟨q, 1, none⟩ = some (.slice A n c) := hx.cell 1
  have hn2 : n ≤ 1000 := by rw [← hn]; exact hs.len
  have hnum := rnum_size (n : Int) (by omega) V
  have hl := num_len (n : Int)
  have ht0 := textTo_zero ⟨leaf, ps⟩
  have htn := textTo_all ⟨leaf, ps⟩
  simp only [hn] at ht0 htn
  have hbd := fun k => Nat.le_trans (sizeTo_le ⟨leaf, ps⟩ k) (size_bd hs leaf)
  have H := Ytobdfocfkomagaa.base.Shut.mk (And.intro hnum (And.intro hb (And.intro hx (And.intro (hr.keep hb) (And.intro hn (And.intro hs (And.intro ht0 (And.intro htn (And.intro hbd (And.intro hl (fun k x h => @textTo_snoc ⟨leaf, ps⟩ k x h)))))))))))
  clear hnum hb hx hr hn hs ht0 htn hbd hl
  cases leaf
  all_goals
    go_enter Try.func71, Try.ntmps71
    go_wp2_with fail
    refine H.out.1.mono ?_
    rintro e w1 ⟨x, rfl, hx, hb1⟩
    have hxs : x.size ≤ 10 := by rw [hx, size_mk]; exact H.out.2.2.2.2.2.2.2.2.2.1
    have hroom : ¬ 9223372036854775807 < 1 + x.size := by omega
    have y1 : w1.cell? ⟨q, 1, none⟩ = some (.slice A n c) := (H.out.2.2.1.below hb1).cell 1
    have HX := Ytobdfocfkomagaa.base.Shut.mk (And.intro hb1 hx)
    clear hb1 hx x0 x1
    go_wp2
    go_loopw [3, 4] (fun s i wr => ∃ (k : Nat) (b : ByteArray), k ≤ n ∧ i = .int .i64 k ∧ s = .string b ∧ Ytobdfocfkomagaa.base.Shut (TextAt V wr ⟨_, ps⟩ k b)) (fun _ i _ => n - (intOf i).toNat)
    case atStart =>
      refine ⟨0, _, Nat.zero_le _, rfl, rfl, ⟨HX.out.1, ?_⟩⟩
      rw [H.out.2.2.2.2.2.2.1, HX.out.2]
      apply ba_ext
      simp [ByteArray.data_append, headL]
    case round =>
      obtain ⟨k, s, hk, rfl, rfl, HR⟩ := hrel
      have z1 : wr.cell? ⟨q, 1, none⟩ = some (.slice A n c) := (H.out.2.2.1.below HR.out.below).cell 1
      by_cases hlt : k < n
      · have hlt' : (k : Int) < n := by omega
        have hkp : k < ps.length := by rw [H.out.2.2.2.2.1]; exact hlt
        obtain ⟨b, off, rfl, c0, c1, -⟩ := (H.out.2.2.2.1.keep HR.out.below).at_ hkp
        have hxk := List.getElem?_eq_getElem hkp
        rw [← at0_get hxk] at hxk
        have hsn := H.out.2.2.2.2.2.2.2.2.2.2 k _ hxk
        have hsz := H.out.2.2.2.2.2.1.sizes k
        have ht1 := fun u : World => rtextv_walk (at0 ps k).1 hsz.1 u
        have ht2 := fun u : World => rtextv_walk (at0 ps k).2 hsz.2 u
        have hss : s.size ≤ 2100000 := by rw [HR.out.eq, size_mk, textTo_len]; exact H.out.2.2.2.2.2.2.2.2.1 k
        have hl1 : (text (at0 ps k).1.data.toList).length ≤ 1010 := by
          unfold text; rw [List.length_append]; have := num_len ((at0 ps k).1.data.toList.length : Int); have e : (at0 ps k).1.data.toList.length = (at0 ps k).1.size := by simp
          omega
        have hl2 : (text (at0 ps k).2.data.toList).length ≤ 1010 := by
          unfold text; rw [List.length_append]; have := num_len ((at0 ps k).2.data.toList.length : Int); have e : (at0 ps k).2.data.toList.length = (at0 ps k).2.size := by simp
          omega
        unfold pairL at hsn
        have HK := Ytobdfocfkomagaa.base.Shut.mk (And.intro ht1 (And.intro ht2 (And.intro hsn (And.intro hl1 (And.intro hl2 HR.out)))))
        clear ht1 ht2 hsn hl1 hl2 hxk hsz HR
        generalize text (at0 ps k).1.data.toList = T1 at HK
        generalize text (at0 ps k).2.data.toList = T2 at HK
        generalize (at0 ps k).1 = kx at c0 HK
        generalize (at0 ps k).2 = vx at c1 HK
        go_wp2
        go_region_held3 (fun w' => w'.cell? ⟨q, 1, none⟩ = some (.slice (some ⟨b, off, none⟩) n c) ∧ w'.cell? ⟨b, off + k * 2, none⟩ = some (.string kx) ∧ w'.cell? ⟨b, off + k * 2 + 1, none⟩ = some (.string vx))
          (first | exact ⟨one_keep ‹_› (And.left ‹_›), one_keep ‹_› (And.left (And.right ‹_›)), one_keep ‹_› (And.right (And.right ‹_›))⟩ | assumption | go_keep)
          (first | (go_at_call 87; (with_reducible refine Calls.mono (HK.out.1 wr.drew) ?_); rintro e w3 ⟨x1, rfl, hx1, hb3⟩; have hz1 : x1.size ≤ 1010 := (by rw [hx1, size_mk]; exact HK.out.2.2.2.1); have hrm1 : ¬ 9223372036854775807 < s.size + x1.size := (by omega); have H3 := Ytobdfocfkomagaa.base.Shut.mk hb3; have HX1 := Ytobdfocfkomagaa.base.Shut.mk hx1; have hk3 := And.intro (one_keep H3 z1) (And.intro (one_keep H3 c0) (one_keep H3 c1)); clear hb3 hx1) | (go_at_call 87; (with_reducible refine Calls.mono (HK.out.2.1 _) ?_); rintro e w4 ⟨x2, rfl, hx2, hb4⟩; have hz2 : x2.size ≤ 1010 := (by rw [hx2, size_mk]; exact HK.out.2.2.2.2.1); have hrm2 : ¬ 9223372036854775807 < s.size + x1.size + x2.size := (by omega); have H4 := Ytobdfocfkomagaa.base.Shut.mk hb4; have HX2 := Ytobdfocfkomagaa.base.Shut.mk hx2; clear hb4 hx2; have hk4 := And.intro (one_keep H4 (And.left hk3)) (And.intro (one_keep H4 (And.left (And.right hk3))) (one_keep H4 (And.right (And.right hk3))))))
        all_goals
          go_wp2
          go_roundw
          case rel =>
            refine ⟨k + 1, _, by omega, by go_num, rfl, ⟨chain HK.out.2.2.2.2.2.below (chain (drewn (same wr)) (chain H3.out H4.out)), ?_⟩⟩
            rw [HK.out.2.2.1, HX1.out, HX2.out, HK.out.2.2.2.2.2.eq]
            apply ba_ext
            simp [ByteArray.data_append]
          case measure => simp [intOf]; omega
      · obtain rfl : k = n := by omega
        have HE := Ytobdfocfkomagaa.base.Shut.mk HR.out
        clear HR
        go_wp2
        go_ret
        exact ⟨_, rfl, by rw [HE.out.eq, H.out.2.2.2.2.2.2.2.1], chain H.out.2.1 HE.out.below⟩
end Go.Proofs.Ytobdfocfkomagaa.node
