/- The walk of WalRing. -/
import Derived.Test.YthkjodlddhdeiaaWalSeq
namespace Go.Proofs.Ythkjodlddhdeiaa.wal
open Go.ChangeShapes Go.WideShapes Go.ChangeAt Go.RowKit
open Ythkjodlddhdeiaa.base Ythkjodlddhdeiaa.disk
open Ythkjodlddhdeiaa.oct (Reads same_walk)
open Ythkjodlddhdeiaa.seal (blockL put_len)
open Ythkjodlddhdeiaa.crc (sealed)

/-- what the disk and the log are behind so many texts -/
structure Ring (r k : Nat) (D : Dk) (G : Lg) : Prop where
  gone : D.gone = false
  fuse : D.fuse = -1
  n9 : D.n = 9
  S : D.S.length = 9 * 512
  W : D.W.length = k
  from1 : G.from_ = 1
  n : G.n = r
  r1 : 1 ≤ r
  r8 : r ≤ 8
  head : G.tail + G.recs.length = k
  full : G.recs.length ≤ r
  small : ∀ s ∈ G.recs, s.size ≤ 490
  disk : ∀ i (h : i < G.recs.length), blk D.S (1 + (G.tail + i) % r) = sealed (blockL (((G.tail + i : Nat) : Int) + 1) G.recs[i].data.toList)
theorem Ring.wf {r k : Nat} {D : Dk} {G : Lg} (h : Ring r k D G) (hk : k ≤ 1000) : G.Wf := by
  have := h.from1
  have := h.n
  have := h.r1
  have := h.r8
  have := h.head
  have := h.full
  exact ⟨by omega, by omega, by omega, by omega⟩
theorem Ring.reads {r k : Nat} {D : Dk} {G : Lg} (h : Ring r k D G) (i : Nat) (hi : i < G.recs.length) : readS D ((G.from_ + (G.tail + i) % G.n : Nat) : Int) = sealed (blockL (((G.tail + i : Nat) : Int) + 1) G.recs[i].data.toList) := by
  have h1 := h.from1
  have h2 := h.n
  have h3 : (G.tail + i) % r < r := Nat.mod_lt _ (by have := h.r1; omega)
  have h8 := h.r8
  have h9 := h.n9
  rw [h1, h2]
  unfold readS
  rw [if_pos (mayE_ok h.gone (by omega) (by omega))]
  rw [Int.toNat_natCast]
  exact h.disk i hi
theorem Ring.trim {r k : Nat} {D : Dk} {G : Lg} (h : Ring r k D G) (hne : 0 < G.recs.length) : Ring r k D { G with tail := G.tail + 1, recs := G.recs.drop 1 } := by
  have hl : (G.recs.drop 1).length = G.recs.length - 1 := List.length_drop
  refine ⟨h.gone, h.fuse, h.n9, h.S, h.W, h.from1, h.n, h.r1, h.r8, ?_, ?_, fun s hs => h.small s (List.mem_of_mem_drop hs), fun i hi => ?_⟩
  · show G.tail + 1 + (G.recs.drop 1).length = k
    have := h.head
    omega
  · show (G.recs.drop 1).length ≤ r
    have := h.full
    omega
  · have hi2 : i < (G.recs.drop 1).length := hi
    have := h.disk (1 + i) (by omega)
    show blk D.S (1 + (G.tail + 1 + i) % r) = sealed (blockL (((G.tail + 1 + i : Nat) : Int) + 1) (G.recs.drop 1)[i].data.toList)
    rw [List.getElem_drop, show G.tail + 1 + i = G.tail + (1 + i) from by omega]
    exact this
theorem mod_ne {a d r : Nat} (h1 : 0 < d) (h2 : d < r) : (a + d) % r ≠ a % r := by
  intro h
  have h3 : (a + d - a) % r = 0 := Nat.sub_mod_eq_zero_of_mod_eq h
  rw [show a + d - a = d from by omega, Nat.mod_eq_of_lt h2] at h3
  omega
theorem Ring.put {r k : Nat} {D : Dk} {G : Lg} (h : Ring r k D G) (s : ByteArray) (hs : s.size ≤ 490) (hf : G.recs.length + 1 ≤ r) : Ring r (k + 1) (putsD G D k [s]) { G with recs := G.recs ++ [s] } := by
  have hlen : s.data.toList.length ≤ 490 := by simpa using hs
  have hB := put_len ((k : Int) + 1) s.data.toList hlen
  have hk : k % r < r := Nat.mod_lt _ (by omega)
  have h8 := h.r8
  have hput : putsD G D k [s] = putD D (1 + k % r) (sealed (blockL ((k : Int) + 1) s.data.toList)) := by
    show putD D (G.from_ + k % G.n) _ = _
    rw [h.from1, h.n]
  have hl : (G.recs ++ [s]).length = G.recs.length + 1 := by simp
  have hh := h.head
  rw [hput]
  refine ⟨h.gone, h.fuse, h.n9, setBlk_len h.S (by omega) hB, by show (D.W ++ [_]).length = k + 1; rw [List.length_append, h.W]; rfl, h.from1, h.n, h.r1, h.r8, ?_, ?_, fun t ht => ?_, fun i hi => ?_⟩
  · show G.tail + (G.recs ++ [s]).length = k + 1
    omega
  · show (G.recs ++ [s]).length ≤ r
    omega
  · rcases List.mem_append.1 ht with ht | ht
    · exact h.small t ht
    · rw [List.mem_singleton.1 ht]; exact hs
  · show blk (setBlk D.S (1 + k % r) _) (1 + (G.tail + i) % r) = sealed (blockL (((G.tail + i : Nat) : Int) + 1) (G.recs ++ [s])[i].data.toList)
    have hi2 : i < (G.recs ++ [s]).length := hi
    by_cases hin : i < G.recs.length
    · have hm : (G.tail + i) % r < r := Nat.mod_lt _ (by omega)
      have hne : 1 + (G.tail + i) % r ≠ 1 + k % r := by
        have := mod_ne (a := G.tail + i) (d := G.recs.length - i) (r := r) (by omega) (by omega)
        rw [show G.tail + i + (G.recs.length - i) = k from by omega] at this
        omega
      rw [blk_setBlk_other h.S (by omega) (by omega) hB hne, List.getElem_append_left hin]
      exact h.disk i hin
    · have hii : i = G.recs.length := by omega
      subst hii
      rw [hh, blk_setBlk_same h.S (by omega) hB]
      simp
theorem Ring.start (r : Nat) (h1 : 1 ≤ r) (h8 : r ≤ 8) : Ring r 0 (newD 9) ⟨1, r, 0, []⟩ :=
  ⟨rfl, rfl, rfl, (newD_wf 9 (by decide) (by decide)).S, rfl, rfl, rfl, h1, h8, rfl, Nat.zero_le _, (fun s hs => by cases hs), (fun i hi => by simp at hi)⟩
/-- the law's state -/
structure At9 (w0 w : World) (l d r k m c : Nat) (A : Option Addr) (D : Dk) (G : Lg) : Prop where
  wl : Wl w0 w l d G D
  seq : Seq w w0.heap.size A m c G.recs
  ring : Ring r k D G
theorem log_only {w w' : World} {base l d : Nat} {G : Lg} {L : List Nat} (h : LogAt w base l d G) (ho : Only L w w') (hl : l ∉ L) (hr : ∀ rv g, w.cell? ⟨l, 4, none⟩ = some rv → rv.ownBlock = some g → g ∉ L) : LogAt w' base l d G := by
  obtain ⟨hw, hb, rv, r1, r2⟩ := h
  refine ⟨hw, hb, rv, by rw [ho.block l (lt_of_obj r1) hl]; exact r1, ho.row r2 (fun g hg => hr rv g ?_ hg)⟩
  rw [cell_of_row w l 4 _ _ _ r1]
  rfl
/-- behind an Append the law's list grows too -/
theorem grow9 {w0 wx w5 w6 : World} {l d r k m c c2 f s : Nat} {A A2 : Option Addr} {D D5 : Dk} {G G5 : Lg} {t : ByteArray} (h : At9 w0 wx l d r k m c A D G) (h5 : Wl w0 w5 l d G5 D5) (hfr : FreshRow wx w5 l) (ha : At wx w0.heap.size d f s D) (ho : Only [d, s, l] wx w5)
    (hring : Ring r (k + 1) D5 G5) (hG : G5.recs = G.recs ++ [t]) (hs5 : Seq w5 w0.heap.size A m c G.recs → Seq w6 w0.heap.size A2 (m + 1) c2 (G.recs ++ [t])) (ho6 : ∀ L : List Nat, (∀ g o, A = some ⟨g, o, none⟩ → g ∈ L) → Only L w5 w6) :
    Seq w5 w0.heap.size A m c G.recs ∧ At9 w0 w6 l d r (k + 1) (m + 1) c2 A2 D5 G5 := by
  have htypes : ∀ {g : Nat} {cur : Array Value}, wx.heap[g]? = some (.cells cur 9 (0, 0)) → g ∉ [d, s, l] := by
    intro g cur hg hm
    obtain ⟨gc, gs, gl, g1, g2, g3, g4⟩ := ha.fields
    obtain ⟨a2, ha2⟩ := (row_type g2 s rfl).2
    obtain ⟨_, _, rv, r1, _⟩ := h.wl.log
    simp at hm
    rcases hm with rfl | rfl | rfl
    · exact absurd (obj_type hg g1) (by decide)
    · exact absurd (obj_type hg ha2) (by decide)
    · exact absurd (obj_type hg r1) (by decide)
  have hseq5 : Seq w5 w0.heap.size A m c G.recs := h.seq.kept fun g o cur _ hg => ho.block g (lt_of_obj hg) (htypes hg)
  refine ⟨hseq5, ⟨?_, by rw [hG]; exact hs5 hseq5, hring⟩⟩
  obtain ⟨⟨f5, s5, a5⟩, l5, b5⟩ := h5
  rcases h.seq.row with ⟨hA, _⟩ | ⟨g, o, cur, hA, hgb, hg, _⟩
  · have hob := ho6 [] (fun g o e => by rw [hA] at e; cases e)
    exact ⟨⟨f5, s5, at_apart a5 hob (fun q hq => by cases hq)⟩, log_only l5 hob (by simp) (fun _ _ _ _ hm => by cases hm), hob.below b5 (fun q hq => by cases hq) b5.size⟩
  · have hob := ho6 [g] (fun g' o' e => by rw [hA] at e; cases e; simp)
    have hgx : g < wx.heap.size := lt_of_obj hg
    have hg5 : w5.heap[g]? = some (.cells cur 9 (0, 0)) := by rw [ho.block g hgx (htypes hg)]; exact hg
    refine ⟨⟨f5, s5, at_apart a5 hob (fun q hq cu ty hc => ?_)⟩, log_only l5 hob (fun hm => ?_) (fun rv q hc hq hm => ?_), hob.below b5 (fun q hq => ?_) b5.size⟩
    · have e : q = g := by simpa using hq
      rw [e, hg5] at hc
      cases hc
      decide
    · have e : l = g := by simpa using hm
      obtain ⟨_, _, rv, r1, _⟩ := l5
      rw [e] at r1
      exact absurd (obj_type r1 hg5) (by decide)
    · have e : q = g := by simpa using hm
      have := hfr rv q hc hq
      omega
    · have e : q = g := by simpa using hq
      omega
def shutSub (v lo hi : Value) : Sem Value := Instr.slice 53 v (some lo) (some hi) none
theorem subS (v lo hi : Value) : Instr.slice 53 v (some lo) (some hi) none = shutSub v lo hi := rfl
attribute [local go_sem ↓] appS fromS subS
set_option maxRecDepth 100000 in
set_option maxHeartbeats 3200000 in
theorem walRing_walk (r0 : Int) (A0 : Option Addr) (cap0 : Nat) (L : List ByteArray) (w : World) (hr : Reads w A0 L) (hc : L.length ≤ cap0) (hlm : L.length ≤ maxLen) (hsm : ∀ s ∈ L, s.size ≤ maxLen) :
    Calls Try.prog 9 #[.int .i64 r0, .slice A0 L.length cap0] w fun e w' => e = .returned (.bool true) ∧ Below w.heap.size w w' := by
  unfold maxLen at hlm hsm
  obtain ⟨n, hn⟩ : ∃ n, n = L.length := ⟨_, rfl⟩
  rw [← hn] at hc hlm ⊢
  have HA := Ythkjodlddhdeiaa.base.Shut.mk (And.intro hn (And.intro hr (And.intro hc hsm)))
  have hways : r0 < 1 ∨ (1 ≤ r0 ∧ 8 < r0) ∨ (1 ≤ r0 ∧ r0 ≤ 8 ∧ (60 : Int) < (n : Int)) ∨ (1 ≤ r0 ∧ r0 ≤ 8 ∧ ¬ (60 : Int) < (n : Int)) := by omega
  clear hn hr hc hsm
  rcases hways with h1 | ⟨h1, h2⟩ | ⟨h1, h2, h3⟩ | ⟨h1, h2, h3⟩
  · go_enter Try.func9, Try.ntmps9
    go_wp2_with fail
    refine (lives_walk _).mono ?_
    rintro e w1 ⟨rfl, hb⟩
    go_wp2
    go_ret
    exact ⟨rfl, hb⟩
  · go_enter Try.func9, Try.ntmps9
    go_wp2_with fail
    refine (lives_walk _).mono ?_
    rintro e w1 ⟨rfl, hb⟩
    go_wp2
    go_ret
    exact ⟨rfl, hb⟩
  · go_enter Try.func9, Try.ntmps9
    go_wp2_with fail
    refine (lives_walk _).mono ?_
    rintro e w1 ⟨rfl, hb⟩
    go_wp2
    go_ret
    exact ⟨rfl, hb⟩
  · obtain ⟨r, rfl⟩ : ∃ r : Nat, r0 = r := ⟨r0.toNat, by omega⟩
    have hr1 : 1 ≤ r := by omega
    have hr8 : r ≤ 8 := by omega
    have hn60 : n ≤ 60 := by omega
    clear hlm
    go_enter Try.func9, Try.ntmps9
    go_wp2_with fail
    refine (new_st 9 (by decide) (by decide) w _ (same w)).mono ?_
    rintro e w1 ⟨d, rfl, hs, hd⟩
    have HS1 := Ythkjodlddhdeiaa.base.Shut.mk hs
    clear hs hd
    go_wp2_with fail
    have hop := open_wl HS1.out rfl ⟨1, r, 0, []⟩ ((Ring.start r hr1 hr8).wf (by omega)) (show 1 + r ≤ 9 by omega) (fun s hs => by cases hs) (fun i hi => by simp at hi)
    have hop2 : Calls Try.prog 36 #[pd d, .int .i64 1, .int .i64 (r : Int), .int .i64 0, .int .i64 0] w1 (OpenWl w d ⟨1, r, 0, []⟩ (newD 9) w1) := hop
    clear hop
    refine hop2.mono ?_
    clear hop2
    rintro e w2 ⟨l, rfl, hw2, _⟩
    have HW2 := Ythkjodlddhdeiaa.base.Shut.mk (show At9 w w2 l d r 0 0 0 none (newD 9) ⟨1, r, 0, []⟩ from ⟨hw2, Seq.nil _ _, Ring.start r hr1 hr8⟩)
    clear hw2
    go_wp2_with fail
    go_loopw [9, 10] (fun wv i wr => ∃ (k m c : Nat) (A : Option Addr), k ≤ n ∧ i = .int .i64 k ∧ wv = .slice A m c ∧ m ≤ r ∧ Ythkjodlddhdeiaa.base.Shut (∃ D G, At9 w wr l d r k m c A D G)) (fun _ i _ => n - (intOf i).toNat)
    case atStart => exact ⟨0, 0, 0, none, Nat.zero_le _, rfl, rfl, Nat.zero_le _, ⟨_, _, HW2.out⟩⟩
    case round =>
      obtain ⟨k, m, c, A, hk, rfl, rfl, hmr, HR⟩ := hrel
      obtain ⟨D, G, hR⟩ := HR.out
      have HX := Ythkjodlddhdeiaa.base.Shut.mk hR
      clear hR HR
      by_cases hlt : k < n
      · have hkL : k < L.length := by rw [← HA.out.1]; exact hlt
        obtain ⟨s, hs⟩ : ∃ s, L[k]? = some s := ⟨_, List.getElem?_eq_getElem hkL⟩
        obtain ⟨b, off, hA0, hbw, hcell⟩ := HA.out.2.1 (fun e => by rw [e] at hkL; simp at hkL)
        subst hA0
        have hc0 : wr.cell? ⟨b, off + k, none⟩ = some (.string s) := by rw [HX.out.wl.below.cell hbw]; exact hcell k s hs
        have hsz : (s.size : Int) ≤ 9223372036854775807 := by have := HA.out.2.2.2 s (List.mem_of_getElem? hs); omega
        have HSK := Ythkjodlddhdeiaa.base.Shut.mk (And.intro hs hbw)
        have hkk : (k : Int) < (n : Int) := by omega
        have hk0 : (0 : Int) ≤ (k : Int) := by omega
        clear hcell hs hbw
        by_cases hbig : (490 : Int) < (s.size : Int)
        · go_wp2_with fail
          refine (lives_walk _).mono ?_
          rintro e w3 ⟨rfl, hb⟩
          have HB := Ythkjodlddhdeiaa.base.Shut.mk (HX.out.wl.below.trans (hb.mono HX.out.wl.below.size))
          clear hb
          go_wp2
          go_ret
          exact ⟨rfl, HB.out⟩
        · have hs490 : s.size ≤ 490 := by omega
          have hsub := fun u : World => run_sub (some ⟨b, off, none⟩) n cap0 k hlt HA.out.2.2.1 u
          simp only [subS] at hsub
          have hsrc := fun (u : World) (hb : Below w.heap.size w u) => reads_sub (HA.out.2.1.keep hb) k s HSK.out.1
          have HSRC := Ythkjodlddhdeiaa.base.Shut.mk hsrc
          clear hsrc
          obtain ⟨P, hP⟩ : ∃ P, P = (some ⟨b, off, none⟩ : Option Addr).map (·.add k) := ⟨_, rfl⟩
          rw [← hP] at HSRC
          simp only [← hP] at hsub
          have HPB : Ythkjodlddhdeiaa.base.Shut (∀ b' off', P = some ⟨b', off', none⟩ → b' < w.heap.size) := ⟨fun b' off' e => by rw [hP] at e; simp [Addr.add_mid] at e; rw [← e.1]; exact HSK.out.2⟩
          clear hP
          have hstart : ((m : Int) == (r : Int)) = true ∨ ((m : Int) == (r : Int)) = false := by cases ((m : Int) == (r : Int)) <;> simp
          rcases hstart with hfull | hfull
          · have hmr2 : m = r := by have := eq_of_beq hfull; omega
            have hlen : G.recs.length = m := HX.out.seq.len
            have hap := append_full HX.out.wl.log P (cap0 - k) [s] (HSRC.out _ HX.out.wl.below) (by simpa using hs490) (show 1 ≤ 9223372036854775807 by decide) (by rw [HX.out.ring.n, hlen]; simp; omega)
            have hap2 : Calls Try.prog 37 #[pl l, .slice P 1 (cap0 - k)] wr fun e w' => e = .returned (.int .i64 8) ∧ Below wr.heap.size wr w' := hap
            have htl := fun (u : World) (hb : Below wr.heap.size wr u) => tail_walk (HX.out.wl.mono hb).log
            have htr := fun (u : World) (hb : Below wr.heap.size wr u) => trim_wl (HX.out.wl.mono hb) 1 (by rw [hlen]; omega)
            have htr2 : ∀ u, Below wr.heap.size wr u → Calls Try.prog 38 #[pl l, .int .i64 ((G.tail : Int) + 1)] u fun e w' => e = .returned (.int .i64 0) ∧ Wl w w' l d { G with tail := G.tail + 1, recs := G.recs.drop 1 } D ∧ Only [l] u w' := htr
            have hfrom := fun u : World => run_from A m c 1 (by omega) HX.out.seq.le u
            have hseq1 := HX.out.seq.tail (by omega)
            obtain ⟨A1, hA1⟩ : ∃ A1, A1 = fromA A c 1 := ⟨_, rfl⟩
            obtain ⟨m1, hm1⟩ : ∃ m1, m1 = m - 1 := ⟨_, rfl⟩
            obtain ⟨c1, hc1⟩ : ∃ c1, c1 = c - 1 := ⟨_, rfl⟩
            rw [← hA1, ← hm1, ← hc1] at hseq1
            simp only [← hA1, ← hm1, ← hc1] at hfrom
            have hfrom2 : ∀ u : World, (Instr.slice 53 (.slice A m c) (some (.int .i64 1)) none none).run Try.prog u = .ok (.slice A1 m1 c1) u := hfrom
            simp only [fromS] at hfrom2
            have hring1 := HX.out.ring.trim (by omega)
            have hseqw : ∀ u w4 : World, Below wr.heap.size wr u → Only [l] u w4 → Seq w4 w.heap.size A1 m1 c1 (G.recs.drop 1) := fun u w4 hb ho => (hseq1.below hb).kept fun g o cur _ hg => ho.block g (lt_of_obj hg) (fun hm => by
              have e : g = l := by simpa using hm
              obtain ⟨_, _, rv, r1, _⟩ := (HX.out.wl.mono hb).log
              rw [e] at hg
              exact absurd (obj_type hg r1) (by decide))
            have HQ := Ythkjodlddhdeiaa.base.Shut.mk (And.intro hap2 (And.intro htl (And.intro htr2 (And.intro hring1 hseqw))))
            have hm1r : m1 + 1 ≤ r := by omega
            have htb : (G.tail : Int) ≤ 1000 := by have := HX.out.ring.head; omega
            clear hap hap2 htl htr htr2 hfrom hseq1 hA1 hm1 hc1 hring1 hseqw hlen hmr2
            go_wp2_with fail
            refine HQ.out.1.mono ?_
            rintro e w3 ⟨rfl, hb3⟩
            have HB3 := Ythkjodlddhdeiaa.base.Shut.mk hb3
            clear hb3
            go_wp2_with fail
            refine (HQ.out.2.1 _ HB3.out).mono ?_
            rintro e w3' ⟨rfl, rfl⟩
            go_wp2_with fail
            refine (HQ.out.2.2.1 _ HB3.out).mono ?_
            rintro e w4 ⟨rfl, hw4, ho4⟩
            have HX1 := Ythkjodlddhdeiaa.base.Shut.mk (show At9 w w4 l d r k m1 c1 A1 D { G with tail := G.tail + 1, recs := G.recs.drop 1 } from ⟨hw4, HQ.out.2.2.2.2 _ _ HB3.out ho4, HQ.out.2.2.2.1⟩)
            clear hw4 ho4
            obtain ⟨G1, hG1⟩ : ∃ G1, G1 = ({ G with tail := G.tail + 1, recs := G.recs.drop 1 } : Lg) := ⟨_, rfl⟩
            rw [← hG1] at HX1
            clear HQ HB3 HX hfull hG1
            go_wp2_with fail
            have hap := append_wl HX1.out.wl HX1.out.ring.gone HX1.out.ring.fuse (by rw [HX1.out.ring.from1, HX1.out.ring.n, HX1.out.ring.n9]; omega) P (cap0 - k) [s] (by rw [HX1.out.ring.W]; show k + 1 ≤ 1000000; omega) (HSRC.out _ HX1.out.wl.below) (by simpa using hs490) (by simp) (by rw [HX1.out.seq.len, HX1.out.ring.n]; exact hm1r) (by have := HX1.out.ring.head; show G1.tail + (G1.recs.length + 1) ≤ _; omega) (fun b' off' e => .inl (HPB.out b' off' e))
            have hap2 : Calls Try.prog 37 #[pl l, .slice P 1 (cap0 - k)] w4 _ := hap
            have HAP := Ythkjodlddhdeiaa.base.Shut.mk hap2
            clear hap hap2
            refine HAP.out.mono ?_
            rintro e w5 ⟨rfl, hw5, hfr5, f5, s5, ha5, ho5⟩
            rw [HX1.out.ring.head] at hw5
            have hring5 := HX1.out.ring.put s hs490 (by rw [HX1.out.seq.len]; exact hm1r)
            have hc5 : w5.cell? ⟨b, off + k, none⟩ = some (.string s) := by
              obtain ⟨b0, off0, e0, _, hcell0⟩ := HA.out.2.1 (fun e => by rw [e] at hkL; simp at hkL)
              cases e0
              rw [hw5.below.cell HSK.out.2]
              exact hcell0 k s HSK.out.1
            have hseq5 : Seq w5 w.heap.size A1 m1 c1 G1.recs := by
              refine HX1.out.seq.kept fun g o cur _ hg => ho5.block g (lt_of_obj hg) (fun hm => ?_)
              obtain ⟨gc, gs, gl, g1, g2, g3, g4⟩ := ha5.fields
              obtain ⟨a2, ha2⟩ := (row_type g2 s5 rfl).2
              obtain ⟨_, _, rv, r1, _⟩ := HX1.out.wl.log
              simp at hm
              rcases hm with rfl | rfl | rfl
              · exact absurd (obj_type hg g1) (by decide)
              · exact absurd (obj_type hg ha2) (by decide)
              · exact absurd (obj_type hg r1) (by decide)
            obtain ⟨A2, c2, w6, hrun6, hseq6, ho6⟩ := seq_append hseq5 (by omega) hw5.below.size s
            have h9 := (grow9 HX1.out hw5 hfr5 ha5 ho5 hring5 rfl (fun _ => hseq6) ho6).2
            obtain ⟨m2, hm2⟩ : ∃ m2, m2 = m1 + 1 := ⟨_, rfl⟩
            rw [← hm2] at h9 hrun6
            obtain ⟨D2, G2, h9'⟩ : ∃ D2 G2, At9 w w6 l d r (k + 1) m2 c2 A2 D2 G2 := ⟨_, _, h9⟩
            have H9 := Ythkjodlddhdeiaa.base.Shut.mk h9'
            have hm2r : m2 ≤ r := by omega
            clear hw5 hfr5 hring5 ha5 ho5 HAP hc0 hseq5 hseq6 ho6 h9 h9' hm2 HX1 hm1r HPB HSRC
            rw [appS] at hrun6
            go_wp2_with fail
            refine (tail_walk H9.out.wl.log).mono ?_
            rintro e w7 ⟨rfl, rfl⟩
            go_wp2_with fail
            refine (head_walk H9.out.wl.log).mono ?_
            rintro e w7 ⟨rfl, hb7⟩
            have HW7 := Ythkjodlddhdeiaa.base.Shut.mk (H9.out.wl.mono hb7)
            have HB7 := Ythkjodlddhdeiaa.base.Shut.mk hb7
            clear hb7
            have hop := open_wl HW7.out.disk H9.out.ring.gone G2 (H9.out.ring.wf (by omega)) (by rw [H9.out.ring.from1, H9.out.ring.n, H9.out.ring.n9]; omega) H9.out.ring.small (fun i hi => H9.out.ring.reads i hi)
            rw [H9.out.ring.from1, H9.out.ring.n] at hop
            have HOP := Ythkjodlddhdeiaa.base.Shut.mk hop
            clear hop
            go_wp2_with fail
            refine HOP.out.mono ?_
            rintro e w8 ⟨l2, rfl, hw8, hb8⟩
            have HW8 := Ythkjodlddhdeiaa.base.Shut.mk (And.intro hw8 (And.intro (HW7.out.mono hb8) (H9.out.seq.below (chain HB7.out hb8))))
            clear hw8 hb8 HOP
            have hlen2 := H9.out.seq.len
            have hrec1 := records_walk HW8.out.1.log
            rw [hlen2] at hrec1
            have HREC := Ythkjodlddhdeiaa.base.Shut.mk hrec1
            clear hrec1
            go_wp2_with fail
            refine HREC.out.mono ?_
            rintro e w9 ⟨A9, c9, rfl, hr9, hb9⟩
            have hsame := same_walk A9 A2 c9 c2 G2.recs G2.recs w9 (by rw [hlen2]; unfold maxLen; omega) (by rw [hlen2]; unfold maxLen; omega) (Reads.of_own hr9) (HW8.out.2.2.reads.keep hb9)
            rw [hlen2] at hsame
            have HS9 := Ythkjodlddhdeiaa.base.Shut.mk hsame
            have HW9 := Ythkjodlddhdeiaa.base.Shut.mk (And.intro (HW8.out.2.1.mono hb9) (HW8.out.2.2.below hb9))
            clear hr9 hb9 hsame HREC
            go_wp2_with fail
            refine HS9.out.mono ?_
            rintro e w10 ⟨rfl, hb10⟩
            have HW10 := Ythkjodlddhdeiaa.base.Shut.mk (And.intro (HW9.out.1.mono hb10) (HW9.out.2.below hb10))
            clear hb10 HS9
            have hrec2 := records_walk HW10.out.1.log
            rw [hlen2] at hrec2
            have HREC := Ythkjodlddhdeiaa.base.Shut.mk hrec2
            clear hrec2
            simp only [decide_true]
            go_wp2_with fail
            refine HREC.out.mono ?_
            rintro e w11 ⟨A11, c11, rfl, hr11, hb11⟩
            have hsame := same_walk A11 A2 c11 c2 G2.recs G2.recs w11 (by rw [hlen2]; unfold maxLen; omega) (by rw [hlen2]; unfold maxLen; omega) (Reads.of_own hr11) (HW10.out.2.reads.keep hb11)
            rw [hlen2] at hsame
            have HS11 := Ythkjodlddhdeiaa.base.Shut.mk hsame
            have HW11 := Ythkjodlddhdeiaa.base.Shut.mk (And.intro (HW10.out.1.mono hb11) (HW10.out.2.below hb11))
            clear hr11 hb11 hsame HREC
            go_wp2_with fail
            refine HS11.out.mono ?_
            rintro e w12 ⟨rfl, hb12⟩
            have HW12 := Ythkjodlddhdeiaa.base.Shut.mk (show At9 w w12 l d r (k + 1) m2 c2 A2 D2 G2 from ⟨HW11.out.1.mono hb12, HW11.out.2.below hb12, H9.out.ring⟩)
            clear hb12 HS11 hlen2
            simp only [decide_true]
            go_wp2
            go_roundw
            case rel => exact ⟨k + 1, m2, c2, A2, by omega, by go_num, rfl, hm2r, ⟨_, _, HW12.out⟩⟩
            case measure => simp [intOf]; omega
          · have hm1r : m + 1 ≤ r := by
              have hne : ¬ (m : Int) = (r : Int) := by simpa using hfull
              omega
            have HX1 := HX
            clear HX
            go_wp2_with fail
            obtain ⟨m1, rfl⟩ : ∃ m1, m1 = m := ⟨m, rfl⟩
            obtain ⟨c1, rfl⟩ : ∃ c1, c1 = c := ⟨c, rfl⟩
            obtain ⟨A1, rfl⟩ : ∃ A1, A1 = A := ⟨A, rfl⟩
            obtain ⟨G1, rfl⟩ : ∃ G1, G1 = G := ⟨G, rfl⟩
            obtain ⟨w4, rfl⟩ : ∃ w4, w4 = wr := ⟨wr, rfl⟩
            have hap := append_wl HX1.out.wl HX1.out.ring.gone HX1.out.ring.fuse (by rw [HX1.out.ring.from1, HX1.out.ring.n, HX1.out.ring.n9]; omega) P (cap0 - k) [s] (by rw [HX1.out.ring.W]; show k + 1 ≤ 1000000; omega) (HSRC.out _ HX1.out.wl.below) (by simpa using hs490) (by simp) (by rw [HX1.out.seq.len, HX1.out.ring.n]; exact hm1r) (by have := HX1.out.ring.head; show G1.tail + (G1.recs.length + 1) ≤ _; omega) (fun b' off' e => .inl (HPB.out b' off' e))
            have hap2 : Calls Try.prog 37 #[pl l, .slice P 1 (cap0 - k)] w4 _ := hap
            have HAP := Ythkjodlddhdeiaa.base.Shut.mk hap2
            clear hap hap2
            refine HAP.out.mono ?_
            rintro e w5 ⟨rfl, hw5, hfr5, f5, s5, ha5, ho5⟩
            rw [HX1.out.ring.head] at hw5
            have hring5 := HX1.out.ring.put s hs490 (by rw [HX1.out.seq.len]; exact hm1r)
            have hc5 : w5.cell? ⟨b, off + k, none⟩ = some (.string s) := by
              obtain ⟨b0, off0, e0, _, hcell0⟩ := HA.out.2.1 (fun e => by rw [e] at hkL; simp at hkL)
              cases e0
              rw [hw5.below.cell HSK.out.2]
              exact hcell0 k s HSK.out.1
            have hseq5 : Seq w5 w.heap.size A1 m1 c1 G1.recs := by
              refine HX1.out.seq.kept fun g o cur _ hg => ho5.block g (lt_of_obj hg) (fun hm => ?_)
              obtain ⟨gc, gs, gl, g1, g2, g3, g4⟩ := ha5.fields
              obtain ⟨a2, ha2⟩ := (row_type g2 s5 rfl).2
              obtain ⟨_, _, rv, r1, _⟩ := HX1.out.wl.log
              simp at hm
              rcases hm with rfl | rfl | rfl
              · exact absurd (obj_type hg g1) (by decide)
              · exact absurd (obj_type hg ha2) (by decide)
              · exact absurd (obj_type hg r1) (by decide)
            obtain ⟨A2, c2, w6, hrun6, hseq6, ho6⟩ := seq_append hseq5 (by omega) hw5.below.size s
            have h9 := (grow9 HX1.out hw5 hfr5 ha5 ho5 hring5 rfl (fun _ => hseq6) ho6).2
            obtain ⟨m2, hm2⟩ : ∃ m2, m2 = m1 + 1 := ⟨_, rfl⟩
            rw [← hm2] at h9 hrun6
            obtain ⟨D2, G2, h9'⟩ : ∃ D2 G2, At9 w w6 l d r (k + 1) m2 c2 A2 D2 G2 := ⟨_, _, h9⟩
            have H9 := Ythkjodlddhdeiaa.base.Shut.mk h9'
            have hm2r : m2 ≤ r := by omega
            clear hw5 hfr5 hring5 ha5 ho5 HAP hc0 hseq5 hseq6 ho6 h9 h9' hm2 HX1 hm1r HPB HSRC
            rw [appS] at hrun6
            go_wp2_with fail
            refine (tail_walk H9.out.wl.log).mono ?_
            rintro e w7 ⟨rfl, rfl⟩
            go_wp2_with fail
            refine (head_walk H9.out.wl.log).mono ?_
            rintro e w7 ⟨rfl, hb7⟩
            have HW7 := Ythkjodlddhdeiaa.base.Shut.mk (H9.out.wl.mono hb7)
            have HB7 := Ythkjodlddhdeiaa.base.Shut.mk hb7
            clear hb7
            have hop := open_wl HW7.out.disk H9.out.ring.gone G2 (H9.out.ring.wf (by omega)) (by rw [H9.out.ring.from1, H9.out.ring.n, H9.out.ring.n9]; omega) H9.out.ring.small (fun i hi => H9.out.ring.reads i hi)
            rw [H9.out.ring.from1, H9.out.ring.n] at hop
            have HOP := Ythkjodlddhdeiaa.base.Shut.mk hop
            clear hop
            go_wp2_with fail
            refine HOP.out.mono ?_
            rintro e w8 ⟨l2, rfl, hw8, hb8⟩
            have HW8 := Ythkjodlddhdeiaa.base.Shut.mk (And.intro hw8 (And.intro (HW7.out.mono hb8) (H9.out.seq.below (chain HB7.out hb8))))
            clear hw8 hb8 HOP
            have hlen2 := H9.out.seq.len
            have hrec1 := records_walk HW8.out.1.log
            rw [hlen2] at hrec1
            have HREC := Ythkjodlddhdeiaa.base.Shut.mk hrec1
            clear hrec1
            go_wp2_with fail
            refine HREC.out.mono ?_
            rintro e w9 ⟨A9, c9, rfl, hr9, hb9⟩
            have hsame := same_walk A9 A2 c9 c2 G2.recs G2.recs w9 (by rw [hlen2]; unfold maxLen; omega) (by rw [hlen2]; unfold maxLen; omega) (Reads.of_own hr9) (HW8.out.2.2.reads.keep hb9)
            rw [hlen2] at hsame
            have HS9 := Ythkjodlddhdeiaa.base.Shut.mk hsame
            have HW9 := Ythkjodlddhdeiaa.base.Shut.mk (And.intro (HW8.out.2.1.mono hb9) (HW8.out.2.2.below hb9))
            clear hr9 hb9 hsame HREC
            go_wp2_with fail
            refine HS9.out.mono ?_
            rintro e w10 ⟨rfl, hb10⟩
            have HW10 := Ythkjodlddhdeiaa.base.Shut.mk (And.intro (HW9.out.1.mono hb10) (HW9.out.2.below hb10))
            clear hb10 HS9
            have hrec2 := records_walk HW10.out.1.log
            rw [hlen2] at hrec2
            have HREC := Ythkjodlddhdeiaa.base.Shut.mk hrec2
            clear hrec2
            simp only [decide_true]
            go_wp2_with fail
            refine HREC.out.mono ?_
            rintro e w11 ⟨A11, c11, rfl, hr11, hb11⟩
            have hsame := same_walk A11 A2 c11 c2 G2.recs G2.recs w11 (by rw [hlen2]; unfold maxLen; omega) (by rw [hlen2]; unfold maxLen; omega) (Reads.of_own hr11) (HW10.out.2.reads.keep hb11)
            rw [hlen2] at hsame
            have HS11 := Ythkjodlddhdeiaa.base.Shut.mk hsame
            have HW11 := Ythkjodlddhdeiaa.base.Shut.mk (And.intro (HW10.out.1.mono hb11) (HW10.out.2.below hb11))
            clear hr11 hb11 hsame HREC
            go_wp2_with fail
            refine HS11.out.mono ?_
            rintro e w12 ⟨rfl, hb12⟩
            have HW12 := Ythkjodlddhdeiaa.base.Shut.mk (show At9 w w12 l d r (k + 1) m2 c2 A2 D2 G2 from ⟨HW11.out.1.mono hb12, HW11.out.2.below hb12, H9.out.ring⟩)
            clear hb12 HS11 hlen2
            simp only [decide_true]
            go_wp2
            go_roundw
            case rel => exact ⟨k + 1, m2, c2, A2, by omega, by go_num, rfl, hm2r, ⟨_, _, HW12.out⟩⟩
            case measure => simp [intOf]; omega
      · obtain rfl : n = k := by omega
        have hhd := head_walk HX.out.wl.log
        have hln : G.recs.length = m := HX.out.seq.len
        have heq : ((G.tail : Int) + (G.recs.length : Int)) = (n : Int) := by have := HX.out.ring.head; omega
        rw [heq] at hhd
        have hrm := fun (u : World) (hb : Below wr.heap.size wr u) => room_walk (HX.out.wl.log.below hb)
        rw [HX.out.ring.n, hln] at hrm
        have HR := Ythkjodlddhdeiaa.base.Shut.mk (And.intro hhd hrm)
        have hm1 : (m : Int) ≤ (r : Int) := by omega
        have hr88 : (r : Int) ≤ 8 := by omega
        clear hhd hrm heq hln
        go_wp2_with fail
        refine HR.out.1.mono ?_
        rintro e w3 ⟨rfl, hb3⟩
        have HB3 := Ythkjodlddhdeiaa.base.Shut.mk hb3
        clear hb3
        go_wp2_with fail
        refine (HR.out.2 _ HB3.out).mono ?_
        rintro e w4 ⟨rfl, hb4⟩
        have HB4 := Ythkjodlddhdeiaa.base.Shut.mk (chain HB3.out hb4)
        clear hb4
        go_wp2_with fail
        refine (lives_walk _).mono ?_
        rintro e w5 ⟨rfl, hb5⟩
        have HB5 := Ythkjodlddhdeiaa.base.Shut.mk (HX.out.wl.below.trans ((chain HB4.out hb5).mono HX.out.wl.below.size))
        clear hb5
        go_wp2
        go_ret
        exact ⟨rfl, HB5.out⟩
end Go.Proofs.Ythkjodlddhdeiaa.wal
