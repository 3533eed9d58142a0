/- The walks of 'lives' of the laws on the log, and of WalNil. -/
import Derived.Test.YthkjodlddhdeiaaWalAppend
import Derived.Test.YthkjodlddhdeiaaDiskLives
import Derived.Test.YthkjodlddhdeiaaOctSame
namespace Go.Proofs.Ythkjodlddhdeiaa.wal
open Go.ChangeShapes Go.WideShapes Go.ChangeAt Go.RowKit
open Ythkjodlddhdeiaa.base Ythkjodlddhdeiaa.disk
open Ythkjodlddhdeiaa.oct (Reads same_walk)
open Ythkjodlddhdeiaa.seal (blockL put_len put_front)
open Ythkjodlddhdeiaa.crc (sealed)

/-- a log of the call's own over a disk of its own -/
structure Wl (w0 w : World) (l d : Nat) (G : Lg) (D : Dk) : Prop where
  at_ : ∃ f s, At w w0.heap.size d f s D
  log : LogAt w w0.heap.size l d G
  below : Below w0.heap.size w0 w
theorem Wl.mono {w0 w w' : World} {l d : Nat} {G : Lg} {D : Dk} (h : Wl w0 w l d G D) (hb : Below w.heap.size w w') : Wl w0 w' l d G D := by
  obtain ⟨⟨f, s, ha⟩, hl, hb0⟩ := h
  exact ⟨⟨f, s, ha.below hb⟩, hl.below hb, hb0.trans (hb.mono hb0.size)⟩
theorem Wl.disk {w0 w : World} {l d : Nat} {G : Lg} {D : Dk} (h : Wl w0 w l d G D) : St w0 w d D := ⟨h.at_, h.below⟩
def OpenWl (w0 : World) (d : Nat) (G : Lg) (D : Dk) (w : World) (e : Ending) (w' : World) : Prop := ∃ l, e = .returned (.tuple #[pl l, .int .i64 0]) ∧ Wl w0 w' l d G D ∧ Below w.heap.size w w'
theorem open_wl {w0 w : World} {d : Nat} {D : Dk} (h : St w0 w d D) (hg : D.gone = false) (G : Lg) (hG : G.Wf) (hroom : G.from_ + G.n ≤ D.n) (hsz : ∀ s ∈ G.recs, s.size ≤ 490)
    (hS : ∀ i (h : i < G.recs.length), readS D ((G.from_ + (G.tail + i) % G.n : Nat) : Int) = sealed (blockL (((G.tail + i : Nat) : Int) + 1) G.recs[i].data.toList)) :
    Calls Try.prog 36 #[pd d, .int .i64 G.from_, .int .i64 G.n, .int .i64 G.tail, .int .i64 ((G.tail : Int) + (G.recs.length : Int))] w (OpenWl w0 d G D w) := by
  obtain ⟨⟨f, s, ha⟩, hb⟩ := h
  exact (open_walk ha hb.size hg G hG hroom hsz hS).mono fun e w' ⟨l, he, hl, ha', hb'⟩ => ⟨l, he, ⟨⟨f, s, ha'⟩, hl, hb.trans (hb'.mono hb.size)⟩, hb'⟩
theorem append_wl {w0 w : World} {l d : Nat} {G : Lg} {D : Dk} (h : Wl w0 w l d G D) (hg : D.gone = false) (hz : D.fuse = -1) (hroom : G.from_ + G.n ≤ D.n)
    (A : Option Addr) (cap : Nat) (rs : List ByteArray) (hW : D.W.length + rs.length ≤ 1000000) (hr : Reads w A rs) (hs : ∀ s ∈ rs, s.size ≤ 490) (hm : 0 < rs.length) (hfit : G.recs.length + rs.length ≤ G.n) (hfar : G.tail + (G.recs.length + rs.length) ≤ 1125899906842624)
    (hap : ∀ b off, A = some ⟨b, off, none⟩ → b < w0.heap.size ∨ ∃ cur fz, w.heap[b]? = some (.cells cur 9 fz)) :
    Calls Try.prog 37 #[pl l, .slice A rs.length cap] w fun e w' => e = .returned (.int .i64 0) ∧ Wl w0 w' l d { G with recs := G.recs ++ rs } (putsD G D (G.tail + G.recs.length) rs) ∧ FreshRow w w' l ∧
      (∃ f s, At w w0.heap.size d f s D ∧ Only [d, s, l] w w') := by
  obtain ⟨⟨f, s, ha⟩, hl, hb⟩ := h
  refine (append_ok hl ha hb.size hg hz hroom A cap rs hW hr hs hm hfit hfar (fun b off hA hm => ?_)).mono fun e w' ⟨he, ha', hl', ho, hf⟩ => ⟨he, ⟨⟨f, s, ha'⟩, hl', ho.below hb (fun k hk => ?_) hb.size⟩, hf, f, s, ha, ho⟩
  · simp at hm
    rcases hap b off hA with h1 | ⟨cur, fz, h1⟩
    · rcases hm with rfl | rfl
      · have := ha.low.1; omega
      · have := ha.low.2.2.1; omega
    · obtain ⟨gc, gs, gl, g1, g2, g3, g4⟩ := ha.fields
      obtain ⟨a2, ha2⟩ := (row_type g2 s rfl).2
      rcases hm with rfl | rfl
      · rw [g1] at h1; cases h1
      · rw [ha2] at h1; cases h1
  · simp at hk
    rcases hk with rfl | rfl | rfl
    · exact ha.low.1
    · exact ha.low.2.2.1
    · exact hl.low
theorem trim_wl {w0 w : World} {l d : Nat} {G : Lg} {D : Dk} (h : Wl w0 w l d G D) (k : Nat) (hk : k ≤ G.recs.length) :
    Calls Try.prog 38 #[pl l, .int .i64 ((G.tail : Int) + (k : Int))] w fun e w' => e = .returned (.int .i64 0) ∧ Wl w0 w' l d { G with tail := G.tail + k, recs := G.recs.drop k } D ∧ Only [l] w w' := by
  obtain ⟨⟨f, s, ha⟩, hl, hb⟩ := h
  refine (trim_walk hl hb.size k hk).mono fun e w' ⟨he, hl', ho, _⟩ => ⟨he, ⟨⟨f, s, at_log ha hl ho⟩, hl', ho.below hb (fun q hq => ?_) hb.size⟩, ho⟩
  have : q = l := by simpa using hq
  rw [this]
  exact hl.low
/-- a new literal of texts -/
theorem reads_new (u : World) (ss : List ByteArray) : Reads (u.alloc (.cells (oct.strs ss).toArray 9)) (some ⟨u.heap.size, 0, none⟩) ss := by
  intro _
  refine ⟨u.heap.size, 0, rfl, by simp, fun i s hi => ?_⟩
  rw [cell_of_row _ _ _ _ _ _ (heap_alloc_new u _), Nat.zero_add]
  simp [oct.strs, hi]
theorem put_seven (l : List UInt8) (h : l.length ≤ 490) : (sealed (blockL 4 l))[7]? = some 4 := by
  have h1 := put_front 4 l h
  have h2 : ((sealed (blockL 4 l)).take 8)[7]? = some 4 := by rw [h1]; decide
  rw [List.getElem?_take, if_pos (by decide)] at h2
  exact h2
theorem puts2 (G : Lg) (D : Dk) (p : Nat) (a b : ByteArray) (i j : Nat) (n m : Int) (hi : G.from_ + p % G.n = i) (hj : G.from_ + (p + 1) % G.n = j) (hn : (p : Int) + 1 = n) (hm : ((p + 1 : Nat) : Int) + 1 = m) :
    putsD G D p [a, b] = putD (putD D i (sealed (blockL n a.data.toList))) j (sealed (blockL m b.data.toList)) := by
  subst hi hj hn hm
  rfl
theorem putD_S (D : Dk) (k : Nat) (B : List UInt8) : (putD D k B).S = setBlk D.S k B := rfl
theorem lives_plain (a b c e : ByteArray) (ha : a.size ≤ 490) (hb : b.size ≤ 490) (hc : c.size ≤ 490) (he : e.size ≤ 490) : ∃ (D1 D2 : Dk) (R : ByteArray),
    D1 = putsD ⟨0, 3, 0, []⟩ (newD 3) 0 [a, b] ∧ D2 = putsD ⟨0, 3, 1, [b]⟩ D1 2 [c, e] ∧ D1.gone = false ∧ D1.fuse = -1 ∧ D1.n = 3 ∧ D1.W.length = 2 ∧ (ByteArray.mk (readS D2 0).toArray) = R ∧ mayE D2 0 = 0 ∧ R.size = 512 ∧ (∃ h : 7 < R.size, R[7].toNat = 4) := by
  obtain ⟨q1, q2, q3, q4⟩ := putsD_keeps ⟨0, 3, 0, []⟩ [a, b] (newD 3) 0
  obtain ⟨r1, r2, r3, r4⟩ := putsD_keeps ⟨0, 3, 1, [b]⟩ [c, e] (putsD ⟨0, 3, 0, []⟩ (newD 3) 0 [a, b]) 2
  have hel : e.data.toList.length ≤ 490 := by simpa using he
  have hcl : c.data.toList.length ≤ 490 := by simpa using hc
  have hm : mayE (putsD ⟨0, 3, 1, [b]⟩ (putsD ⟨0, 3, 0, []⟩ (newD 3) 0 [a, b]) 2 [c, e]) 0 = 0 := mayE_ok (by rw [r1, q1]; rfl) (by decide) (by rw [r3, q3]; show (0 : Int) < ((3 : Nat) : Int); decide)
  have hB := put_len 4 e.data.toList hel
  have h7 := put_seven e.data.toList hel
  have hr : readS (putsD ⟨0, 3, 1, [b]⟩ (putsD ⟨0, 3, 0, []⟩ (newD 3) 0 [a, b]) 2 [c, e]) 0 = sealed (blockL 4 e.data.toList) := by
    unfold readS
    rw [if_pos hm]
    have hal : a.data.toList.length ≤ 490 := by simpa using ha
    have hbl : b.data.toList.length ≤ 490 := by simpa using hb
    have e1 := puts2 ⟨0, 3, 0, []⟩ (newD 3) 0 a b 0 1 1 2 (show 0 + 0 % 3 = 0 by decide) (show 0 + (0 + 1) % 3 = 1 by decide) (by decide) (by decide)
    have e2 := puts2 ⟨0, 3, 1, [b]⟩ (putsD ⟨0, 3, 0, []⟩ (newD 3) 0 [a, b]) 2 c e 2 0 3 4 (show 0 + 2 % 3 = 2 by decide) (show 0 + (2 + 1) % 3 = 0 by decide) (by decide) (by decide)
    have hw : (newD 3).S.length = 3 * 512 := (newD_wf 3 (by decide) (by decide)).S
    have hA := put_len 1 a.data.toList hal
    have hBb := put_len 2 b.data.toList hbl
    have hC := put_len 3 c.data.toList hcl
    rw [e2, e1, putD_S, putD_S, putD_S, putD_S]
    generalize (newD 3).S = S0 at hw
    generalize sealed (blockL 1 a.data.toList) = A1 at *
    generalize sealed (blockL 2 b.data.toList) = B1 at *
    generalize sealed (blockL 3 c.data.toList) = C1 at *
    generalize sealed (blockL 4 e.data.toList) = E1 at *
    have h1 : (setBlk S0 0 A1).length = 3 * 512 := setBlk_len hw (by decide) hA
    have h2 : (setBlk (setBlk S0 0 A1) 1 B1).length = 3 * 512 := setBlk_len h1 (by decide) hBb
    have h3 : (setBlk (setBlk (setBlk S0 0 A1) 1 B1) 2 C1).length = 3 * 512 := setBlk_len h2 (by decide) hC
    show blk (setBlk (setBlk (setBlk (setBlk S0 0 A1) 1 B1) 2 C1) 0 E1) 0 = E1
    exact blk_setBlk_same h3 (by decide) hB
  refine ⟨_, _, _, rfl, rfl, by rw [q1]; rfl, by rw [q2]; rfl, by rw [q3]; rfl, by rw [q4]; rfl, rfl, hm, by rw [hr, size_mk, hB], ?_⟩
  rw [hr]
  refine ⟨by rw [size_mk, hB]; decide, ?_⟩
  obtain ⟨h, h2⟩ := List.getElem?_eq_some_iff.1 h7
  have h3 : (ByteArray.mk (sealed (blockL 4 e.data.toList)).toArray)[7]'(by rw [size_mk]; exact h) = (sealed (blockL 4 e.data.toList))[7]'h := List.getElem_toArray _
  rw [h3, h2]
  rfl
theorem str_cells (ss : List ByteArray) : (ss.map Value.string) = oct.strs ss := rfl
set_option maxRecDepth 100000 in
set_option maxHeartbeats 1600000 in
theorem lives_walk (w : World) :
    Calls Try.prog 35 #[] w fun e w' => e = .returned (.bool true) ∧ Below w.heap.size w w' := by
  obtain ⟨D1, D2, R, hD1, hD2, g1, z1, n1, W1, hR, hm, hsz, h7, h7v⟩ := lives_plain ⟨#[97]⟩ ⟨#[98]⟩ ⟨#[99]⟩ ⟨#[100]⟩ (by decide) (by decide) (by decide) (by decide)
  have HD := Ythkjodlddhdeiaa.base.Shut.mk (And.intro hD1 (And.intro hD2 (And.intro g1 (And.intro z1 (And.intro n1 (And.intro W1 (And.intro hR hm)))))))
  have hlit1 := fun u : World => reads_new u [⟨#[97]⟩, ⟨#[98]⟩]
  have hlit2 := fun u : World => reads_new u [⟨#[99]⟩, ⟨#[100]⟩]
  have hlit3 := fun u : World => reads_new u [⟨#[98]⟩, ⟨#[99]⟩, ⟨#[100]⟩]
  have HL := Ythkjodlddhdeiaa.base.Shut.mk (And.intro hlit1 (And.intro hlit2 hlit3))
  clear hD1 hD2 g1 z1 n1 W1 hR hm hlit1 hlit2 hlit3
  go_enter Try.func35, Try.ntmps35
  go_wp2_with fail
  refine (new_st 3 (by decide) (by decide) w _ (same w)).mono ?_
  rintro e w1 ⟨d, rfl, hs, hd⟩
  have HS1 := Ythkjodlddhdeiaa.base.Shut.mk hs
  clear hs hd
  go_wp2_with fail
  refine (open_wl HS1.out rfl ⟨0, 3, 0, []⟩ ⟨by decide, by decide, by decide, by decide⟩ (by decide) (fun s hs => by cases hs) (fun i hi => by simp at hi)).mono ?_
  rintro e w2 ⟨l, rfl, hw2, _⟩
  have HW2 := Ythkjodlddhdeiaa.base.Shut.mk hw2
  clear hw2
  go_wp2_with fail
  refine (append_wl (HW2.out.mono (newer (same w2) _)) rfl rfl (by decide) (some ⟨w2.heap.size, 0, none⟩) 2 [⟨#[97]⟩, ⟨#[98]⟩] (by decide) (HL.out.1 w2) (by decide) (by decide) (by decide) (by decide) (fun b off h => .inr ⟨_, _, by cases h; exact heap_alloc_new _ _⟩)).mono ?_
  rintro e w3 ⟨rfl, hw3, _⟩
  have HW3 := Ythkjodlddhdeiaa.base.Shut.mk (show Wl w w3 l d ⟨0, 3, 0, [⟨#[97]⟩, ⟨#[98]⟩]⟩ D1 by rw [HD.out.1]; exact hw3)
  clear hw3
  go_wp2_with fail
  refine (trim_wl HW3.out 1 (by decide)).mono ?_
  rintro e w4 ⟨rfl, hw4, _⟩
  have HW4 := Ythkjodlddhdeiaa.base.Shut.mk (show Wl w w4 l d ⟨0, 3, 1, [⟨#[98]⟩]⟩ D1 from hw4)
  clear hw4
  go_wp2_with fail
  refine (append_wl (HW4.out.mono (newer (same w4) _)) HD.out.2.2.1 HD.out.2.2.2.1 (by rw [HD.out.2.2.2.2.1]; decide) (some ⟨w4.heap.size, 0, none⟩) 2 [⟨#[99]⟩, ⟨#[100]⟩] (by rw [HD.out.2.2.2.2.2.1]; decide) (HL.out.2.1 w4) (by decide) (by decide) (by decide) (by decide) (fun b off h => .inr ⟨_, _, by cases h; exact heap_alloc_new _ _⟩)).mono ?_
  rintro e w5 ⟨rfl, hw5, _⟩
  have HW5 := Ythkjodlddhdeiaa.base.Shut.mk (show Wl w w5 l d ⟨0, 3, 1, [⟨#[98]⟩, ⟨#[99]⟩, ⟨#[100]⟩]⟩ D2 by rw [HD.out.2.1]; exact hw5)
  clear hw5
  go_wp2_with fail
  refine (read_st HW5.out.disk 0).mono ?_
  rintro e w6 ⟨rfl, rfl⟩
  rw [HD.out.2.2.2.2.2.2.1, HD.out.2.2.2.2.2.2.2]
  go_wp2_with fail
  refine (tail_walk HW5.out.log).mono ?_
  rintro e w6 ⟨rfl, rfl⟩
  go_wp2_with fail
  refine (head_walk HW5.out.log).mono ?_
  rintro e w6 ⟨rfl, hb6⟩
  have HW6 := Ythkjodlddhdeiaa.base.Shut.mk (HW5.out.mono hb6)
  clear hb6
  go_wp2_with fail
  refine (room_walk HW6.out.log).mono ?_
  rintro e w7 ⟨rfl, hb7⟩
  have HW7 := Ythkjodlddhdeiaa.base.Shut.mk (HW6.out.mono hb7)
  clear hb7
  go_wp2_with fail
  refine (records_walk HW7.out.log).mono ?_
  rintro e w8 ⟨A8, c8, rfl, hr8, hb8⟩
  have HW8 := Ythkjodlddhdeiaa.base.Shut.mk (And.intro (HW7.out.mono hb8) hr8)
  clear hb8 hr8
  go_wp2_with fail
  refine (same_walk A8 (some ⟨w8.heap.size, 0, none⟩) c8 3 [⟨#[98]⟩, ⟨#[99]⟩, ⟨#[100]⟩] [⟨#[98]⟩, ⟨#[99]⟩, ⟨#[100]⟩] _ (by decide) (by decide) ((Reads.of_own HW8.out.2).keep (newer (same w8) _)) (HL.out.2.2 w8)).mono ?_
  rintro e w9 ⟨rfl, hb9⟩
  have HW9 := Ythkjodlddhdeiaa.base.Shut.mk ((HW8.out.1.mono (newer (same w8) _)).mono hb9)
  clear hb9
  go_wp2
  go_ret
  exact ⟨rfl, HW9.out.below⟩
set_option maxRecDepth 100000 in
set_option maxHeartbeats 400000 in
theorem append_un {w : World} {v : Value} (h : UnLog w v) (rv : Value) : Calls Try.prog 37 #[v, rv] w fun e w' => e = .returned (.int .i64 1) ∧ w = w' := by
  have HM := Ythkjodlddhdeiaa.base.Shut.mk (there_un h)
  clear h
  go_enter Try.func37, Try.ntmps37
  go_wp2_with fail
  refine HM.out.mono ?_
  rintro e w0 ⟨rfl, rfl⟩
  go_wp2
  go_ret
  exact ⟨rfl, rfl⟩
set_option maxRecDepth 100000 in
set_option maxHeartbeats 400000 in
theorem trim_un {w : World} {v : Value} (h : UnLog w v) (rv : Value) : Calls Try.prog 38 #[v, rv] w fun e w' => e = .returned (.int .i64 1) ∧ w = w' := by
  have HM := Ythkjodlddhdeiaa.base.Shut.mk (there_un h)
  clear h
  go_enter Try.func38, Try.ntmps38
  go_wp2_with fail
  refine HM.out.mono ?_
  rintro e w0 ⟨rfl, rfl⟩
  go_wp2
  go_ret
  exact ⟨rfl, rfl⟩
set_option maxRecDepth 100000 in
set_option maxHeartbeats 400000 in
theorem records_un {w : World} {v : Value} (h : UnLog w v) : Calls Try.prog 42 #[v] w fun e w' => e = .returned (.slice none 0 0) ∧ w = w' := by
  have HM := Ythkjodlddhdeiaa.base.Shut.mk (there_un h)
  clear h
  go_enter Try.func42, Try.ntmps42
  go_wp2_with fail
  refine HM.out.mono ?_
  rintro e w0 ⟨rfl, rfl⟩
  go_wp2
  go_ret
  exact ⟨rfl, rfl⟩
set_option maxRecDepth 100000 in
set_option maxHeartbeats 400000 in
theorem tail_un {w : World} {v : Value} (h : UnLog w v) : Calls Try.prog 39 #[v] w fun e w' => e = .returned (.int .i64 0) ∧ w = w' := by
  have HM := Ythkjodlddhdeiaa.base.Shut.mk (there_un h)
  clear h
  go_enter Try.func39, Try.ntmps39
  go_wp2_with fail
  refine HM.out.mono ?_
  rintro e w0 ⟨rfl, rfl⟩
  go_wp2
  go_ret
  exact ⟨rfl, rfl⟩
set_option maxRecDepth 100000 in
set_option maxHeartbeats 400000 in
theorem head_un {w : World} {v : Value} (h : UnLog w v) : Calls Try.prog 40 #[v] w fun e w' => e = .returned (.int .i64 0) ∧ w = w' := by
  have HM := Ythkjodlddhdeiaa.base.Shut.mk (there_un h)
  clear h
  go_enter Try.func40, Try.ntmps40
  go_wp2_with fail
  refine HM.out.mono ?_
  rintro e w0 ⟨rfl, rfl⟩
  go_wp2
  go_ret
  exact ⟨rfl, rfl⟩
set_option maxRecDepth 100000 in
set_option maxHeartbeats 400000 in
theorem room_un {w : World} {v : Value} (h : UnLog w v) : Calls Try.prog 43 #[v] w fun e w' => e = .returned (.int .i64 0) ∧ w = w' := by
  have HM := Ythkjodlddhdeiaa.base.Shut.mk (there_un h)
  clear h
  go_enter Try.func43, Try.ntmps43
  go_wp2_with fail
  refine HM.out.mono ?_
  rintro e w0 ⟨rfl, rfl⟩
  go_wp2
  go_ret
  exact ⟨rfl, rfl⟩
set_option maxRecDepth 100000 in
set_option maxHeartbeats 400000 in
theorem open_un (w : World) (a b c e : Value) : Calls Try.prog 36 #[.pointer none, a, b, c, e] w fun e w' => e = .returned (.tuple #[.pointer none, .int .i64 1]) ∧ w = w' := by
  have HM := Ythkjodlddhdeiaa.base.Shut.mk (read_un (w := w) (v := .pointer none) (.inl rfl) 0)
  go_enter Try.func36, Try.ntmps36
  go_wp2_with fail
  refine HM.out.mono ?_
  rintro e w0 ⟨rfl, rfl⟩
  go_wp2
  go_ret2
  exact ⟨rfl, rfl⟩
end Go.Proofs.Ythkjodlddhdeiaa.wal
