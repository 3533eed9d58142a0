/- The walk of disk.fall: a loose write, by its fate. -/
import Derived.Test.YthkjodlddhdeiaaDiskFlush
import Derived.Laws.IdiomCopy
namespace Go.Proofs.Ythkjodlddhdeiaa.disk
open Go.ChangeShapes Go.WideShapes Go.ChangeAt Go.RowKit
open Ythkjodlddhdeiaa.base

/-- what a fate makes of an old block and a new one -/
def torn (old new : List UInt8) (fate : Int) : List UInt8 :=
  if fate = 1 then new else if fate = 2 then new.take 256 ++ old.drop 256 else if fate = 3 then old.take 256 ++ new.drop 256 else old
theorem torn_len (old new : List UInt8) (fate : Int) (h1 : old.length = 512) (h2 : new.length = 512) : (torn old new fate).length = 512 := by
  unfold torn
  split
  · exact h2
  · split
    · simp [h1, h2]
    · split
      · simp [h1, h2]
      · exact h1
def fallF (F : List UInt8) (p : Nat × List UInt8) (fate : Int) : List UInt8 := setBlk F p.1 (torn (blk F p.1) p.2 fate)
/-- bytes laid somewhere into a row -/
def setPart (l : List UInt8) (o : Nat) (b : List UInt8) : List UInt8 := l.take o ++ b ++ l.drop (o + b.length)
theorem setPart_front {l b : List UInt8} {n k : Nat} (hl : l.length = n * 512) (hk : k < n) (hb : b.length = 256) : setPart l (k * 512) b = setBlk l k (b ++ (blk l k).drop 256) := by
  unfold setPart setBlk blk
  rw [hb]
  have h1 : l.drop (k * 512 + 512) = (l.drop (k * 512)).drop 512 := by rw [List.drop_drop]
  have h2 : l.drop (k * 512 + 256) = (l.drop (k * 512)).drop 256 := by rw [List.drop_drop]
  rw [h1, h2]
  have h3 : (l.drop (k * 512)).length = (n - k) * 512 := by rw [List.length_drop, hl, Nat.sub_mul]
  generalize l.drop (k * 512) = m at h3
  rw [List.append_assoc, List.append_assoc, List.append_assoc]
  congr 2
  rw [List.drop_take]
  have h4 : m.drop 512 = (m.drop 256).drop 256 := by rw [List.drop_drop]
  rw [h4, List.take_append_drop]
theorem setPart_back {l b : List UInt8} {n k : Nat} (hl : l.length = n * 512) (hk : k < n) (hb : b.length = 256) : setPart l (k * 512 + 256) b = setBlk l k ((blk l k).take 256 ++ b) := by
  unfold setPart setBlk blk
  rw [hb, show k * 512 + 256 + 256 = k * 512 + 512 from by omega, List.take_take, Nat.min_eq_left (by decide : 256 ≤ 512), List.take_add]
  simp [List.append_assoc]
theorem bytesOf_setPart (l : List UInt8) (o : Nat) (b : List UInt8) : bytesOf (setPart l o b) = (bytesOf l).take o ++ bytesOf b ++ (bytesOf l).drop (o + b.length) := by
  unfold setPart bytesOf
  simp
theorem row_setPart {w : World} {base g n cap o : Nat} {t : TypeId} {S l : List UInt8} (h : w.ownsRow base t 512 (.slice (some ⟨g, 0, none⟩) n cap) n (bytesOf S)) (ho : o + l.length ≤ n * 512) :
    (w.setCells g o (bytesOf l)).ownsRow base t 512 (.slice (some ⟨g, 0, none⟩) n cap) n (bytesOf (setPart S o l)) ∧ Only [g] w (w.setCells g o (bytesOf l)) ∧ w.there g o l.length := by
  have hS : S.length = n * 512 := by have := h.1; rwa [bytesOf_length] at this
  obtain ⟨_, ⟨h1, _⟩ | ⟨g', cap', cur, h1, hb, hg, h2, h3, h4, h5⟩⟩ := h
  · cases h1
  · cases h1
    have hcap : o + l.length ≤ cap * 512 := Nat.le_trans ho (Nat.mul_le_mul_right _ h2)
    refine ⟨?_, only_setCells hg _ (by rw [bytesOf_length, h4]; exact hcap), fun j hj => ⟨?_, ?_⟩⟩
    · rw [setCells_row g t (0, 0) (bytesOf l) o cur w hg (by rw [bytesOf_length, h4]; exact hcap)]
      have hlen : (setPart S o l).length = n * 512 := by unfold setPart; simp [hS]; omega
      refine ⟨by rw [bytesOf_length, hlen], .inr ⟨g, cap, _, rfl, hb, setRow_heap _ _ _ _ _ _ hg, h2, h3, ?_, ?_⟩⟩
      · simp [bytesOf_length, h4]; omega
      · have e1 : (cur.toList.take o).length = o := by rw [List.length_take]; simp [h4]; omega
        rw [bytesOf_setPart, ← h5, List.take_take, Nat.min_eq_left (by omega), List.drop_take]
        simp only [bytesOf_length]
        have e2 : (cur.toList.take o ++ bytesOf l).length = o + l.length := by rw [List.length_append, e1, bytesOf_length]
        rw [List.take_append, List.take_of_length_le (by rw [e2]; exact ho), e2]
    · rw [cell_of_row w g _ _ _ _ hg, Array.getElem?_eq_getElem (by rw [h4]; omega)]; rfl
    · unfold World.frozen?; simp only [hg]; simp
/-- the flushed bytes, some of them stored -/
theorem At.part {w : World} {base d f s : Nat} {D : Dk} (h : At w base d f s D) (o : Nat) (l : List UInt8) (ho : o + l.length ≤ D.n * 512) :
    At (w.setCells f o (bytesOf l)) base d f s { D with F := setPart D.F o l } ∧ Only [f] w (w.setCells f o (bytesOf l)) ∧ w.there f o l.length := by
  have hne := h.ne_df.1
  obtain ⟨hw, hb, ⟨fc, cs, lv, h1, h2, h3, h4⟩⟩ := h
  obtain ⟨r1, r2, r3⟩ := row_setPart h4 ho
  obtain ⟨cur, hst⟩ : ∃ cur, w.heap[f]? = some (.cells cur 105 (0, 0)) := (row_type h4 f rfl).2
  have hlen : (setPart D.F o l).length = D.n * 512 := by have := r1.1; rwa [bytesOf_length] at this
  refine ⟨⟨⟨hw.n1, hw.n2, hlen, hw.S, hw.W, hw.low, hw.high⟩, hb, ⟨fc, cs, lv, ?_, ?_, ?_, r1⟩⟩, r2, r3⟩
  · rw [r2.block d (lt_of_obj h1) (by simpa using hne)]
    exact h1
  · exact r2.row h2 (fun g hg => by cases hg; simpa using (fun e : s = f => hb.2.2.2 e.symm))
  · refine row_kept h3 (fun g hg => ?_)
    obtain ⟨_, cu, hc⟩ := row_type h3 g hg
    refine r2.block g (lt_of_obj hc) (fun hm => ?_)
    have e : g = f := by simpa using hm
    rw [e] at hc
    exact absurd (obj_type hc hst) (by decide)
theorem u8_size : (Try.prog.info? 5).map (·.size) = some 1 := by kernel_rfl
def shutCopy (args : Array Value) : Sem Value := Builtin.copy_ #[29, 29] 3 args
theorem copy_shut (args : Array Value) : Builtin.copy_ #[29, 29] 3 args = shutCopy args := rfl
attribute [local go_sem ↓] load_shut store_shut copy_shut
set_option maxRecDepth 100000 in
set_option maxHeartbeats 1600000 in
theorem fall_walk {w : World} {base d f s : Nat} {D : Dk} (h : At w base d f s D) (p : Nat × List UInt8) (hp : p.1 < D.n) (hl : p.2.length = 512) (fate : Int) (C : Array Value) (hC : C = (looseCells p).toArray) :
    Calls Try.prog 61 #[pd d, .agg C, .int .i64 fate] w fun e w' => e = .returned (.tuple #[]) ∧ At w' base d f s { D with F := fallF D.F p fate } ∧ Only [f] w w' := by
  obtain ⟨x, hx⟩ : ∃ x, w.heap.size = x := ⟨_, rfl⟩
  obtain ⟨V, hV⟩ : ∃ V, w.alloc (.cells C 107) = V := ⟨_, rfl⟩
  have hB : Below w.heap.size w V := by rw [← hV]; exact newer (same w) _
  have hX : V.heap[x]? = some (.cells C 107 (0, 0)) := by rw [← hV, ← hx]; exact heap_alloc_new _ _
  have hA := h.below hB
  have hA2 := hA.below (drewn (same V))
  have hx1 : V.rangeAt x 1 (bytesOf p.2) := by
    intro j v hj
    rw [cell_of_row V x (1 + j) _ _ _ hX, ← hj, hC]
    simp [looseCells, Nat.add_comm]
  have hx0 : V.cell? ⟨x, 0, none⟩ = some (.int .i64 (p.1 : Int)) := by rw [cell_of_row V x 0 _ _ _ hX, hC]; rfl
  obtain ⟨fc, cs, lv, c0, -, -, -, -, -, -, -, hrF⟩ := hA.cells
  have hF := hA.wf.F
  have hO : Only [f] w V := Only.of_below [f] hB
  have hp1 : (p.1 : Int) < (D.n : Int) := by omega
  have hp0 : (0 : Int) ≤ (p.1 : Int) := by omega
  have hld := run_loadAt_mid (P := Try.prog) V.drew x 1 105 (bytesOf p.2) _ (by simpa using hx1) Try.underlying105 rfl (by rw [bytesOf_length, hl]; exact size512)
  have HA := Shut.mk (And.intro hA2 (And.intro hO (And.intro hF (And.intro hp (And.intro hl hx1)))))
  clear h hA hA2 hX hC hB hrF hF hO hx1
  have hways : fate = 1 ∨ fate = 2 ∨ fate = 3 ∨ ((fate == 1) = false ∧ (fate == 2) = false ∧ (fate == 3) = false) := by
    by_cases a : fate = 1
    · exact .inl a
    · by_cases b : fate = 2
      · exact .inr (.inl b)
      · by_cases c : fate = 3
        · exact .inr (.inr (.inl c))
        · exact .inr (.inr (.inr ⟨by simpa using a, by simpa using b, by simpa using c⟩))
  rw [load_shut] at hld
  rcases hways with rfl | rfl | rfl | ⟨n1, n2, n3⟩
  · have h0 := HA.out.1.flushed p.1 HA.out.2.2.2.1 p.2 HA.out.2.2.2.2.1
    obtain ⟨fc2, cs2, lv2, -, -, -, -, -, -, -, -, hrF⟩ := HA.out.1.cells
    have hth := row_there hrF HA.out.2.2.2.1
    have hst := run_storeAt_mid (P := Try.prog) V.drew f (p.1 * 512) 105 (bytesOf p.2).toArray (by rw [List.size_toArray, bytesOf_length, HA.out.2.2.2.2.1]; exact hth) (by rw [List.size_toArray, bytesOf_length, HA.out.2.2.2.2.1]; exact size512) (all_oneCell_toArray (bytesOf_one p.2))
    rw [store_shut] at hst
    have H0 := Shut.mk h0
    clear hrF hth h0
    go_enter Try.func61, Try.ntmps61
    go_wp2
    go_big_region
    go_wp2
    go_end0
    exact ⟨rfl, H0.out.1, HA.out.2.1.trans (((Only.refl _ _).drew).trans H0.out.2)⟩
  · have hpl : (p.2.take 256).length = 256 := by rw [List.length_take, HA.out.2.2.2.2.1]; rfl
    have h0 := (HA.out.1.below (drewn (same V.drew))).part (p.1 * 512) (p.2.take 256) (by rw [hpl]; have := HA.out.2.2.2.1; omega)
    have hcp := run_copy_cells (P := Try.prog) V.drew.drew 29 29 3 5 f (p.1 * 512) 256 512 ⟨x, 1, none⟩ 256 512 (bytesOf (p.2.take 256)) Try.underlying29 u8_size (by rw [bytesOf_length, hpl]; rfl)
      (fun j v hj => by
        have hadd : (⟨x, 1, none⟩ : Addr).add j = ⟨x, 1 + j, none⟩ := Addr.add_mid _ _ _
        rw [hadd, World.cell?_drew, World.cell?_drew]
        refine HA.out.2.2.2.2.2 j v ?_
        have hj2 : j < 256 := by have := (List.getElem?_eq_some_iff.1 hj).1; rwa [bytesOf_length, hpl] at this
        rw [← hj]
        simp [bytesOf, List.getElem?_take, hj2])
      (fun j hj => (h0.2.2 j (by rw [bytesOf_length] at hj; exact hj)).1) (fun j hj => (h0.2.2 j (by rw [bytesOf_length] at hj; exact hj)).2) (bytesOf_one _)
    rw [copy_shut, bytesOf_length, hpl] at hcp
    have hfin : fallF D.F p 2 = setPart D.F (p.1 * 512) (p.2.take 256) := by rw [setPart_front HA.out.2.2.1 HA.out.2.2.2.1 hpl]; rfl
    have H0 := Shut.mk (And.intro h0 hfin)
    clear h0 hpl hfin
    go_enter Try.func61, Try.ntmps61
    go_wp2
    go_big_region
    go_wp2
    go_big_region
    go_wp2
    have hat : At (V.drew.drew.setCells f (p.1 * 512) (bytesOf (p.2.take 256))) base d f s { D with F := fallF D.F p 2 } := by rw [H0.out.2]; exact H0.out.1.1
    have hon : Only [f] w (V.drew.drew.setCells f (p.1 * 512) (bytesOf (p.2.take 256))) := HA.out.2.1.trans (((Only.refl _ _).drew.drew).trans H0.out.1.2.1)
    go_end0
    exact ⟨rfl, hat, hon⟩
  · have hpl : (p.2.drop 256).length = 256 := by rw [List.length_drop, HA.out.2.2.2.2.1]
    have h0 := (HA.out.1.below (drewn (same V.drew))).part (p.1 * 512 + 256) (p.2.drop 256) (by rw [hpl]; have := HA.out.2.2.2.1; omega)
    have hcp := run_copy_cells (P := Try.prog) V.drew.drew 29 29 3 5 f (p.1 * 512 + 256) 256 256 ⟨x, 257, none⟩ 256 256 (bytesOf (p.2.drop 256)) Try.underlying29 u8_size (by rw [bytesOf_length, hpl]; rfl)
      (fun j v hj => by
        have hadd : (⟨x, 257, none⟩ : Addr).add j = ⟨x, 257 + j, none⟩ := Addr.add_mid _ _ _
        rw [hadd, World.cell?_drew, World.cell?_drew, show 257 + j = 1 + (256 + j) from by omega]
        refine HA.out.2.2.2.2.2 (256 + j) v ?_
        rw [← hj]
        simp [bytesOf, List.getElem?_drop])
      (fun j hj => (h0.2.2 j (by rw [bytesOf_length] at hj; exact hj)).1) (fun j hj => (h0.2.2 j (by rw [bytesOf_length] at hj; exact hj)).2) (bytesOf_one _)
    rw [copy_shut, bytesOf_length, hpl] at hcp
    have hfin : fallF D.F p 3 = setPart D.F (p.1 * 512 + 256) (p.2.drop 256) := by rw [setPart_back HA.out.2.2.1 HA.out.2.2.2.1 hpl]; rfl
    have H0 := Shut.mk (And.intro h0 hfin)
    clear h0 hpl hfin
    go_enter Try.func61, Try.ntmps61
    go_wp2
    go_big_region
    go_wp2
    go_big_region
    go_wp2
    have hat : At (V.drew.drew.setCells f (p.1 * 512 + 256) (bytesOf (p.2.drop 256))) base d f s { D with F := fallF D.F p 3 } := by rw [H0.out.2]; exact H0.out.1.1
    have hon : Only [f] w (V.drew.drew.setCells f (p.1 * 512 + 256) (bytesOf (p.2.drop 256))) := HA.out.2.1.trans (((Only.refl _ _).drew.drew).trans H0.out.1.2.1)
    go_end0
    exact ⟨rfl, hat, hon⟩
  · have hfin : fallF D.F p fate = D.F := by
      unfold fallF torn
      rw [if_neg (by simpa using n1), if_neg (by simpa using n2), if_neg (by simpa using n3)]
      exact setBlk_blk HA.out.2.2.1 HA.out.2.2.2.1
    have hat : At V.drew base d f s { D with F := fallF D.F p fate } := by rw [hfin]; exact HA.out.1
    have HAT := Shut.mk hat
    clear hfin hat
    go_enter Try.func61, Try.ntmps61
    go_wp2
    go_big_region
    go_wp2
    go_end0
    exact ⟨rfl, HAT.out, HA.out.2.1.drew⟩
end Go.Proofs.Ythkjodlddhdeiaa.disk
