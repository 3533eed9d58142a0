/- The calls that the laws on the disk are given: how they are read; the walk of 'do'. -/
import Derived.Test.YthkjodlddhdeiaaDiskStays
import Derived.Deep.Slices
import Derived.Deep.Fields
import Derived.ChangeSame
namespace Go.Proofs.Ythkjodlddhdeiaa.disk
open Go.ChangeShapes Go.WideShapes Go.ChangeAt Go.RowKit Go.Deep
open Ythkjodlddhdeiaa.base

section
variable {H : Type} {enc : TypeId × Value → H} {P : Program} {w : World} {base : Nat} {spare : Nat → Bool} {held : Bool}
theorem open_slice_fields {t e : TypeId} {fs : Array Field} {fuel : Nat} {cs : List Value} {x : DataW H × List MemPlace} (ht : P.underlying t = some (.slice e)) (he : P.underlying e = some (.struct fs))
    (hone : oneCellFields P fs = true) (hC : P.cellsOf e = fs.size) (h : DataW.trod enc P w base spare held fuel t cs = some x) :
    (cs = [.slice none 0 0]) ∨
    ∃ (a : Addr) (len cap m : Nat), cs = [.slice (some a) len cap] ∧ len ≤ cap ∧ cap ≤ maxLen ∧ m = (if spare a.block then cap else len) ∧
      ∀ i, i < m → ∃ (n : Nat),
        ∀ (j : Nat) (f : Field), fs[j]? = some f → ∃ (v : Value) (y : DataW H × List MemPlace), w.cell? (a.add (i * fs.size + j)) = some v ∧ DataW.trod enc P w base spare held n f.type [v] = some y := by
  rcases open_slice ht h with h0 | ⟨a, len, cap, m, n, D, Pl, hcs, hb, hl, hm, hmm, hx, hi⟩
  · exact .inl h0.1
  · refine .inr ⟨a, len, cap, m, hcs, hl, hm, hmm, fun i him => ?_⟩
    obtain ⟨cs', hc, ht'⟩ := hi i him
    rw [hC] at hc
    obtain ⟨ys, n', hn', hy, hlen, hyl, hf⟩ := DataW.trod_struct he ht'
    obtain ⟨_, hcl, hat⟩ := World.cells?_some hc
    refine ⟨n', fun j f hj => ?_⟩
    obtain ⟨ho, hk⟩ := hone_of hone j f hj
    have hjl : j < fs.size := (Array.getElem?_eq_some_iff.1 hj).1
    have hcell := hat j hjl
    have hv : cs'[j]? = some (cs'[j]'(by omega)) := List.getElem?_eq_getElem (by omega)
    have h1 := hf j f hj
    rw [ho, hk] at h1
    have hone' : (cs'.drop j).take 1 = [cs'[j]'(by omega)] := by
      rw [List.drop_eq_getElem_cons (by omega)]
      rfl
    rw [hone'] at h1
    have hys : ys[j]? = some (ys[j]'(by omega)) := List.getElem?_eq_getElem (by omega)
    refine ⟨_, _, ?_, h1.trans hys⟩
    rw [← Go.Deep.add_add, hcell, hv]
end
set_option maxRecDepth 100000 in
/-- ints in one cell of an argument -/
theorem open_fates_cell {H : Type} {enc : TypeId × Value → H} {W : World} {v : Value} {fuel : Nat} {x : DataW H × List MemPlace}
    (hf : DataW.trod enc Try.prog W 0 (fun _ => true) true fuel 35 [v] = some x) :
    ∃ L, Ints W v L ∧ L.length ≤ 9223372036854775807 ∧ (∀ g o n c, v = .slice (some ⟨g, o, none⟩) n c → 0 < n → g < W.heap.size) ∧ ∃ a c, v = .slice a L.length c := by
  rcases open_ints Try.underlying35 Try.underlying3 cellsOf_int hf with ⟨hcs, hx⟩ | ⟨a, len, cap, zs, hcs, _, hl, hm, hz, hx, hcell, hwz⟩
  · have e : v = .slice none 0 0 := by simpa using hcs
    cases e
    exact ⟨[], .inl ⟨rfl, none, 0, rfl⟩, Nat.zero_le _, (fun _ _ _ _ h => by cases h), none, 0, rfl⟩
  · have e : v = .slice (some a) len cap := by simpa using hcs
    cases e
    have hz' : zs.length = cap := by simpa using hz
    have hlen : (zs.take len).length = len := by rw [List.length_take]; omega
    refine ⟨zs.take len, ?_, by rw [hlen]; unfold maxLen at hm; omega, ?_, some a, cap, by rw [hlen]⟩
    · by_cases h0 : len = 0
      · exact .inl ⟨by rw [h0]; rfl, some a, cap, by rw [h0]⟩
      · obtain ⟨b, off, rfl, hc⟩ := ints_at hcell (by omega)
        refine .inr ⟨b, off, cap, by rw [hlen], fun j x hj => ?_⟩
        have hj2 : j < len := by have := (List.getElem?_eq_some_iff.1 hj).1; omega
        rw [List.getElem?_take, if_pos hj2] at hj
        rw [hc j (by omega), List.getD_eq_getElem?_getD, hj]
        rfl
    · intro g o n c hv hn
      cases hv
      obtain ⟨b, off, hb, hc⟩ := ints_at hcell (by omega)
      cases hb
      exact World.block_lt_of_cell? W _ (hc 0 (by omega))
/-- a call -/
structure ActV where
  kind : Int
  i : Int
  a : UInt8
  b : UInt8
  fates : List Int
/-- ints that lie ahead of all that the law makes -/
def ArgFates (w0 w : World) (v : Value) (L : List Int) : Prop := Ints w v L ∧ (∀ g o n c, v = .slice (some ⟨g, o, none⟩) n c → 0 < n → g < w0.heap.size) ∧ L.length ≤ 9223372036854775807
theorem ArgFates.later {w0 w : World} {v : Value} {L : List Int} (h : ArgFates w0 w0 v L) (hb : Below w0.heap.size w0 w) : ArgFates w0 w v L := by
  refine ⟨?_, h.2⟩
  rcases h.1 with h | ⟨g, o, c, hv, hc⟩
  · exact .inl h
  · exact .inr ⟨g, o, c, hv, fun j x hj => by rw [hb.cell (World.block_lt_of_cell? w0 _ (hc j x hj))]; exact hc j x hj⟩
/-- it lies in five cells -/
def ActAt (w0 w : World) (g o : Nat) (x : ActV) : Prop :=
  ∃ fv, w.cell? ⟨g, o, none⟩ = some (.int .i64 x.kind) ∧ w.cell? ⟨g, o + 1, none⟩ = some (.int .i64 x.i) ∧ w.cell? ⟨g, o + 2, none⟩ = some (.int .u8 (x.a.toNat : Int)) ∧ w.cell? ⟨g, o + 3, none⟩ = some (.int .u8 (x.b.toNat : Int)) ∧
    w.cell? ⟨g, o + 4, none⟩ = some fv ∧ ArgFates w0 w fv x.fates ∧ (-9223372036854775808 ≤ x.i ∧ x.i ≤ 9223372036854775807) ∧ ∃ a c, fv = .slice a x.fates.length c
def Acts (w0 w : World) (v : Value) (L : List ActV) : Prop :=
  (L = [] ∧ ∃ a c, v = .slice a 0 c) ∨ ∃ g o c, v = .slice (some ⟨g, o, none⟩) L.length c ∧ ∀ j x, L[j]? = some x → ActAt w0 w g (o + j * 5) x
theorem ActAt.later {w0 w : World} {g o : Nat} {x : ActV} (h : ActAt w0 w0 g o x) (hb : Below w0.heap.size w0 w) : ActAt w0 w g o x := by
  obtain ⟨fv, h0, h1, h2, h3, h4, h5, h6⟩ := h
  have key : ∀ {k v}, w0.cell? ⟨g, k, none⟩ = some v → w.cell? ⟨g, k, none⟩ = some v := fun {k v} hc => by
    rw [hb.cell (World.block_lt_of_cell? w0 _ hc)]
    exact hc
  exact ⟨fv, key h0, key h1, key h2, key h3, key h4, h5.later hb, h6⟩
theorem Acts.later {w0 w : World} {v : Value} {L : List ActV} (h : Acts w0 w0 v L) (hb : Below w0.heap.size w0 w) : Acts w0 w v L := by
  rcases h with h | ⟨g, o, c, hv, hc⟩
  · exact .inl h
  · exact .inr ⟨g, o, c, hv, fun j x hj => (hc j x hj).later hb⟩
theorem cellsOf_act : Try.prog.cellsOf 51 = 5 := by kernel_rfl
theorem cell_add {a : Addr} {w : World} {k : Nat} {b off : Nat} (h : a = ⟨b, off, none⟩) : w.cell? (a.add k) = w.cell? ⟨b, off + k, none⟩ := by rw [h, Addr.add_mid]
set_option maxRecDepth 100000 in
theorem open_acts {H : Type} {enc : TypeId × Value → H} {W : World} {b0 : Nat} {v : Value} {d : DataW H} {p : List MemPlace} (hv : Value.okWide Try.prog W .any b0 45 v)
    (h : DataW.Trod enc Try.prog W 0 (fun _ => true) true 45 v d p) : ∃ L a c, Acts W W v L ∧ L.length ≤ 9223372036854775807 ∧ v = .slice a L.length c := by
  obtain ⟨a0, len, cap, rfl⟩ := okWide_slice Try.underlying45 hv
  obtain ⟨fuel, hf⟩ := h
  have hst : ∃ fs, Try.prog.underlying 51 = some (.struct fs) ∧ oneCellFields Try.prog fs = true ∧ fs.size = 5 ∧ fs.toList.map (·.type) = [3, 3, 5, 5, 35] :=
    ⟨_, Try.underlying51, by kernel_rfl, by kernel_rfl, by kernel_rfl⟩
  obtain ⟨fs, hu, hone, hsz, hty⟩ := hst
  have hfs : ∀ (j : Nat) (t : TypeId), [3, 3, 5, 5, 35][j]? = some t → ∃ f, fs[j]? = some f ∧ f.type = t := by
    intro j t hj
    rw [← hty, List.getElem?_map] at hj
    obtain ⟨f, hf1, hf2⟩ := Option.map_eq_some_iff.1 hj
    exact ⟨f, by simpa using hf1, hf2⟩
  rcases open_slice_fields Try.underlying45 hu hone (by rw [hsz]; exact cellsOf_act) hf with hcs | ⟨a, len', cap', m, hcs, hl, hm, hmm, hi⟩
  · have e : (Value.slice a0 len cap) = .slice none 0 0 := by simpa [Value.cells] using hcs
    cases e
    exact ⟨[], none, 0, .inl ⟨rfl, none, 0, rfl⟩, Nat.zero_le _, rfl⟩
  · have e : (Value.slice a0 len cap) = .slice (some a) len' cap' := by simpa [Value.cells] using hcs
    cases e
    have hmc : m = cap := by simpa using hmm
    by_cases h0 : len = 0
    · exact ⟨[], some a, cap, .inl ⟨rfl, some a, cap, by rw [h0]⟩, Nat.zero_le _, by rw [h0]; rfl⟩
    · have hone1 : ∀ i, i < len → ∃ x : ActV, ∀ b off, a = ⟨b, off, none⟩ → ActAt W W b (off + i * 5) x := by
        intro i hil
        obtain ⟨n, hfi⟩ := hi i (by omega)
        obtain ⟨f0, e0, t0⟩ := hfs 0 _ rfl
        obtain ⟨f1, e1, t1⟩ := hfs 1 _ rfl
        obtain ⟨f2, e2, t2⟩ := hfs 2 _ rfl
        obtain ⟨f3, e3, t3⟩ := hfs 3 _ rfl
        obtain ⟨f4, e4, t4⟩ := hfs 4 _ rfl
        obtain ⟨v0, y0, c0, r0⟩ := hfi 0 f0 e0
        obtain ⟨v1, y1, c1, r1⟩ := hfi 1 f1 e1
        obtain ⟨v2, y2, c2, r2⟩ := hfi 2 f2 e2
        obtain ⟨v3, y3, c3, r3⟩ := hfi 3 f3 e3
        obtain ⟨v4, y4, c4, r4⟩ := hfi 4 f4 e4
        rw [t0] at r0
        rw [t1] at r1
        rw [t2] at r2
        rw [t3] at r3
        rw [t4] at r4
        obtain ⟨k0, q0, _, _⟩ := DataW.trod_int Try.underlying3 r0
        obtain ⟨k1, q1, _, wf1⟩ := DataW.trod_int Try.underlying3 r1
        obtain ⟨k2, q2, _, wf2⟩ := DataW.trod_int Try.underlying5 r2
        obtain ⟨k3, q3, _, wf3⟩ := DataW.trod_int Try.underlying5 r3
        obtain ⟨b2, rfl⟩ := byte_of wf2
        obtain ⟨b3, rfl⟩ := byte_of wf3
        obtain ⟨L, hL, hLl, hLg, hLs⟩ := open_fates_cell r4
        simp only [List.cons.injEq, and_true] at q0 q1 q2 q3
        subst q0 q1 q2 q3
        rw [hsz] at c0 c1 c2 c3 c4
        refine ⟨⟨k0, k1, b2, b3, L⟩, fun b off hab => ⟨v4, ?_, ?_, ?_, ?_, ?_, ⟨hL, hLg, hLl⟩, bounds_i64 wf1, hLs⟩⟩
        · rw [cell_add hab] at c0; exact c0
        · rw [cell_add hab, ← Nat.add_assoc] at c1; exact c1
        · rw [cell_add hab, ← Nat.add_assoc] at c2; exact c2
        · rw [cell_add hab, ← Nat.add_assoc] at c3; exact c3
        · rw [cell_add hab, ← Nat.add_assoc] at c4; exact c4
      have hspot : ∃ b off, a = ⟨b, off, none⟩ := by
        obtain ⟨n, hfi⟩ := hi 0 (by omega)
        obtain ⟨f0, e0, _⟩ := hfs 0 _ rfl
        obtain ⟨v0, y0, c0, _⟩ := hfi 0 f0 e0
        have : a.add (0 * fs.size + 0) = a := by simp [Addr.add]
        rw [this] at c0
        obtain ⟨b, off, spot⟩ := a
        have hs := World.cell?_spot c0
        exact ⟨b, off, by simp only at hs; rw [hs]⟩
      obtain ⟨b, off, hab⟩ := hspot
      have hex : ∀ n, n ≤ len → ∃ L : List ActV, L.length = n ∧ ∀ j x, L[j]? = some x → ActAt W W b (off + j * 5) x := by
        intro n
        induction n with
        | zero => intro _; exact ⟨[], rfl, fun j x hj => by simp at hj⟩
        | succ n ih =>
          intro hn
          obtain ⟨L, hL, hc⟩ := ih (by omega)
          obtain ⟨x, hx⟩ := hone1 n (by omega)
          refine ⟨L ++ [x], by simp [hL], fun j y hj => ?_⟩
          by_cases hjn : j < n
          · rw [List.getElem?_append_left (by omega)] at hj
            exact hc j y hj
          · have hj2 : j < (L ++ [x]).length := (List.getElem?_eq_some_iff.1 hj).1
            have hjj : j = n := by simp [hL] at hj2; omega
            subst hjj
            rw [List.getElem?_append_right (by omega), hL, Nat.sub_self] at hj
            cases hj
            exact hx b off hab
      obtain ⟨L, hL, hc⟩ := hex len (Nat.le_refl _)
      refine ⟨L, some a, cap, .inr ⟨b, off, cap, by rw [hL, hab], hc⟩, ?_, by rw [hL]⟩
      rw [hL]
      unfold maxLen at hm
      omega
end Go.Proofs.Ythkjodlddhdeiaa.disk
