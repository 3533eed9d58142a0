/- How a node is read out of an argument. -/
import Derived.Test.YtobdfocfkomagaaNodeWalk
import Derived.Lib.SmallJoins
import Derived.Deep.Slices
import Derived.Deep.Fields
import Derived.ChangeSame
namespace Go.Proofs.Ytobdfocfkomagaa.node
open Go.ChangeShapes Go.WideShapes Go.ChangeAt Go.RowKit Go.Deep
open Ytobdfocfkomagaa.base (size_mk chain newer drewn same ba_ext)

section
variable {H : Type} {enc : TypeId × Value → H} {P : Program} {w : World} {base : Nat} {spare : Nat → Bool} {held : Bool}
theorem open_slice_fields {t e : TypeId} {fs : Array Field} {fuel : Nat} {cs : List Value} {x : DataW H × List MemPlace} (ht : P.underlying t = some (.slice e)) (he : P.underlying e = some (.struct fs))
    (hone : oneCellFields P fs = true) (hC : P.cellsOf e = fs.size) (h : DataW.trod enc P w base spare held fuel t cs = some x) :
    (cs = [.slice none 0 0]) ∨
    ∃ (a : Addr) (len cap m : Nat), cs = [.slice (some a) len cap] ∧ len ≤ cap ∧ cap ≤ maxLen ∧ m = (if spare a.block then cap else len) ∧
      ∀ i, i < m → ∃ (n : Nat),
        ∀ (j : Nat) (f : Field), fs[j]? = some f → ∃ (v : Value) (y : DataW H × List MemPlace), w.cell? (a.add (i * fs.size + j)) = some v ∧ DataW.trod enc P w base spare held n f.type [v] = some y := by
  rcases open_slice ht h with h0 | ⟨a, len, cap, m, n, D, Pl, hcs, hb, hl, hm, hmm, hx, hi⟩
  · exact .inl h0.1
  · refine .inr ⟨a, len, cap, m, hcs, hl, hm, hmm, fun i him => ?_⟩
    obtain ⟨cs', hc, ht'⟩ := hi i him
    rw [hC] at hc
    obtain ⟨ys, n', hn', hy, hlen, hyl, hf⟩ := DataW.trod_struct he ht'
    obtain ⟨_, hcl, hat⟩ := World.cells?_some hc
    refine ⟨n', fun j f hj => ?_⟩
    obtain ⟨ho, hk⟩ := hone_of hone j f hj
    have hjl : j < fs.size := (Array.getElem?_eq_some_iff.1 hj).1
    have hcell := hat j hjl
    have hv : cs'[j]? = some (cs'[j]'(by omega)) := List.getElem?_eq_getElem (by omega)
    have h1 := hf j f hj
    rw [ho, hk] at h1
    have hone' : (cs'.drop j).take 1 = [cs'[j]'(by omega)] := by
      rw [List.drop_eq_getElem_cons (by omega)]
      rfl
    rw [hone'] at h1
    have hys : ys[j]? = some (ys[j]'(by omega)) := List.getElem?_eq_getElem (by omega)
    refine ⟨_, _, ?_, h1.trans hys⟩
    rw [← Go.Deep.add_add, hcell, hv]
end
theorem cell_add {a : Addr} {w : World} {k : Nat} {b off : Nat} (h : a = ⟨b, off, none⟩) : w.cell? (a.add k) = w.cell? ⟨b, off + k, none⟩ := by rw [h, Addr.add_mid]
theorem cellsOf_pair : Try.prog.cellsOf 60 = 2 := by kernel_rfl
set_option maxRecDepth 100000 in
theorem open_node_cap {H : Type} {enc : TypeId × Value → H} {W : World} {b0 : Nat} {v : Value} {d : DataW H} {p : List MemPlace} (hv : Value.okWide Try.prog W .any b0 49 v)
    (h : DataW.Trod enc Try.prog W 0 (fun _ => true) true 49 v d p) : ∃ leaf A n c ps, v = nv leaf A n c ∧ ps.length = n ∧ PReads W A ps ∧ n ≤ c ∧ c ≤ maxLen := by
  have hst : ∃ f0 f1, Try.prog.underlying 49 = some (.struct #[f0, f1]) ∧ oneCellFields Try.prog #[f0, f1] = true ∧ f0.type = 4 ∧ f1.type = 47 :=
    ⟨_, _, Try.underlying49, by kernel_rfl, rfl, rfl⟩
  obtain ⟨f0, f1, hu, hone, t0, t1⟩ := hst
  obtain ⟨v0, v1, y0, y1, m, rfl, _, _, r0, r1⟩ := Go.Joins.open_agg2 hu hone (by kernel_rfl) hv h
  rw [t0] at r0
  rw [t1] at r1
  obtain ⟨leaf, q0, _⟩ := DataW.trod_bool Try.underlying4 r0
  obtain rfl : v0 = .bool leaf := by simpa using q0
  have hpt : ∃ fs, Try.prog.underlying 60 = some (.struct fs) ∧ oneCellFields Try.prog fs = true ∧ fs.size = 2 ∧ fs.toList.map (·.type) = [9, 9] :=
    ⟨_, Try.underlying60, by kernel_rfl, by kernel_rfl, by kernel_rfl⟩
  obtain ⟨fs, hup, hop, hsz, hty⟩ := hpt
  have hfs : ∀ (j : Nat) (t : TypeId), [9, 9][j]? = some t → ∃ f, fs[j]? = some f ∧ f.type = t := by
    intro j t hj
    rw [← hty, List.getElem?_map] at hj
    obtain ⟨f, hf1, hf2⟩ := Option.map_eq_some_iff.1 hj
    exact ⟨f, by simpa using hf1, hf2⟩
  rcases open_slice_fields Try.underlying47 hup hop (by rw [hsz]; exact cellsOf_pair) r1 with hcs | ⟨a, len, cap, mm, hcs, hl, hm, hmm, hi⟩
  · obtain rfl : v1 = .slice none 0 0 := by simpa using hcs
    exact ⟨leaf, none, 0, 0, [], rfl, rfl, fun h => absurd rfl h, Nat.le_refl _, by decide⟩
  · obtain rfl : v1 = .slice (some a) len cap := by simpa using hcs
    have hmc : mm = cap := by simpa using hmm
    by_cases h0 : len = 0
    · subst h0
      exact ⟨leaf, some a, 0, cap, [], rfl, rfl, fun h => absurd rfl h, hl, hm⟩
    · have hone1 : ∀ i, i < len → ∃ x : Pair, ∀ b off, a = ⟨b, off, none⟩ → W.cell? ⟨b, off + i * 2, none⟩ = some (.string x.1) ∧ W.cell? ⟨b, off + i * 2 + 1, none⟩ = some (.string x.2) := by
        intro i hil
        obtain ⟨nf, hfi⟩ := hi i (by omega)
        obtain ⟨g0, e0, s0⟩ := hfs 0 _ rfl
        obtain ⟨g1, e1, s1⟩ := hfs 1 _ rfl
        obtain ⟨u0, z0, c0, d0⟩ := hfi 0 g0 e0
        obtain ⟨u1, z1, c1, d1⟩ := hfi 1 g1 e1
        rw [s0] at d0
        rw [s1] at d1
        obtain ⟨k0, k0e, _, _⟩ := DataW.trod_string Try.underlying9 d0
        obtain ⟨k1, k1e, _, _⟩ := DataW.trod_string Try.underlying9 d1
        simp only [List.cons.injEq, and_true] at k0e k1e
        subst k0e k1e
        rw [hsz] at c0 c1
        refine ⟨(k0, k1), fun b off hab => ⟨?_, ?_⟩⟩
        · rw [cell_add hab] at c0; exact c0
        · rw [cell_add hab, ← Nat.add_assoc] at c1; exact c1
      have hspot : ∃ b off, a = ⟨b, off, none⟩ ∧ b < W.heap.size := by
        obtain ⟨nf, hfi⟩ := hi 0 (by omega)
        obtain ⟨g0, e0, _⟩ := hfs 0 _ rfl
        obtain ⟨u0, z0, c0, _⟩ := hfi 0 g0 e0
        have : a.add (0 * fs.size + 0) = a := by simp [Addr.add]
        rw [this] at c0
        have hlt := World.block_lt_of_cell? W _ c0
        obtain ⟨b, off, spot⟩ := a
        have hs := World.cell?_spot c0
        exact ⟨b, off, by simp only at hs; rw [hs], hlt⟩
      obtain ⟨b, off, hab, hblt⟩ := hspot
      have hex : ∀ n, n ≤ len → ∃ L : PL, L.length = n ∧ ∀ j x, L[j]? = some x → W.cell? ⟨b, off + j * 2, none⟩ = some (.string x.1) ∧ W.cell? ⟨b, off + j * 2 + 1, none⟩ = some (.string x.2) := by
        intro n
        induction n with
        | zero => intro _; exact ⟨[], rfl, fun j x hj => by simp at hj⟩
        | succ n ih =>
          intro hn
          obtain ⟨L, hL, hc⟩ := ih (by omega)
          obtain ⟨x, hx⟩ := hone1 n (by omega)
          refine ⟨L ++ [x], by simp [hL], fun j y hj => ?_⟩
          by_cases hjn : j < n
          · rw [List.getElem?_append_left (by omega)] at hj
            exact hc j y hj
          · have hj2 : j < (L ++ [x]).length := (List.getElem?_eq_some_iff.1 hj).1
            have hjj : j = n := by simp [hL] at hj2; omega
            subst hjj
            rw [List.getElem?_append_right (by omega), hL, Nat.sub_self] at hj
            cases hj
            exact hx b off hab
      obtain ⟨L, hL, hc⟩ := hex len (Nat.le_refl _)
      exact ⟨leaf, some a, len, cap, L, rfl, hL, fun _ => ⟨b, off, by rw [hab], hblt, hc⟩, hl, hm⟩
set_option maxRecDepth 100000 in
theorem open_node {H : Type} {enc : TypeId × Value → H} {W : World} {b0 : Nat} {v : Value} {d : DataW H} {p : List MemPlace} (hv : Value.okWide Try.prog W .any b0 49 v)
    (h : DataW.Trod enc Try.prog W 0 (fun _ => true) true 49 v d p) : ∃ leaf A n c ps, v = nv leaf A n c ∧ ps.length = n ∧ PReads W A ps := by
  match open_node_cap hv h with
  | ⟨leaf, A, n, c, ps, h1, h2, h3, _⟩ => exact ⟨leaf, A, n, c, ps, h1, h2, h3⟩
end Go.Proofs.Ytobdfocfkomagaa.node
