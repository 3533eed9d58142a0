/- The walk of Parts of a right node with one pair. -/
import Derived.Test.YtobdfocfkomagaaNodeParts1
import Derived.LoopN
namespace Go.Proofs.Ytobdfocfkomagaa.node
open Go.ChangeShapes Go.WideShapes Go.ChangeAt Go.RowKit
open Ytobdfocfkomagaa.base (size_mk chain newer drewn same ba_ext)

set_option maxRecDepth 100000 in
set_option maxHeartbeats 400000 in
theorem even_one (a : Option Addr) (c : Nat) (w : World) : Calls Try.prog 65 #[.slice a 1 c] w fun e w' => e = .returned (.slice a 1 c) ∧ w = w' := by
  go_enter Try.func65, Try.ntmps65
  go_wp2
  go_ret
  exact ⟨rfl, rfl⟩
/-- a node appended to nothing -/
theorem append_node (w : World) (q : Nat) (C : List Value) (hC : C.length = 2) (h1 : ∀ u ∈ C, u.oneCell' = true) (hnew : ∀ j u, C[j]? = some u → w.cell? ((⟨q, 0, none⟩ : Addr).add j) = some u) :
    ∃ g6 cap6 w6, (Builtin.append_ #[51, 51] 51 #[.slice none 0 0, .slice (some ⟨q, 0, none⟩) 1 1]).run Try.prog w = .ok (.slice (some ⟨g6, 0, none⟩) 1 cap6) w6 ∧
      w6.ownsRow w.heap.size 49 2 (.slice (some ⟨g6, 0, none⟩) 1 cap6) 1 C ∧ Below w.heap.size w w6 := by
  obtain ⟨i, z, hi, hz, hs, hb, hc⟩ := node_info
  obtain ⟨v', w6, hrun, hown, hgrow, hnn⟩ := run_append_own (P := Try.prog) (w := w) w.heap.size 51 51 49 i z 2 32 Try.underlying51 hi hz hs hb hc (by decide) (.slice none 0 0) 0 [] (World.ownsRow_nil _ _ _ _) ⟨q, 0, none⟩ 1 1 C (by rw [hC]) hnew h1 (by decide) (by decide) (Nat.le_refl _)
  rw [Nat.zero_add, List.nil_append] at hown
  have hb1 : Below w.heap.size w w6 := (same w).grown hgrow (Nat.le_refl _) (fun k hk => by cases hk)
  obtain ⟨_, ⟨_, h0⟩ | ⟨g6, cap6, cur, rfl, r⟩⟩ := hown
  · omega
  · exact ⟨g6, cap6, w6, hrun, ⟨by rw [hC], .inr ⟨g6, cap6, cur, rfl, r⟩⟩, hb1⟩
def shutB (ats : Array TypeId) (ty : TypeId) (args : Array Value) : Sem Value := Builtin.append_ ats ty args
theorem b_shut (ats : Array TypeId) (ty : TypeId) (args : Array Value) : Builtin.append_ ats ty args = shutB ats ty args := rfl
attribute [local go_sem ↓] b_shut
set_option maxRecDepth 100000 in
set_option maxHeartbeats 1600000 in
theorem parts_one (leaf : Bool) (b off c : Nat) (x : Pair) (hs : Nice [x]) (hrt : rightN ⟨leaf, [x]⟩ = true) (hw : wideP x ≤ 470) (w : World) (hr : PReads w (some ⟨b, off, none⟩) [x]) :
    Calls Try.prog 27 #[nv leaf (some ⟨b, off, none⟩) 1 c] w fun e w' => (∃ a cap, e = .returned (.slice a 1 cap)) ∧ Below w.heap.size w w' := by
  have hb := newer (same w) (.cells #[.bool leaf, .slice (some ⟨b, off, none⟩) 1 c] 49)
  have hx := Row.new w #[.bool leaf, .slice (some ⟨b, off, none⟩) 1 c] 49
  obtain ⟨q, hq⟩ : ∃ q, w.heap.size = q := ⟨_, rfl⟩
  obtain ⟨V, hV⟩ : ∃ V, w.alloc (.cells #[.bool leaf, .slice (some ⟨b, off, none⟩) 1 c] 49) = V := ⟨_, rfl⟩
  rw [hV, hq] at hx
  rw [hV] at hb
  have x0 : V.cell? ⟨q, 0, none⟩ = some (.bool leaf) := hx.cell 0
  have x1 : V.cell? ⟨q, 1, none⟩ = some (.slice (some ⟨b, off, none⟩) 1 c) := hx.cell 1
  have hrV := hr.keep hb
  have h1 := right_walk leaf (some ⟨b, off, none⟩) 1 c [x] rfl hs V hrV
  rw [hrt] at h1
  have h2 := fun u : World => head_walk leaf (some ⟨b, off, none⟩) 1 c 1 (by decide) u
  have h2l : (headL leaf 1).length = 2 := rfl
  have h3 : ∀ u : World, Calls Try.prog 63 #[.agg #[.string x.1, .string x.2]] u fun e w' => e = .returned (.int .i64 (wideP x : Int)) ∧ Below u.heap.size u w' := fun u => wide_walk x (hs.sizes 0) u
  have h4 := fun (u : World) (hu : Below V.heap.size V u) => clone_walk u b off 1 c [x] rfl (Nat.le_refl _) (by decide) (hrV.keep hu)
  have h5 := fun (u : World) (hu : Below V.heap.size V u) => (hrV.keep hu).at_ (k := 0) Nat.zero_lt_one
  have H := Ytobdfocfkomagaa.base.Shut.mk (And.intro h1 (And.intro h2 (And.intro h2l (And.intro h3 (And.intro h4 (And.intro h5 (And.intro hb hx)))))))
  clear h1 h2 h2l h3 h4 h5 hb hx hr hrV hs hrt
  generalize wideP x = wd at H hw
  go_enter Try.func27, Try.ntmps27
  go_wp2_with fail
  refine H.out.1.mono ?_
  rintro e w1 ⟨rfl, hb1⟩
  have y0 : w1.cell? ⟨q, 0, none⟩ = some (.bool leaf) := (H.out.2.2.2.2.2.2.2.below hb1).cell 0
  have y1 : w1.cell? ⟨q, 1, none⟩ = some (.slice (some ⟨b, off, none⟩) 1 c) := (H.out.2.2.2.2.2.2.2.below hb1).cell 1
  have H1 := Ytobdfocfkomagaa.base.Shut.mk hb1
  clear hb1 x0 x1
  go_wp2_with fail
  refine (H.out.2.1 _).mono ?_
  rintro e w2 ⟨s, rfl, hs1, hb2⟩
  have hsz : s.size = 2 := by rw [hs1, size_mk, H.out.2.2.1]
  have z0 : w2.cell? ⟨q, 0, none⟩ = some (.bool leaf) := ((H.out.2.2.2.2.2.2.2.below H1.out).below hb2).cell 0
  have z1 : w2.cell? ⟨q, 1, none⟩ = some (.slice (some ⟨b, off, none⟩) 1 c) := ((H.out.2.2.2.2.2.2.2.below H1.out).below hb2).cell 1
  have H2 := Ytobdfocfkomagaa.base.Shut.mk (chain H1.out hb2)
  obtain ⟨b', off', hA, c0, c1, -⟩ := H.out.2.2.2.2.2.1 w2 H2.out
  cases hA
  change w2.cell? ⟨b, off + 0 * 2, none⟩ = some (.string x.1) at c0
  change w2.cell? ⟨b, off + 0 * 2 + 1, none⟩ = some (.string x.2) at c1
  rw [Nat.zero_mul, Nat.add_zero] at c0 c1
  have hwd : ¬ (478 : Int) < wd := by omega
  clear hb2 hs1 y0 y1
  go_wp2
  refine wp_loop_rounds 2 ?_
  rw [rounds_succ]
  go_wp2_with fail
  refine (H.out.2.2.2.1 _).mono ?_
  rintro e w3 ⟨rfl, hb3⟩
  have hbx := (Row.new w2 #[.string x.1, .string x.2] 60).below hb3
  obtain ⟨bx, hbx2⟩ : ∃ bx, w2.heap.size = bx := ⟨_, rfl⟩
  rw [hbx2] at hbx
  have u0 : w3.cell? ⟨bx, 0, none⟩ = some (.string x.1) := hbx.cell 0
  have u1 : w3.cell? ⟨bx, 1, none⟩ = some (.string x.2) := hbx.cell 1
  have H3 := Ytobdfocfkomagaa.base.Shut.mk (chain H2.out (chain (newer (same w2) _) hb3))
  clear hb3 hbx c0 c1 z0 z1
  go_wp2_with fail
  refine (H.out.2.2.2.1 _).mono ?_
  rintro e w4 ⟨rfl, hb4⟩
  have hB4 := chain (chain H3.out hb4) (drewn (same w4))
  have z0 : w4.cell? ⟨q, 0, none⟩ = some (.bool leaf) := (H.out.2.2.2.2.2.2.2.below (chain H3.out hb4)).cell 0
  have z1 : w4.cell? ⟨q, 1, none⟩ = some (.slice (some ⟨b, off, none⟩) 1 c) := (H.out.2.2.2.2.2.2.2.below (chain H3.out hb4)).cell 1
  have hcl := H.out.2.2.2.2.1 w4.drew hB4
  have hq4 := H.out.2.2.2.2.2.2.2.below hB4
  have hapq : ∀ (u : World) (g6 cap6 : Nat), Below w4.drew.heap.size w4.drew u → ∃ g7 cap7 w7, (shutB #[51, 51] 51 #[.slice none 0 0, .slice (some ⟨u.heap.size, 0, none⟩) 1 1]).run Try.prog (u.alloc (.cells #[.bool leaf, .slice (some ⟨g6, 0, none⟩) 1 cap6] 49)) = .ok (.slice (some ⟨g7, 0, none⟩) 1 cap7) w7 ∧ Below w4.drew.heap.size w4.drew w7 := fun u g6 cap6 hu => by
    obtain ⟨g7, cap7, w7, hrun, _, hb7⟩ := append_node (u.alloc (.cells #[.bool leaf, .slice (some ⟨g6, 0, none⟩) 1 cap6] 49)) u.heap.size [.bool leaf, .slice (some ⟨g6, 0, none⟩) 1 cap6] rfl (by intro v hv; simp at hv; rcases hv with rfl | rfl <;> rfl)
      (World.news_of_block (cs := #[.bool leaf, .slice (some ⟨g6, 0, none⟩) 1 cap6]) (t := 49) (fr := (0, 0)) (heap_alloc_new u _))
    exact ⟨g7, cap7, w7, hrun, chain (chain hu (newer (same u) _)) hb7⟩
  have H4 := Ytobdfocfkomagaa.base.Shut.mk (And.intro hcl (And.intro hapq (And.intro hB4 hq4)))
  clear hb4 hB4 hcl hapq hq4 u0 u1
  go_wp2
  rw [rounds_succ]
  go_wp2
  go_region_held3 (fun w' => w'.cell? ⟨q, 0, none⟩ = some (.bool leaf) ∧ w'.cell? ⟨q, 1, none⟩ = some (.slice (some ⟨b, off, none⟩) 1 c))
    (first | exact two_keep ‹_› ‹_› | assumption | go_keep)
    (first | (go_at_call 64; (with_reducible refine Calls.mono H4.out.1 ?_); rintro e w5 ⟨g6, cap6, rfl, hown5, hb5⟩; obtain ⟨g7, cap7, w7, hrun7, hb7⟩ := H4.out.2.1 w5 g6 cap6 hb5; have hk7 := two_keep (Ytobdfocfkomagaa.base.Shut.mk hb7) (u := w4.drew) ⟨H4.out.2.2.2.cell 0, H4.out.2.2.2.cell 1⟩; have H5 := Ytobdfocfkomagaa.base.Shut.mk hb5; have H7 := Ytobdfocfkomagaa.base.Shut.mk hb7; clear hb5 hown5 hb7))
  go_wp2_with fail
  refine (even_one _ _ _).mono ?_
  rintro e w8 ⟨rfl, rfl⟩
  go_wp2
  go_ret
  exact ⟨⟨_, _, rfl⟩, chain H.out.2.2.2.2.2.2.1 (chain H4.out.2.2.1 H7.out)⟩
end Go.Proofs.Ytobdfocfkomagaa.node
