/- The walk of the reference's Right. -/
import Derived.Test.YtobdfocfkomagaaNodeCheck
namespace Go.Proofs.Ytobdfocfkomagaa.node
open Go.ChangeShapes Go.WideShapes Go.ChangeAt Go.RowKit
open Ytobdfocfkomagaa.base (size_mk chain newer drewn same ba_ext)

/-- why a pair is right, or isn't, as the reference asks -/
theorem ok_ways (leaf : Bool) (ps : PL) (k : Nat) :
    ((at0 ps k).1.size < 1 ∧ okAt ⟨leaf, ps⟩ k = false) ∨ (1 ≤ (at0 ps k).1.size ∧ 48 < (at0 ps k).1.size ∧ okAt ⟨leaf, ps⟩ k = false) ∨
    (1 ≤ (at0 ps k).1.size ∧ (at0 ps k).1.size ≤ 48 ∧ 1 ≤ k ∧ less (at0 ps (k - 1)).1 (at0 ps k).1 = false ∧ okAt ⟨leaf, ps⟩ k = false) ∨
    (1 ≤ (at0 ps k).1.size ∧ (at0 ps k).1.size ≤ 48 ∧ (k = 0 ∨ (1 ≤ k ∧ less (at0 ps (k - 1)).1 (at0 ps k).1 = true)) ∧ ((leaf = true ∧ 160 < (at0 ps k).2.size) ∨ (leaf = false ∧ (at0 ps k).2.size ≠ 4)) ∧ okAt ⟨leaf, ps⟩ k = false) ∨
    (1 ≤ (at0 ps k).1.size ∧ (at0 ps k).1.size ≤ 48 ∧ (k = 0 ∨ (1 ≤ k ∧ less (at0 ps (k - 1)).1 (at0 ps k).1 = true)) ∧ ((leaf = true ∧ (at0 ps k).2.size ≤ 160) ∨ (leaf = false ∧ (at0 ps k).2.size = 4)) ∧ okAt ⟨leaf, ps⟩ k = true) := by
  have hok : okAt ⟨leaf, ps⟩ k = (fitsP leaf (at0 ps k) && (k == 0 || less (at0 ps (k - 1)).1 (at0 ps k).1)) := rfl
  have hf : fitsP leaf (at0 ps k) = decide (1 ≤ (at0 ps k).1.size ∧ (at0 ps k).1.size ≤ 48 ∧ ((leaf = true ∧ (at0 ps k).2.size ≤ 160) ∨ (leaf = false ∧ (at0 ps k).2.size = 4))) := rfl
  rw [hok, hf]
  generalize (at0 ps k).1.size = a
  generalize (at0 ps k).2.size = b
  generalize less (at0 ps (k - 1)).1 (at0 ps k).1 = l
  by_cases h1 : a < 1
  · exact .inl ⟨h1, by rw [decide_eq_false (by omega)]; rfl⟩
  · by_cases h2 : 48 < a
    · exact .inr (.inl ⟨by omega, h2, by rw [decide_eq_false (by omega)]; rfl⟩)
    · by_cases h3 : k = 0 ∨ l = true
      · have h3' : (k == 0 || l) = true := by
          rcases h3 with h | h
          · rw [h]; rfl
          · rw [h, Bool.or_true]
        have h3'' : k = 0 ∨ (1 ≤ k ∧ l = true) := by
          by_cases h : k = 0
          · exact .inl h
          · exact .inr ⟨by omega, h3.resolve_left h⟩
        rw [h3', Bool.and_true]
        by_cases h4 : (leaf = true ∧ b ≤ 160) ∨ (leaf = false ∧ b = 4)
        · exact .inr (.inr (.inr (.inr ⟨by omega, by omega, h3'', h4, decide_eq_true ⟨by omega, by omega, h4⟩⟩)))
        · refine .inr (.inr (.inr (.inl ⟨by omega, by omega, h3'', ?_, decide_eq_false (fun h => h4 h.2.2)⟩)))
          cases leaf with
          | true => exact .inl ⟨rfl, by by_cases c : b ≤ 160; exact absurd (.inl ⟨rfl, c⟩) h4; omega⟩
          | false => exact .inr ⟨rfl, fun c => h4 (.inr ⟨rfl, c⟩)⟩
      · have hk : ¬ k = 0 := fun h => h3 (.inl h)
        have hl : l = false := by cases l with
          | true => exact absurd (.inr rfl) h3
          | false => rfl
        have hb : (k == 0) = false := beq_eq_false_iff_ne.2 hk
        exact .inr (.inr (.inl ⟨by omega, by omega, by omega, hl, by rw [hl, hb]; simp⟩))
set_option maxRecDepth 100000 in
set_option maxHeartbeats 3200000 in
theorem rright_walk (leaf : Bool) (A : Option Addr) (n c : Nat) (ps : PL) (hn : ps.length = n) (hs : Nice ps) (w : World) (hr : PReads w A ps) :
    Calls Try.prog 28 #[nv leaf A n c] w fun e w' => e = .returned (.bool (rightN ⟨leaf, ps⟩)) ∧ Below w.heap.size w w' := by
  have hb := newer (same w) (.cells #[.bool leaf, .slice A n c] 49)
  have hx := Row.new w #[.bool leaf, .slice A n c] 49
  obtain ⟨q, hq⟩ : ∃ q, w.heap.size = q := ⟨_, rfl⟩
  obtain ⟨V, hV⟩ : ∃ V, w.alloc (.cells #[.bool leaf, .slice A n c] 49) = V := ⟨_, rfl⟩
  rw [hV, hq] at hx
  rw [hV] at hb
  have hn2 : n ≤ 1000 := by rw [← hn]; exact hs.len
  have x1 : V.cell? ⟨q, 1, none⟩ = some (.slice A n c) := hx.cell 1
  have hall := @right_all ⟨leaf, ps⟩
  have hbad := fun k => @right_false ⟨leaf, ps⟩ k
  simp only [hn] at hall hbad
  have H := Ytobdfocfkomagaa.base.Shut.mk (And.intro hb (And.intro hx (And.intro (hr.keep (w' := V) (by rw [← hV]; exact newer (same w) _)) (And.intro hn (And.intro hs (And.intro hall hbad))))))
  clear hb hx hr hn hs hall hbad
  generalize rightN ⟨leaf, ps⟩ = R at H ⊢
  go_enter Try.func28, Try.ntmps28
  go_wp2
  go_loopw [3] (fun i wr => ∃ k : Nat, k ≤ n ∧ i = .int .i64 k ∧ Ytobdfocfkomagaa.base.Shut (Below V.heap.size V wr ∧ ∀ j, j < k → okAt ⟨leaf, ps⟩ j = true)) (fun i _ => n - (intOf i).toNat)
  case atStart => exact ⟨0, Nat.zero_le _, rfl, ⟨same V, fun j hj => by omega⟩⟩
  case round =>
    obtain ⟨k, hk, rfl, HR⟩ := hrel
    by_cases hlt : k < n
    · have hkn : k < ps.length := by rw [H.out.2.2.2.1]; exact hlt
      have hlt' : (k : Int) < n := by omega
      obtain ⟨b, off, rfl, c0, c1, c2⟩ := (H.out.2.2.1.keep HR.out.1).at_ hkn
      have hq0 : wr.cell? ⟨q, 0, none⟩ = some (.bool leaf) := (H.out.2.1.below HR.out.1).cell 0
      have hq1 : wr.cell? ⟨q, 1, none⟩ = some (.slice (some ⟨b, off, none⟩) n c) := (H.out.2.1.below HR.out.1).cell 1
      have hways := ok_ways leaf ps k
      have hsz := H.out.2.2.2.2.1.sizes k
      have HB := Ytobdfocfkomagaa.base.Shut.mk (fun h => H.out.2.2.2.2.2.2 k hlt h)
      have HW := HR
      clear HR
      have hls : Op.bytesLess (at0 ps (k - 1)).1.toList (at0 ps k).1.toList = less (at0 ps (k - 1)).1 (at0 ps k).1 := rfl
      obtain ⟨okk, hokk⟩ : ∃ x, x = okAt ⟨leaf, ps⟩ k := ⟨_, rfl⟩
      rw [← hokk] at hways HB
      have HO := Ytobdfocfkomagaa.base.Shut.mk hokk
      clear hokk
      generalize less (at0 ps (k - 1)).1 (at0 ps k).1 = ls at hways hls
      generalize (at0 ps (k - 1)).1 = ky at c2 hls
      generalize (at0 ps k).1 = kx at c0 hls hways hsz
      generalize (at0 ps k).2 = vx at c1 hways hsz
      obtain ⟨bx, hbx⟩ : ∃ bx, wr.heap.size = bx := ⟨_, rfl⟩
      obtain ⟨U, hU⟩ : ∃ U, wr.alloc (.cells #[.string kx, .string vx] 60) = U := ⟨_, rfl⟩
      have hUB : Below wr.heap.size wr U := by rw [← hU]; exact newer (same wr) _
      have hUX : Row U bx #[.string kx, .string vx] 60 := by rw [← hU, ← hbx]; exact Row.new _ _ _
      have HU := Ytobdfocfkomagaa.base.Shut.mk hUB
      have u0 : U.cell? ⟨bx, 0, none⟩ = some (.string kx) := hUX.cell 0
      have u1 : U.cell? ⟨bx, 1, none⟩ = some (.string vx) := hUX.cell 1
      have v0 := one_keep HU hq0
      have v1 := one_keep HU hq1
      clear hUB hUX
      rcases hways with ⟨a1, rfl⟩ | ⟨a1, a2, rfl⟩ | ⟨a1, a2, a3, rfl, rfl⟩ | ⟨a1, a2, a3, a4, rfl⟩ | ⟨a1, a2, a3, a4, rfl⟩
      · have a1' : (kx.size : Int) < 1 := by omega
        clear c2 hls
        go_wp2
        go_big_region
        go_wp2
        go_ret
        exact ⟨by rw [HB.out (by trivial)]; rfl, chain (chain H.out.1 HW.out.1) (chain HU.out (drewn (same U)))⟩
      · have a1' : ¬ (kx.size : Int) < 1 := by omega
        have a2' : (48 : Int) < kx.size := by omega
        have d1 : decide ((kx.size : Int) < 1) = false := decide_eq_false a1'
        have d2 : decide ((48 : Int) < kx.size) = true := decide_eq_true a2'
        clear a1' a2'
        clear c2 hls a1 a2
        go_wp2
        go_big_region
        go_wp2
        go_ret
        exact ⟨by rw [HB.out (by trivial)]; rfl, chain (chain H.out.1 HW.out.1) (chain HU.out (drewn (same U)))⟩
      · have a1' : ¬ (kx.size : Int) < 1 := by omega
        have a2' : ¬ (48 : Int) < kx.size := by omega
        have d1 : decide ((kx.size : Int) < 1) = false := decide_eq_false a1'
        have d2 : decide ((48 : Int) < kx.size) = false := decide_eq_false a2'
        clear a1' a2'
        clear a1 a2
        have hk0 : decide ((0 : Int) < k) = true := decide_eq_true (by omega)
        have hk2 : decide (0 < k) = true := decide_eq_true (by omega)
        have hsub : IntKind.i64.wrap ((k : Int) - 1) = ((k - 1 : Nat) : Int) := by rw [w64 _ (by omega) (by omega)]; omega
        have hin : ((k - 1 : Nat) : Int) < n := by omega
        have c2' := one_keep HU (c2 a3)
        have hgq : ∀ u : World, (binOp .geq 9 (.string ky) (.string kx)).run Try.prog u = .ok (.bool true) u := fun u => by simp [binOp, Op.stringOp, hls]
        clear c2
        go_wp2
        go_big_region
        go_wp2
        go_ret
        exact ⟨by rw [HB.out (by trivial)]; rfl, chain (chain H.out.1 HW.out.1) (chain HU.out (drewn (same U)))⟩
      · have a1' : ¬ (kx.size : Int) < 1 := by omega
        have a2' : ¬ (48 : Int) < kx.size := by omega
        have d1 : decide ((kx.size : Int) < 1) = false := decide_eq_false a1'
        have d2 : decide ((48 : Int) < kx.size) = false := decide_eq_false a2'
        clear a1' a2'
        clear a1 a2
        rcases a3 with a3 | ⟨a3, rfl⟩
        · have hkz : decide ((0 : Int) < k) = false := decide_eq_false (by omega)
          have hkz2 : decide (0 < k) = false := decide_eq_false (by omega)
          clear c2 hls a3
          rcases a4 with ⟨rfl, a4⟩ | ⟨rfl, a4⟩
          · have a4' : (160 : Int) < vx.size := by omega
            clear a4
            go_wp2
            go_big_region
            go_wp2
            go_ret
            exact ⟨by rw [HB.out (by trivial)]; rfl, chain (chain H.out.1 HW.out.1) (chain HU.out (drewn (same U)))⟩
          · have a4' : ¬ (vx.size : Int) = 4 := by omega
            clear a4
            go_wp2
            go_big_region
            go_wp2
            go_ret
            exact ⟨by rw [HB.out (by trivial)]; rfl, chain (chain H.out.1 HW.out.1) (chain HU.out (drewn (same U)))⟩
        · have hk0 : decide ((0 : Int) < k) = true := decide_eq_true (by omega)
          have hk2 : decide (0 < k) = true := decide_eq_true (by omega)
          have hsub : IntKind.i64.wrap ((k : Int) - 1) = ((k - 1 : Nat) : Int) := by rw [w64 _ (by omega) (by omega)]; omega
          have hin : ((k - 1 : Nat) : Int) < n := by omega
          have c2' := one_keep HU (c2 a3)
          have hgq : ∀ u : World, (binOp .geq 9 (.string ky) (.string kx)).run Try.prog u = .ok (.bool false) u := fun u => by simp [binOp, Op.stringOp, hls]
          clear c2
          rcases a4 with ⟨rfl, a4⟩ | ⟨rfl, a4⟩
          · have a4' : (160 : Int) < vx.size := by omega
            clear a4
            go_wp2
            go_big_region
            go_wp2
            go_ret
            exact ⟨by rw [HB.out (by trivial)]; rfl, chain (chain H.out.1 HW.out.1) (chain HU.out (drewn (same U)))⟩
          · have a4' : ¬ (vx.size : Int) = 4 := by omega
            clear a4
            go_wp2
            go_big_region
            go_wp2
            go_ret
            exact ⟨by rw [HB.out (by trivial)]; rfl, chain (chain H.out.1 HW.out.1) (chain HU.out (drewn (same U)))⟩
      · have a1' : ¬ (kx.size : Int) < 1 := by omega
        have a2' : ¬ (48 : Int) < kx.size := by omega
        have d1 : decide ((kx.size : Int) < 1) = false := decide_eq_false a1'
        have d2 : decide ((48 : Int) < kx.size) = false := decide_eq_false a2'
        clear a1' a2'
        clear a1 a2
        rcases a3 with a3 | ⟨a3, rfl⟩
        · have hkz : decide ((0 : Int) < k) = false := decide_eq_false (by omega)
          have hkz2 : decide (0 < k) = false := decide_eq_false (by omega)
          clear c2 hls a3
          rcases a4 with ⟨rfl, a4⟩ | ⟨rfl, a4⟩
          · have a4' : ¬ (160 : Int) < vx.size := by omega
            clear a4
            go_wp2
            go_big_region
            go_wp2
            go_roundw
            case rel => exact ⟨k + 1, by omega, by go_num, ⟨chain HW.out.1 (chain HU.out (drewn (same U))), fun j hj => by
              by_cases e : j = k
              · rw [e]; exact HO.out.symm
              · exact HW.out.2 j (by omega)⟩⟩
            case measure => simp [intOf]; omega
          · have a4' : (vx.size : Int) = 4 := by omega
            clear a4
            go_wp2
            go_big_region
            go_wp2
            go_roundw
            case rel => exact ⟨k + 1, by omega, by go_num, ⟨chain HW.out.1 (chain HU.out (drewn (same U))), fun j hj => by
              by_cases e : j = k
              · rw [e]; exact HO.out.symm
              · exact HW.out.2 j (by omega)⟩⟩
            case measure => simp [intOf]; omega
        · have hk0 : decide ((0 : Int) < k) = true := decide_eq_true (by omega)
          have hk2 : decide (0 < k) = true := decide_eq_true (by omega)
          have hsub : IntKind.i64.wrap ((k : Int) - 1) = ((k - 1 : Nat) : Int) := by rw [w64 _ (by omega) (by omega)]; omega
          have hin : ((k - 1 : Nat) : Int) < n := by omega
          have c2' := one_keep HU (c2 a3)
          have hgq : ∀ u : World, (binOp .geq 9 (.string ky) (.string kx)).run Try.prog u = .ok (.bool false) u := fun u => by simp [binOp, Op.stringOp, hls]
          clear c2
          rcases a4 with ⟨rfl, a4⟩ | ⟨rfl, a4⟩
          · have a4' : ¬ (160 : Int) < vx.size := by omega
            clear a4
            go_wp2
            go_big_region
            go_wp2
            go_roundw
            case rel => exact ⟨k + 1, by omega, by go_num, ⟨chain HW.out.1 (chain HU.out (drewn (same U))), fun j hj => by
              by_cases e : j = k
              · rw [e]; exact HO.out.symm
              · exact HW.out.2 j (by omega)⟩⟩
            case measure => simp [intOf]; omega
          · have a4' : (vx.size : Int) = 4 := by omega
            clear a4
            go_wp2
            go_big_region
            go_wp2
            go_roundw
            case rel => exact ⟨k + 1, by omega, by go_num, ⟨chain HW.out.1 (chain HU.out (drewn (same U))), fun j hj => by
              by_cases e : j = k
              · rw [e]; exact HO.out.symm
              · exact HW.out.2 j (by omega)⟩⟩
            case measure => simp [intOf]; omega
    · obtain rfl : k = n := by omega
      have HE := Ytobdfocfkomagaa.base.Shut.mk (And.intro (H.out.2.2.2.2.2.1 HR.out.2) (chain H.out.1 HR.out.1))
      have hq1 : wr.cell? ⟨q, 1, none⟩ = some (.slice A k c) := (H.out.2.1.below HR.out.1).cell 1
      clear HR
      go_wp2
      go_ret
      exact ⟨by rw [HE.out.1]; rfl, HE.out.2⟩
end Go.Proofs.Ytobdfocfkomagaa.node
