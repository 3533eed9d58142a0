/- The reference's Crash. -/
import Derived.Test.YthkjodlddhdeiaaRefFlush
namespace Go.Proofs.Ythkjodlddhdeiaa.disk
open Go.ChangeShapes Go.WideShapes Go.ChangeAt Go.RowKit
open Ythkjodlddhdeiaa.base

theorem cat_texts (a b : List UInt8) (ha : a.length = 512) (hb : b.length = 512) : txt (a.take 256 ++ b.drop 256) = .string ((ByteArray.mk a.toArray).extract 0 256 ++ (ByteArray.mk b.toArray).extract 256 512) := by
  unfold txt
  congr 1
  apply ba_ext
  simp [ByteArray.data_append, ByteArray.data_extract]
  rw [List.take_of_length_le (by rw [List.length_drop]; omega)]
set_option maxRecDepth 100000 in
set_option maxHeartbeats 3200000 in
theorem rcrash_walk {w : World} {base r b : Nat} {D : Dk} {z : Int} (h : RAt w base r b D z) (fv : Value) (L : List Int) (hfv : Ints w fv L) (hlow : ∀ g o n c, fv = .slice (some ⟨g, o, none⟩) n c → 0 < n → g < base) (hL : L.length ≤ 9223372036854775807) (hWl : D.W.length ≤ 100000) :
    Calls Try.prog 67 #[pd r, fv] w fun e w' => e = .returned (.tuple #[]) ∧ RTo w base r (crashD D L) w' := by
  obtain ⟨fa, m, fcap, hfm, rfl⟩ : ∃ fa m fcap, m = L.length ∧ fv = .slice fa m fcap := by
    rcases hfv with ⟨rfl, a', c, rfl⟩ | ⟨g, o, c, rfl, _⟩
    · exact ⟨a', 0, c, rfl, rfl⟩
    · exact ⟨_, _, c, rfl, rfl⟩
  have hfate : ∀ k (hk : k < L.length), ∃ g o, fa = some ⟨g, o, none⟩ ∧ g < base ∧ w.cell? ⟨g, o + k, none⟩ = some (.int .i64 L[k]) := by
    intro k hk
    rcases hfv with ⟨rfl, _⟩ | ⟨g, o, c, hv, hc⟩
    · simp at hk
    · cases hv
      exact ⟨g, o, rfl, hlow g o _ _ rfl (by omega), hc k _ (List.getElem?_eq_getElem hk)⟩
  have HS := Ythkjodlddhdeiaa.base.Shut.mk (And.intro h (And.intro h.wf hfate))
  have HM := Ythkjodlddhdeiaa.base.Shut.mk hfm
  have hm63 : m ≤ 9223372036854775807 := by rw [hfm]; exact hL
  obtain ⟨n, hn⟩ : ∃ n, n = D.W.length := ⟨_, rfl⟩
  have HN := Ythkjodlddhdeiaa.base.Shut.mk hn
  have hn1 : n ≤ 100000 := by rw [hn]; exact hWl
  clear h hfate hfv hlow hL hWl hfm hn
  go_enter Try.func67, Try.ntmps67
  go_wp2
  go_loopw [4] (fun i wr => ∃ k : Nat, k ≤ n ∧ i = .int .i64 k ∧ Ythkjodlddhdeiaa.base.Shut (RAt wr base r b { D with F := crashF D.F (D.W.take k) L } z ∧ OnlyT base rT w wr)) (fun i _ => n - (intOf i).toNat)
  case atStart => exact ⟨0, Nat.zero_le _, rfl, ⟨by simpa [crashF] using ⟨HS.out.1, OnlyT.refl base rT w⟩⟩⟩
  case round =>
    obtain ⟨k, hk, rfl, HR⟩ := hrel
    obtain ⟨cb, lv, x0, -⟩ := HR.out.1.cells
    obtain ⟨a, cap, x1, hcap, hWc⟩ := HR.out.1.loose
    simp only at x0 x1 hcap hWc
    rw [← HN.out] at x1 hcap
    by_cases hlt : k < n
    · have hltW : k < D.W.length := by rw [← HN.out]; exact hlt
      obtain ⟨g, rfl, y1, y2⟩ := hWc k hltW
      have hp := HS.out.2.1.W D.W[k] (List.getElem_mem hltW)
      have hin : (D.W[k].1 : Int) < (D.n : Int) := by omega
      obtain ⟨sp1, sp2⟩ := HR.out.1.spot D.W[k].1 hp.1
      change wr.cell? ⟨b, D.W[k].1, none⟩ = some (.string ⟨(blk (crashF D.F (D.W.take k) L) D.W[k].1).toArray⟩) at sp1
      obtain ⟨F1, hF1⟩ : ∃ F1, F1 = crashF D.F (D.W.take k) L := ⟨_, rfl⟩
      have hlaid := fun (l : List UInt8) (hl : l.length = 512) => HR.out.1.drew.laid D.W[k].1 hp.1 l hl
      have hbl : (blk F1 D.W[k].1).length = 512 := by rw [hF1]; exact blk_len HR.out.1.wf.F hp.1
      simp only at hlaid
      rw [← hF1] at sp1 hlaid
      by_cases hkm : k < m
      · have hkL : k < L.length := by rw [← HM.out]; exact hkm
        obtain ⟨fg, fo, rfl, hfg, hfc⟩ := HS.out.2.2 k hkL
        have hfc' : wr.cell? ⟨fg, fo + k, none⟩ = some (.int .i64 L[k]) := by
          rw [World.cell?_of_block (w := w) (HR.out.2.block fg (World.block_lt_of_cell? w _ hfc) (.inl hfg))]
          exact hfc
        have hnext : crashF D.F (D.W.take (k + 1)) L = setBlk F1 D.W[k].1 (torn (blk F1 D.W[k].1) D.W[k].2 L[k]) := by rw [crashF_snoc _ _ _ _ hltW hkL, ← hF1]; rfl
        have HX := Ythkjodlddhdeiaa.base.Shut.mk (And.intro hnext (And.intro hlaid (And.intro HR.out.1.drew HR.out.2.drew)))
        have hlen1 : (blk F1 D.W[k].1).length = 512 := hbl
        have hlen2 : D.W[k].2.length = 512 := hp.2
        have hset : setBlk F1 D.W[k].1 (blk F1 D.W[k].1) = F1 := by rw [hF1]; exact setBlk_blk HR.out.1.wf.F hp.1
        rw [hF1] at hset
        have HE := Ythkjodlddhdeiaa.base.Shut.mk hset
        rw [← hF1] at HE
        clear hnext hlaid HR hWc hp hcap hfg hfc hbl hset
        have HF1 := Ythkjodlddhdeiaa.base.Shut.mk hF1
        clear hF1
        generalize blk F1 D.W[k].1 = cur at *
        generalize D.W[k].1 = ix at *
        generalize D.W[k].2 = tx at *
        generalize L[k] = ft at *
        by_cases f1 : ft = 1
        · subst f1
          have ht : torn cur tx 1 = tx := rfl
          have HN2 := Ythkjodlddhdeiaa.base.Shut.mk (show RAt (wr.drew.setCell ⟨b, ix, none⟩ (.string ⟨tx.toArray⟩)) base r b { D with F := crashF D.F (D.W.take (k + 1)) L } z ∧ OnlyT base rT w (wr.drew.setCell ⟨b, ix, none⟩ (.string ⟨tx.toArray⟩)) from by
            have := HX.out.2.1 tx hlen2
            rw [HX.out.1, ht]
            exact ⟨this.1, HX.out.2.2.2.trans this.2⟩)
          clear ht HE
          go_wp2
          go_big_region
          go_wp2
          go_roundw
          case rel => exact ⟨k + 1, by omega, by go_num, HN2⟩
          case measure => simp [intOf]; omega
        · by_cases f2 : ft = 2
          · subst f2
            have ht : torn cur tx 2 = tx.take 256 ++ cur.drop 256 := rfl
            have HN2 := Ythkjodlddhdeiaa.base.Shut.mk (show ∀ v, v = txt (tx.take 256 ++ cur.drop 256) → RAt (wr.drew.setCell ⟨b, ix, none⟩ v).drew base r b { D with F := crashF D.F (D.W.take (k + 1)) L } z ∧ OnlyT base rT w (wr.drew.setCell ⟨b, ix, none⟩ v).drew from by
              rintro v rfl
              have := HX.out.2.1 (tx.take 256 ++ cur.drop 256) (by rw [List.length_append, List.length_take, List.length_drop]; omega)
              rw [HX.out.1, ht]
              exact ⟨this.1.drew, (HX.out.2.2.2.trans this.2).drew⟩)
            clear ht HE
            go_wp2
            go_big_region
            go_wp2
            go_big_region
            go_wp2
            go_roundw
            case rel => exact ⟨k + 1, by omega, by go_num, ⟨HN2.out _ (cat_texts tx cur hlen2 hlen1).symm⟩⟩
            case measure => simp [intOf]; omega
          · have HR2 := Ythkjodlddhdeiaa.base.Shut.mk (fun (h3 : ft ≠ 3) => (show RAt wr.drew base r b { D with F := crashF D.F (D.W.take (k + 1)) L } z ∧ OnlyT base rT w wr.drew from by
              have ht : torn cur tx ft = cur := by unfold torn; rw [if_neg f1, if_neg f2, if_neg h3]
              rw [HX.out.1, ht, HE.out, HF1.out]
              exact HX.out.2.2))
            by_cases f3 : ft = 3
            · subst f3
              have ht : torn cur tx 3 = cur.take 256 ++ tx.drop 256 := rfl
              have HN2 := Ythkjodlddhdeiaa.base.Shut.mk (show ∀ v, v = txt (cur.take 256 ++ tx.drop 256) → RAt (wr.drew.setCell ⟨b, ix, none⟩ v).drew base r b { D with F := crashF D.F (D.W.take (k + 1)) L } z ∧ OnlyT base rT w (wr.drew.setCell ⟨b, ix, none⟩ v).drew from by
                rintro v rfl
                have := HX.out.2.1 (cur.take 256 ++ tx.drop 256) (by rw [List.length_append, List.length_take, List.length_drop]; omega)
                rw [HX.out.1, ht]
                exact ⟨this.1.drew, (HX.out.2.2.2.trans this.2).drew⟩)
              clear ht HE HR2
              go_wp2
              go_big_region
              go_wp2
              go_big_region
              go_wp2
              go_roundw
              case rel => exact ⟨k + 1, by omega, by go_num, ⟨HN2.out _ (cat_texts cur tx hlen1 hlen2).symm⟩⟩
              case measure => simp [intOf]; omega
            · have HN2 := Ythkjodlddhdeiaa.base.Shut.mk (HR2.out f3)
              clear HE HR2
              go_wp2
              go_big_region
              go_wp2
              go_roundw
              case rel => exact ⟨k + 1, by omega, by go_num, HN2⟩
              case measure => simp [intOf]; omega
      · have hpast : crashF D.F (D.W.take (k + 1)) L = crashF D.F (D.W.take k) L := crashF_past _ _ _ _ (by have := HM.out; omega)
        have HN2 := Ythkjodlddhdeiaa.base.Shut.mk (show RAt wr.drew base r b { D with F := crashF D.F (D.W.take (k + 1)) L } z ∧ OnlyT base rT w wr.drew from by rw [hpast]; exact ⟨HR.out.1.drew, HR.out.2.drew⟩)
        clear hlaid HR hWc hp hcap hbl hpast hF1
        generalize D.W[k].1 = ix at *
        generalize D.W[k].2 = tx at *
        go_wp2
        go_big_region
        go_wp2
        go_roundw
        case rel => exact ⟨k + 1, by omega, by go_num, HN2⟩
        case measure => simp [intOf]; omega
    · obtain rfl : k = n := by omega
      have hfr := HR.out.1.cells.choose_spec.choose_spec.2.2.2.2.1
      have x2 := HR.out.1.cells.choose_spec.choose_spec.2.2.1
      have x3 := HR.out.1.cells.choose_spec.choose_spec.2.2.2.1
      have e1 : crashF D.F (D.W.take k) L = crashF D.F D.W L := by rw [List.take_of_length_le (by rw [HN.out]; exact Nat.le_refl _)]
      have hw := HR.out.1.wf
      rw [e1] at hw
      have h1 := HR.out.1.loosed (.slice none 0 0) [] (crashF D.F D.W L) hw.F (fun p hp => by cases hp) (World.ownsRow_nil _ _ _ _)
      rw [e1] at h1
      have h2 := h1.went false
      have h3 := h2.fused (-1) (-1) rfl (by decide) (by decide)
      have HN2 := Ythkjodlddhdeiaa.base.Shut.mk (And.intro h3 (((HR.out.2.trans (HR.out.1.store 1 (.slice none 0 0))).trans (h1.store 3 (.bool false))).trans (h2.store 2 (.int .i64 (-1)))))
      have f1 := hfr 1
      have f2 := hfr 2
      have f3 := hfr 3
      clear hfr h1 h2 h3 hw e1 HR hWc hcap
      simp only at x2 x3
      go_wp2
      go_end0
      exact ⟨rfl, ⟨_, _, HN2.out.1⟩, HN2.out.2⟩
end Go.Proofs.Ythkjodlddhdeiaa.disk
