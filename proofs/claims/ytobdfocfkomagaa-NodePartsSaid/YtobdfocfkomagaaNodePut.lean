/- The walk of Put. -/
import Derived.Test.YtobdfocfkomagaaNodeCheck
import Derived.Test.YtobdfocfkomagaaOctTxt
import Derived.Test.YtobdfocfkomagaaRowB
import Derived.Test.YtobdfocfkomagaaBytesOwn
namespace Go.Proofs.Ytobdfocfkomagaa.node
open Go.ChangeShapes Go.WideShapes Go.ChangeAt Go.RowKit
open Ytobdfocfkomagaa.base (size_mk chain newer drewn same ba_ext bytesOf bytesOf_one RowB over over_len min_take)
open Ytobdfocfkomagaa.oct (num num_len num_pos text)

theorem over_end (P s : List UInt8) (m : Nat) (h : s.length ≤ m) : over (P ++ List.replicate m 0) P.length s = P ++ s ++ List.replicate (m - s.length) 0 := by
  unfold over
  rw [List.take_left, List.drop_append, List.drop_of_length_le (by omega), List.nil_append, show P.length + s.length - P.length = s.length by omega, List.drop_replicate]
/-- copy(dst, s), s a text: what has room goes over; the world written out -/
theorem run_copy_set (w : World) (base g o dLen dCap : Nat) (s : ByteArray) (t : TypeId) (L : List UInt8) (hR : RowB w base g t L) (hfit : o + dLen ≤ L.length) :
    (Builtin.copy_ #[105, 9] 3 #[.slice (some ⟨g, o, none⟩) dLen dCap, .string s]).run Try.prog w = .ok (goInt (Nat.min s.size dLen)) (w.setRow g (bytesOf (over L o (s.data.toList.take dLen))).toArray) := by
  have hlen : (bytesOf (s.data.toList.take dLen)).length = Nat.min s.size dLen := by unfold bytesOf; rw [List.length_map, min_take]
  have hm : Nat.min s.size dLen ≤ dLen := Nat.min_le_right _ _
  have hLl : (bytesOf L).length = L.length := by simp [bytesOf]
  have hst := run_storeCells_at Try.prog g o t (bytesOf (s.data.toList.take dLen)) 0 (bytesOf L).toArray w hR.row (by rw [hlen]; simp [hLl]; omega) (bytesOf_one _)
  have htk : List.take (Nat.min s.size dLen) (List.map (fun b : UInt8 => Value.int IntKind.u8 (b.toNat : Int)) s.data.toList) = bytesOf (s.data.toList.take dLen) := by
    unfold bytesOf
    rw [← List.map_take]
    congr 1
    have hsl : s.data.toList.length = s.size := by simp
    by_cases h : s.size ≤ dLen
    · rw [show Nat.min s.size dLen = s.size from Nat.min_eq_left h, List.take_of_length_le (by omega), List.take_of_length_le (by omega)]
    · rw [show Nat.min s.size dLen = dLen from Nat.min_eq_right (by omega)]
  rw [hlen] at hst
  simp only [Nat.add_zero] at hst
  have hsame : ((bytesOf L).toArray.toList.take o ++ bytesOf (s.data.toList.take dLen) ++ (bytesOf L).toArray.toList.drop (o + Nat.min s.size dLen)) = bytesOf (over L o (s.data.toList.take dLen)) := by
    unfold over bytesOf
    rw [min_take]
    simp [List.map_take, List.map_drop]
  obtain ⟨i, hi, hz0, hz1, hz2⟩ := info_parts oct.info_u8
  simp [Builtin.copy_, run_underlying Try.underlying105, Builtin.lenOf, Builtin.firstCells, sizeOf, typeInfo, hi, hz1]
  rw [htk, hst, hsame]
  simp [Result.andThen]
/-- the page under way: k pairs, and zeros -/
def pageTo (n : Nd) (k : Nat) : List UInt8 := textTo n k ++ List.replicate (480 - sizeTo n k) 0
theorem pageTo_len (n : Nd) (k : Nat) (h : sizeTo n k ≤ 480) : (pageTo n k).length = 480 := by unfold pageTo; rw [List.length_append, textTo_len, List.length_replicate]; omega
theorem page_key (n : Nd) (k : Nat) (x : Pair) (h : sizeTo n k + wideP x ≤ 480) :
    over (over (pageTo n k) (sizeTo n k) (text x.1.data.toList)) (sizeTo n k + (text x.1.data.toList).length) (text x.2.data.toList) = textTo n k ++ pairL x ++ List.replicate (480 - (sizeTo n k + wideP x)) 0 := by
  have hl := pair_len x
  unfold pairL at hl ⊢
  rw [List.length_append] at hl
  have e1 : over (pageTo n k) (sizeTo n k) (text x.1.data.toList) = (textTo n k ++ text x.1.data.toList) ++ List.replicate (480 - sizeTo n k - (text x.1.data.toList).length) 0 := by
    unfold pageTo
    rw [← textTo_len, over_end _ _ _ (by rw [textTo_len]; omega)]
  have e2 : sizeTo n k + (text x.1.data.toList).length = (textTo n k ++ text x.1.data.toList).length := by rw [List.length_append, textTo_len]
  rw [e1, e2, over_end _ _ _ (by omega), List.append_assoc (textTo n k)]
  congr 2
  omega
theorem page_next (n : Nd) {k : Nat} {x : Pair} (hx : n.l[k]? = some x) (h : sizeTo n k + wideP x ≤ 480) :
    over (over (pageTo n k) (sizeTo n k) (text x.1.data.toList)) (sizeTo n k + (text x.1.data.toList).length) (text x.2.data.toList) = pageTo n (k + 1) := by
  rw [page_key n k x h]
  unfold pageTo
  rw [textTo_snoc n hx, sizeTo_snoc n hx]
/-- an array of 480 bytes in block g, and the blocks that lie behind it -/
theorem row_set {w : World} {base g : Nat} {t : TypeId} {L L' : List UInt8} (h : RowB w base g t L) : RowB (w.setRow g (bytesOf L').toArray) base g t L' := ⟨h.low, setRow_heap w g _ _ t _ h.row⟩
theorem set_cell {w : World} {g q i : Nat} {row : Array Value} (hne : q ≠ g) : (w.setRow g row).cell? ⟨q, i, none⟩ = w.cell? ⟨q, i, none⟩ := World.cell?_of_block (w := w) (setRow_other _ _ _ _ hne)
theorem made_bytes (m : Nat) : madeCells (Value.int .u8 0).cells m = (bytesOf (List.replicate m 0)).toArray := by
  apply Array.ext
  · simp [madeCells, bytesOf]
  · intro j h1 h2
    simp [madeCells, bytesOf, Value.cells, Nat.mod_one]
theorem run_mk480 (u : World) : (Instr.makeSlice 105 (.int .i64 480) (.int .i64 480)).run Try.prog u = .ok (.slice (some ⟨u.heap.size, 0, none⟩) 480 480) (u.alloc (.cells (bytesOf (List.replicate 480 0)).toArray 5)) := by
  obtain ⟨i, hi, hz, hs, hb⟩ := info_parts oct.info_u8
  have hr := run_make (P := Try.prog) u 105 5 i _ Try.underlying105 hi hz .i64 .i64 480 480 (by decide) (Int.le_refl _) (by rw [hb]; decide) (by decide)
  simp only [hs] at hr
  rw [show (480 : Int).toNat * 1 = 480 from rfl, made_bytes 480] at hr
  exact hr
def shutMk (a b : Value) : Sem Value := Instr.makeSlice 105 a b
theorem mk_shut (a b : Value) : Instr.makeSlice 105 a b = shutMk a b := rfl
def shutCp (ats : Array TypeId) (ty : TypeId) (args : Array Value) : Sem Value := Builtin.copy_ ats ty args
theorem cp_shut (ats : Array TypeId) (ty : TypeId) (args : Array Value) : Builtin.copy_ ats ty args = shutCp ats ty args := rfl
def shutCv (v : Value) : Sem Value := convert 105 9 v
theorem cv_shut (v : Value) : convert 105 9 v = shutCv v := rfl
attribute [local go_sem ↓] mk_shut cp_shut cv_shut
/-- a text laid into the page -/
theorem copy_at (w : World) (base g a c : Nat) (T : List UInt8) (t : TypeId) (L : List UInt8) (hR : RowB w base g t L) (hL : L.length = 480) (ha : a + T.length ≤ 480) :
    (shutCp #[105, 9] 3 #[.slice (some ⟨g, a, none⟩) (480 - a) c, .string ⟨T.toArray⟩]).run Try.prog w = .ok (goInt (T.length : Nat)) (w.setRow g (bytesOf (over L a T)).toArray) := by
  have h := run_copy_set w base g a (480 - a) c ⟨T.toArray⟩ t L hR (by omega)
  have e1 : (ByteArray.mk T.toArray).data.toList.take (480 - a) = T := by rw [show (ByteArray.mk T.toArray).data.toList = T by simp]; exact List.take_of_length_le (by omega)
  rw [e1, size_mk, show Nat.min T.length (480 - a) = T.length from Nat.min_eq_left (by omega)] at h
  exact h
theorem set_two {w : World} {g q i j : Nat} {row : Array Value} {a b : Value} (hne : q ≠ g) (h : w.cell? ⟨q, i, none⟩ = some a ∧ w.cell? ⟨q, j, none⟩ = some b) : (w.setRow g row).cell? ⟨q, i, none⟩ = some a ∧ (w.setRow g row).cell? ⟨q, j, none⟩ = some b := by
  rw [set_cell hne, set_cell hne]; exact h
/-- how it stands between two pairs -/
structure PutAt (w wr : World) (q g : Nat) (leaf : Bool) (A : Option Addr) (n c : Nat) (ps : PL) (k : Nat) : Prop where
  row : RowB wr w.heap.size g 5 (pageTo ⟨leaf, ps⟩ k)
  below : Below w.heap.size w wr
  box : Row wr q #[.bool leaf, .slice A n c] 49
set_option maxRecDepth 100000 in
set_option maxHeartbeats 1600000 in
theorem put_walk (leaf : Bool) (A : Option Addr) (n c : Nat) (ps : PL) (hn : ps.length = n) (hs : Nice ps) (w : World) (hr : PReads w A ps) :
    Calls Try.prog 34 #[nv leaf A n c] w fun e w' => e = .returned (.tuple #[.string ⟨(putN ⟨leaf, ps⟩).1.toArray⟩, .int .i64 (putN ⟨leaf, ps⟩).2]) ∧ Below w.heap.size w w' := by
  have hb := newer (same w) (.cells #[.bool leaf, .slice A n c] 49)
  have hx := Row.new w #[.bool leaf, .slice A n c] 49
  obtain ⟨q, hq⟩ : ∃ q, w.heap.size = q := ⟨_, rfl⟩
  obtain ⟨V, hV⟩ : ∃ V, w.alloc (.cells #[.bool leaf, .slice A n c] 49) = V := ⟨_, rfl⟩
  rw [hV, hq] at hx
  rw [hV] at hb
  have x0 : V.cell? ⟨q, 0, none⟩ = some (.bool leaf) := hx.cell 0
  have x1 : V.cell? ⟨q, 1, none⟩ = some (.slice A n c) := hx.cell 1
  have hck := check_walk leaf A n c ps hn hs V (hr.keep hb)
  have hn2 : n ≤ 1000 := by rw [← hn]; exact hs.len
  by_cases h0 : checkN ⟨leaf, ps⟩ = 0
  · obtain ⟨hp, hsz, hrt⟩ := put_ok h0
    rw [h0] at hck
    have hfin : textTo ⟨leaf, ps⟩ n = textN ⟨leaf, ps⟩ ∧ sizeTo ⟨leaf, ps⟩ n = sizeN ⟨leaf, ps⟩ := by rw [← hn]; exact ⟨textTo_all _, sizeTo_all _⟩
    have hend : pageTo ⟨leaf, ps⟩ n = (putN ⟨leaf, ps⟩).1 := by rw [hp]; unfold pageTo; rw [hfin.1, hfin.2]
    have hle := sizeTo_le ⟨leaf, ps⟩
    have hz0 := sizeTo_zero ⟨leaf, ps⟩
    have ht0 := textTo_zero ⟨leaf, ps⟩
    simp only [hn] at hz0 ht0
    have HP := Ytobdfocfkomagaa.base.Shut.mk (And.intro hp (And.intro hsz (And.intro hend (And.intro hle (And.intro hz0 (And.intro ht0 (And.intro hn hs)))))))
    have H := Ytobdfocfkomagaa.base.Shut.mk (And.intro hck (And.intro hb (And.intro hx hr)))
    clear hp hsz hend hle hz0 ht0 hn hs hck hb hx hr h0 hrt hfin
    go_enter Try.func34, Try.ntmps34
    go_wp2_with fail
    refine H.out.1.mono ?_
    rintro e w1 ⟨rfl, hb1⟩
    have hqg : q < w1.heap.size := Nat.lt_of_lt_of_le H.out.2.2.1.lt hb1.size
    have hmk := run_mk480 w1
    have hrow : RowB (w1.alloc (.cells (bytesOf (List.replicate 480 0)).toArray 5)) w.heap.size w1.heap.size 5 (List.replicate 480 0) := ⟨Nat.le_trans H.out.2.1.size hb1.size, heap_alloc_new _ _⟩
    have hbx := (H.out.2.2.1.below hb1).below (newer (same w1) (.cells (bytesOf (List.replicate 480 0)).toArray 5))
    have hbb := newer (chain H.out.2.1 hb1) (.cells (bytesOf (List.replicate 480 0)).toArray 5)
    have y0 := hbx.cell 0
    have y1 := hbx.cell 1
    have hhd := fun u : World => head_walk leaf A n c n hn2 u
    have H1 := Ytobdfocfkomagaa.base.Shut.mk (And.intro hrow (And.intro hbx (And.intro hbb hhd)))
    rw [mk_shut] at hmk
    clear hrow hbx hbb hb1 hhd
    generalize (bytesOf (List.replicate 480 0)).toArray = Z0 at hmk y0 y1 H1
    go_wp2_with fail
    refine (H1.out.2.2.2 _).mono ?_
    rintro e w2 ⟨s, rfl, hs1, hb2⟩
    obtain ⟨g, hg⟩ : ∃ g, w1.heap.size = g := ⟨_, rfl⟩
    rw [hg] at H1
    have hrow2 := H1.out.1.below hb2
    have hbx2 := H1.out.2.1.below hb2
    have hbb2 := chain H1.out.2.2.1 hb2
    rw [hg] at hqg
    have hssz : s.size = sizeTo ⟨leaf, ps⟩ 0 := by rw [hs1, size_mk, HP.out.2.2.2.2.1]
    have hsl : s.data.toList = textTo ⟨leaf, ps⟩ 0 := by rw [hs1, HP.out.2.2.2.2.2.1]
    have h480 : sizeTo ⟨leaf, ps⟩ 0 ≤ 480 := Nat.le_trans (HP.out.2.2.2.1 0) HP.out.2.1
    have hcp := run_copy_set w2 w.heap.size g 0 480 480 s 5 (List.replicate 480 0) hrow2 (by rw [List.length_replicate]; exact Nat.le_refl _)
    have hov : over (List.replicate 480 0) 0 (s.data.toList.take 480) = pageTo ⟨leaf, ps⟩ 0 := by
      rw [hsl, List.take_of_length_le (by rw [textTo_len]; exact h480)]
      have := over_end [] (textTo ⟨leaf, ps⟩ 0) 480 (by rw [textTo_len]; exact h480)
      rw [List.nil_append, List.nil_append, textTo_len] at this
      exact this
    rw [hov, show Nat.min s.size 480 = sizeTo ⟨leaf, ps⟩ 0 by rw [hssz]; exact Nat.min_eq_left h480] at hcp
    have hPA := Ytobdfocfkomagaa.base.Shut.mk (show PutAt w (w2.setRow g (bytesOf (pageTo ⟨leaf, ps⟩ 0)).toArray) q g leaf A n c ps 0 from ⟨row_set hrow2, below_setRow hbb2 hrow2.low _, (setRow_other _ _ _ _ (by omega)).trans hbx2⟩)
    rw [cp_shut] at hcp
    obtain ⟨W4, hW4⟩ : ∃ W4, w2.setRow g (bytesOf (pageTo ⟨leaf, ps⟩ 0)).toArray = W4 := ⟨_, rfl⟩
    rw [hW4] at hcp hPA
    have z1 : W4.cell? ⟨q, 1, none⟩ = some (.slice A n c) := hPA.out.box.cell 1
    clear hrow2 hbx2 hbb2 hb2 hs1 hsl hov hssz h480 H1 hmk y0 y1 x0 x1 hW4
    go_wp2
    go_loopw [6, 25] (fun t i wr => ∃ k : Nat, k ≤ n ∧ i = .int .i64 k ∧ t = .int .i64 (sizeTo ⟨leaf, ps⟩ k : Int) ∧ Ytobdfocfkomagaa.base.Shut (PutAt w wr q g leaf A n c ps k)) (fun _ i _ => n - (intOf i).toNat)
    case atStart => exact ⟨0, Nat.zero_le _, rfl, rfl, hPA⟩
    case round =>
      obtain ⟨k, hk, rfl, rfl, HR⟩ := hrel
      by_cases hlt : k < n
      · have hlt' : (k : Int) < n := by omega
        have hkp : k < ps.length := by rw [HP.out.2.2.2.2.2.2.1]; exact hlt
        obtain ⟨b, off, rfl, c0, c1, -⟩ := (H.out.2.2.2.keep HR.out.below).at_ hkp
        have hx := List.getElem?_eq_getElem hkp
        rw [← at0_get hx] at hx
        have hsn := sizeTo_snoc ⟨leaf, ps⟩ hx
        have hfit : sizeTo ⟨leaf, ps⟩ k + wideP (at0 ps k) ≤ 480 := by rw [← hsn]; exact Nat.le_trans (HP.out.2.2.2.1 (k + 1)) HP.out.2.1
        have hnext := page_next ⟨leaf, ps⟩ hx hfit
        have hpl := pair_len (at0 ps k)
        unfold pairL at hpl
        rw [List.length_append] at hpl
        have hsz := HP.out.2.2.2.2.2.2.2.sizes k
        have ht1 := fun u : World => oct.text_walk (at0 ps k).1 (by omega) u
        have ht2 := fun u : World => oct.text_walk (at0 ps k).2 (by omega) u
        have hP0 := pageTo_len ⟨leaf, ps⟩ k (by omega)
        have hp2 : 1 ≤ (text (at0 ps k).2.data.toList).length := by unfold text; rw [List.length_append]; have := num_pos ((at0 ps k).2.data.toList.length : Int); omega
        have HK := Ytobdfocfkomagaa.base.Shut.mk (And.intro hnext (And.intro hsn (And.intro hpl (And.intro hP0 HR.out))))
        clear hnext hsn hpl hx hP0 HR
        generalize hT1 : text (at0 ps k).1.data.toList = T1 at HK ht1
        generalize hT2 : text (at0 ps k).2.data.toList = T2 at HK ht2 hp2
        have hl12 : sizeTo ⟨leaf, ps⟩ k + T1.length + T2.length ≤ 480 := by have := HK.out.2.2.1; omega
        clear hT1 hT2 hfit hsz
        generalize wideP (at0 ps k) = wd at HK
        generalize (at0 ps k).1 = kx at c0 ht1
        generalize (at0 ps k).2 = vx at c1 ht2
        have hsk : sizeTo ⟨leaf, ps⟩ (k + 1) = sizeTo ⟨leaf, ps⟩ k + T1.length + T2.length := by have := HK.out.2.1; have := HK.out.2.2.1; omega
        have HSK := Ytobdfocfkomagaa.base.Shut.mk hsk
        clear hsk
        generalize hza : sizeTo ⟨leaf, ps⟩ k = za at HK hl12 HSK ⊢
        clear hza
        obtain ⟨bx, hbx⟩ : ∃ bx, wr.heap.size = bx := ⟨_, rfl⟩
        obtain ⟨U, hU⟩ : ∃ U, wr.alloc (.cells #[.string kx, .string vx] 60) = U := ⟨_, rfl⟩
        have hUB : Below wr.heap.size wr U := by rw [← hU]; exact newer (same wr) _
        have hUX : Row U bx #[.string kx, .string vx] 60 := by rw [← hU, ← hbx]; exact Row.new _ _ _
        have hbg : bx ≠ g := by have := HK.out.2.2.2.2.row.lt; omega
        have u0 : U.cell? ⟨bx, 0, none⟩ = some (.string kx) := hUX.cell 0
        have u1 : U.cell? ⟨bx, 1, none⟩ = some (.string vx) := hUX.cell 1
        have hRU := (HK.out.2.2.2.2.row.below hUB).below (drewn (same U))
        have hBU := chain (chain HK.out.2.2.2.2.below hUB) (drewn (same U))
        have hQU := (HK.out.2.2.2.2.box.below hUB).below (drewn (same U))
        have HU := Ytobdfocfkomagaa.base.Shut.mk (And.intro hRU (And.intro hBU (And.intro hQU (And.intro ht1 (And.intro ht2 hbg)))))
        have hza : (za : Int) ≤ 480 := by omega
        have hne1 : ¬ 480 = za := by omega
        obtain ⟨zb, hzb⟩ : ∃ zb, zb = za + T1.length := ⟨_, rfl⟩
        have hne2 : ¬ 480 = zb := by omega
        have hzb2 : (zb : Int) ≤ 480 := by omega
        have hzi : IntKind.i64.wrap ((za : Int) + (T1.length : Int)) = (zb : Int) := by rw [w64 _ (by omega) (by omega)]; omega
        have hzj : (za : Int) + (T1.length : Int) = (zb : Int) := by omega
        have hwz : IntKind.i64.wrap (zb : Int) = (zb : Int) := w64 _ (by omega) (by omega)
        have HZB := Ytobdfocfkomagaa.base.Shut.mk hzb
        clear hzb
        clear hUB hUX hRU hBU hQU ht1 ht2 hbg
        have hf1 : ∀ u, Below U.drew.heap.size U.drew u → (shutCp #[105, 9] 3 #[.slice (some ⟨g, za, none⟩) (480 - za) (480 - za), .string ⟨T1.toArray⟩]).run Try.prog u = .ok (goInt (T1.length : Nat)) (u.setRow g (bytesOf (over (pageTo ⟨leaf, ps⟩ k) za T1)).toArray) ∧
            ((u.setRow g (bytesOf (over (pageTo ⟨leaf, ps⟩ k) za T1)).toArray).cell? ⟨bx, 0, none⟩ = some (.string kx) ∧ (u.setRow g (bytesOf (over (pageTo ⟨leaf, ps⟩ k) za T1)).toArray).cell? ⟨bx, 1, none⟩ = some (.string vx)) := fun u hu =>
          ⟨copy_at u w.heap.size g za (480 - za) T1 5 _ (HU.out.1.below hu) HK.out.2.2.2.1 (by omega), set_two HU.out.2.2.2.2.2 (two_keep (u := U.drew) (Ytobdfocfkomagaa.base.Shut.mk hu) ⟨u0, u1⟩)⟩
        have HF1 := Ytobdfocfkomagaa.base.Shut.mk hf1
        clear hf1
        go_wp2
        go_region_held3 (fun w' => w'.cell? ⟨bx, 0, none⟩ = some (.string kx) ∧ w'.cell? ⟨bx, 1, none⟩ = some (.string vx))
          (first | exact two_keep ‹_› ‹_› | assumption | go_keep)
          (first | (go_at_call 70; (with_reducible refine Calls.mono (HU.out.2.2.2.1 _) ?_); rintro e w3 ⟨rfl, hb3⟩; have hcp1 := (HF1.out w3 hb3).1; have hk3 := (HF1.out w3 hb3).2; have H3 := Ytobdfocfkomagaa.base.Shut.mk hb3; clear hb3))
        go_wp2
        obtain ⟨W5, hW5⟩ : ∃ W5, w3.setRow g (bytesOf (over (pageTo ⟨leaf, ps⟩ k) za T1)).toArray = W5 := ⟨_, rfl⟩
        rw [hW5] at hk3 hcp1 ⊢
        have hR5 : RowB W5 w.heap.size g 5 (over (pageTo ⟨leaf, ps⟩ k) za T1) := by rw [← hW5]; exact row_set (HU.out.1.below H3.out)
        have hB5 : Below w.heap.size w W5 := by rw [← hW5]; exact below_setRow (chain HU.out.2.1 H3.out) hR5.low _
        have hQ5 : Row W5 q #[.bool leaf, .slice (some ⟨b, off, none⟩) n c] 49 := by rw [← hW5]; exact (setRow_other _ _ _ _ (by omega)).trans (HU.out.2.2.1.below H3.out)
        have hL5 : (over (pageTo ⟨leaf, ps⟩ k) za T1).length = 480 := by rw [over_len _ _ _ (by rw [HK.out.2.2.2.1]; omega)]; exact HK.out.2.2.2.1
        have hf2 : ∀ u, Below W5.drew.heap.size W5.drew u → (shutCp #[105, 9] 3 #[.slice (some ⟨g, zb, none⟩) (480 - zb) (480 - zb), .string ⟨T2.toArray⟩]).run Try.prog u = .ok (goInt (T2.length : Nat)) (u.setRow g (bytesOf (pageTo ⟨leaf, ps⟩ (k + 1))).toArray) ∧
            ((u.setRow g (bytesOf (pageTo ⟨leaf, ps⟩ (k + 1))).toArray).cell? ⟨bx, 0, none⟩ = some (.string kx) ∧ (u.setRow g (bytesOf (pageTo ⟨leaf, ps⟩ (k + 1))).toArray).cell? ⟨bx, 1, none⟩ = some (.string vx)) ∧ PutAt w (u.setRow g (bytesOf (pageTo ⟨leaf, ps⟩ (k + 1))).toArray) q g leaf (some ⟨b, off, none⟩) n c ps (k + 1) := fun u hu => by
          have hRu := (hR5.below (drewn (same W5))).below hu
          refine ⟨?_, set_two HU.out.2.2.2.2.2 (two_keep (u := W5.drew) (Ytobdfocfkomagaa.base.Shut.mk hu) hk3), row_set hRu, below_setRow (chain (chain hB5 (drewn (same W5))) hu) hRu.low _, (setRow_other _ _ _ _ (by omega)).trans ((hQ5.below (drewn (same W5))).below hu)⟩
          have := copy_at u w.heap.size g zb (480 - zb) T2 5 _ hRu hL5 (by have := HZB.out; omega)
          rw [HZB.out, HK.out.1, ← HZB.out] at this
          exact this
        have HF2 := Ytobdfocfkomagaa.base.Shut.mk hf2
        have z0 := hk3.1
        have z1 := hk3.2
        clear hf2 hR5 hB5 hQ5 hL5 hW5 hcp1 hk3 u0 u1 hne1 hza c0 c1
        go_region_held3 (fun w' => w'.cell? ⟨bx, 0, none⟩ = some (.string kx) ∧ w'.cell? ⟨bx, 1, none⟩ = some (.string vx))
          (first | exact two_keep ‹_› ‹_› | assumption | exact ⟨z0, z1⟩ | go_keep)
          (first | (go_at_call 70; (with_reducible refine Calls.mono (HU.out.2.2.2.2.1 _) ?_); rintro e w6 ⟨rfl, hb6⟩; have hcp2 := (HF2.out w6 hb6).1; have hk6 := (HF2.out w6 hb6).2.1; have H6 := Ytobdfocfkomagaa.base.Shut.mk (HF2.out w6 hb6).2.2; have H7 := Ytobdfocfkomagaa.base.Shut.mk hb6; clear hb6))
        have hk1 : sizeTo ⟨leaf, ps⟩ (k + 1) = zb + T2.length := by rw [HSK.out, HZB.out]
        have hb9 : zb + T2.length ≤ 480 := by have := HZB.out; omega
        have hwk : IntKind.i64.wrap ((zb : Int) + (T2.length : Int)) = ((zb + T2.length : Nat) : Int) := by rw [w64 _ (by omega) (by omega)]; omega
        have HK1 := Ytobdfocfkomagaa.base.Shut.mk hk1
        clear hk1
        go_wp2
        go_roundw
        case rel => exact ⟨k + 1, by omega, by go_num, by rw [HK1.out]; first | rfl | go_num, H6⟩
        case measure => simp [intOf]; omega
      · obtain rfl : k = n := by omega
        have hR := HR.out.row
        rw [HP.out.2.2.1] at hR
        have hlen : (putN ⟨leaf, ps⟩).1.length = 480 := by rw [← HP.out.2.2.1, pageTo_len _ _ (Nat.le_trans (HP.out.2.2.2.1 k) HP.out.2.1)]
        have hcv := hR.text (n := 480) (cap := 480) hlen
        have HB := Ytobdfocfkomagaa.base.Shut.mk HR.out.below
        have HE := Ytobdfocfkomagaa.base.Shut.mk (show (putN ⟨leaf, ps⟩).2 = 0 by rw [HP.out.1])
        rw [cv_shut] at hcv
        clear hR hlen HR
        go_wp2
        go_ret2
        exact ⟨by rw [HE.out]; rfl, HB.out⟩
  · have HP := Ytobdfocfkomagaa.base.Shut.mk (put_bad h0)
    have hne : ¬ checkN ⟨leaf, ps⟩ = 0 := h0
    have H := Ytobdfocfkomagaa.base.Shut.mk (And.intro hck hb)
    clear hck hb hx hr h0 hs hn
    generalize checkN ⟨leaf, ps⟩ = C at H HP hne
    go_enter Try.func34, Try.ntmps34
    go_wp2_with fail
    refine H.out.1.mono ?_
    rintro e w1 ⟨rfl, hb1⟩
    have H1 := Ytobdfocfkomagaa.base.Shut.mk (chain H.out.2 hb1)
    clear hb1
    go_wp2
    go_ret2
    exact ⟨by rw [HP.out]; rfl, H1.out⟩
end Go.Proofs.Ytobdfocfkomagaa.node
