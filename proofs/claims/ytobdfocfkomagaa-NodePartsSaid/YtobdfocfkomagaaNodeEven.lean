/- The walk of node.even. -/
import Derived.Test.YtobdfocfkomagaaNodeEvenB
import Derived.Test.YtobdfocfkomagaaNodeSize
import Derived.BigRegion
namespace Go.Proofs.Ytobdfocfkomagaa.node
open Go.ChangeShapes Go.WideShapes Go.ChangeAt Go.RowKit
open Ytobdfocfkomagaa.base (size_mk chain newer drewn same ba_ext)

theorem row_at {w : World} {q : Nat} {cs : Array Value} {t : TypeId} {v : Value} (h : Row w q cs t) {j : Nat} (hj : cs[j]? = some v) : w.cell? ⟨q, j, none⟩ = some v := (h.cell j).trans hj
set_option maxRecDepth 100000 in
set_option maxHeartbeats 3200000 in
theorem even_walk (leaf : Bool) (w : World) (base o k cap ga ca gb cb : Nat) (O0 : Array Value) (pa pb : PL) (hk : 2 ≤ k) (hkc : k ≤ cap) (hk2 : k ≤ 1000) (hrow : Row w o O0 49)
    (hla : O0[(k - 2) * 2]? = some (.bool leaf)) (hlb : O0[(k - 1) * 2]? = some (.bool leaf)) (hsa : O0[(k - 2) * 2 + 1]? = some (sv ga pa.length ca)) (hsb : O0[(k - 1) * 2 + 1]? = some (sv gb pb.length cb))
    (hra : PReads w (some ⟨ga, 0, none⟩) pa) (hca : pa.length ≤ ca) (hga : ga < w.heap.size ∧ ga ≠ o ∧ ga ≠ gb) (hob : w.ownsRow base 60 2 (sv gb pb.length cb) pb.length (cellsP pb)) (hgb : gb ≠ o) (hbase : base ≤ w.heap.size)
    (hne : pa ≠ []) (hneb : pb ≠ []) (hlen : pa.length + pb.length ≤ 60) (hnice : ∀ x ∈ pa ++ pb, x.1.size ≤ 300 ∧ x.2.size ≤ 600) :
    Calls Try.prog 65 #[.slice (some ⟨o, 0, none⟩) k cap] w fun e w' => e = .returned (.slice (some ⟨o, 0, none⟩) k cap) ∧ ∃ gb' cb' pa' pb', EvenAt w w' base o ((k - 2) * 2) O0 ga ca gb gb' cb' pa pb pa' pb' ∧ (pa', pb') = evenP pa.length pa pb := by
  obtain ⟨oa, hoa⟩ : ∃ oa, (k - 2) * 2 = oa := ⟨_, rfl⟩
  have hob2 : (k - 1) * 2 = oa + 2 := by omega
  rw [hoa] at hla hsa ⊢
  rw [hob2] at hlb hsb
  have hstart : EvenAt w w base o oa O0 ga ca gb gb cb pa pb pa pb := ⟨Keep2.refl _ _ _, ⟨O0, hrow, ⟨rfl, fun _ _ _ => rfl, hsa, hsb⟩⟩, ⟨[], by simp⟩, hob, .inl rfl, rfl, rfl, hne, hneb⟩
  have hsm : ∀ (u : World) (gx nx cx : Nat) (px : PL), px.length = nx → (∀ x ∈ px, x.1.size ≤ 300 ∧ x.2.size ≤ 600) → nx ≤ 60 → PReads u (some ⟨gx, 0, none⟩) px → Calls Try.prog 36 #[.agg #[.bool leaf, sv gx nx cx]] u fun e w' => e = .returned (.int .i64 ((2 + sumW px : Nat) : Int)) ∧ Below u.heap.size u w' := by
    intro u gx nx cx px h1 h2 h3 h4
    have := size_walk leaf (some ⟨gx, 0, none⟩) nx cx px h1 ⟨by omega, fun j => by
      by_cases hj : j < px.length
      · rw [at0_get (List.getElem?_eq_getElem hj)]; have := h2 _ (List.getElem_mem hj); omega
      · unfold at0; rw [List.getD_eq_getElem?_getD, List.getElem?_eq_none (by omega)]; simp [ByteArray.size]⟩ u h4
    rw [sumW_size (by omega)] at this
    exact this
  have H := Ytobdfocfkomagaa.base.Shut.mk (And.intro hstart (And.intro hsm (And.intro hra (And.intro hga (And.intro hla (And.intro hlb (And.intro hnice (And.intro hlen (And.intro hgb (And.intro hbase (And.intro hca hrow)))))))))))
  have hkk : ¬ (k : Int) < 2 := by omega
  have hk3 : (k : Int) - 2 < k := by omega
  have hkw1 : IntKind.i64.wrap ((k : Int) - 2) = ((k - 2 : Nat) : Int) := by rw [IntKind.wrap_i64]; omega
  have hkw2 : IntKind.i64.wrap ((k : Int) - 1) = ((k - 1 : Nat) : Int) := by rw [IntKind.wrap_i64]; omega
  have hk4 : ((k - 2 : Nat) : Int) < k := by omega
  have hk5 : ((k - 1 : Nat) : Int) < k := by omega
  clear hstart hsm hra hga hla hlb hnice hlen hgb hbase hob hsa hsb hrow hne hneb hca
  go_enter Try.func65, Try.ntmps65
  go_wp2
  go_big_region
  go_wp2
  go_loopw [5] (fun _ wr => ∃ gb' cb' pa' pb', Ytobdfocfkomagaa.base.Shut (EvenAt w wr base o oa O0 ga ca gb gb' cb' pa pb pa' pb')) (fun _ wr => lenAt wr o (oa + 1))
  case atStart => exact ⟨gb, cb, pa, pb, ⟨H.out.1.move (drewn (same w))⟩⟩
  case round =>
    obtain ⟨gb', cb', pa', pb', HR⟩ := hrel
    obtain ⟨O, hO, hT⟩ := HR.out.row
    have y1 := row_at hO hT.sa
    by_cases hlt : 1 < pa'.length
    · have hlt' : (1 : Int) < pa'.length := by omega
      obtain ⟨x, hx⟩ : ∃ x, pa'.getLast? = some x := ⟨_, List.getLast?_eq_some_getLast (fun e => by rw [e] at hlt; simp at hlt)⟩
      have hsp := getLast_split hx
      obtain ⟨t, ht⟩ := HR.out.pre
      have hra := (PReads.move H.out.2.2.1 (HR.out.keep.block ga H.out.2.2.2.1.1 H.out.2.2.2.1.2.1 H.out.2.2.2.1.2.2))
      rw [ht] at hra
      have hra' := hra.pre
      have hxat : pa'[pa'.length - 1]? = some x := by rw [List.getLast?_eq_getElem?] at hx; exact hx
      obtain ⟨b9, off9, hA9, c0, c1, -⟩ := hra'.at_ (k := pa'.length - 1) (by omega)
      cases hA9
      rw [at0_get hxat, Nat.zero_add] at c0 c1
      have hnx : x.1.size ≤ 300 ∧ x.2.size ≤ 600 := H.out.2.2.2.2.2.2.1 x (by rw [ht, hsp]; simp)
      have hla := row_at hO ((hT.other oa (by omega) (by omega)).trans H.out.2.2.2.2.1)
      have hlb := row_at hO ((hT.other (oa + 2) (by omega) (by omega)).trans H.out.2.2.2.2.2.1)
      have y3 := row_at hO hT.sb
      have hwd := fun u : World => wide_walk x (by omega) u
      have hnew := fun u : World => Row.new u #[.string x.1, .string x.2] 60
      have HX := Ytobdfocfkomagaa.base.Shut.mk (And.intro hsp (And.intro hx (And.intro hlt (And.intro hra' (And.intro hwd (And.intro hO hT))))))
      have hn60 : pa'.length ≤ 60 := by
        have h1 := congrArg List.length ht
        rw [List.length_append] at h1
        have := H.out.2.2.2.2.2.2.2.1
        omega
      obtain ⟨na, hna⟩ : ∃ na, pa'.length = na := ⟨_, rfl⟩
      rw [hna] at hlt' hn60 c0 c1 y1
      have HNA := Ytobdfocfkomagaa.base.Shut.mk hna
      have hw1 : IntKind.i64.wrap ((na : Int) - 1) = ((na - 1 : Nat) : Int) := by rw [IntKind.wrap_i64]; omega
      have hw2 : ((na - 1 : Nat) : Int) < na := by omega
      clear hsp hx ht hra hra' hxat hwd hT hO hlt hna hnx hnew
      obtain ⟨x1, x2⟩ := x
      simp only at c0 c1
      have hnz := newer (same wr) (.cells #[.string ⟨#[]⟩, .string ⟨#[]⟩] 60)
      have hrz := Row.new wr #[.string ⟨#[]⟩, .string ⟨#[]⟩] 60
      obtain ⟨bx, hbx⟩ : ∃ bx, wr.heap.size = bx := ⟨_, rfl⟩
      have e1 : (wr.alloc (.cells #[.string ⟨#[]⟩, .string ⟨#[]⟩] 60)).cell? ⟨o, oa + 1, none⟩ = some (sv ga na ca) := (hnz.cell (World.block_lt_of_cell? wr _ y1)).trans y1
      have e2 : (wr.alloc (.cells #[.string ⟨#[]⟩, .string ⟨#[]⟩] 60)).cell? ⟨ga, (na - 1) * 2, none⟩ = some (.string x1) := (hnz.cell (World.block_lt_of_cell? wr _ c0)).trans c0
      have e3 : (wr.alloc (.cells #[.string ⟨#[]⟩, .string ⟨#[]⟩] 60)).cell? ⟨ga, (na - 1) * 2 + 1, none⟩ = some (.string x2) := (hnz.cell (World.block_lt_of_cell? wr _ c1)).trans c1
      have e4 : (wr.alloc (.cells #[.string ⟨#[]⟩, .string ⟨#[]⟩] 60)).cell? ⟨bx, 0, none⟩ = some (.string ⟨#[]⟩) := by rw [← hbx]; exact hrz.cell 0
      have e5 : (wr.alloc (.cells #[.string ⟨#[]⟩, .string ⟨#[]⟩] 60)).cell? ⟨bx, 1, none⟩ = some (.string ⟨#[]⟩) := by rw [← hbx]; exact hrz.cell 1
      have f4 : (wr.alloc (.cells #[.string ⟨#[]⟩, .string ⟨#[]⟩] 60)).frozen? ⟨bx, 0, none⟩ = false := by rw [← hbx]; exact hrz.frozen 0
      have f5 : (wr.alloc (.cells #[.string ⟨#[]⟩, .string ⟨#[]⟩] 60)).frozen? ⟨bx, 1, none⟩ = false := by rw [← hbx]; exact hrz.frozen 1
      have HZ := Ytobdfocfkomagaa.base.Shut.mk (And.intro hnz hrz)
      clear hnz hrz
      go_wp2
      go_big_region
      clear e1 e2 e3 e4 e5 f4 f5 c0 c1
      go_wp2
      obtain ⟨U, hU⟩ : ∃ U, (wr.alloc (.cells #[.string x1, .string x2] 60)).drew = U := ⟨_, rfl⟩
      have hBU : Below wr.heap.size wr U := by rw [← hU]; exact (newer (same wr) _).drew
      have hbU : Row U bx #[.string x1, .string x2] 60 := by rw [← hU, ← hbx]; exact Row.new wr _ _
      obtain ⟨nb, hnb⟩ : ∃ nb, pb'.length = nb := ⟨_, rfl⟩
      have hall := HR.out.all
      have hnab : ∀ y ∈ pa' ++ pb', y.1.size ≤ 300 ∧ y.2.size ≤ 600 := by rw [hall]; exact H.out.2.2.2.2.2.2.1
      have hlen60 : pa'.length + pb'.length ≤ 60 := by
        have := congrArg List.length hall
        rw [List.length_append, List.length_append] at this
        have := H.out.2.2.2.2.2.2.2.1
        omega
      have hob := (HR.out.move hBU).own
      have hsb := fun (u : World) (hu : Below U.heap.size U u) => H.out.2.1 u gb' pb'.length cb' pb' rfl (fun y hy => hnab y (by simp [hy])) (by omega) (own_reads (own_keep hob (fun g _ hg => hu.block g hg))).2
      have hsa := fun (u : World) (hu : Below U.heap.size U u) => H.out.2.1 u ga pa'.length ca pa' rfl (fun y hy => hnab y (by simp [hy])) (by omega) ((HX.out.2.2.2.1.keep hBU).keep hu)
      have hba := sumW_bd (l := pa') (fun y hy => hnab y (by simp [hy]))
      have hbb := sumW_bd (l := pb') (fun y hy => hnab y (by simp [hy]))
      have hwx : wideP (x1, x2) ≤ 920 := by
        have := sumW_bd (l := [(x1, x2)]) (fun y hy => by
          simp at hy; subst hy
          exact hnab _ (by rw [HX.out.1]; simp))
        rw [sumW_cons, sumW_nil] at this
        simpa using this
      have kc := fun {p : Addr} {v : Value} (h : wr.cell? p = some v) => (hBU.cell (World.block_lt_of_cell? wr p h)).trans h
      have hsix := And.intro (kc hla) (And.intro (kc y1) (And.intro (kc hlb) (And.intro (kc y3) (And.intro (hbU.cell 0) (hbU.cell 1)))))
      rw [hnb] at hsb hsix
      rw [HNA.out] at hsa
      rw [hU]
      have hnb60 : nb ≤ 60 := by omega
      obtain ⟨wa, hwa⟩ : ∃ wa, sumW pa' = wa := ⟨_, rfl⟩
      obtain ⟨wb, hwb⟩ : ∃ wb, sumW pb' = wb := ⟨_, rfl⟩
      obtain ⟨wx, hwx2⟩ : ∃ wx, wideP (x1, x2) = wx := ⟨_, rfl⟩
      have hwd := HX.out.2.2.2.2.1
      rw [hwa] at hba hsa
      rw [hwb] at hbb hsb
      rw [hwx2] at hwx hwd
      have wr1 : IntKind.i64.wrap (2 * (wx : Int)) = ((2 * wx : Nat) : Int) := by rw [IntKind.wrap_i64]; omega
      have wr2 : IntKind.i64.wrap (((2 + wb : Nat) : Int) + ((2 * wx : Nat) : Int)) = ((2 + wb + 2 * wx : Nat) : Int) := by rw [IntKind.wrap_i64]; omega
      have wr3 : IntKind.i64.wrap (2 + (wb : Int) + 2 * (wx : Int)) = 2 + (wb : Int) + 2 * (wx : Int) := by rw [IntKind.wrap_i64]; omega
      have HS := Ytobdfocfkomagaa.base.Shut.mk (And.intro hsb (And.intro hwd (And.intro hsa (And.intro hsix (And.intro hBU (And.intro hbU (And.intro hwa (And.intro hwb (And.intro hwx2 (And.intro hnab (And.intro hlen60 hnb)))))))))))
      obtain ⟨d0, d1, d2, d3, d4, d5⟩ := hsix
      clear kc hsb hwd hsa hBU hbU hwa hwb hwx2 hnab hlen60 hnb hba hbb hob hall hla hlb y1 y3 hU
      go_region_held3 (fun w' => w'.cell? ⟨o, oa, none⟩ = some (.bool leaf) ∧ w'.cell? ⟨o, oa + 1, none⟩ = some (sv ga na ca) ∧ w'.cell? ⟨o, oa + 2, none⟩ = some (.bool leaf) ∧ w'.cell? ⟨o, oa + 3, none⟩ = some (sv gb' nb cb') ∧ w'.cell? ⟨bx, 0, none⟩ = some (.string x1) ∧ w'.cell? ⟨bx, 1, none⟩ = some (.string x2))
        (first | assumption | exact HS.out.2.2.2.1 | go_keep)
        (first
          | (go_at_call 36; (with_reducible refine Calls.mono (HS.out.1 _ (drewn (same U))) ?_); rintro e w3 ⟨rfl, hb3⟩; have H3 := Ytobdfocfkomagaa.base.Shut.mk (chain (drewn (same U)) hb3); have hk3 := six_keep H3.out HS.out.2.2.2.1; clear hb3)
          | (go_at_call 63; (with_reducible refine Calls.mono (HS.out.2.1 _) ?_); rintro e w4 ⟨rfl, hb4⟩; have H4 := Ytobdfocfkomagaa.base.Shut.mk (chain H3.out hb4); have hk4 := six_keep H4.out HS.out.2.2.2.1; clear hb4)
          | (go_at_call 36; (with_reducible refine Calls.mono (HS.out.2.2.1 _ H4.out) ?_); rintro e w5 ⟨rfl, hb5⟩; have H5 := Ytobdfocfkomagaa.base.Shut.mk (chain H4.out hb5); have hk5 := six_keep H5.out HS.out.2.2.2.1; clear hb5))
      clear d0 d1 d2 d3 d4 d5
      have hB5 := chain HS.out.2.2.2.2.1 H5.out
      have hEV := HR.out.move hB5
      by_cases hgt : wa < wb + 2 * wx
      · have hg1 : 2 + (wa : Int) < 2 + (wb : Int) + 2 * wx := by omega
        have HE := Ytobdfocfkomagaa.base.Shut.mk (show (pa', pb') = evenP pa.length pa pb by rw [HR.out.even, even_stop HX.out.2.1 (by have h1 := HS.out.2.2.2.2.2.2.1; have h2 := HS.out.2.2.2.2.2.2.2.1; have h3 := HS.out.2.2.2.2.2.2.2.2.1; omega)])
        have HV := Ytobdfocfkomagaa.base.Shut.mk hEV
        clear hEV hB5 hgt
        go_wp2
        go_ret
        exact ⟨rfl, gb', cb', pa', pb', HV.out, HE.out⟩
      · have hg1 : ¬ 2 + (wa : Int) < 2 + (wb : Int) + 2 * wx := by omega
        have HV := Ytobdfocfkomagaa.base.Shut.mk hEV
        clear hEV hB5
        obtain ⟨d0, d1, d2, d3, d4, d5⟩ := hk5
        obtain ⟨O5, hO5, hT5⟩ := HV.out.row
        have z1 : ∀ j, w5.frozen? ⟨o, j, none⟩ = false := fun j => hO5.frozen j
        have hca : na ≤ ca := by have h1 := H.out.2.2.2.2.2.2.2.2.2.2.1; obtain ⟨t, ht⟩ := HR.out.pre; have h2 := HNA.out; rw [ht, List.length_append] at h1; omega
        have hca1 : ((na - 1 : Nat) : Int) ≤ ca := by omega
        have HO5 := Ytobdfocfkomagaa.base.Shut.mk (And.intro hO5 hT5)
        have hO5lt : o < bx := by rw [← hbx]; exact HX.out.2.2.2.2.2.1.lt
        clear hO5 hT5 hca
        go_wp2
        go_big_region
        go_wp2
        obtain ⟨V, hV⟩ : ∃ V, (w5.setCell ⟨o, oa + 1, none⟩ (sv ga (na - 1) ca)).drew = V := ⟨_, rfl⟩
        have hrV : Row V o (O5.setIfInBounds (oa + 1) (sv ga (na - 1) ca)) 49 := by rw [← hV]; exact HO5.out.1.set (oa + 1) (sv ga (na - 1) ca)
        have htV := HO5.out.2.setA (sv ga (na - 1) ca)
        have hkV : Keep2 w V o gb := by rw [← hV]; exact (HV.out.keep.setCell (oa + 1) (sv ga (na - 1) ca)).drew
        have hob : bx ≠ o := by have := hO5lt; omega
        have hbxV : Row V bx #[.string x1, .string x2] 60 := by rw [← hV]; exact (HS.out.2.2.2.2.2.1.below H5.out).other _ _ _ hob
        obtain ⟨curb, hrb, hbgb, hnbc⟩ := own_row HV.out.own
        have hgo : gb' ≠ o := row_apart hrb HO5.out.1 (by decide)
        have howV : V.ownsRow base 60 2 (sv gb' pb'.length cb') pb'.length (cellsP pb') := own_move HV.out.own (by rw [← hV]; exact Below.heap_setCell w5 ⟨o, oa + 1, none⟩ _ gb' (by simpa using hgo))
        rw [show (w5.setCell ⟨o, oa + 1, none⟩ (.slice (some ⟨ga, 0, none⟩) (na - 1) ca)).drew = V from hV]
        have hnb0 : 0 < nb := by rw [← HS.out.2.2.2.2.2.2.2.2.2.2.2]; exact List.length_pos_iff.2 HV.out.neb
        rw [HS.out.2.2.2.2.2.2.2.2.2.2.2] at howV htV
        have hn8 := (newer (same V) (.cells #[.string x1, .string x2] 60)).drew
        have hgV : gb' < V.heap.size := (own_row howV).choose_spec.1.lt
        have hins := insPair.front_walk ((V.alloc (.cells #[.string x1, .string x2] 60)).drew) base gb' nb cb' 0 V.heap.size (.string x1) (.string x2) (cellsP pb') (own_move howV (hn8.block gb' hgV)) (cellsP_one pb') hnb0 (by omega) (heap_alloc_new V _) (by omega) rfl rfl (Nat.le_trans (Nat.le_trans H.out.2.2.2.2.2.2.2.2.2.1 hkV.size) hn8.size)
        rw [show (((0 : Nat) : Int)) = 0 from rfl] at hins
        have d3 := row_at hrV htV.sb
        have d4 := hbxV.cell 0
        have d5 := hbxV.cell 1
        have g3 := row_at (hrV.below hn8) htV.sb
        have g4 := (hbxV.below hn8).cell 0
        have g5 := (hbxV.below hn8).cell 1
        have hfin : ∀ (w9 : World) (g9 c9 : Nat), w9.ownsRow base 60 2 (sv g9 (nb + 1) c9) (nb + 1) ((cellsP pb').take (0 * 2) ++ [.string x1, .string x2] ++ (cellsP pb').drop (0 * 2)) → ((V.alloc (.cells #[.string x1, .string x2] 60)).drew).grownBy w9 (some gb') →
            (some g9 = some gb' ∨ ((V.alloc (.cells #[.string x1, .string x2] 60)).drew).heap.size ≤ g9) → w9.heap[o]? = ((V.alloc (.cells #[.string x1, .string x2] 60)).drew).heap[o]? →
            EvenAt w (w9.setCell ⟨o, oa + 2 + 1, none⟩ (sv g9 (nb + 1) c9)) base o oa O0 ga ca gb g9 c9 pa pb pa'.dropLast ((x1, x2) :: pb') ∧ lenAt (w9.setCell ⟨o, oa + 2 + 1, none⟩ (sv g9 (nb + 1) c9)) o (oa + 1) = na - 1 := by
          intro w9 g9 c9 hown hgr hw hq
          have hrow9 : Row w9 o (O5.setIfInBounds (oa + 1) (sv ga (na - 1) ca)) 49 := hq.trans (hrV.below hn8)
          have hl1 : pa'.dropLast.length = na - 1 := by rw [List.length_dropLast, HNA.out]
          have hl2 : ((x1, x2) :: pb').length = nb + 1 := by rw [List.length_cons, HS.out.2.2.2.2.2.2.2.2.2.2.2]
          obtain ⟨t, ht⟩ := HR.out.pre
          have hset := hrow9.set (oa + 2 + 1) (sv g9 (nb + 1) c9)
          have htw := htV.setB (sv g9 (nb + 1) c9)
          have hgt2 : ¬ sumW pa' < sumW pb' + 2 * wideP (x1, x2) := by
            have h1 := HS.out.2.2.2.2.2.2.1; have h2 := HS.out.2.2.2.2.2.2.2.1; have h3 := HS.out.2.2.2.2.2.2.2.2.1
            rw [h1, h2, h3]; exact hgt
          have hrb9 := (own_row hown).choose_spec.1
          refine ⟨⟨((hkV.below hn8).grown hgr HV.out.where_).setCell _ _, ⟨_, hset, by rw [hl1, hl2]; exact htw⟩, ⟨(x1, x2) :: t, ?_⟩, ?_, ?_, ?_, ?_, ?_, by simp⟩, lenAt_of (row_at hset (by rw [hl1] at *; exact htw.sa))⟩
          · rw [ht]
            conv => lhs; rw [HX.out.1]
            simp
          · rw [hl2]
            have : (cellsP pb').take (0 * 2) ++ [.string x1, .string x2] ++ (cellsP pb').drop (0 * 2) = cellsP ((x1, x2) :: pb') := rfl
            rw [this] at hown
            exact own_move hown (Below.heap_setCell w9 ⟨o, oa + 2 + 1, none⟩ _ g9 (by simpa using row_apart hrb9 hrow9 (by decide)))
          · rcases hw with h | h
            · cases h; exact HV.out.where_
            · exact .inr (Nat.le_trans hkV.size (Nat.le_trans hn8.size h))
          · rw [HR.out.even]; exact even_step HX.out.2.1 HX.out.2.2.1 hgt2
          · rw [← HR.out.all]
            conv => rhs; rw [HX.out.1]
            simp
          · intro e9
            have := congrArg List.length e9
            rw [hl1] at this
            simp at this
            omega
        have hlt9 : lenAt wr o (oa + 1) = na := lenAt_of (row_at HX.out.2.2.2.2.2.1 (by rw [← HNA.out]; exact HX.out.2.2.2.2.2.2.sa))
        have HF := Ytobdfocfkomagaa.base.Shut.mk (And.intro hfin hlt9)
        have HI := Ytobdfocfkomagaa.base.Shut.mk (And.intro hins (And.intro hrV (And.intro htV (And.intro hkV (And.intro hn8 (And.intro hgo hca1))))))
        clear hins hrV htV hkV hbxV hob hrb howV hn8 hV z1 hO5lt hgo hgV hfin hlt9
        go_region_with (first | (go_at_call 84; (with_reducible refine Calls.mono HI.out.1 ?_); rintro e w9 ⟨g9, c9, rfl, hown9, hgr9, hw9⟩; have q0 : w9.heap[o]? = (V.alloc (.cells #[.string x1, .string x2] 60)).drew.heap[o]? := hgr9.block o (HI.out.2.1.below HI.out.2.2.2.2.1).lt (by intro e9; cases e9; exact HI.out.2.2.2.2.2.1 rfl); have q3 : w9.cell? ⟨o, oa + 3, none⟩ = some (sv gb' nb cb') := (cell_move q0 _).trans g3; have q4 : w9.frozen? ⟨o, oa + 3, none⟩ = false := Row.frozen (q0.trans (HI.out.2.1.below HI.out.2.2.2.2.1)) _; have H9 := Ytobdfocfkomagaa.base.Shut.mk (HF.out.1 w9 g9 c9 hown9 hgr9 hw9 q0); clear hown9 hgr9 hw9 q0))
        all_goals
          go_wp2
          go_roundw
          case rel => exact ⟨g9, c9, _, _, ⟨H9.out.1⟩⟩
          case measure => rw [H9.out.2, HF.out.2]; omega
    · have hlt' : ¬ (1 : Int) < pa'.length := by omega
      have HE := Ytobdfocfkomagaa.base.Shut.mk (show (pa', pb') = evenP pa.length pa pb by rw [HR.out.even, even_stop_one (by omega)])
      clear hO hT hlt
      go_wp2
      go_ret
      exact ⟨rfl, gb', cb', pa', pb', HR.out, HE.out⟩
end Go.Proofs.Ytobdfocfkomagaa.node
