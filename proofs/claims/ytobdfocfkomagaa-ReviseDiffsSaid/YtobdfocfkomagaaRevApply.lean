/- The walk of revise.Apply. -/
import Derived.Test.YtobdfocfkomagaaRevMay
import Derived.Test.YtobdfocfkomagaaDelRule
import Derived.Test.YtobdfocfkomagaaCloneRule
import Derived.Laws.ResultCell
namespace Go.Proofs.Ytobdfocfkomagaa.rev
open Go.ChangeShapes Go.WideShapes Go.ChangeAt Go.RowKit
open Ytobdfocfkomagaa.base (size_mk chain newer drewn same ba_ext)
open Ytobdfocfkomagaa.row2 (Row CReads own_keep)

def cellsC (cs : List CI) : List Value := cs.flatMap (fun c => c.cells.toList)
theorem cellsC_len (cs : List CI) : (cellsC cs).length = cs.length * 4 := by
  induction cs with
  | nil => rfl
  | cons x r ih => unfold cellsC at *; rw [List.flatMap_cons, List.length_append, ih, List.length_cons]; show 4 + _ = _; omega
theorem cellsC_get (cs : List CI) (i : Nat) (c : CI) (h : cs[i]? = some c) : (cellsC cs)[i * 4]? = some (.bool c.put) ∧ (cellsC cs)[i * 4 + 1]? = some (.int .i64 c.at_) ∧ (cellsC cs)[i * 4 + 2]? = some c.r.x.v ∧ (cellsC cs)[i * 4 + 3]? = some c.r.y.v := by
  induction cs generalizing i with
  | nil => simp at h
  | cons x t ih =>
    have e : cellsC (x :: t) = .bool x.put :: .int .i64 x.at_ :: x.r.x.v :: x.r.y.v :: cellsC t := rfl
    rw [e]
    cases i with
    | zero => obtain rfl : x = c := by simpa using h
              exact ⟨rfl, rfl, rfl, rfl⟩
    | succ i => rw [show (i + 1) * 4 = i * 4 + 1 + 1 + 1 + 1 by omega]; exact ih i (by simpa using h)
theorem cellsC_one (cs : List CI) : ∀ u ∈ cellsC cs, u.oneCell' = true := by
  intro u hu
  unfold cellsC at hu
  obtain ⟨c, _, h⟩ := List.mem_flatMap.1 hu
  simp only [CI.cells, List.mem_cons, List.not_mem_nil, or_false] at h
  rcases h with rfl | rfl | rfl | rfl <;> rfl
/-- a list of changes that lies at A -/
structure CL (w : World) (A : Option Addr) (cs : List CI) : Prop where
  cells : CReads w A (cellsC cs)
  ok : ∀ c ∈ cs, COk w c
theorem CL.keep {w w' : World} {A : Option Addr} {cs : List CI} (h : CL w A cs) (hb : Below w.heap.size w w') : CL w' A cs := ⟨h.cells.keep hb, fun c hc => (h.ok c hc).keep hb⟩
theorem CL.at_ {w : World} {A : Option Addr} {cs : List CI} (h : CL w A cs) {i : Nat} {c : CI} (hi : cs[i]? = some c) : ∃ b off, A = some ⟨b, off, none⟩ ∧ b < w.heap.size ∧ w.cell? ⟨b, off + i * 4, none⟩ = some (.bool c.put) ∧ w.cell? ⟨b, off + i * 4 + 1, none⟩ = some (.int .i64 c.at_) ∧ w.cell? ⟨b, off + i * 4 + 2, none⟩ = some c.r.x.v ∧ w.cell? ⟨b, off + i * 4 + 3, none⟩ = some c.r.y.v ∧ COk w c := by
  have hg := cellsC_get cs i c hi
  obtain ⟨b, off, hA, hlt, hc⟩ := h.cells (by intro e; rw [e] at hg; simp at hg)
  exact ⟨b, off, hA, hlt, hc _ _ hg.1, by rw [Nat.add_assoc]; exact hc _ _ hg.2.1, by rw [Nat.add_assoc]; exact hc _ _ hg.2.2.1, by rw [Nat.add_assoc]; exact hc _ _ hg.2.2.2, h.ok c (List.mem_of_getElem? hi)⟩
def insR (rs : List RI) (k : Nat) (r : RI) : List RI := rs.take k ++ [r] ++ rs.drop k
def delR (rs : List RI) (k : Nat) : List RI := rs.take k ++ rs.drop (k + 1)
def stepR (rs : List RI) (c : CI) : Option (List RI) := if mayR rs c then some (if c.put then insR rs c.at_.toNat c.r else delR rs c.at_.toNat) else none
def applyR : List RI → List CI → Option (List RI)
  | rs, [] => some rs
  | rs, c :: t => match stepR rs c with | none => none | some rs' => applyR rs' t
/-- a table's cells -/
abbrev tcells (x0 x1 x2 x3 x4 : Value) (A : Option Addr) (n c : Nat) : Array Value := #[x0, x1, x2, x3, x4, .slice A n c]
abbrev ztable : Value := .agg #[.string ⟨#[]⟩, .slice none 0 0, .slice none 0 0, .int .i64 0, .int .i64 0, .slice none 0 0]
abbrev zcells : Array Value := #[.string ⟨#[]⟩, .slice none 0 0, .slice none 0 0, .int .i64 0, .int .i64 0, .slice none 0 0]
/-- what Apply tells -/
def Applied (w : World) (x0 x1 x2 x3 x4 : Value) (o : Option (List RI)) (e : Ending) (w' : World) : Prop :=
  Below w.heap.size w w' ∧ match o with
    | none => e = .returned (.tuple #[ztable, .int .i64 2])
    | some rs => ∃ A c, e = .returned (.tuple #[.agg (tcells x0 x1 x2 x3 x4 A rs.length c), .int .i64 0]) ∧ w'.ownsRow w.heap.size 77 2 (.slice A rs.length c) rs.length (cellsR rs)
theorem res_tb {fn : Func} {p u : Nat} (hr : fn.results = #[.cell p 27, .tmp u]) (tmps : Array Value) (w : World) (q : Nat) (v0 v1 v2 v3 v4 v5 : Value) (hq : tmps.getD p undef = .pointer (some ⟨q, 0, none⟩)) (h : Row w q #[v0, v1, v2, v3, v4, v5] 27) :
    (results fn tmps).run Try.prog w = .ok (.tuple #[.agg #[v0, v1, v2, v3, v4, v5], tmps.getD u undef]) w := by
  have c0 := h.cell 0
  have c1 := h.cell 1
  have c2 := h.cell 2
  have c3 := h.cell 3
  have c4 := h.cell 4
  have c5 := h.cell 5
  have hu := Try.underlying27
  rw [results_cell_tmp hr, hq]
  simp [go_sem, c0, c1, c2, c3, c4, c5]
theorem six_set {w : World} {q : Nat} {cs : Array Value} {t : TypeId} (h : Row w q cs t) (hs : cs.size = 6) (a b c d e f : Value) :
    Row ((((((w.setCell ⟨q, 0, none⟩ a).setCell ⟨q, 1, none⟩ b).setCell ⟨q, 2, none⟩ c).setCell ⟨q, 3, none⟩ d).setCell ⟨q, 4, none⟩ e).setCell ⟨q, 5, none⟩ f) q #[a, b, c, d, e, f] t := by
  obtain ⟨l⟩ := cs
  simp only [List.size_toArray] at hs
  match l, hs with
  | [y0, y1, y2, y3, y4, y5], _ =>
    have h0 := h.set 0 a
    have h1 := h0.set 1 b
    have h2 := h1.set 2 c
    have h3 := h2.set 3 d
    have h4 := h3.set 4 e
    exact h4.set 5 f
theorem six_below {w u : World} {q B : Nat} (h : Below B u w) (hq : B ≤ q) (a b c d e f : Value) :
    Below B u ((((((w.setCell ⟨q, 0, none⟩ a).setCell ⟨q, 1, none⟩ b).setCell ⟨q, 2, none⟩ c).setCell ⟨q, 3, none⟩ d).setCell ⟨q, 4, none⟩ e).setCell ⟨q, 5, none⟩ f) := by
  have h0 := h.setCell (p := ⟨q, 0, none⟩) hq a
  have h1 := h0.setCell (p := ⟨q, 1, none⟩) hq b
  have h2 := h1.setCell (p := ⟨q, 2, none⟩) hq c
  have h3 := h2.setCell (p := ⟨q, 3, none⟩) hq d
  have h4 := h3.setCell (p := ⟨q, 4, none⟩) hq e
  exact h4.setCell (p := ⟨q, 5, none⟩) hq f
/-- how it stands between two changes -/
structure AppAt (V wr : World) (q : Nat) (x0 x1 x2 x3 x4 : Value) (tA : Option Addr) (tn tc : Nat) (A : Option Addr) (c : Nat) (rs : List RI) : Prop where
  below : Below V.heap.size V wr
  own : wr.ownsRow V.heap.size 77 2 (.slice A rs.length c) rs.length (cellsR rs)
  ok : ∀ r ∈ rs, ROk V r
  len : rs.length ≤ 100
theorem AppAt.rl {V wr : World} {q : Nat} {x0 x1 x2 x3 x4 : Value} {tA : Option Addr} {tn tc : Nat} {A : Option Addr} {c : Nat} {rs : List RI} (h : AppAt V wr q x0 x1 x2 x3 x4 tA tn tc A c rs) : RL wr A rs := ⟨CReads.of_own h.own, fun r hr => (h.ok r hr).keep h.below⟩
attribute [local go_sem] si_one si_cells run_store_si
theorem AppAt.later {V wr w' : World} {q : Nat} {x0 x1 x2 x3 x4 : Value} {tA : Option Addr} {tn tc : Nat} {A : Option Addr} {c : Nat} {rs : List RI} (h : AppAt V wr q x0 x1 x2 x3 x4 tA tn tc A c rs) (hb : Below wr.heap.size wr w') : AppAt V w' q x0 x1 x2 x3 x4 tA tn tc A c rs :=
  ⟨chain h.below hb, own_keep h.own (fun g _ hg => hb.block g hg), h.ok, h.len⟩
theorem own_block {w : World} {base k n c : Nat} {e : TypeId} {A : Option Addr} {xs : List Value} (h : w.ownsRow base e k (.slice A n c) n xs) (g : Nat) (hg : (Value.slice A n c).ownBlock = some g) : base ≤ g ∧ g < w.heap.size := by
  obtain ⟨_, ⟨hv, _⟩ | ⟨g', cap, cur, hv, hb, hgr, _⟩⟩ := h
  · rw [hv] at hg; cases hg
  · rw [hv] at hg
    have : g' = g := by simpa [Value.ownBlock] using hg
    subst this
    exact ⟨hb, (Array.getElem?_eq_some_iff.1 hgr).1⟩
theorem own_weak {w : World} {base base' k n : Nat} {e : TypeId} {v : Value} {xs : List Value} (h : w.ownsRow base e k v n xs) (hb : base' ≤ base) : w.ownsRow base' e k v n xs := by
  obtain ⟨hl, h1 | ⟨g', cap, cur, hv, hbg, r⟩⟩ := h
  · exact ⟨hl, .inl h1⟩
  · exact ⟨hl, .inr ⟨g', cap, cur, hv, Nat.le_trans hb hbg, r⟩⟩
theorem six_heap (w : World) (q k : Nat) (h : k ≠ q) (a b c d e f : Value) : ((((((w.setCell ⟨q, 0, none⟩ a).setCell ⟨q, 1, none⟩ b).setCell ⟨q, 2, none⟩ c).setCell ⟨q, 3, none⟩ d).setCell ⟨q, 4, none⟩ e).setCell ⟨q, 5, none⟩ f).heap[k]? = w.heap[k]? := by
  rw [Below.heap_setCell _ ⟨q, 5, none⟩ _ k (by simpa using h), Below.heap_setCell _ ⟨q, 4, none⟩ _ k (by simpa using h), Below.heap_setCell _ ⟨q, 3, none⟩ _ k (by simpa using h), Below.heap_setCell _ ⟨q, 2, none⟩ _ k (by simpa using h), Below.heap_setCell _ ⟨q, 1, none⟩ _ k (by simpa using h), Below.heap_setCell _ ⟨q, 0, none⟩ _ k (by simpa using h)]
theorem mem_ins {rs : List RI} {k : Nat} {r x : RI} (h : x ∈ insR rs k r) : x ∈ rs ∨ x = r := by
  unfold insR at h
  rcases List.mem_append.1 h with h | h
  · rcases List.mem_append.1 h with h | h
    · exact .inl (List.mem_of_mem_take h)
    · exact .inr (by simpa using h)
  · exact .inl (List.mem_of_mem_drop h)
theorem mem_del {rs : List RI} {k : Nat} {x : RI} (h : x ∈ delR rs k) : x ∈ rs := by
  unfold delR at h
  rcases List.mem_append.1 h with h | h
  · exact List.mem_of_mem_take h
  · exact List.mem_of_mem_drop h
theorem ins_len {rs : List RI} {k : Nat} {r : RI} (h : k ≤ rs.length) : (insR rs k r).length = rs.length + 1 := by
  unfold insR; simp only [List.length_append, List.length_take, List.length_drop, List.length_singleton]; omega
theorem del_len {rs : List RI} {k : Nat} (h : k < rs.length) : (delR rs k).length = rs.length - 1 := by
  unfold delR; simp only [List.length_append, List.length_take, List.length_drop]; omega
theorem may_put {rs : List RI} {a : Int} {r : RI} (h : mayR rs ⟨true, a, r⟩ = true) : rs.length < 48 ∧ 0 ≤ a ∧ a ≤ rs.length := by
  unfold mayR at h; simp only [if_true] at h; exact of_decide_eq_true h
theorem may_del {rs : List RI} {a : Int} {r : RI} (h : mayR rs ⟨false, a, r⟩ = true) : 0 ≤ a ∧ a < rs.length := by
  unfold mayR at h; simp only [Bool.false_eq_true, if_false, Bool.and_eq_true] at h; exact of_decide_eq_true h.1
theorem insRule_clone (w : World) (A : Option Addr) (n c : Nat) (rs : List RI) (hn : rs.length = n) (hn2 : n ≤ 100) (hr : RL w A rs) (hA : A = none → n = 0 ∧ c = 0) :
    Calls Try.prog 46 #[.slice A n c] w fun e w' => ∃ A' c', e = .returned (.slice A' n c') ∧ w'.ownsRow w.heap.size 77 2 (.slice A' n c') n (cellsR rs) ∧ Below w.heap.size w w' :=
  cloneRule.clone_walk w A n c (cellsR rs) (by rw [cellsR_len, hn]) (by omega) (cellsR_one rs) hr.cells hA
set_option maxRecDepth 100000 in
set_option maxHeartbeats 3200000 in
theorem apply_walk (x0 x1 x2 x3 x4 : Value) (A : Option Addr) (n c : Nat) (rs : List RI) (B : Option Addr) (m d : Nat) (cs : List CI) (o0 : x0.oneCell' = true) (o1 : x1.oneCell' = true) (o2 : x2.oneCell' = true) (o3 : x3.oneCell' = true) (o4 : x4.oneCell' = true)
    (k0 : x0.cells = #[x0]) (k1 : x1.cells = #[x1]) (k2 : x2.cells = #[x2]) (k3 : x3.cells = #[x3]) (k4 : x4.cells = #[x4])
    (hn : rs.length = n) (hn2 : n ≤ 100) (hA : A = none → n = 0 ∧ c = 0) (hm : cs.length = m) (hm2 : m ≤ 100) (w : World) (hr : RL w A rs) (hC : CL w B cs) :
    Calls Try.prog 15 #[.agg (tcells x0 x1 x2 x3 x4 A n c), .slice B m d] w (Applied w x0 x1 x2 x3 x4 (applyR rs cs)) := by
  have hb := newer (same w) (.cells (tcells x0 x1 x2 x3 x4 A n c) 27)
  have hx := Row.new w (tcells x0 x1 x2 x3 x4 A n c) 27
  have hb2 := newer hb (.cells zcells 27)
  have hx2 := hx.below (newer (same (w.alloc (.cells (tcells x0 x1 x2 x3 x4 A n c) 27))) (.cells zcells 27))
  have hz := Row.new (w.alloc (.cells (tcells x0 x1 x2 x3 x4 A n c) 27)) zcells 27
  rw [World.size_alloc] at hz
  obtain ⟨q, hq⟩ : ∃ q, w.heap.size = q := ⟨_, rfl⟩
  obtain ⟨V, hV⟩ : ∃ V, (w.alloc (.cells (tcells x0 x1 x2 x3 x4 A n c) 27)).alloc (.cells zcells 27) = V := ⟨_, rfl⟩
  rw [hV] at hb2 hx2 hz
  rw [hq] at hx2 hz
  have hrV := hr.keep hb2
  have hCV := hC.keep hb2
  have hcl := insRule_clone V A n c rs hn hn2 hrV hA
  have t5 := hx2.cell 5
  have s0 := fun (a : Addr) (u : World) (md : Mode) => run_store Try.prog u a x0 md o0
  have s1 := fun (a : Addr) (u : World) (md : Mode) => run_store Try.prog u a x1 md o1
  have s2 := fun (a : Addr) (u : World) (md : Mode) => run_store Try.prog u a x2 md o2
  have s3 := fun (a : Addr) (u : World) (md : Mode) => run_store Try.prog u a x3 md o3
  have s4 := fun (a : Addr) (u : World) (md : Mode) => run_store Try.prog u a x4 md o4
  have H := Ytobdfocfkomagaa.base.Shut.mk (And.intro hcl (And.intro hb2 (And.intro hx2 (And.intro hz (And.intro hrV (And.intro hCV (And.intro hn hm)))))))
  clear hcl hb hx hb2 hx2 hz hrV hCV hr hC hn hm
  go_enter Try.func15, Try.ntmps15
  go_wp2_with fail
  refine H.out.1.mono ?_
  rintro e w1 ⟨A1, c1, rfl, hown1, hb1⟩
  have HA1 := Ytobdfocfkomagaa.base.Shut.mk (show AppAt V w1 q x0 x1 x2 x3 x4 A n c A1 c1 rs from ⟨hb1, by rw [H.out.2.2.2.2.2.2.1]; exact hown1, fun r hr => H.out.2.2.2.2.1.ok r hr, by rw [H.out.2.2.2.2.2.2.1]; exact hn2⟩)
  clear hown1 hb1 t5
  go_wp2
  go_loopw [6, 14] (fun sl i wr => ∃ (k : Nat) (rs' : List RI) (A' : Option Addr) (c' : Nat), k ≤ m ∧ i = .int .i64 k ∧ sl = .slice A' rs'.length c' ∧ Ytobdfocfkomagaa.base.Shut (AppAt V wr q x0 x1 x2 x3 x4 A n c A' c' rs' ∧ applyR rs cs = applyR rs' (cs.drop k))) (fun _ i _ => m - (intOf i).toNat)
  case atStart => exact ⟨0, rs, A1, c1, Nat.zero_le _, rfl, by rw [H.out.2.2.2.2.2.2.1], ⟨HA1.out, rfl⟩⟩
  case round =>
    obtain ⟨k, rs', A', c', hk, rfl, rfl, HR⟩ := hrel
    by_cases hlt : k < m
    · have hlt' : (k : Int) < m := by omega
      have hkm : k < cs.length := by rw [H.out.2.2.2.2.2.2.2]; exact hlt
      obtain ⟨C, hC⟩ : ∃ C, cs[k]? = some C := ⟨_, List.getElem?_eq_getElem hkm⟩
      have hdrop : cs.drop k = C :: cs.drop (k + 1) := by
        rw [List.drop_eq_getElem_cons hkm]
        rw [List.getElem?_eq_getElem hkm] at hC
        rw [Option.some.inj hC]
      obtain ⟨b, off, rfl, hblt, e0, e1, e2, e3, hok⟩ := (H.out.2.2.2.2.2.1.keep HR.out.1.below).at_ hC
      obtain ⟨put, a, r⟩ := C
      simp only at e0 e1 e2 e3
      obtain ⟨n', hn'⟩ : ∃ n', rs'.length = n' := ⟨_, rfl⟩
      have hn1 : n' ≤ 100 := by rw [← hn']; exact HR.out.1.len
      have hnw := newer (same wr) (.cells #[.bool put, .int .i64 a, r.x.v, r.y.v] 79)
      have hrw := Row.new wr #[.bool put, .int .i64 a, r.x.v, r.y.v] 79
      have hmay := may_walk A' n' c' rs' ⟨put, a, r⟩ hn' (by omega) (wr.alloc (.cells #[.bool put, .int .i64 a, r.x.v, r.y.v] 79)) (HR.out.1.rl.keep hnw) (hok.keep hnw)
      obtain ⟨bx, hbx⟩ : ∃ bx, wr.heap.size = bx := ⟨_, rfl⟩
      have HK := Ytobdfocfkomagaa.base.Shut.mk (And.intro hdrop (And.intro hok (And.intro hn' (And.intro hnw hrw))))
      obtain ⟨M, hM⟩ : ∃ M, mayR rs' ⟨put, a, r⟩ = M := ⟨_, rfl⟩
      rw [hM] at hmay
      have HMY : Ytobdfocfkomagaa.base.Shut (Calls Try.prog 47 #[.slice A' n' c', .agg #[.bool put, .int .i64 a, r.x.v, r.y.v]] (wr.alloc (.cells #[.bool put, .int .i64 a, r.x.v, r.y.v] 79)) fun e w' => e = .returned (.bool M) ∧ Below (wr.alloc (.cells #[.bool put, .int .i64 a, r.x.v, r.y.v] 79)).heap.size (wr.alloc (.cells #[.bool put, .int .i64 a, r.x.v, r.y.v] 79)) w') := ⟨hmay⟩
      have HM := Ytobdfocfkomagaa.base.Shut.mk hM
      rw [hn']
      clear hmay hdrop hok hnw hrw hC hblt hkm hlt hM hn'
      go_wp2_with fail
      refine HMY.out.mono ?_
      rintro e w2 ⟨rfl, hb2⟩
      have hr2 := HK.out.2.2.2.2.below hb2
      have hB2 := chain HK.out.2.2.2.1 hb2
      rw [hbx] at hr2
      have y0 := hr2.cell 0
      have y1 := hr2.cell 1
      have y2 := hr2.cell 2
      have y3 := hr2.cell 3
      have H2 := Ytobdfocfkomagaa.base.Shut.mk (And.intro (HR.out.1.later hB2) (And.intro hr2 (chain HR.out.1.below hB2)))
      clear hb2 hr2 hB2 e0 e1 e2 e3
      cases M with
      | false =>
        have hz2 := H.out.2.2.2.1.below H2.out.2.2
        have z0 := hz2.cell 0
        have z1 := hz2.cell 1
        have z2 := hz2.cell 2
        have z3 := hz2.cell 3
        have z4 := hz2.cell 4
        have z5 := hz2.cell 5
        have f0 := hz2.frozen 0
        have f1 := hz2.frozen 1
        have f2 := hz2.frozen 2
        have f3 := hz2.frozen 3
        have f4 := hz2.frozen 4
        have f5 := hz2.frozen 5
        have HZ := Ytobdfocfkomagaa.base.Shut.mk hz2
        clear hz2 y0 y1 y2 y3
        go_wp2
        refine bodyPost_ret (v := .tuple #[ztable, .int .i64 2]) (res_tb (p := 4) (u := 5) rfl _ _ (q + 1) _ _ _ _ _ _ rfl (six_set HZ.out rfl _ _ _ _ _ _)) rfl ?_
        have hno : applyR rs cs = none := by
          rw [HR.out.2, HK.out.1, applyR]
          unfold stepR
          rw [HM.out]
          rfl
        rw [hno]
        refine ⟨?_, rfl⟩
        have hB := chain H.out.2.1 H2.out.2.2
        exact six_below hB (by omega) _ _ _ _ _ _
      | true =>
        cases put with
        | true =>
          have hmp := may_put HM.out
          obtain ⟨ka, rfl⟩ : ∃ ka : Nat, a = ka := ⟨a.toNat, by omega⟩
          have hnw := newer (same w2) (.cells #[r.x.v, r.y.v] 77)
          have hA3 := H2.out.1.later hnw
          have hown := hA3.own
          have hblk := own_block H2.out.1.own
          rw [HK.out.2.2.1] at hown hmp hblk
          have hins := insRule.insert_walk (w2.alloc (.cells #[r.x.v, r.y.v] 77)) V.heap.size A' n' c' ka w2.heap.size r.x.v r.y.v (cellsR rs') hown (cellsR_one rs') (by omega) (by omega) (heap_alloc_new w2 _) (fun h => by have := (hblk _ h).2; omega) rfl rfl hA3.below.size
          have HI := Ytobdfocfkomagaa.base.Shut.mk (And.intro hins (And.intro hA3 hmp))
          clear hins hA3 hown hblk hnw hmp
          go_wp2_with fail
          refine HI.out.1.mono ?_
          rintro e w5 ⟨g', c'', rfl, hown5, hgrow⟩
          rw [cellsR_take, cellsR_drop] at hown5
          have HN := Ytobdfocfkomagaa.base.Shut.mk (show AppAt V w5 q x0 x1 x2 x3 x4 A n c (some ⟨g', 0, none⟩) c'' (insR rs' ka r) ∧ (insR rs' ka r).length = n' + 1 ∧ applyR rs cs = applyR (insR rs' ka r) (cs.drop (k + 1)) from by
            have hl : (insR rs' ka r).length = n' + 1 := by rw [ins_len (by have h1 := HI.out.2.2; have h2 := HK.out.2.2.1; omega), HK.out.2.2.1]
            have hoo := HI.out.2.1.own
            rw [HK.out.2.2.1] at hoo
            refine ⟨⟨?_, ?_, ?_, by rw [hl]; have := HI.out.2.2; omega⟩, hl, ?_⟩
            · exact HI.out.2.1.below.grown hgrow HI.out.2.1.below.size (fun g hg => (own_block hoo g hg).1)
            · rw [hl]
              have : cellsR (rs'.take ka) ++ [r.x.v, r.y.v] ++ cellsR (rs'.drop ka) = cellsR (insR rs' ka r) := by unfold insR; rw [cellsR_app, cellsR_app]; rfl
              rw [this] at hown5
              exact hown5
            · intro x hx
              rcases mem_ins hx with h | rfl
              · exact HR.out.1.ok x h
              · exact (H.out.2.2.2.2.2.1.ok ⟨true, (ka : Int), x⟩ (by rw [← List.take_append_drop k cs, HK.out.1]; simp)).r
            · rw [HR.out.2, HK.out.1, applyR]
              unfold stepR
              rw [HM.out]
              simp)
          clear hown5 hgrow y0 y1 y2 y3
          go_wp2
          go_roundw
          case rel => exact ⟨k + 1, _, _, _, by omega, by go_num, by rw [HN.out.2.1], ⟨HN.out.1, HN.out.2.2⟩⟩
          case measure => simp [intOf]; omega
        | false =>
          have hmp := may_del HM.out
          obtain ⟨ka, rfl⟩ : ∃ ka : Nat, a = ka := ⟨a.toNat, by omega⟩
          rw [HK.out.2.2.1] at hmp
          have hown := H2.out.1.own
          rw [HK.out.2.2.1] at hown
          obtain ⟨g, rfl⟩ : ∃ g, A' = some ⟨g, 0, none⟩ := by
            obtain ⟨_, ⟨hv, h0⟩ | ⟨g', cap, cur, hv, _⟩⟩ := hown
            · omega
            · cases hv; exact ⟨g', rfl⟩
          have hdel := insRule.delete_walk w2 V.heap.size g n' c' ka (cellsR rs') hown (cellsR_one rs') (by omega) (by omega)
          have wk : IntKind.i64.wrap ((ka : Int) + 1) = (ka : Int) + 1 := by rw [IntKind.wrap_i64]; omega
          have HI := Ytobdfocfkomagaa.base.Shut.mk (And.intro hdel (And.intro hmp hown))
          clear hdel hown hmp
          go_wp2_with fail
          refine HI.out.1.mono ?_
          rintro e w5 ⟨rfl, hown5, hgrow⟩
          rw [cellsR_take, cellsR_drop] at hown5
          have HN := Ytobdfocfkomagaa.base.Shut.mk (show AppAt V w5 q x0 x1 x2 x3 x4 A n c (some ⟨g, 0, none⟩) c' (delR rs' ka) ∧ (delR rs' ka).length = n' - 1 ∧ applyR rs cs = applyR (delR rs' ka) (cs.drop (k + 1)) from by
            have hl : (delR rs' ka).length = n' - 1 := by rw [del_len (by have h1 := HI.out.2.1; have h2 := HK.out.2.2.1; omega), HK.out.2.2.1]
            refine ⟨⟨?_, ?_, ?_, by rw [hl]; omega⟩, hl, ?_⟩
            · exact H2.out.1.below.grown hgrow H2.out.1.below.size (fun g2 hg => (own_block HI.out.2.2 g2 hg).1)
            · rw [hl]
              have : cellsR (rs'.take ka) ++ cellsR (rs'.drop (ka + 1)) = cellsR (delR rs' ka) := by unfold delR; rw [cellsR_app]
              rw [this] at hown5
              exact hown5
            · intro x hx
              exact HR.out.1.ok x (mem_del hx)
            · rw [HR.out.2, HK.out.1, applyR]
              unfold stepR
              rw [HM.out]
              simp)
          clear hown5 hgrow y0 y1 y2 y3
          go_wp2
          go_roundw
          case rel => exact ⟨k + 1, _, _, _, by omega, by go_num, by rw [HN.out.2.1], ⟨HN.out.1, HN.out.2.2⟩⟩
          case measure => simp [intOf]; omega
    · obtain rfl : k = m := by omega
      have hend : applyR rs cs = some rs' := by rw [HR.out.2, List.drop_of_length_le (by rw [H.out.2.2.2.2.2.2.2]; exact Nat.le_refl _), applyR]
      have hT := H.out.2.2.1.below HR.out.1.below
      have hZ := H.out.2.2.2.1.below HR.out.1.below
      have HE := Ytobdfocfkomagaa.base.Shut.mk (And.intro hend (And.intro hT hZ))
      have e0 := hT.cell 0
      have e1 := hT.cell 1
      have e2 := hT.cell 2
      have e3 := hT.cell 3
      have e4 := hT.cell 4
      have e5 := hT.cell 5
      have g5 := hT.frozen 5
      have z0 := hZ.cell 0
      have z1 := hZ.cell 1
      have z2 := hZ.cell 2
      have z3 := hZ.cell 3
      have z4 := hZ.cell 4
      have z5 := hZ.cell 5
      have f0 := hZ.frozen 0
      have f1 := hZ.frozen 1
      have f2 := hZ.frozen 2
      have f3 := hZ.frozen 3
      have f4 := hZ.frozen 4
      have f5 := hZ.frozen 5
      clear hend hT hZ hlt
      go_wp2
      have hz' := HE.out.2.2.other q 5 (.slice A' rs'.length c') (by omega)
      refine bodyPost_ret (v := .tuple #[.agg (tcells x0 x1 x2 x3 x4 A' rs'.length c'), .int .i64 0]) (res_tb (p := 4) (u := 5) rfl _ _ (q + 1) _ _ _ _ _ _ rfl (six_set hz' rfl _ _ _ _ _ _)) rfl ?_
      rw [HE.out.1]
      have hVs : V.heap.size = q + 2 := by rw [← hV, World.size_alloc, World.size_alloc, hq]
      have hB := (chain H.out.2.1 HR.out.1.below).setCell (p := ⟨q, 5, none⟩) (Nat.le_of_eq hq) (.slice A' rs'.length c')
      refine ⟨six_below hB (by omega) _ _ _ _ _ _, A', c', rfl, ?_⟩
      have hwV : w.heap.size ≤ V.heap.size := by omega
      refine own_weak (base := V.heap.size) (own_keep HR.out.1.own (fun g hg hg2 => ?_)) hwV
      rw [six_heap _ _ _ (by omega)]
      exact Below.heap_setCell wr ⟨q, 5, none⟩ _ g (by simp; omega)
end Go.Proofs.Ytobdfocfkomagaa.rev
