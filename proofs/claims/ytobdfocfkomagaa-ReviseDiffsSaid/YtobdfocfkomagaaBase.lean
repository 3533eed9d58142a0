/- Small facts that all walks of this family share: bytes as texts, rows of cells. -/
import Derived.Test.YtobdfocfkomagaaRows
import Derived.WalkKit
import Derived.ProofKit
import Derived.OpenShut
import Derived.Lib.Hide
import Derived.Laws.CopyOwn
import Derived.Laws.BytesArg
import Derived.Deep.WholeRow
import Derived.Carry
import Derived.Deep.AppendLies
import Derived.Laws.IdiomStrings
import Derived.BigQuiet
import Derived.Deep.QuietTactic
namespace Go.Proofs.Ytobdfocfkomagaa.base
open Go.ChangeShapes Go.WideShapes Go.ChangeAt Go.RowKit

/-- a fact kept from the walk altogether: neither simp nor 'contradiction' opens a structure (a numeral near 2^64 in an open bound ends in 'maximum recursion depth') -/
structure Shut (p : Prop) : Prop where
  out : p
theorem ret_int {k : IntKind} {a b : Int} (h : a = b) : Ending.returned (.int k a) = .returned (.int k b) := by rw [h]
theorem ret_str {a b : ByteArray} (h : a = b) : Ending.returned (.string a) = .returned (.string b) := by rw [h]
theorem ret_bool {a b : Bool} (h : a = b) : Ending.returned (.bool a) = .returned (.bool b) := by rw [h]
theorem ba_ext {a b : ByteArray} (h : a.data.toList = b.data.toList) : a = b := by
  cases a; cases b; congr; exact Array.toList_inj.1 h

theorem size_mk (l : List UInt8) : (ByteArray.mk l.toArray).size = l.length := by simp [ByteArray.size]
/-- the cells of bytes -/
def bytesOf (l : List UInt8) : List Value := l.map fun c => .int .u8 (c.toNat : Int)
theorem bytesOf_one (l : List UInt8) : ∀ v ∈ bytesOf l, v.oneCell' = true := by
  intro v hv; obtain ⟨c, _, rfl⟩ := List.mem_map.1 hv; rfl
theorem strOf_bytes (l : List UInt8) : strOfNums (l.map fun c => (c.toNat : Int)) = ⟨l.toArray⟩ := by
  unfold strOfNums
  congr 2
  rw [List.map_map]
  conv => rhs; rw [← List.map_id l]
  apply List.map_congr_left
  intro c _
  simp
/-- '[]byte' to 'string', the bytes given as a list -/
theorem run_string (w : World) (b off len cap : Nat) (l : List UInt8) (hl : l.length = len)
    (hc : ∀ i c, l[i]? = some c → w.cell? ⟨b, off + i, none⟩ = some (.int .u8 (c.toNat : Int))) :
    (convert 105 9 (.slice (some ⟨b, off, none⟩) len cap)).run Try.prog w = .ok (.string ⟨l.toArray⟩) w := by
  have := run_convert_bytes_arg (P := Try.prog) w 105 5 Try.underlying105 Try.underlying5 b off len cap (l.map fun c => (c.toNat : Int)) (by simpa using hl) (fun i hi => by
    rw [hc i (l[i]'(by omega)) (List.getElem?_eq_getElem (by omega))]
    simp [List.getD, List.getElem?_eq_getElem (show i < l.length by omega)]) 9 Try.underlying9
  rw [strOf_bytes] at this
  exact this
/-- the same of a new literal, its numbers as they stand -/
theorem run_string_new (w : World) (ns : List Int) (n : Nat) (hn : ns.length = n) :
    (convert 105 9 (.slice (some ⟨w.heap.size, 0, none⟩) n n)).run Try.prog (w.alloc (.cells (ns.map (Value.int .u8)).toArray 5)) =
      .ok (.string (strOfNums ns)) (w.alloc (.cells (ns.map (Value.int .u8)).toArray 5)) := by
  refine run_convert_bytes_arg (P := Try.prog) _ 105 5 Try.underlying105 Try.underlying5 _ 0 n n ns hn (fun i hi => ?_) 9 Try.underlying9
  rw [cell_of_row _ _ _ _ _ _ (heap_alloc_new _ _)]
  simp [List.getD, show i < ns.length by omega]

/-- '[]byte' to 'string' of a slice of the call's own -/
theorem own_string {w : World} {base n : Nat} {v : Value} {l : List UInt8} (h : w.ownsRow base 5 1 v n (bytesOf l)) :
    (convert 105 9 v).run Try.prog w = .ok (.string ⟨l.toArray⟩) w := by
  have hl : l.length = n := by have := h.1; simpa [bytesOf] using this
  rcases h.2 with ⟨rfl, h0⟩ | ⟨g, cap, cur, rfl, _⟩
  · have : l = [] := List.eq_nil_of_length_eq_zero (by omega)
    subst this
    exact run_convert_bytes_nil (P := Try.prog) w 105 5 Try.underlying105 Try.underlying5 0 0 9 Try.underlying9
  · refine run_string w g 0 n cap l hl (fun i c hi => ?_)
    have hx := h.cells (g := g) rfl i (.int .u8 (c.toNat : Int)) (by simp [bytesOf, hi])
    have hadd : (⟨g, 0, none⟩ : Addr).add i = ⟨g, 0 + i, none⟩ := by unfold Addr.add; split <;> simp_all
    rwa [hadd] at hx
/-- the world behind '[]byte(s)', s a text of the bytes l; and the new slice's capacity -/
def bcap (u : World) (l : List UInt8) : Nat := grownCap u (ByteArray.mk l.toArray).size 0 5
def bw (u : World) (l : List UInt8) : World :=
  u.drew.alloc (.cells (bytesRow ⟨l.toArray⟩ (bcap u l)) 5 ((bytesRow ⟨l.toArray⟩ (bcap u l)).size, (bytesRow ⟨l.toArray⟩ (bcap u l)).size + 1))
theorem run_bw (u : World) (l : List UInt8) (n : Nat) (hn : l.length = n) :
    (convert 9 105 (.string ⟨l.toArray⟩)).run Try.prog u = .ok (.slice (some ⟨u.heap.size, 0, none⟩) n (bcap u l)) (bw u l) := by
  subst hn
  have := run_bytes_of_string (P := Try.prog) u 9 105 5 ⟨l.toArray⟩ Try.underlying9 Try.underlying105 Try.underlying5
  rw [this, size_mk]
  rfl
theorem bw_below (u : World) (l : List UInt8) : Below u.heap.size u (bw u l) := ((Below.refl _ _).drew).alloc (Nat.le_refl _) _
theorem bw_size (u : World) (l : List UInt8) : (bw u l).heap.size = u.heap.size + 1 := by unfold bw; simp
theorem bw_cell (u : World) (l : List UInt8) (i : Nat) (c : UInt8) (h : l[i]? = some c) : (bw u l).cell? ⟨u.heap.size, i, none⟩ = some (.int .u8 (c.toNat : Int)) := by
  have h2 := World.cell?_alloc_mark u.drew (bytesRow ⟨l.toArray⟩ (bcap u l)) 5 ((bytesRow ⟨l.toArray⟩ (bcap u l)).size, (bytesRow ⟨l.toArray⟩ (bcap u l)).size + 1) i
  obtain ⟨hi, rfl⟩ := List.getElem?_eq_some_iff.1 h
  rw [bytesRow_at _ _ _ (by simpa using hi)] at h2
  exact h2
theorem bw_frozen (u : World) (l : List UInt8) (i : Nat) (h : i < l.length) : (bw u l).frozen? ⟨u.heap.size, i, none⟩ = false := by
  have h2 := World.frozen?_alloc_mark u.drew (bytesRow ⟨l.toArray⟩ (bcap u l)) 5 (bytesRow ⟨l.toArray⟩ (bcap u l)).size ((bytesRow ⟨l.toArray⟩ (bcap u l)).size + 1) i
  refine h2.trans ?_
  have : ¬ (bytesRow ⟨l.toArray⟩ (bcap u l)).size ≤ i := by unfold bytesRow; simp; omega
  rw [decide_eq_false this, Bool.false_and]
/- Worlds, one behind the other. -/
theorem chain {a b c : World} (h : Below a.heap.size a b) (k : Below b.heap.size b c) : Below a.heap.size a c := h.trans (k.mono h.size)
theorem newer {a b : World} (h : Below a.heap.size a b) (o : Obj) : Below a.heap.size a (b.alloc o) := h.alloc h.size o
theorem drewn {a b : World} (h : Below a.heap.size a b) : Below a.heap.size a b.drew := h.drew
theorem same (a : World) : Below a.heap.size a a := Below.refl _ _

/-- a contract that leaves the world alone, at a call in a region that draws -/
theorem still {f : FuncId} {args : Array Value} {w : World} {n : Nat} {v : Value} (h : Calls Try.prog f args (w.drewN n) fun e w' => e = .returned v ∧ w.drewN n = w') :
    Calls Try.prog f args (w.drewN n) fun e w'' => e = .returned v ∧ ∃ m, w'' = w.drewN m :=
  h.mono fun _ _ ⟨he, hw⟩ => ⟨he, n, hw.symm⟩
theorem drewnN {a b : World} (h : Below a.heap.size a b) (n : Nat) : Below a.heap.size a (b.drewN n) := ⟨h.os, h.tape, h.output, h.size, h.block⟩
theorem rest_eq (s : ByteArray) (k : Nat) : s.extract k s.size = ⟨(s.data.toList.drop k).toArray⟩ := by
  apply ba_ext
  simp [ByteArray.data_extract, List.extract]
  rw [List.take_of_length_le (by simp)]
/- A law's last step: the call returned true, and nothing that was there has turned. -/
theorem laidOut : laidOutB Try.prog = true := by kernel_rfl
theorem own : ownKnob Try.prog.godebug = none := by kernel_rfl
theorem trodAll_below {H : Type} {enc : TypeId × Value → H} {W W' : World} (hb : Below W.heap.size W W') : ∀ (ts : List TypeId) (vs : List Value) (ds : List (DataW H)) (ps : List MemPlace),
    (∀ t ∈ ts, Try.prog.readableRec t = true ∧ t < Try.prog.types.size) → (∀ x ∈ ps, x.block < W.heap.size) →
    DataW.TrodAll enc Try.prog W 0 (fun _ => true) true ts vs ds ps → DataW.TrodAll enc Try.prog W' 0 (fun b => decide (b < W.heap.size)) true ts vs ds ps
  | [], [], [], _, _, _, h => h
  | t :: ts, v :: vs, d :: ds, ps, hr, hlt, h => by
    obtain ⟨p, q, h1, h2, rfl⟩ := h
    exact ⟨p, q, Below.trod laidOut (hr t (by simp)).1 (hr t (by simp)).2 h1 hb (fun x hx => hlt x (by simp [hx])),
      trodAll_below hb ts vs ds q (fun t ht => hr t (by simp [ht])) (fun x hx => hlt x (by simp [hx])) h2, rfl⟩
  | [], [], _ :: _, _, _, _, h => h.elim
  | [], _ :: _, _, _, _, _, h => h.elim
  | _ :: _, [], _, _, _, _, h => h.elim
  | _ :: _, _ :: _, [], _, _, _, h => h.elim
theorem law_post {H : Type} {enc : TypeId × Value → H} {f : Func} {s : ChangeSpec} {W W' : World} {args : Array Value} {ds gs : List (DataW H)} {before : List MemPlace}
    (hv : s.vars = []) (hr : f.resultTypes.toList = [4]) (hrs : f.resultTypes.size = 1) (hread : (f.params.toList.all fun t => Try.prog.readableRec t && decide (t < Try.prog.types.size)) = true)
    (hres : (s.fn H (ds ++ [])).results = [.lit (.bool true)]) (hargs : (s.fn H (ds ++ [])).args = ds) (hvs : (s.fn H (ds ++ [])).vars = [])
    (hW : DataW.Whole enc Try.prog f.params.toList s.vars false W args.toList ds gs before) (hb : Below W.heap.size W W') :
    s.post enc Try.prog f false true false false W args (.bool true) W' := by
  have hlt : ∀ x ∈ before, x.block < W.heap.size := hW.lt
  have hW' := hW
  obtain ⟨p, q, hA, hV, hps, hfz, hnd⟩ := hW
  rw [hv] at hV
  obtain ⟨rfl, rfl⟩ := trodVars_none hV
  rw [List.append_nil] at hps
  subst hps
  refine ⟨ds, [], before, [], before, [], hW', ?_, ?_, ?_, World.keptBut_mono (fun _ f => f.elim) (hb.frame (fun _ => False)), fun h => by cases h⟩
  · rw [hr, hrs, hres]
    exact trodAll_cons_mk (shut_bool Try.underlying4 _) trodAll_mk0
  · rw [hargs]
    exact trodAll_below hb _ _ _ _ (fun t ht => by have h := List.all_eq_true.1 hread t ht; simpa using h) hlt hA
  · rw [hv, hvs]
    exact rfl
end Go.Proofs.Ytobdfocfkomagaa.base
