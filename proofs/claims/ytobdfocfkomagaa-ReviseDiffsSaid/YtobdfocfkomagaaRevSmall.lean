/- Small and Few: they answer, and true gives bounds. -/
import Derived.Test.YtobdfocfkomagaaRevCols
namespace Go.Proofs.Ytobdfocfkomagaa.rev
open Go.ChangeShapes Go.WideShapes Go.ChangeAt Go.RowKit
open Ytobdfocfkomagaa.base (size_mk chain newer drewn same ba_ext)
open Ytobdfocfkomagaa.row2 (Row CReads)

set_option maxRecDepth 100000 in
set_option maxHeartbeats 800000 in
theorem texts_walk (a : SI) (w : World) (ha : SOk w a) :
    Calls Try.prog 44 #[a.v] w fun e w' => (∃ v, e = .returned (.bool v)) ∧ Below w.heap.size w w' := by
  obtain ⟨A, c, ss⟩ := a
  obtain ⟨hr, hs⟩ := ha
  simp only at hr hs
  show Calls Try.prog 44 #[.slice A ss.length c] w _
  obtain ⟨n, hn⟩ : ∃ n, ss.length = n := ⟨_, rfl⟩
  rw [hn]
  have H := Ytobdfocfkomagaa.base.Shut.mk (And.intro hr hn)
  have hs63 : n ≤ 9223372036854775807 := by unfold maxLen at hs; omega
  clear hr hn hs
  by_cases h10 : 10 < n
  · have h10' : (10 : Int) < n := by omega
    go_enter Try.func44, Try.ntmps44
    go_wp2
    go_ret
    exact ⟨⟨_, rfl⟩, same w⟩
  · have h10' : ¬ (10 : Int) < n := by omega
    go_enter Try.func44, Try.ntmps44
    go_wp2
    go_loopw [3] (fun i wr => ∃ k : Nat, i = .int .i64 k ∧ k ≤ n ∧ Ytobdfocfkomagaa.base.Shut (Below w.heap.size w wr)) (fun i _ => n - (intOf i).toNat)
    case atStart => exact ⟨0, rfl, Nat.zero_le _, ⟨same w⟩⟩
    case round =>
      obtain ⟨k, rfl, hk, HI⟩ := hrel
      by_cases hlt : k < n
      · have hlt1 : k < ss.length := by rw [H.out.2]; exact hlt
        obtain ⟨b, off, rfl, _, hc⟩ := H.out.1.keep HI.out (by intro e; rw [e] at hlt1; simp at hlt1)
        have c1 := hc k ss[k] (List.getElem?_eq_getElem hlt1)
        have k1 : (k : Int) < n := by omega
        clear hc
        generalize ss[k] = x at c1
        by_cases h3 : (300 : Int) < x.size
        · go_wp2
          go_ret
          exact ⟨⟨_, rfl⟩, HI.out⟩
        · go_wp2
          go_roundw
          case rel => exact ⟨k + 1, by go_num, by omega, HI⟩
          case measure => simp [intOf]; omega
      · obtain rfl : k = n := by omega
        go_wp2
        go_ret
        exact ⟨⟨_, rfl⟩, HI.out⟩

set_option maxRecDepth 100000 in
set_option maxHeartbeats 800000 in
theorem colsFew_walk (a : FI) (w : World) (ha : FOk w a) :
    Calls Try.prog 76 #[a.v] w fun e w' => (∃ v, e = .returned (.bool v)) ∧ Below w.heap.size w w' := by
  obtain ⟨n, hn⟩ : ∃ n, a.l.length = n := ⟨_, rfl⟩
  have hs63 : n ≤ 9223372036854775807 := by have := ha.len; unfold maxLen at this; omega
  have H := Ytobdfocfkomagaa.base.Shut.mk (And.intro ha hn)
  show Calls Try.prog 76 #[.slice a.A a.l.length a.c] w _
  rw [hn]
  clear ha hn
  by_cases h10 : 12 < n
  · have h10' : (12 : Int) < n := by omega
    go_enter Try.func76, Try.ntmps76
    go_wp2
    go_ret
    exact ⟨⟨_, rfl⟩, same w⟩
  · have h10' : ¬ (12 : Int) < n := by omega
    go_enter Try.func76, Try.ntmps76
    go_wp2
    go_loopw [3] (fun i wr => ∃ k : Nat, i = .int .i64 k ∧ k ≤ n ∧ Ytobdfocfkomagaa.base.Shut (Below w.heap.size w wr)) (fun i _ => n - (intOf i).toNat)
    case atStart => exact ⟨0, rfl, Nat.zero_le _, ⟨same w⟩⟩
    case round =>
      obtain ⟨k, rfl, hk, HI⟩ := hrel
      by_cases hlt : k < n
      · obtain ⟨x, hx⟩ : ∃ x, a.l[k]? = some x := ⟨_, List.getElem?_eq_getElem (by rw [H.out.2]; exact hlt)⟩
        obtain ⟨p, off, hA, c0, c1, c2, hok⟩ := (H.out.1.keep HI.out).at_ hx
        have k1 : (k : Int) < n := by omega
        clear hx hok
        simp only [hA]
        generalize x.nm = s at c0
        by_cases h3 : (300 : Int) < s.size
        · go_wp2
          go_ret
          exact ⟨⟨_, rfl⟩, HI.out⟩
        · go_wp2
          go_roundw
          case rel => exact ⟨k + 1, by go_num, by omega, HI⟩
          case measure => simp [intOf]; omega
      · obtain rfl : k = n := by omega
        go_wp2
        go_ret
        exact ⟨⟨_, rfl⟩, HI.out⟩

set_option maxRecDepth 100000 in
set_option maxHeartbeats 1600000 in
theorem order_walk (a : FI) (w : World) (ha : FOk w a) :
    Calls Try.prog 43 #[a.v] w fun e w' => (∃ v, e = .returned (.bool v)) ∧ Below w.heap.size w w' := by
  have hfew := colsFew_walk a w ha
  obtain ⟨n, hn⟩ : ∃ n, a.l.length = n := ⟨_, rfl⟩
  have hs63 : n ≤ 9223372036854775807 := by have := ha.len; unfold maxLen at this; omega
  have hfew' : Calls Try.prog 76 #[.slice a.A a.l.length a.c] w fun e w' => (∃ v, e = .returned (.bool v)) ∧ Below w.heap.size w w' := hfew
  rw [hn] at hfew'
  have H := Ytobdfocfkomagaa.base.Shut.mk (And.intro ha (And.intro hn hfew'))
  show Calls Try.prog 43 #[.slice a.A a.l.length a.c] w _
  rw [hn]
  clear ha hn hfew hfew'
  go_enter Try.func43, Try.ntmps43
  go_wp2_with fail
  refine H.out.2.2.mono ?_
  rintro e w1 ⟨⟨v, rfl⟩, hb1⟩
  have H1 := Ytobdfocfkomagaa.base.Shut.mk hb1
  clear hb1
  cases v with
  | false =>
    go_wp2
    go_ret
    exact ⟨⟨_, rfl⟩, H1.out⟩
  | true =>
    go_wp2
    go_loopw [3] (fun i wr => ∃ k : Nat, i = .int .i64 k ∧ k ≤ n ∧ Ytobdfocfkomagaa.base.Shut (Below w.heap.size w wr)) (fun i _ => n - (intOf i).toNat)
    case atStart => exact ⟨0, rfl, Nat.zero_le _, ⟨H1.out⟩⟩
    case round =>
      obtain ⟨k, rfl, hk, HI⟩ := hrel
      by_cases hlt : k < n
      · obtain ⟨x, hx⟩ : ∃ x, a.l[k]? = some x := ⟨_, List.getElem?_eq_getElem (by rw [H.out.2.1]; exact hlt)⟩
        obtain ⟨p, off, hA, c0, c1, c2, hok⟩ := (H.out.1.keep HI.out).at_ hx
        have k1 : (k : Int) < n := by omega
        clear hx
        obtain ⟨xn, xk, xo⟩ := x
        obtain ⟨OA, oc, ol⟩ := xo
        simp only at c2 hok
        obtain ⟨m, hm⟩ : ∃ m, ol.length = m := ⟨_, rfl⟩
        have hm63 : m ≤ 9223372036854775807 := by have := hok.len; unfold maxLen at this; simp only at this; omega
        replace c2 : wr.cell? ⟨p, off + k * 3 + 2, none⟩ = some (.slice OA ol.length oc) := c2
        rw [hm] at c2
        have HO := Ytobdfocfkomagaa.base.Shut.mk (And.intro hok hm)
        clear hok hm
        simp only [hA]
        by_cases h12 : (12 : Int) < m
        · go_wp2
          go_ret
          exact ⟨by first | exact ⟨_, rfl⟩ | exact .inl rfl | exact .inr rfl, HI.out⟩
        · go_wp2
          go_loopw [4] (fun i w' => ∃ j : Nat, i = .int .i64 j ∧ j ≤ m ∧ w' = wr) (fun i _ => m - (intOf i).toNat)
          case atStart => exact ⟨0, rfl, Nat.zero_le _, rfl⟩
          case round =>
            obtain ⟨j, rfl, hj, rfl⟩ := hrel
            by_cases hjl : j < m
            · obtain ⟨y, hy⟩ : ∃ y, ol[j]? = some y := ⟨_, List.getElem?_eq_getElem (by rw [HO.out.2]; exact hjl)⟩
              obtain ⟨b, o2, rfl, d0, d1, d2⟩ := vreads_at HO.out.1.cells hy
              have j1 : (j : Int) < m := by omega
              clear hy
              generalize y.s = s at d2
              by_cases h3 : (300 : Int) < s.size
              · go_wp2
                go_ret
                exact ⟨by first | exact ⟨_, rfl⟩ | exact .inl rfl | exact .inr rfl, HI.out⟩
              · go_wp2
                go_roundw
                case rel => exact ⟨j + 1, by go_num, by omega, by first | rfl | trivial⟩
                case measure => simp [intOf]; omega
            · obtain rfl : j = m := by omega
              go_wp2
              go_roundw
              case rel => exact ⟨k + 1, by go_num, by omega, HI⟩
              case measure => simp [intOf]; omega
      · obtain rfl : k = n := by omega
        go_wp2
        go_ret
        exact ⟨by first | exact ⟨_, rfl⟩ | exact .inl rfl | exact .inr rfl, HI.out⟩
end Go.Proofs.Ytobdfocfkomagaa.rev
