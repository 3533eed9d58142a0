/- slices.ContainsFunc with the log's test: no text is too long. -/
import Derived.Test.YthkjodlddhdeiaaWalTrim
namespace Go.Proofs.Ythkjodlddhdeiaa.wal
open Go.ChangeShapes Go.WideShapes Go.ChangeAt Go.RowKit
open Ythkjodlddhdeiaa.base Ythkjodlddhdeiaa.disk
open Ythkjodlddhdeiaa.oct (Reads)

set_option maxRecDepth 100000 in
theorem long_no (s : ByteArray) (w : World) (h : s.size ≤ 490) : Calls Try.prog 73 #[.string s] w fun e w' => e = .returned (.bool false) ∧ w = w' := by
  have hd : decide ((490 : Int) < (s.size : Int)) = false := by simp; omega
  go_enter Try.func73, Try.ntmps73
  go_wp2
  go_ret
  exact ⟨rfl, rfl⟩
set_option maxRecDepth 100000 in
set_option maxHeartbeats 800000 in
theorem index_none {w : World} {A : Option Addr} {cap : Nat} {ss : List ByteArray} (h : Reads w A ss) (hs : ∀ s ∈ ss, s.size ≤ 490) (hl : ss.length ≤ 9223372036854775807) :
    Calls Try.prog 96 #[.slice A ss.length cap, .func (.func 73) #[] #[]] w fun e w' => e = .returned (.int .i64 (-1)) ∧ w = w' := by
  obtain ⟨n, hn⟩ : ∃ n, n = ss.length := ⟨_, rfl⟩
  rw [← hn] at hl ⊢
  have HH := Ythkjodlddhdeiaa.base.Shut.mk (And.intro h (And.intro hs hn))
  clear h hs hn
  go_enter Try.func96, Try.ntmps96
  go_wp2
  go_loop [8] (fun i => ∃ k : Nat, k ≤ n ∧ i = .int .i64 k) (fun i => n - (intOf i).toNat)
  case atStart => exact ⟨0, Nat.zero_le _, rfl⟩
  case round =>
    obtain ⟨k, hk, rfl⟩ := hrel
    by_cases hlt : k < n
    · have hk2 : k < ss.length := by rw [← HH.out.2.2]; exact hlt
      obtain ⟨b, off, rfl, _, hc⟩ := HH.out.1 (fun e => by rw [e] at hk2; simp at hk2)
      obtain ⟨s, hs⟩ : ∃ s, ss[k]? = some s := ⟨_, List.getElem?_eq_getElem hk2⟩
      have hcell := hc k s hs
      have HS := Ythkjodlddhdeiaa.base.Shut.mk (long_no s w (HH.out.2.1 s (List.mem_of_getElem? hs)))
      have hkk : (k : Int) < (n : Int) := by omega
      have hk0 : (0 : Int) ≤ (k : Int) := by omega
      clear hc hs
      go_wp2_with fail
      refine HS.out.mono ?_
      rintro e w1 ⟨rfl, rfl⟩
      go_wp2
      go_round
      case rel => exact ⟨k + 1, by omega, by go_num⟩
      case measure => simp [intOf]; omega
    · obtain rfl : n = k := by omega
      go_wp2
      go_ret
      exact ⟨rfl, rfl⟩
set_option maxRecDepth 100000 in
theorem contains_none {w : World} {A : Option Addr} {cap : Nat} {ss : List ByteArray} (h : Reads w A ss) (hs : ∀ s ∈ ss, s.size ≤ 490) (hl : ss.length ≤ 9223372036854775807) :
    Calls Try.prog 72 #[.slice A ss.length cap, .func (.func 73) #[] #[]] w fun e w' => e = .returned (.bool false) ∧ w = w' := by
  have HI := Ythkjodlddhdeiaa.base.Shut.mk (index_none (cap := cap) h hs hl)
  clear h hs hl
  go_enter Try.func72, Try.ntmps72
  go_wp2_with fail
  refine HI.out.mono ?_
  rintro e w1 ⟨rfl, rfl⟩
  go_wp2
  go_ret
  exact ⟨rfl, rfl⟩
end Go.Proofs.Ythkjodlddhdeiaa.wal
