/- The walks of package octet, and of its reference: codes, numbers, the bytes of numbers. -/
import Derived.Test.YtobdfocfkomagaaBase
import Derived.Test.YtobdfocfkomagaaOctNat
import Derived.BigQuiet
import Derived.Deep.QuietTactic
namespace Go.Proofs.Ytobdfocfkomagaa.oct
open Go.ChangeShapes Go.WideShapes Go.ChangeAt Go.RowKit
open Ytobdfocfkomagaa.base (size_mk ret_int ret_str ret_bool ba_ext run_string own_string chain newer drewn same bytesOf bytesOf_one)

set_option maxHeartbeats 400000 in
theorem code_walk (n : Int) (hn : -9223372036854775808 ≤ n ∧ n ≤ 9223372036854775807) (w : World) :
    Calls Try.prog 97 #[.int .i64 n] w fun e w' => e = .returned (.int .u64 (code n : Int)) ∧ w = w' := by
  obtain ⟨h0, h1⟩ := hn
  go_enter Try.func97, Try.ntmps97
  go_wp2
  go_ret
  exact ⟨ret_int (code_form n h0 h1), rfl⟩
set_option maxHeartbeats 400000 in
theorem rcode_walk (n : Int) (hn : -9223372036854775808 ≤ n ∧ n ≤ 9223372036854775807) (w : World) :
    Calls Try.prog 102 #[.int .i64 n] w fun e w' => e = .returned (.int .u64 (code n : Int)) ∧ w = w' := by
  obtain ⟨h0, h1⟩ := hn
  by_cases h : n < 0
  · go_enter Try.func102, Try.ntmps102
    go_wp2
    go_ret
    exact ⟨ret_int (code_neg n h), rfl⟩
  · go_enter Try.func102, Try.ntmps102
    go_wp2
    go_ret
    exact ⟨ret_int (code_pos n (by omega)), rfl⟩
set_option maxHeartbeats 400000 in
theorem number_walk (c : Nat) (hc : c < 18446744073709551616) (w : World) :
    Calls Try.prog 89 #[.int .u64 (c : Int)] w fun e w' => e = .returned (.int .i64 (number c)) ∧ w = w' := by
  go_enter Try.func89, Try.ntmps89
  go_wp2
  go_ret
  exact ⟨ret_int (number_form c hc), rfl⟩
set_option maxHeartbeats 400000 in
theorem rnumber_walk (c : Nat) (_hc : c < 18446744073709551616) (w : World) :
    Calls Try.prog 91 #[.int .u64 (c : Int)] w fun e w' => e = .returned (.int .i64 (number c)) ∧ w = w' := by
  by_cases h : ((c : Int) % 2 == 1) = true
  · go_enter Try.func91, Try.ntmps91
    go_wp2
    go_ret
    exact ⟨ret_int (number_odd c h), rfl⟩
  · have h' : ((c : Int) % 2 == 1) = false := by simpa using h
    clear h
    go_enter Try.func91, Try.ntmps91
    go_wp2
    go_ret
    exact ⟨ret_int (number_even c h'), rfl⟩
set_option maxHeartbeats 400000 in
theorem low64_walk (c : Nat) (_hc : c < 18446744073709551616) (w : World) :
    Calls Try.prog 98 #[.int .u64 (c : Int)] w fun e w' => e = .returned (.int .u8 ((c % 128 : Nat) : Int)) ∧ w = w' := by
  go_enter Try.func98, Try.ntmps98
  go_wp2
  go_ret
  exact ⟨ret_int (low64_form c), rfl⟩
set_option maxHeartbeats 400000 in
theorem low_walk (c : Nat) (hc : c < 256) (w : World) :
    Calls Try.prog 88 #[.int .i64 (c : Int)] w fun e w' => e = .returned (.int .u8 ((c % 128 : Nat) : Int)) ∧ w = w' := by
  go_enter Try.func88, Try.ntmps88
  go_wp2
  go_ret
  exact ⟨ret_int (low_form c hc), rfl⟩
end Go.Proofs.Ytobdfocfkomagaa.oct
