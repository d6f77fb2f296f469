import Derived.Test.YteknaaijlkenkaaBlkP
import Derived.Test.YteknaaijlkenkaaBas2
import Derived.Test.YteknaaijlkenkaaRows
namespace Go.Proofs.Yteknaaijlkenkaa
set_option linter.unusedVariables false
set_option linter.unusedSimpArgs false
open Go.RowKit

set_option maxHeartbeats 1600000 in
set_option maxRecDepth 100000 in
theorem inf_base (k : Nat) (hk : k < 28) (wide : Bool) (w : World) :
    Calls Try.prog 72 #[.int .i64 ((257 + k : Nat) : Int), .bool wide] w fun e w' => e = .returned (.tuple #[.int .i64 (lenBase k : Nat), .int .i64 (lenMore k : Nat), .bool true]) ∧ w' = w := by
  match k, hk with
  | 0, _ =>
    go_enter Try.func72, Try.ntmps72
    go_wp2_with fail
    go_ret3
    exact ⟨rfl, rfl⟩
  | 1, _ =>
    go_enter Try.func72, Try.ntmps72
    go_wp2_with fail
    go_ret3
    exact ⟨rfl, rfl⟩
  | 2, _ =>
    go_enter Try.func72, Try.ntmps72
    go_wp2_with fail
    go_ret3
    exact ⟨rfl, rfl⟩
  | 3, _ =>
    go_enter Try.func72, Try.ntmps72
    go_wp2_with fail
    go_ret3
    exact ⟨rfl, rfl⟩
  | 4, _ =>
    go_enter Try.func72, Try.ntmps72
    go_wp2_with fail
    go_ret3
    exact ⟨rfl, rfl⟩
  | 5, _ =>
    go_enter Try.func72, Try.ntmps72
    go_wp2_with fail
    go_ret3
    exact ⟨rfl, rfl⟩
  | 6, _ =>
    go_enter Try.func72, Try.ntmps72
    go_wp2_with fail
    go_ret3
    exact ⟨rfl, rfl⟩
  | 7, _ =>
    go_enter Try.func72, Try.ntmps72
    go_wp2_with fail
    go_ret3
    exact ⟨rfl, rfl⟩
  | 8, _ =>
    go_enter Try.func72, Try.ntmps72
    go_wp2_with fail
    go_ret3
    exact ⟨rfl, rfl⟩
  | 9, _ =>
    go_enter Try.func72, Try.ntmps72
    go_wp2_with fail
    go_ret3
    exact ⟨rfl, rfl⟩
  | 10, _ =>
    go_enter Try.func72, Try.ntmps72
    go_wp2_with fail
    go_ret3
    exact ⟨rfl, rfl⟩
  | 11, _ =>
    go_enter Try.func72, Try.ntmps72
    go_wp2_with fail
    go_ret3
    exact ⟨rfl, rfl⟩
  | 12, _ =>
    go_enter Try.func72, Try.ntmps72
    go_wp2_with fail
    go_ret3
    exact ⟨rfl, rfl⟩
  | 13, _ =>
    go_enter Try.func72, Try.ntmps72
    go_wp2_with fail
    go_ret3
    exact ⟨rfl, rfl⟩
  | 14, _ =>
    go_enter Try.func72, Try.ntmps72
    go_wp2_with fail
    go_ret3
    exact ⟨rfl, rfl⟩
  | 15, _ =>
    go_enter Try.func72, Try.ntmps72
    go_wp2_with fail
    go_ret3
    exact ⟨rfl, rfl⟩
  | 16, _ =>
    go_enter Try.func72, Try.ntmps72
    go_wp2_with fail
    go_ret3
    exact ⟨rfl, rfl⟩
  | 17, _ =>
    go_enter Try.func72, Try.ntmps72
    go_wp2_with fail
    go_ret3
    exact ⟨rfl, rfl⟩
  | 18, _ =>
    go_enter Try.func72, Try.ntmps72
    go_wp2_with fail
    go_ret3
    exact ⟨rfl, rfl⟩
  | 19, _ =>
    go_enter Try.func72, Try.ntmps72
    go_wp2_with fail
    go_ret3
    exact ⟨rfl, rfl⟩
  | 20, _ =>
    go_enter Try.func72, Try.ntmps72
    go_wp2_with fail
    go_ret3
    exact ⟨rfl, rfl⟩
  | 21, _ =>
    go_enter Try.func72, Try.ntmps72
    go_wp2_with fail
    go_ret3
    exact ⟨rfl, rfl⟩
  | 22, _ =>
    go_enter Try.func72, Try.ntmps72
    go_wp2_with fail
    go_ret3
    exact ⟨rfl, rfl⟩
  | 23, _ =>
    go_enter Try.func72, Try.ntmps72
    go_wp2_with fail
    go_ret3
    exact ⟨rfl, rfl⟩
  | 24, _ =>
    go_enter Try.func72, Try.ntmps72
    go_wp2_with fail
    go_ret3
    exact ⟨rfl, rfl⟩
  | 25, _ =>
    go_enter Try.func72, Try.ntmps72
    go_wp2_with fail
    go_ret3
    exact ⟨rfl, rfl⟩
  | 26, _ =>
    go_enter Try.func72, Try.ntmps72
    go_wp2_with fail
    go_ret3
    exact ⟨rfl, rfl⟩
  | 27, _ =>
    go_enter Try.func72, Try.ntmps72
    go_wp2_with fail
    go_ret3
    exact ⟨rfl, rfl⟩
  | k + 28, h => omega
set_option maxHeartbeats 1600000 in
set_option maxRecDepth 100000 in
theorem inf_base285 (wide : Bool) (w : World) :
    Calls Try.prog 72 #[.int .i64 285, .bool wide] w fun e w' => e = .returned (.tuple #[.int .i64 (if wide then 3 else 258), .int .i64 (if wide then 16 else 0), .bool true]) ∧ w' = w := by
  cases wide with
  | true =>
    go_enter Try.func72, Try.ntmps72
    go_wp2_with fail
    go_ret3
    exact ⟨rfl, rfl⟩
  | false =>
    go_enter Try.func72, Try.ntmps72
    go_wp2_with fail
    go_ret3
    exact ⟨rfl, rfl⟩
set_option maxHeartbeats 1600000 in
set_option maxRecDepth 100000 in
theorem ref_base (k : Nat) (hk : k < 28) (wide : Bool) (w : World) :
    Calls Try.prog 57 #[.int .i64 ((257 + k : Nat) : Int), .bool wide] w fun e w' => e = .returned (.tuple #[.int .i64 (lenBase k : Nat), .int .i64 (lenMore k : Nat), .bool true]) ∧ w' = w := by
  match k, hk with
  | 0, _ =>
    go_enter Try.func57, Try.ntmps57
    go_wp2_with fail
    go_ret3
    exact ⟨rfl, rfl⟩
  | 1, _ =>
    go_enter Try.func57, Try.ntmps57
    go_wp2_with fail
    go_ret3
    exact ⟨rfl, rfl⟩
  | 2, _ =>
    go_enter Try.func57, Try.ntmps57
    go_wp2_with fail
    go_ret3
    exact ⟨rfl, rfl⟩
  | 3, _ =>
    go_enter Try.func57, Try.ntmps57
    go_wp2_with fail
    go_ret3
    exact ⟨rfl, rfl⟩
  | 4, _ =>
    go_enter Try.func57, Try.ntmps57
    go_wp2_with fail
    go_ret3
    exact ⟨rfl, rfl⟩
  | 5, _ =>
    go_enter Try.func57, Try.ntmps57
    go_wp2_with fail
    go_ret3
    exact ⟨rfl, rfl⟩
  | 6, _ =>
    go_enter Try.func57, Try.ntmps57
    go_wp2_with fail
    go_ret3
    exact ⟨rfl, rfl⟩
  | 7, _ =>
    go_enter Try.func57, Try.ntmps57
    go_wp2_with fail
    go_ret3
    exact ⟨rfl, rfl⟩
  | 8, _ =>
    go_enter Try.func57, Try.ntmps57
    go_wp2_with fail
    go_ret3
    exact ⟨rfl, rfl⟩
  | 9, _ =>
    go_enter Try.func57, Try.ntmps57
    go_wp2_with fail
    go_ret3
    exact ⟨rfl, rfl⟩
  | 10, _ =>
    go_enter Try.func57, Try.ntmps57
    go_wp2_with fail
    go_ret3
    exact ⟨rfl, rfl⟩
  | 11, _ =>
    go_enter Try.func57, Try.ntmps57
    go_wp2_with fail
    go_ret3
    exact ⟨rfl, rfl⟩
  | 12, _ =>
    go_enter Try.func57, Try.ntmps57
    go_wp2_with fail
    go_ret3
    exact ⟨rfl, rfl⟩
  | 13, _ =>
    go_enter Try.func57, Try.ntmps57
    go_wp2_with fail
    go_ret3
    exact ⟨rfl, rfl⟩
  | 14, _ =>
    go_enter Try.func57, Try.ntmps57
    go_wp2_with fail
    go_ret3
    exact ⟨rfl, rfl⟩
  | 15, _ =>
    go_enter Try.func57, Try.ntmps57
    go_wp2_with fail
    go_ret3
    exact ⟨rfl, rfl⟩
  | 16, _ =>
    go_enter Try.func57, Try.ntmps57
    go_wp2_with fail
    go_ret3
    exact ⟨rfl, rfl⟩
  | 17, _ =>
    go_enter Try.func57, Try.ntmps57
    go_wp2_with fail
    go_ret3
    exact ⟨rfl, rfl⟩
  | 18, _ =>
    go_enter Try.func57, Try.ntmps57
    go_wp2_with fail
    go_ret3
    exact ⟨rfl, rfl⟩
  | 19, _ =>
    go_enter Try.func57, Try.ntmps57
    go_wp2_with fail
    go_ret3
    exact ⟨rfl, rfl⟩
  | 20, _ =>
    go_enter Try.func57, Try.ntmps57
    go_wp2_with fail
    go_ret3
    exact ⟨rfl, rfl⟩
  | 21, _ =>
    go_enter Try.func57, Try.ntmps57
    go_wp2_with fail
    go_ret3
    exact ⟨rfl, rfl⟩
  | 22, _ =>
    go_enter Try.func57, Try.ntmps57
    go_wp2_with fail
    go_ret3
    exact ⟨rfl, rfl⟩
  | 23, _ =>
    go_enter Try.func57, Try.ntmps57
    go_wp2_with fail
    go_ret3
    exact ⟨rfl, rfl⟩
  | 24, _ =>
    go_enter Try.func57, Try.ntmps57
    go_wp2_with fail
    go_ret3
    exact ⟨rfl, rfl⟩
  | 25, _ =>
    go_enter Try.func57, Try.ntmps57
    go_wp2_with fail
    go_ret3
    exact ⟨rfl, rfl⟩
  | 26, _ =>
    go_enter Try.func57, Try.ntmps57
    go_wp2_with fail
    go_ret3
    exact ⟨rfl, rfl⟩
  | 27, _ =>
    go_enter Try.func57, Try.ntmps57
    go_wp2_with fail
    go_ret3
    exact ⟨rfl, rfl⟩
  | k + 28, h => omega
set_option maxHeartbeats 1600000 in
set_option maxRecDepth 100000 in
theorem ref_base285 (wide : Bool) (w : World) :
    Calls Try.prog 57 #[.int .i64 285, .bool wide] w fun e w' => e = .returned (.tuple #[.int .i64 (if wide then 3 else 258), .int .i64 (if wide then 16 else 0), .bool true]) ∧ w' = w := by
  cases wide with
  | true =>
    go_enter Try.func57, Try.ntmps57
    go_wp2_with fail
    go_ret3
    exact ⟨rfl, rfl⟩
  | false =>
    go_enter Try.func57, Try.ntmps57
    go_wp2_with fail
    go_ret3
    exact ⟨rfl, rfl⟩
set_option maxHeartbeats 1600000 in
set_option maxRecDepth 100000 in
theorem inf_far (k : Nat) (hk : k < 32) (wide : Bool) (hw : 30 ≤ k → wide = true) (w : World) :
    Calls Try.prog 73 #[.int .i64 (k : Int), .bool wide] w fun e w' => e = .returned (.tuple #[.int .i64 (farBase k : Nat), .int .i64 (farMore k : Nat), .bool true]) ∧ w' = w := by
  match k, hk with
  | 0, _ =>
    go_enter Try.func73, Try.ntmps73
    go_wp2_with fail
    go_ret3
    exact ⟨rfl, rfl⟩
  | 1, _ =>
    go_enter Try.func73, Try.ntmps73
    go_wp2_with fail
    go_ret3
    exact ⟨rfl, rfl⟩
  | 2, _ =>
    go_enter Try.func73, Try.ntmps73
    go_wp2_with fail
    go_ret3
    exact ⟨rfl, rfl⟩
  | 3, _ =>
    go_enter Try.func73, Try.ntmps73
    go_wp2_with fail
    go_ret3
    exact ⟨rfl, rfl⟩
  | 4, _ =>
    go_enter Try.func73, Try.ntmps73
    go_wp2_with fail
    go_ret3
    exact ⟨rfl, rfl⟩
  | 5, _ =>
    go_enter Try.func73, Try.ntmps73
    go_wp2_with fail
    go_ret3
    exact ⟨rfl, rfl⟩
  | 6, _ =>
    go_enter Try.func73, Try.ntmps73
    go_wp2_with fail
    go_ret3
    exact ⟨rfl, rfl⟩
  | 7, _ =>
    go_enter Try.func73, Try.ntmps73
    go_wp2_with fail
    go_ret3
    exact ⟨rfl, rfl⟩
  | 8, _ =>
    go_enter Try.func73, Try.ntmps73
    go_wp2_with fail
    go_ret3
    exact ⟨rfl, rfl⟩
  | 9, _ =>
    go_enter Try.func73, Try.ntmps73
    go_wp2_with fail
    go_ret3
    exact ⟨rfl, rfl⟩
  | 10, _ =>
    go_enter Try.func73, Try.ntmps73
    go_wp2_with fail
    go_ret3
    exact ⟨rfl, rfl⟩
  | 11, _ =>
    go_enter Try.func73, Try.ntmps73
    go_wp2_with fail
    go_ret3
    exact ⟨rfl, rfl⟩
  | 12, _ =>
    go_enter Try.func73, Try.ntmps73
    go_wp2_with fail
    go_ret3
    exact ⟨rfl, rfl⟩
  | 13, _ =>
    go_enter Try.func73, Try.ntmps73
    go_wp2_with fail
    go_ret3
    exact ⟨rfl, rfl⟩
  | 14, _ =>
    go_enter Try.func73, Try.ntmps73
    go_wp2_with fail
    go_ret3
    exact ⟨rfl, rfl⟩
  | 15, _ =>
    go_enter Try.func73, Try.ntmps73
    go_wp2_with fail
    go_ret3
    exact ⟨rfl, rfl⟩
  | 16, _ =>
    go_enter Try.func73, Try.ntmps73
    go_wp2_with fail
    go_ret3
    exact ⟨rfl, rfl⟩
  | 17, _ =>
    go_enter Try.func73, Try.ntmps73
    go_wp2_with fail
    go_ret3
    exact ⟨rfl, rfl⟩
  | 18, _ =>
    go_enter Try.func73, Try.ntmps73
    go_wp2_with fail
    go_ret3
    exact ⟨rfl, rfl⟩
  | 19, _ =>
    go_enter Try.func73, Try.ntmps73
    go_wp2_with fail
    go_ret3
    exact ⟨rfl, rfl⟩
  | 20, _ =>
    go_enter Try.func73, Try.ntmps73
    go_wp2_with fail
    go_ret3
    exact ⟨rfl, rfl⟩
  | 21, _ =>
    go_enter Try.func73, Try.ntmps73
    go_wp2_with fail
    go_ret3
    exact ⟨rfl, rfl⟩
  | 22, _ =>
    go_enter Try.func73, Try.ntmps73
    go_wp2_with fail
    go_ret3
    exact ⟨rfl, rfl⟩
  | 23, _ =>
    go_enter Try.func73, Try.ntmps73
    go_wp2_with fail
    go_ret3
    exact ⟨rfl, rfl⟩
  | 24, _ =>
    go_enter Try.func73, Try.ntmps73
    go_wp2_with fail
    go_ret3
    exact ⟨rfl, rfl⟩
  | 25, _ =>
    go_enter Try.func73, Try.ntmps73
    go_wp2_with fail
    go_ret3
    exact ⟨rfl, rfl⟩
  | 26, _ =>
    go_enter Try.func73, Try.ntmps73
    go_wp2_with fail
    go_ret3
    exact ⟨rfl, rfl⟩
  | 27, _ =>
    go_enter Try.func73, Try.ntmps73
    go_wp2_with fail
    go_ret3
    exact ⟨rfl, rfl⟩
  | 28, _ =>
    go_enter Try.func73, Try.ntmps73
    go_wp2_with fail
    go_ret3
    exact ⟨rfl, rfl⟩
  | 29, _ =>
    go_enter Try.func73, Try.ntmps73
    go_wp2_with fail
    go_ret3
    exact ⟨rfl, rfl⟩
  | 30, _ =>
    obtain rfl : wide = true := hw (by omega)
    go_enter Try.func73, Try.ntmps73
    go_wp2_with fail
    go_ret3
    exact ⟨rfl, rfl⟩
  | 31, _ =>
    obtain rfl : wide = true := hw (by omega)
    go_enter Try.func73, Try.ntmps73
    go_wp2_with fail
    go_ret3
    exact ⟨rfl, rfl⟩
  | k + 32, h => omega
set_option maxHeartbeats 1600000 in
set_option maxRecDepth 100000 in
theorem ref_far (k : Nat) (hk : k < 32) (wide : Bool) (hw : 30 ≤ k → wide = true) (w : World) :
    Calls Try.prog 27 #[.int .i64 (k : Int), .bool wide] w fun e w' => e = .returned (.tuple #[.int .i64 (farBase k : Nat), .int .i64 (farMore k : Nat), .bool true]) ∧ w' = w := by
  match k, hk with
  | 0, _ =>
    go_enter Try.func27, Try.ntmps27
    go_wp2_with fail
    go_ret3
    exact ⟨rfl, rfl⟩
  | 1, _ =>
    go_enter Try.func27, Try.ntmps27
    go_wp2_with fail
    go_ret3
    exact ⟨rfl, rfl⟩
  | 2, _ =>
    go_enter Try.func27, Try.ntmps27
    go_wp2_with fail
    go_ret3
    exact ⟨rfl, rfl⟩
  | 3, _ =>
    go_enter Try.func27, Try.ntmps27
    go_wp2_with fail
    go_ret3
    exact ⟨rfl, rfl⟩
  | 4, _ =>
    go_enter Try.func27, Try.ntmps27
    go_wp2_with fail
    go_ret3
    exact ⟨rfl, rfl⟩
  | 5, _ =>
    go_enter Try.func27, Try.ntmps27
    go_wp2_with fail
    go_ret3
    exact ⟨rfl, rfl⟩
  | 6, _ =>
    go_enter Try.func27, Try.ntmps27
    go_wp2_with fail
    go_ret3
    exact ⟨rfl, rfl⟩
  | 7, _ =>
    go_enter Try.func27, Try.ntmps27
    go_wp2_with fail
    go_ret3
    exact ⟨rfl, rfl⟩
  | 8, _ =>
    go_enter Try.func27, Try.ntmps27
    go_wp2_with fail
    go_ret3
    exact ⟨rfl, rfl⟩
  | 9, _ =>
    go_enter Try.func27, Try.ntmps27
    go_wp2_with fail
    go_ret3
    exact ⟨rfl, rfl⟩
  | 10, _ =>
    go_enter Try.func27, Try.ntmps27
    go_wp2_with fail
    go_ret3
    exact ⟨rfl, rfl⟩
  | 11, _ =>
    go_enter Try.func27, Try.ntmps27
    go_wp2_with fail
    go_ret3
    exact ⟨rfl, rfl⟩
  | 12, _ =>
    go_enter Try.func27, Try.ntmps27
    go_wp2_with fail
    go_ret3
    exact ⟨rfl, rfl⟩
  | 13, _ =>
    go_enter Try.func27, Try.ntmps27
    go_wp2_with fail
    go_ret3
    exact ⟨rfl, rfl⟩
  | 14, _ =>
    go_enter Try.func27, Try.ntmps27
    go_wp2_with fail
    go_ret3
    exact ⟨rfl, rfl⟩
  | 15, _ =>
    go_enter Try.func27, Try.ntmps27
    go_wp2_with fail
    go_ret3
    exact ⟨rfl, rfl⟩
  | 16, _ =>
    go_enter Try.func27, Try.ntmps27
    go_wp2_with fail
    go_ret3
    exact ⟨rfl, rfl⟩
  | 17, _ =>
    go_enter Try.func27, Try.ntmps27
    go_wp2_with fail
    go_ret3
    exact ⟨rfl, rfl⟩
  | 18, _ =>
    go_enter Try.func27, Try.ntmps27
    go_wp2_with fail
    go_ret3
    exact ⟨rfl, rfl⟩
  | 19, _ =>
    go_enter Try.func27, Try.ntmps27
    go_wp2_with fail
    go_ret3
    exact ⟨rfl, rfl⟩
  | 20, _ =>
    go_enter Try.func27, Try.ntmps27
    go_wp2_with fail
    go_ret3
    exact ⟨rfl, rfl⟩
  | 21, _ =>
    go_enter Try.func27, Try.ntmps27
    go_wp2_with fail
    go_ret3
    exact ⟨rfl, rfl⟩
  | 22, _ =>
    go_enter Try.func27, Try.ntmps27
    go_wp2_with fail
    go_ret3
    exact ⟨rfl, rfl⟩
  | 23, _ =>
    go_enter Try.func27, Try.ntmps27
    go_wp2_with fail
    go_ret3
    exact ⟨rfl, rfl⟩
  | 24, _ =>
    go_enter Try.func27, Try.ntmps27
    go_wp2_with fail
    go_ret3
    exact ⟨rfl, rfl⟩
  | 25, _ =>
    go_enter Try.func27, Try.ntmps27
    go_wp2_with fail
    go_ret3
    exact ⟨rfl, rfl⟩
  | 26, _ =>
    go_enter Try.func27, Try.ntmps27
    go_wp2_with fail
    go_ret3
    exact ⟨rfl, rfl⟩
  | 27, _ =>
    go_enter Try.func27, Try.ntmps27
    go_wp2_with fail
    go_ret3
    exact ⟨rfl, rfl⟩
  | 28, _ =>
    go_enter Try.func27, Try.ntmps27
    go_wp2_with fail
    go_ret3
    exact ⟨rfl, rfl⟩
  | 29, _ =>
    go_enter Try.func27, Try.ntmps27
    go_wp2_with fail
    go_ret3
    exact ⟨rfl, rfl⟩
  | 30, _ =>
    obtain rfl : wide = true := hw (by omega)
    go_enter Try.func27, Try.ntmps27
    go_wp2_with fail
    go_ret3
    exact ⟨rfl, rfl⟩
  | 31, _ =>
    obtain rfl : wide = true := hw (by omega)
    go_enter Try.func27, Try.ntmps27
    go_wp2_with fail
    go_ret3
    exact ⟨rfl, rfl⟩
  | k + 32, h => omega
end Go.Proofs.Yteknaaijlkenkaa
