import Derived.Test.YteknaaijlkenkaaBase
import Derived.Test.YteknaaijlkenkaaBas2
import Derived.Test.YteknaaijlkenkaaRows
namespace Go.Proofs.Yteknaaijlkenkaa
set_option linter.unusedVariables false
set_option linter.unusedSimpArgs false

/-! ### lengths' and distances' symbols -/
def lenBase (k : Nat) : Nat := if k < 8 then k + 3 else 3 + (4 + (k - 4) % 4) * 2 ^ ((k - 4) / 4)
def lenMore (k : Nat) : Nat := if k < 8 then 0 else (k - 4) / 4
def farBase (k : Nat) : Nat := if k < 4 then k + 1 else 1 + (2 + k % 2) * 2 ^ (k / 2 - 1)
def farMore (k : Nat) : Nat := if k < 4 then 0 else k / 2 - 1
theorem len_next : ∀ k, k < 28 → lenBase (k + 1) = lenBase k + 2 ^ lenMore k := by decide
theorem far_next : ∀ k, k < 32 → farBase (k + 1) = farBase k + 2 ^ farMore k := by decide
theorem len_small : ∀ k, k < 28 → 3 ≤ lenBase k ∧ lenBase k ≤ 227 ∧ lenMore k ≤ 5 ∧ 1 ≤ 2 ^ lenMore k ∧ 2 ^ lenMore k ≤ 32 := by decide
theorem far_small : ∀ k, k < 32 → 1 ≤ farBase k ∧ farBase k ≤ 49153 ∧ farMore k ≤ 14 ∧ 1 ≤ 2 ^ farMore k ∧ 2 ^ farMore k ≤ 16384 := by decide
theorem step_mono {b m : Nat → Nat} {K : Nat} (h : ∀ k, k < K → b (k + 1) = b k + 2 ^ m k) : ∀ d j, j + d ≤ K → b j ≤ b (j + d)
  | 0, j, _ => Nat.le_refl _
  | d + 1, j, hd => by
    have h1 := step_mono h d j (by omega)
    have h2 := h (j + d) (by omega)
    rw [show j + (d + 1) = j + d + 1 from rfl, h2]
    exact Nat.le_trans h1 (Nat.le_add_right _ _)
theorem step_lt {b m : Nat → Nat} {K : Nat} (h : ∀ k, k < K → b (k + 1) = b k + 2 ^ m k) {j k n : Nat} (hk : k < K) (hn : b k ≤ n) (hj : j < k) : ¬ n < b j + 2 ^ m j := by
  have h1 := step_mono h (k - (j + 1)) (j + 1) (by omega)
  rw [show j + 1 + (k - (j + 1)) = k from by omega, h j (by omega)] at h1
  exact Nat.not_lt.2 (Nat.le_trans h1 hn)
/-- The first whose range ends behind n. -/
def lenIx (n : Nat) : Nat := ((List.range 28).find? (fun k => decide (n < lenBase k + 2 ^ lenMore k))).getD 0
def farIx (n : Nat) : Nat := ((List.range 32).find? (fun k => decide (n < farBase k + 2 ^ farMore k))).getD 0
theorem ix_of {b m : Nat → Nat} {K : Nat} (h : ∀ k, k < K → b (k + 1) = b k + 2 ^ m k) {k n : Nat} (hk : k < K) (h1 : b k ≤ n) (h2 : n < b k + 2 ^ m k) :
    ((List.range K).find? (fun k => decide (n < b k + 2 ^ m k))).getD 0 = k := by
  have e : (List.range K).find? (fun k => decide (n < b k + 2 ^ m k)) = some k := by
    rw [List.find?_range_eq_some]
    refine ⟨by simpa using h2, by simpa using hk, fun j hj => ?_⟩
    have := step_lt h hk h1 hj
    simpa using this
  rw [e]; rfl
theorem lenIx_of {k n : Nat} (hk : k < 28) (h1 : lenBase k ≤ n) (h2 : n < lenBase k + 2 ^ lenMore k) : lenIx n = k := ix_of len_next hk h1 h2
theorem farIx_of {k n : Nat} (hk : k < 32) (h1 : farBase k ≤ n) (h2 : n < farBase k + 2 ^ farMore k) : farIx n = k := ix_of far_next hk h1 h2
theorem ix_is {b m : Nat → Nat} {K n : Nat} (h : ∀ k, k < K → b (k + 1) = b k + 2 ^ m k) (h0 : b 0 ≤ n) : ∀ j, j ≤ K → n < b j → ∃ k, k < j ∧ b k ≤ n ∧ n < b k + 2 ^ m k
  | 0, _, hn => by omega
  | j + 1, hj, hn => by
    by_cases hc : n < b j
    · obtain ⟨k, h1, h2⟩ := ix_is h h0 j (by omega) hc
      exact ⟨k, by omega, h2⟩
    · exact ⟨j, by omega, by omega, by rw [← h j (by omega)]; exact hn⟩
theorem lenIx_is {n : Nat} (h1 : 3 ≤ n) (h2 : n ≤ 258) : lenIx n < 28 ∧ lenBase (lenIx n) ≤ n ∧ n < lenBase (lenIx n) + 2 ^ lenMore (lenIx n) := by
  obtain ⟨k, hk, a, b⟩ := ix_is len_next (n := n) (by show 3 ≤ n; exact h1) 28 (Nat.le_refl _) (show n < 259 by omega)
  rw [lenIx_of hk a b]
  exact ⟨hk, a, b⟩
theorem farIx_is {n : Nat} (h1 : 1 ≤ n) (h2 : n ≤ 65536) : farIx n < 32 ∧ farBase (farIx n) ≤ n ∧ n < farBase (farIx n) + 2 ^ farMore (farIx n) ∧ (n ≤ 32768 → farIx n < 30) := by
  obtain ⟨k, hk, a, b⟩ := ix_is far_next (n := n) (by show 1 ≤ n; exact h1) 32 (Nat.le_refl _) (show n < 65537 by omega)
  rw [farIx_of hk a b]
  refine ⟨hk, a, b, fun h => ?_⟩
  by_cases hc : k < 30
  · exact hc
  · have h3 := step_mono far_next (k - 30) 30 (by omega)
    rw [show 30 + (k - 30) = k from by omega, show farBase 30 = 32769 from by decide] at h3
    omega
/-- What Symbol and Reach tell. -/
def symS (n : Int) (wide : Bool) : Int := if n < 3 ∨ 65538 < n ∨ (258 < n ∧ wide = false) then -1 else if 258 < n ∨ (n = 258 ∧ wide = false) then 285 else 257 + lenIx n.toNat
def symM (n : Int) (wide : Bool) : Int := if n < 3 ∨ 65538 < n ∨ (258 < n ∧ wide = false) then 0 else if 258 < n then 16 else if n = 258 ∧ wide = false then 0 else lenMore (lenIx n.toNat)
def symV (n : Int) (wide : Bool) : Int := if n < 3 ∨ 65538 < n ∨ (258 < n ∧ wide = false) then 0 else if 258 < n then n - 3 else if n = 258 ∧ wide = false then 0 else n - lenBase (lenIx n.toNat)
def farS (n : Int) (wide : Bool) : Int := if n < 1 ∨ 65536 < n ∨ (32768 < n ∧ wide = false) then -1 else farIx n.toNat
def farM (n : Int) (wide : Bool) : Int := if n < 1 ∨ 65536 < n ∨ (32768 < n ∧ wide = false) then 0 else farMore (farIx n.toNat)
def farV (n : Int) (wide : Bool) : Int := if n < 1 ∨ 65536 < n ∨ (32768 < n ∧ wide = false) then 0 else n - farBase (farIx n.toNat)
end Go.Proofs.Yteknaaijlkenkaa
namespace Go.Proofs.Yteknaaijlkenkaa
open Go.RowKit

set_option maxHeartbeats 1600000 in
set_option maxRecDepth 100000 in
theorem inf_base (k : Nat) (hk : k < 28) (wide : Bool) (w : World) :
    Calls Try.prog 72 #[.int .i64 ((257 + k : Nat) : Int), .bool wide] w fun e w' => e = .returned (.tuple #[.int .i64 (lenBase k : Nat), .int .i64 (lenMore k : Nat), .bool true]) ∧ w' = w := by
  match k, hk with
  | 0, _ =>
    go_enter Try.func72, Try.ntmps72
    go_wp2_with fail
    go_ret3
    exact ⟨rfl, rfl⟩
  | 1, _ =>
    go_enter Try.func72, Try.ntmps72
    go_wp2_with fail
    go_ret3
    exact ⟨rfl, rfl⟩
  | 2, _ =>
    go_enter Try.func72, Try.ntmps72
    go_wp2_with fail
    go_ret3
    exact ⟨rfl, rfl⟩
  | 3, _ =>
    go_enter Try.func72, Try.ntmps72
    go_wp2_with fail
    go_ret3
    exact ⟨rfl, rfl⟩
  | 4, _ =>
    go_enter Try.func72, Try.ntmps72
    go_wp2_with fail
    go_ret3
    exact ⟨rfl, rfl⟩
  | 5, _ =>
    go_enter Try.func72, Try.ntmps72
    go_wp2_with fail
    go_ret3
    exact ⟨rfl, rfl⟩
  | 6, _ =>
    go_enter Try.func72, Try.ntmps72
    go_wp2_with fail
    go_ret3
    exact ⟨rfl, rfl⟩
  | 7, _ =>
    go_enter Try.func72, Try.ntmps72
    go_wp2_with fail
    go_ret3
    exact ⟨rfl, rfl⟩
  | 8, _ =>
    go_enter Try.func72, Try.ntmps72
    go_wp2_with fail
    go_ret3
    exact ⟨rfl, rfl⟩
  | 9, _ =>
    go_enter Try.func72, Try.ntmps72
    go_wp2_with fail
    go_ret3
    exact ⟨rfl, rfl⟩
  | 10, _ =>
    go_enter Try.func72, Try.ntmps72
    go_wp2_with fail
    go_ret3
    exact ⟨rfl, rfl⟩
  | 11, _ =>
    go_enter Try.func72, Try.ntmps72
    go_wp2_with fail
    go_ret3
    exact ⟨rfl, rfl⟩
  | 12, _ =>
    go_enter Try.func72, Try.ntmps72
    go_wp2_with fail
    go_ret3
    exact ⟨rfl, rfl⟩
  | 13, _ =>
    go_enter Try.func72, Try.ntmps72
    go_wp2_with fail
    go_ret3
    exact ⟨rfl, rfl⟩
  | 14, _ =>
    go_enter Try.func72, Try.ntmps72
    go_wp2_with fail
    go_ret3
    exact ⟨rfl, rfl⟩
  | 15, _ =>
    go_enter Try.func72, Try.ntmps72
    go_wp2_with fail
    go_ret3
    exact ⟨rfl, rfl⟩
  | 16, _ =>
    go_enter Try.func72, Try.ntmps72
    go_wp2_with fail
    go_ret3
    exact ⟨rfl, rfl⟩
  | 17, _ =>
    go_enter Try.func72, Try.ntmps72
    go_wp2_with fail
    go_ret3
    exact ⟨rfl, rfl⟩
  | 18, _ =>
    go_enter Try.func72, Try.ntmps72
    go_wp2_with fail
    go_ret3
    exact ⟨rfl, rfl⟩
  | 19, _ =>
    go_enter Try.func72, Try.ntmps72
    go_wp2_with fail
    go_ret3
    exact ⟨rfl, rfl⟩
  | 20, _ =>
    go_enter Try.func72, Try.ntmps72
    go_wp2_with fail
    go_ret3
    exact ⟨rfl, rfl⟩
  | 21, _ =>
    go_enter Try.func72, Try.ntmps72
    go_wp2_with fail
    go_ret3
    exact ⟨rfl, rfl⟩
  | 22, _ =>
    go_enter Try.func72, Try.ntmps72
    go_wp2_with fail
    go_ret3
    exact ⟨rfl, rfl⟩
  | 23, _ =>
    go_enter Try.func72, Try.ntmps72
    go_wp2_with fail
    go_ret3
    exact ⟨rfl, rfl⟩
  | 24, _ =>
    go_enter Try.func72, Try.ntmps72
    go_wp2_with fail
    go_ret3
    exact ⟨rfl, rfl⟩
  | 25, _ =>
    go_enter Try.func72, Try.ntmps72
    go_wp2_with fail
    go_ret3
    exact ⟨rfl, rfl⟩
  | 26, _ =>
    go_enter Try.func72, Try.ntmps72
    go_wp2_with fail
    go_ret3
    exact ⟨rfl, rfl⟩
  | 27, _ =>
    go_enter Try.func72, Try.ntmps72
    go_wp2_with fail
    go_ret3
    exact ⟨rfl, rfl⟩
  | k + 28, h => omega
set_option maxHeartbeats 1600000 in
set_option maxRecDepth 100000 in
theorem inf_base285 (wide : Bool) (w : World) :
    Calls Try.prog 72 #[.int .i64 285, .bool wide] w fun e w' => e = .returned (.tuple #[.int .i64 (if wide then 3 else 258), .int .i64 (if wide then 16 else 0), .bool true]) ∧ w' = w := by
  cases wide with
  | true =>
    go_enter Try.func72, Try.ntmps72
    go_wp2_with fail
    go_ret3
    exact ⟨rfl, rfl⟩
  | false =>
    go_enter Try.func72, Try.ntmps72
    go_wp2_with fail
    go_ret3
    exact ⟨rfl, rfl⟩
set_option maxHeartbeats 1600000 in
set_option maxRecDepth 100000 in
theorem ref_base (k : Nat) (hk : k < 28) (wide : Bool) (w : World) :
    Calls Try.prog 57 #[.int .i64 ((257 + k : Nat) : Int), .bool wide] w fun e w' => e = .returned (.tuple #[.int .i64 (lenBase k : Nat), .int .i64 (lenMore k : Nat), .bool true]) ∧ w' = w := by
  match k, hk with
  | 0, _ =>
    go_enter Try.func57, Try.ntmps57
    go_wp2_with fail
    go_ret3
    exact ⟨rfl, rfl⟩
  | 1, _ =>
    go_enter Try.func57, Try.ntmps57
    go_wp2_with fail
    go_ret3
    exact ⟨rfl, rfl⟩
  | 2, _ =>
    go_enter Try.func57, Try.ntmps57
    go_wp2_with fail
    go_ret3
    exact ⟨rfl, rfl⟩
  | 3, _ =>
    go_enter Try.func57, Try.ntmps57
    go_wp2_with fail
    go_ret3
    exact ⟨rfl, rfl⟩
  | 4, _ =>
    go_enter Try.func57, Try.ntmps57
    go_wp2_with fail
    go_ret3
    exact ⟨rfl, rfl⟩
  | 5, _ =>
    go_enter Try.func57, Try.ntmps57
    go_wp2_with fail
    go_ret3
    exact ⟨rfl, rfl⟩
  | 6, _ =>
    go_enter Try.func57, Try.ntmps57
    go_wp2_with fail
    go_ret3
    exact ⟨rfl, rfl⟩
  | 7, _ =>
    go_enter Try.func57, Try.ntmps57
    go_wp2_with fail
    go_ret3
    exact ⟨rfl, rfl⟩
  | 8, _ =>
    go_enter Try.func57, Try.ntmps57
    go_wp2_with fail
    go_ret3
    exact ⟨rfl, rfl⟩
  | 9, _ =>
    go_enter Try.func57, Try.ntmps57
    go_wp2_with fail
    go_ret3
    exact ⟨rfl, rfl⟩
  | 10, _ =>
    go_enter Try.func57, Try.ntmps57
    go_wp2_with fail
    go_ret3
    exact ⟨rfl, rfl⟩
  | 11, _ =>
    go_enter Try.func57, Try.ntmps57
    go_wp2_with fail
    go_ret3
    exact ⟨rfl, rfl⟩
  | 12, _ =>
    go_enter Try.func57, Try.ntmps57
    go_wp2_with fail
    go_ret3
    exact ⟨rfl, rfl⟩
  | 13, _ =>
    go_enter Try.func57, Try.ntmps57
    go_wp2_with fail
    go_ret3
    exact ⟨rfl, rfl⟩
  | 14, _ =>
    go_enter Try.func57, Try.ntmps57
    go_wp2_with fail
    go_ret3
    exact ⟨rfl, rfl⟩
  | 15, _ =>
    go_enter Try.func57, Try.ntmps57
    go_wp2_with fail
    go_ret3
    exact ⟨rfl, rfl⟩
  | 16, _ =>
    go_enter Try.func57, Try.ntmps57
    go_wp2_with fail
    go_ret3
    exact ⟨rfl, rfl⟩
  | 17, _ =>
    go_enter Try.func57, Try.ntmps57
    go_wp2_with fail
    go_ret3
    exact ⟨rfl, rfl⟩
  | 18, _ =>
    go_enter Try.func57, Try.ntmps57
    go_wp2_with fail
    go_ret3
    exact ⟨rfl, rfl⟩
  | 19, _ =>
    go_enter Try.func57, Try.ntmps57
    go_wp2_with fail
    go_ret3
    exact ⟨rfl, rfl⟩
  | 20, _ =>
    go_enter Try.func57, Try.ntmps57
    go_wp2_with fail
    go_ret3
    exact ⟨rfl, rfl⟩
  | 21, _ =>
    go_enter Try.func57, Try.ntmps57
    go_wp2_with fail
    go_ret3
    exact ⟨rfl, rfl⟩
  | 22, _ =>
    go_enter Try.func57, Try.ntmps57
    go_wp2_with fail
    go_ret3
    exact ⟨rfl, rfl⟩
  | 23, _ =>
    go_enter Try.func57, Try.ntmps57
    go_wp2_with fail
    go_ret3
    exact ⟨rfl, rfl⟩
  | 24, _ =>
    go_enter Try.func57, Try.ntmps57
    go_wp2_with fail
    go_ret3
    exact ⟨rfl, rfl⟩
  | 25, _ =>
    go_enter Try.func57, Try.ntmps57
    go_wp2_with fail
    go_ret3
    exact ⟨rfl, rfl⟩
  | 26, _ =>
    go_enter Try.func57, Try.ntmps57
    go_wp2_with fail
    go_ret3
    exact ⟨rfl, rfl⟩
  | 27, _ =>
    go_enter Try.func57, Try.ntmps57
    go_wp2_with fail
    go_ret3
    exact ⟨rfl, rfl⟩
  | k + 28, h => omega
set_option maxHeartbeats 1600000 in
set_option maxRecDepth 100000 in
theorem ref_base285 (wide : Bool) (w : World) :
    Calls Try.prog 57 #[.int .i64 285, .bool wide] w fun e w' => e = .returned (.tuple #[.int .i64 (if wide then 3 else 258), .int .i64 (if wide then 16 else 0), .bool true]) ∧ w' = w := by
  cases wide with
  | true =>
    go_enter Try.func57, Try.ntmps57
    go_wp2_with fail
    go_ret3
    exact ⟨rfl, rfl⟩
  | false =>
    go_enter Try.func57, Try.ntmps57
    go_wp2_with fail
    go_ret3
    exact ⟨rfl, rfl⟩
set_option maxHeartbeats 1600000 in
set_option maxRecDepth 100000 in
theorem inf_far (k : Nat) (hk : k < 32) (wide : Bool) (hw : 30 ≤ k → wide = true) (w : World) :
    Calls Try.prog 73 #[.int .i64 (k : Int), .bool wide] w fun e w' => e = .returned (.tuple #[.int .i64 (farBase k : Nat), .int .i64 (farMore k : Nat), .bool true]) ∧ w' = w := by
  match k, hk with
  | 0, _ =>
    go_enter Try.func73, Try.ntmps73
    go_wp2_with fail
    go_ret3
    exact ⟨rfl, rfl⟩
  | 1, _ =>
    go_enter Try.func73, Try.ntmps73
    go_wp2_with fail
    go_ret3
    exact ⟨rfl, rfl⟩
  | 2, _ =>
    go_enter Try.func73, Try.ntmps73
    go_wp2_with fail
    go_ret3
    exact ⟨rfl, rfl⟩
  | 3, _ =>
    go_enter Try.func73, Try.ntmps73
    go_wp2_with fail
    go_ret3
    exact ⟨rfl, rfl⟩
  | 4, _ =>
    go_enter Try.func73, Try.ntmps73
    go_wp2_with fail
    go_ret3
    exact ⟨rfl, rfl⟩
  | 5, _ =>
    go_enter Try.func73, Try.ntmps73
    go_wp2_with fail
    go_ret3
    exact ⟨rfl, rfl⟩
  | 6, _ =>
    go_enter Try.func73, Try.ntmps73
    go_wp2_with fail
    go_ret3
    exact ⟨rfl, rfl⟩
  | 7, _ =>
    go_enter Try.func73, Try.ntmps73
    go_wp2_with fail
    go_ret3
    exact ⟨rfl, rfl⟩
  | 8, _ =>
    go_enter Try.func73, Try.ntmps73
    go_wp2_with fail
    go_ret3
    exact ⟨rfl, rfl⟩
  | 9, _ =>
    go_enter Try.func73, Try.ntmps73
    go_wp2_with fail
    go_ret3
    exact ⟨rfl, rfl⟩
  | 10, _ =>
    go_enter Try.func73, Try.ntmps73
    go_wp2_with fail
    go_ret3
    exact ⟨rfl, rfl⟩
  | 11, _ =>
    go_enter Try.func73, Try.ntmps73
    go_wp2_with fail
    go_ret3
    exact ⟨rfl, rfl⟩
  | 12, _ =>
    go_enter Try.func73, Try.ntmps73
    go_wp2_with fail
    go_ret3
    exact ⟨rfl, rfl⟩
  | 13, _ =>
    go_enter Try.func73, Try.ntmps73
    go_wp2_with fail
    go_ret3
    exact ⟨rfl, rfl⟩
  | 14, _ =>
    go_enter Try.func73, Try.ntmps73
    go_wp2_with fail
    go_ret3
    exact ⟨rfl, rfl⟩
  | 15, _ =>
    go_enter Try.func73, Try.ntmps73
    go_wp2_with fail
    go_ret3
    exact ⟨rfl, rfl⟩
  | 16, _ =>
    go_enter Try.func73, Try.ntmps73
    go_wp2_with fail
    go_ret3
    exact ⟨rfl, rfl⟩
  | 17, _ =>
    go_enter Try.func73, Try.ntmps73
    go_wp2_with fail
    go_ret3
    exact ⟨rfl, rfl⟩
  | 18, _ =>
    go_enter Try.func73, Try.ntmps73
    go_wp2_with fail
    go_ret3
    exact ⟨rfl, rfl⟩
  | 19, _ =>
    go_enter Try.func73, Try.ntmps73
    go_wp2_with fail
    go_ret3
    exact ⟨rfl, rfl⟩
  | 20, _ =>
    go_enter Try.func73, Try.ntmps73
    go_wp2_with fail
    go_ret3
    exact ⟨rfl, rfl⟩
  | 21, _ =>
    go_enter Try.func73, Try.ntmps73
    go_wp2_with fail
    go_ret3
    exact ⟨rfl, rfl⟩
  | 22, _ =>
    go_enter Try.func73, Try.ntmps73
    go_wp2_with fail
    go_ret3
    exact ⟨rfl, rfl⟩
  | 23, _ =>
    go_enter Try.func73, Try.ntmps73
    go_wp2_with fail
    go_ret3
    exact ⟨rfl, rfl⟩
  | 24, _ =>
    go_enter Try.func73, Try.ntmps73
    go_wp2_with fail
    go_ret3
    exact ⟨rfl, rfl⟩
  | 25, _ =>
    go_enter Try.func73, Try.ntmps73
    go_wp2_with fail
    go_ret3
    exact ⟨rfl, rfl⟩
  | 26, _ =>
    go_enter Try.func73, Try.ntmps73
    go_wp2_with fail
    go_ret3
    exact ⟨rfl, rfl⟩
  | 27, _ =>
    go_enter Try.func73, Try.ntmps73
    go_wp2_with fail
    go_ret3
    exact ⟨rfl, rfl⟩
  | 28, _ =>
    go_enter Try.func73, Try.ntmps73
    go_wp2_with fail
    go_ret3
    exact ⟨rfl, rfl⟩
  | 29, _ =>
    go_enter Try.func73, Try.ntmps73
    go_wp2_with fail
    go_ret3
    exact ⟨rfl, rfl⟩
  | 30, _ =>
    obtain rfl : wide = true := hw (by omega)
    go_enter Try.func73, Try.ntmps73
    go_wp2_with fail
    go_ret3
    exact ⟨rfl, rfl⟩
  | 31, _ =>
    obtain rfl : wide = true := hw (by omega)
    go_enter Try.func73, Try.ntmps73
    go_wp2_with fail
    go_ret3
    exact ⟨rfl, rfl⟩
  | k + 32, h => omega
set_option maxHeartbeats 1600000 in
set_option maxRecDepth 100000 in
theorem ref_far (k : Nat) (hk : k < 32) (wide : Bool) (hw : 30 ≤ k → wide = true) (w : World) :
    Calls Try.prog 27 #[.int .i64 (k : Int), .bool wide] w fun e w' => e = .returned (.tuple #[.int .i64 (farBase k : Nat), .int .i64 (farMore k : Nat), .bool true]) ∧ w' = w := by
  match k, hk with
  | 0, _ =>
    go_enter Try.func27, Try.ntmps27
    go_wp2_with fail
    go_ret3
    exact ⟨rfl, rfl⟩
  | 1, _ =>
    go_enter Try.func27, Try.ntmps27
    go_wp2_with fail
    go_ret3
    exact ⟨rfl, rfl⟩
  | 2, _ =>
    go_enter Try.func27, Try.ntmps27
    go_wp2_with fail
    go_ret3
    exact ⟨rfl, rfl⟩
  | 3, _ =>
    go_enter Try.func27, Try.ntmps27
    go_wp2_with fail
    go_ret3
    exact ⟨rfl, rfl⟩
  | 4, _ =>
    go_enter Try.func27, Try.ntmps27
    go_wp2_with fail
    go_ret3
    exact ⟨rfl, rfl⟩
  | 5, _ =>
    go_enter Try.func27, Try.ntmps27
    go_wp2_with fail
    go_ret3
    exact ⟨rfl, rfl⟩
  | 6, _ =>
    go_enter Try.func27, Try.ntmps27
    go_wp2_with fail
    go_ret3
    exact ⟨rfl, rfl⟩
  | 7, _ =>
    go_enter Try.func27, Try.ntmps27
    go_wp2_with fail
    go_ret3
    exact ⟨rfl, rfl⟩
  | 8, _ =>
    go_enter Try.func27, Try.ntmps27
    go_wp2_with fail
    go_ret3
    exact ⟨rfl, rfl⟩
  | 9, _ =>
    go_enter Try.func27, Try.ntmps27
    go_wp2_with fail
    go_ret3
    exact ⟨rfl, rfl⟩
  | 10, _ =>
    go_enter Try.func27, Try.ntmps27
    go_wp2_with fail
    go_ret3
    exact ⟨rfl, rfl⟩
  | 11, _ =>
    go_enter Try.func27, Try.ntmps27
    go_wp2_with fail
    go_ret3
    exact ⟨rfl, rfl⟩
  | 12, _ =>
    go_enter Try.func27, Try.ntmps27
    go_wp2_with fail
    go_ret3
    exact ⟨rfl, rfl⟩
  | 13, _ =>
    go_enter Try.func27, Try.ntmps27
    go_wp2_with fail
    go_ret3
    exact ⟨rfl, rfl⟩
  | 14, _ =>
    go_enter Try.func27, Try.ntmps27
    go_wp2_with fail
    go_ret3
    exact ⟨rfl, rfl⟩
  | 15, _ =>
    go_enter Try.func27, Try.ntmps27
    go_wp2_with fail
    go_ret3
    exact ⟨rfl, rfl⟩
  | 16, _ =>
    go_enter Try.func27, Try.ntmps27
    go_wp2_with fail
    go_ret3
    exact ⟨rfl, rfl⟩
  | 17, _ =>
    go_enter Try.func27, Try.ntmps27
    go_wp2_with fail
    go_ret3
    exact ⟨rfl, rfl⟩
  | 18, _ =>
    go_enter Try.func27, Try.ntmps27
    go_wp2_with fail
    go_ret3
    exact ⟨rfl, rfl⟩
  | 19, _ =>
    go_enter Try.func27, Try.ntmps27
    go_wp2_with fail
    go_ret3
    exact ⟨rfl, rfl⟩
  | 20, _ =>
    go_enter Try.func27, Try.ntmps27
    go_wp2_with fail
    go_ret3
    exact ⟨rfl, rfl⟩
  | 21, _ =>
    go_enter Try.func27, Try.ntmps27
    go_wp2_with fail
    go_ret3
    exact ⟨rfl, rfl⟩
  | 22, _ =>
    go_enter Try.func27, Try.ntmps27
    go_wp2_with fail
    go_ret3
    exact ⟨rfl, rfl⟩
  | 23, _ =>
    go_enter Try.func27, Try.ntmps27
    go_wp2_with fail
    go_ret3
    exact ⟨rfl, rfl⟩
  | 24, _ =>
    go_enter Try.func27, Try.ntmps27
    go_wp2_with fail
    go_ret3
    exact ⟨rfl, rfl⟩
  | 25, _ =>
    go_enter Try.func27, Try.ntmps27
    go_wp2_with fail
    go_ret3
    exact ⟨rfl, rfl⟩
  | 26, _ =>
    go_enter Try.func27, Try.ntmps27
    go_wp2_with fail
    go_ret3
    exact ⟨rfl, rfl⟩
  | 27, _ =>
    go_enter Try.func27, Try.ntmps27
    go_wp2_with fail
    go_ret3
    exact ⟨rfl, rfl⟩
  | 28, _ =>
    go_enter Try.func27, Try.ntmps27
    go_wp2_with fail
    go_ret3
    exact ⟨rfl, rfl⟩
  | 29, _ =>
    go_enter Try.func27, Try.ntmps27
    go_wp2_with fail
    go_ret3
    exact ⟨rfl, rfl⟩
  | 30, _ =>
    obtain rfl : wide = true := hw (by omega)
    go_enter Try.func27, Try.ntmps27
    go_wp2_with fail
    go_ret3
    exact ⟨rfl, rfl⟩
  | 31, _ =>
    obtain rfl : wide = true := hw (by omega)
    go_enter Try.func27, Try.ntmps27
    go_wp2_with fail
    go_ret3
    exact ⟨rfl, rfl⟩
  | k + 32, h => omega
end Go.Proofs.Yteknaaijlkenkaa
namespace Go.Proofs.Yteknaaijlkenkaa
open Go.RowKit

theorem symS_no {n : Int} {wide : Bool} (h : n < 3 ∨ 65538 < n ∨ (258 < n ∧ wide = false)) : symS n wide = -1 ∧ symM n wide = 0 ∧ symV n wide = 0 := by
  unfold symS symM symV; rw [if_pos h, if_pos h, if_pos h]; exact ⟨rfl, rfl, rfl⟩
theorem symS_258 {n : Int} {wide : Bool} (h : n = 258) (hw : wide = false) : symS n wide = 285 ∧ symM n wide = 0 ∧ symV n wide = 0 := by
  subst h; subst hw; simp [symS, symM, symV]
theorem symS_far {n : Int} {wide : Bool} (h : 258 < n) (h2 : n ≤ 65538) (hw : wide = true) : symS n wide = 285 ∧ symM n wide = 16 ∧ symV n wide = n - 3 := by
  subst hw
  have a : ¬ n < 3 := by omega
  have b : ¬ 65538 < n := by omega
  simp [symS, symM, symV, a, b, h]
theorem symS_at {n k : Nat} {wide : Bool} (h3 : 3 ≤ n) (h2 : n ≤ 258) (hne : ¬ (n = 258 ∧ wide = false)) (hk : k < 28) (ha : lenBase k ≤ n) (hb : n < lenBase k + 2 ^ lenMore k) :
    symS n wide = ((257 + k : Nat) : Int) ∧ symM n wide = (lenMore k : Nat) ∧ symV n wide = (n : Int) - (lenBase k : Nat) := by
  have hi := lenIx_of hk ha hb
  have hne' : ¬ ((n : Int) = 258 ∧ wide = false) := fun h => hne ⟨by omega, h.2⟩
  have hno : ¬ ((n : Int) < 3 ∨ 65538 < (n : Int) ∨ (258 < (n : Int) ∧ wide = false)) := by omega
  have h258 : ¬ (258 < (n : Int)) := by omega
  have hor : ¬ (258 < (n : Int) ∨ ((n : Int) = 258 ∧ wide = false)) := fun h => h.elim h258 hne'
  refine ⟨?_, ?_, ?_⟩
  · unfold symS; rw [if_neg hno, if_neg hor, Int.toNat_natCast, hi]; omega
  · unfold symM; rw [if_neg hno, if_neg h258, if_neg hne', Int.toNat_natCast, hi]
  · unfold symV; rw [if_neg hno, if_neg h258, if_neg hne', Int.toNat_natCast, hi]
structure SyRel (w : World) (n : Nat) (g : Nat) (v7 : Value) (wr : World) : Prop where mk ::
  out_ : ∃ (k : Nat), k < 28 ∧ 28 ≤ g + k ∧ v7 = .int .i64 ((257 + k : Nat) : Int) ∧ lenBase k ≤ n ∧ wr = w
structure SzRel (w : World) (n : Int) (g : Nat) (v7 : Value) (wr : World) : Prop where mk ::
  out_ : ∃ (k : Nat), k ≤ 28 ∧ 28 ≤ g + k ∧ v7 = .int .i64 ((257 + k : Nat) : Int) ∧ (lenBase k : Int) ≤ n ∧ wr = w
theorem farS_no {n : Int} {wide : Bool} (h : n < 1 ∨ 65536 < n ∨ (32768 < n ∧ wide = false)) : farS n wide = -1 ∧ farM n wide = 0 ∧ farV n wide = 0 := by
  unfold farS farM farV; rw [if_pos h, if_pos h, if_pos h]; exact ⟨rfl, rfl, rfl⟩
theorem farS_at {n k : Nat} {wide : Bool} (hno : ¬ ((n : Int) < 1 ∨ 65536 < (n : Int) ∨ (32768 < (n : Int) ∧ wide = false))) (hk : k < 32) (ha : farBase k ≤ n) (hb : n < farBase k + 2 ^ farMore k) :
    farS n wide = (k : Int) ∧ farM n wide = (farMore k : Nat) ∧ farV n wide = (n : Int) - (farBase k : Nat) := by
  have hi := farIx_of hk ha hb
  unfold farS farM farV
  rw [if_neg hno, if_neg hno, if_neg hno, Int.toNat_natCast, hi]
  exact ⟨rfl, rfl, rfl⟩
structure FyRel (w : World) (n : Nat) (g : Nat) (v7 : Value) (wr : World) : Prop where mk ::
  out_ : ∃ (k : Nat), k < 32 ∧ 32 ≤ g + k ∧ v7 = .int .i64 (k : Int) ∧ farBase k ≤ n ∧ wr = w
end Go.Proofs.Yteknaaijlkenkaa
namespace Go.Proofs.Yteknaaijlkenkaa
open Go.RowKit

set_option maxHeartbeats 1600000 in
set_option maxRecDepth 100000 in
theorem ref_far_no (k : Nat) (hk : k < 32) (hk2 : 30 ≤ k) (w : World) :
    Calls Try.prog 27 #[.int .i64 (k : Int), .bool false] w fun e w' => e = .returned (.tuple #[.int .i64 0, .int .i64 0, .bool false]) ∧ w' = w := by
  have e1 : decide ((29 : Int) < k) = true := by simp; omega
  go_enter Try.func27, Try.ntmps27
  go_wp2_with fail
  go_ret3
  exact ⟨rfl, rfl⟩
/-- Nothing found up to here. -/
structure NoRel (w : World) (g : Nat) (v7 : Value) (wr : World) : Prop where mk ::
  out_ : ∃ (k : Nat), k ≤ 32 ∧ 32 ≤ g + k ∧ v7 = .int .i64 (k : Int) ∧ wr = w
set_option maxHeartbeats 1600000 in
set_option maxRecDepth 100000 in
theorem ref_reach_no (n : Int) (wide : Bool) (w : World) (hno : n < 1 ∨ 65536 < n ∨ (32768 < n ∧ wide = false)) (h1 : -9223372036854775808 ≤ n) (h2 : n ≤ 9223372036854775807) :
    Calls Try.prog 13 #[.int .i64 n, .bool wide] w fun e w' => e = .returned (.tuple #[.int .i64 (-1), .int .i64 0, .int .i64 0]) ∧ w' = w := by
  have hmiss : ∀ k, k < 32 → (wide = true ∨ k < 30 → ((farBase k : Int) ≤ n → ¬ n < farBase k + ((2 ^ farMore k : Nat) : Int))) := fun k hk hw hb hlt => by
    have h3 := step_mono far_next (31 - k) (k + 1) (by omega)
    rw [show k + 1 + (31 - k) = 32 from by omega, far_next k hk, show farBase 32 = 65537 from rfl] at h3
    have h4 := (far_small k hk).1
    rcases hno with h | h | ⟨h, hf⟩
    · omega
    · omega
    · rcases hw with hw | hw
      · rw [hw] at hf; cases hf
      · have h5 := step_mono far_next (29 - k) (k + 1) (by omega)
        rw [show k + 1 + (29 - k) = 30 from by omega, far_next k hk, show farBase 30 = 32769 from rfl] at h5
        omega
  have HMI := Lib.hid hmiss
  clear hmiss hno
  go_enter Try.func13, Try.ntmps13
  go_wp2_with fail
  go_loopg [7] 32 (NoRel w)
  case atStart => exact ⟨0, by omega, by omega, rfl, rfl⟩
  case round =>
    obtain ⟨k, hk, hg, rfl, hw⟩ := hrel
    subst hw
    by_cases hk32 : k < 32
    · have hk := hk32
      by_cases hok : wide = true ∨ k < 30
      · skip
        obtain ⟨s1, s2, s3, s4, s5⟩ := far_small k hk
        have HB := Lib.hid (ref_far k hk wide (fun h => hok.elim id (fun h' => absurd h' (by omega))) wr)
        have hcond := HMI.out k hk hok
        generalize farBase k = B at *
        generalize farMore k = M at *
        obtain ⟨P, hP⟩ : ∃ P : Nat, P = 2 ^ M := ⟨_, rfl⟩
        rw [← hP] at s4 s5 hcond
        have hPi : (2 : Int) ^ M = (P : Int) := by rw [hP, Int.natCast_pow]; rfl
        have hM5 : M ≤ 14 := s3
        clear hP
        by_cases hge : (B : Int) ≤ n
        · have f0 : decide ((B : Int) ≤ n) = true := by simpa using hge
          have hcond := hcond hge
          have f1 : decide (n - (B : Int) < P) = false := by simp; omega
          clear hcond hok
          go_wp2_with fail
          refine HB.out.mono ?_
          rintro e w1 ⟨rfl, hw⟩
          subst hw
          go_wp2_with fail
          go_roundg (gk - 1)
          case measure => omega
          case rel => exact ⟨k + 1, by omega, by omega, by go_num, rfl⟩
        · have f0 : decide ((B : Int) ≤ n) = false := by simp; omega
          clear hcond hge hok
          go_wp2_with fail
          refine HB.out.mono ?_
          rintro e w1 ⟨rfl, hw⟩
          subst hw
          go_wp2_with fail
          go_roundg (gk - 1)
          case measure => omega
          case rel => exact ⟨k + 1, by omega, by omega, by go_num, rfl⟩
      · have hwf : wide = false := by cases wide; rfl; exact absurd (Or.inl rfl) hok
        subst hwf
        have HB := Lib.hid (ref_far_no k hk (by omega) wr)
        clear hok
        go_wp2_with fail
        refine HB.out.mono ?_
        rintro e w1 ⟨rfl, hw⟩
        subst hw
        go_wp2_with fail
        go_roundg (gk - 1)
        case measure => omega
        case rel => exact ⟨k + 1, by omega, by omega, by go_num, rfl⟩
    · skip
      have hk32 : k = 32 := by omega
      subst hk32
      go_wp2_with fail
      go_ret3
      exact ⟨rfl, rfl⟩
set_option maxHeartbeats 1600000 in
set_option maxRecDepth 100000 in
theorem ref_reach (n : Int) (wide : Bool) (w : World) (h1 : -9223372036854775808 ≤ n) (h2 : n ≤ 9223372036854775807) :
    Calls Try.prog 13 #[.int .i64 n, .bool wide] w fun e w' => e = .returned (.tuple #[.int .i64 (farS n wide), .int .i64 (farM n wide), .int .i64 (farV n wide)]) ∧ w' = w := by
  by_cases hno : n < 1 ∨ 65536 < n ∨ (32768 < n ∧ wide = false)
  · obtain ⟨a, b, c⟩ := farS_no (wide := wide) hno
    rw [a, b, c]
    exact ref_reach_no n wide w hno h1 h2
  · obtain ⟨m, rfl⟩ : ∃ m : Nat, n = m := ⟨n.toNat, by omega⟩
    have hm1 : 1 ≤ m := by omega
    have hm2 : m ≤ 65536 := by omega
    have HS := Lib.hid (fun k (hk : k < 32) ha hb => farS_at (wide := wide) (n := m) hno hk ha hb)
    by_cases c3 : 32768 < (m : Int)
    · have hw : wide = true := by cases wide; exact absurd (.inr (.inr ⟨c3, rfl⟩)) hno; rfl
      subst hw
      clear hno c3
      go_enter Try.func13, Try.ntmps13
      go_wp2_with fail
      go_loopg [7] 32 (FyRel w m)
      case atStart => exact ⟨0, by omega, by omega, rfl, by show 1 ≤ m; exact hm1, rfl⟩
      case round =>
        obtain ⟨k, hk, hg, rfl, hb, hw⟩ := hrel
        subst hw
        have hbig := hb
        obtain ⟨s1, s2, s3, s4, s5⟩ := far_small k hk
        have HB := Lib.hid (ref_far k hk true (fun _ => rfl) wr)
        have hnx := far_next k hk
        have HT := Lib.hid (HS.out k hk hb)
        have HN := Lib.hid hnx
        have HK := Lib.hid (fun h : k = 31 => show farBase k + 2 ^ farMore k = 65537 by rw [h]; rfl)
        clear hnx hbig
        generalize farBase k = B at *
        generalize farMore k = M at *
        obtain ⟨P, hP⟩ : ∃ P : Nat, P = 2 ^ M := ⟨_, rfl⟩
        rw [← hP] at s4 s5 HT HN HK
        have hPi : (2 : Int) ^ M = (P : Int) := by rw [hP, Int.natCast_pow]; rfl
        have hM5 : M ≤ 14 := s3
        clear hP
        have f0 : decide ((B : Int) ≤ m) = true := by simp; omega
        have f0' : decide (B ≤ m) = true := by simp; omega
        have f2 : decide ((k : Int) < 32) = true := by simp; omega
        go_wp2_with fail
        refine HB.out.mono ?_
        rintro e w1 ⟨rfl, hw⟩
        subst hw
        by_cases hlt : m < B + P
        · have f1 : decide ((m : Int) - B < P) = true := by simp; omega
          have HR := Lib.hid (HT.out hlt)
          clear HT
          go_wp2_with fail
          go_ret3
          obtain ⟨h1, h2, h3⟩ := HR.out
          rw [h1, h2, h3]
          exact ⟨rfl, rfl⟩
        · have f1 : decide ((m : Int) - B < P) = false := by simp; omega
          clear HT
          go_wp2_with fail
          go_roundg (gk - 1)
          case measure => omega
          case rel => 
            have hk31 : k ≠ 31 := fun h => by have := HK.out h; omega
            exact ⟨k + 1, by omega, by omega, by go_num, by rw [HN.out]; omega, rfl⟩
    · have hm3 : m ≤ 32768 := by omega
      clear hno c3
      go_enter Try.func13, Try.ntmps13
      go_wp2_with fail
      go_loopg [7] 32 (FyRel w m)
      case atStart => exact ⟨0, by omega, by omega, rfl, by show 1 ≤ m; exact hm1, rfl⟩
      case round =>
        obtain ⟨k, hk, hg, rfl, hb, hw⟩ := hrel
        subst hw
        have hbig := hb
        obtain ⟨s1, s2, s3, s4, s5⟩ := far_small k hk
        have HB := Lib.hid (ref_far k hk wide (fun h => absurd hbig (by have := step_mono far_next (k - 30) 30 (by omega); rw [show 30 + (k - 30) = k from by omega, show farBase 30 = 32769 from rfl] at this; omega)) wr)
        have hnx := far_next k hk
        have HT := Lib.hid (HS.out k hk hb)
        have HN := Lib.hid hnx
        have HK := Lib.hid (fun h : k = 31 => show farBase k + 2 ^ farMore k = 65537 by rw [h]; rfl)
        clear hnx hbig
        generalize farBase k = B at *
        generalize farMore k = M at *
        obtain ⟨P, hP⟩ : ∃ P : Nat, P = 2 ^ M := ⟨_, rfl⟩
        rw [← hP] at s4 s5 HT HN HK
        have hPi : (2 : Int) ^ M = (P : Int) := by rw [hP, Int.natCast_pow]; rfl
        have hM5 : M ≤ 14 := s3
        clear hP
        have f0 : decide ((B : Int) ≤ m) = true := by simp; omega
        have f0' : decide (B ≤ m) = true := by simp; omega
        have f2 : decide ((k : Int) < 32) = true := by simp; omega
        go_wp2_with fail
        refine HB.out.mono ?_
        rintro e w1 ⟨rfl, hw⟩
        subst hw
        by_cases hlt : m < B + P
        · have f1 : decide ((m : Int) - B < P) = true := by simp; omega
          have HR := Lib.hid (HT.out hlt)
          clear HT
          go_wp2_with fail
          go_ret3
          obtain ⟨h1, h2, h3⟩ := HR.out
          rw [h1, h2, h3]
          exact ⟨rfl, rfl⟩
        · have f1 : decide ((m : Int) - B < P) = false := by simp; omega
          clear HT
          go_wp2_with fail
          go_roundg (gk - 1)
          case measure => omega
          case rel => 
            have hk31 : k ≠ 31 := fun h => by have := HK.out h; omega
            exact ⟨k + 1, by omega, by omega, by go_num, by rw [HN.out]; omega, rfl⟩
end Go.Proofs.Yteknaaijlkenkaa
