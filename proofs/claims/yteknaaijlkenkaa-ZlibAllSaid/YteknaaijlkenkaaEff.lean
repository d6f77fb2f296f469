import Derived.Test.YteknaaijlkenkaaEffP
import Derived.Test.YteknaaijlkenkaaBas2
import Derived.Test.YteknaaijlkenkaaRows
import Derived.Laws.Externs
import Derived.Laws.StructEq
import Derived.Laws.Tables
namespace Go.Proofs.Yteknaaijlkenkaa
set_option linter.unusedVariables false
set_option linter.unusedSimpArgs false
open Go.RowKit

theorem nan_ne {x : Nat} (h : nanB x = true) : FloatKind.f64.format.order x x = none := order_nan h
theorem self_eq {x : Nat} (h : nanB x = false) : FloatKind.f64.format.order x x = some .eq := by rw [order_bits h h, cmp_eq]
theorem conv_ref {x k : Nat} (hi : (Ieee.double.read x).integral .zero = .number false k 0) (h8 : k ≤ 8) : floatToIntVal .f64 x .i64 = some (k : Int) := by
  unfold floatToIntVal
  have e : (FloatKind.f64.decode x).toInt .zero = some (k : Int) := by
    show (match (Ieee.double.read x).integral .zero with | .number s m _ => some (Ieee.signed s m 0) | _ => none) = _
    rw [hi]
    simp [Ieee.signed]
  rw [e]
  simp only
  rw [if_pos]
  simp [IntKind.min, IntKind.max, IntKind.bits, IntKind.signed]
  omega

def asB (x : Nat) : Nat := if nanB x then 4618441417868443648 else x
theorem as_ok (x : Nat) : nanB (asB x) = false ∧ rankB (asB x) = rankB x := by
  unfold asB
  by_cases h : nanB x = true
  · rw [if_pos h]; exact ⟨rank_six.1, by rw [rank_six.2, rank_nan h]⟩
  · rw [if_neg h]; exact ⟨by simpa using h, rfl⟩
def lessR (a b : Nat) : Bool := decide (rankB a < rankB b)
theorem less_order (a b : Nat) : (FloatKind.f64.format.order (asB a) (asB b) == some .lt) = lessR a b := by
  rw [order_bits (as_ok a).1 (as_ok b).1, (as_ok a).2, (as_ok b).2]
  unfold lessR
  by_cases h : rankB a < rankB b
  · rw [cmp_lt h]; simp [h]
  · by_cases e : rankB a = rankB b
    · rw [e, cmp_eq]; simp
    · rw [cmp_gt (by omega)]; simp [h]
theorem none_run (w : World) : ∃ b, nanB b = true ∧ (binOp .quo 23 (.float .f64 0) (.float .f64 0)).run Try.prog w = .ok (.float .f64 b) w.drew := by
  refine ⟨_, nan_cut 0 0 (w.tape w.drawn (.nanBits .f64 0 0)), ?_⟩
  have e : FloatKind.f64.format.div 0 0 = none := by decide +kernel
  simp [binOp, Op.floatArith, e, Question.forced]
set_option maxHeartbeats 1600000 in
set_option maxRecDepth 100000 in
theorem ref_none (w : World) :
    Calls Try.prog 21 #[] w fun e w' => ∃ b, e = .returned (.float .f64 b) ∧ nanB b = true ∧ w' = w.drew := by
  obtain ⟨b, hb, hr⟩ := none_run w
  go_enter Try.func21, Try.ntmps21
  go_wp2_with fail
  go_ret
  exact ⟨b, rfl, hb, rfl⟩
end Go.Proofs.Yteknaaijlkenkaa
