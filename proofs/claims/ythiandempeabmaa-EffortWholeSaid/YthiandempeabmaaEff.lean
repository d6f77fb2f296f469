import Derived.Test.YthiandempeabmaaEffP
import Derived.Test.YthiandempeabmaaBas2
import Derived.Test.YthiandempeabmaaRows
import Derived.Laws.Externs
import Derived.Laws.StructEq
import Derived.Laws.Tables
namespace Go.Proofs.Ythiandempeabmaa
set_option linter.unusedVariables false
set_option linter.unusedSimpArgs false
open Go.RowKit

theorem nan_ne {x : Nat} (h : nanB x = true) : FloatKind.f64.format.order x x = none := order_nan h
theorem self_eq {x : Nat} (h : nanB x = false) : FloatKind.f64.format.order x x = some .eq := by rw [order_bits h h, cmp_eq]
theorem floor_run {x k : Nat} (hn : nanB x = false) (h : (Ieee.double.read x).integral .down = .number false k 0) (w : World) :
    (callFunc 16 #[.float .f64 x]).run Try.prog w = .ok (.value (.float .f64 (FloatKind.f64.encode (.number false k 0)))) w := by
  rw [run_callFunc_extern Try.func16 (by kernel_rfl) (by kernel_rfl) (by kernel_rfl) (e := Extern.MathFloor.toIntegral "math.archFloor" .down) (by kernel_rfl)]
  have e : (Extern.MathFloor.toIntegral "math.archFloor" .down #[.float .f64 x]) = (pure (Value.float .f64 (FloatKind.f64.encode (.number false k 0))) : Sem Value) := by
    show (match FloatKind.f64.decode x with
      | .nan s t =>
        (if FloatKind.f64.format.quiet t = t then pure (Value.float .f64 x) else do
          let kept ← choose (.extern "math.Floor,Ceil,Trunc,RoundToEven.signallingNaN kept" 2)
          pure (Value.float .f64 (if kept == 1 then x else FloatKind.f64.encode (.nan s (FloatKind.f64.format.quiet t)))) : Sem Value)
      | d => pure (Value.float .f64 (FloatKind.f64.encode (d.integral .down)))) = _
    unfold nanB Ieee.Datum.isNaN at hn
    have hd : FloatKind.f64.decode x = Ieee.double.read x := rfl
    rw [hd]
    generalize Ieee.double.read x = d at *
    cases d <;> simp at hn ⊢ <;> simp [h]
  rw [e]
  rfl

set_option maxHeartbeats 1600000 in
set_option maxRecDepth 100000 in
theorem math_floor {x k : Nat} (hn : nanB x = false) (h : (Ieee.double.read x).integral .down = .number false k 0) (w : World) :
    Calls Try.prog 14 #[.float .f64 x] w fun e w' => e = .returned (.float .f64 (FloatKind.f64.encode (.number false k 0))) ∧ w' = w := by
  have hr := fun w => floor_run hn h w
  generalize FloatKind.f64.encode (.number false k 0) = y at *
  go_enter Try.func14, Try.ntmps14
  go_wp2
  go_ret
  exact ⟨rfl, rfl⟩

theorem conv_ref {x k : Nat} (hi : (Ieee.double.read x).integral .zero = .number false k 0) (h8 : k ≤ 8) : floatToIntVal .f64 x .i64 = some (k : Int) := by
  unfold floatToIntVal
  have e : (FloatKind.f64.decode x).toInt .zero = some (k : Int) := by
    show (match (Ieee.double.read x).integral .zero with | .number s m _ => some (Ieee.signed s m 0) | _ => none) = _
    rw [hi]
    simp [Ieee.signed]
  rw [e]
  simp only
  rw [if_pos]
  simp [IntKind.min, IntKind.max, IntKind.bits, IntKind.signed]
  omega

set_option maxHeartbeats 1600000 in
set_option maxRecDepth 100000 in
theorem eff_level (x : Nat) (w : World) :
    Calls Try.prog 7 #[.float .f64 x] w fun e w' => e = .returned (.int .i64 (levR (rankB x) : Nat)) ∧ w' = w := by
  by_cases hn : nanB x = true
  · have h0 := nan_ne hn
    have e : ((levR (rankB x) : Nat) : Int) = 6 := by
      rw [rank_nan hn]
      have hu := unit_pos
      unfold levR
      rw [if_neg (by omega), if_neg (by omega), show ((6 * unitN : Nat) : Int) = 6 * (unitN : Int) from by omega, Int.mul_ediv_cancel _ (by omega)]; rfl
    rw [e]
    go_enter Try.func7, Try.ntmps7
    go_wp2_with fail
    go_ret
    exact ⟨rfl, rfl⟩
  · have hn : nanB x = false := by simpa using hn
    have h0 := self_eq hn
    have h1 := order_bits hn rank_one.1
    have h9 := order_bits hn rank_nine.1
    rw [rank_one.2] at h1
    rw [rank_nine.2, show ((9 * unitN : Nat) : Int) = 9 * (unitN : Int) from by omega] at h9
    by_cases c1 : rankB x < unitN
    · rw [cmp_lt c1] at h1
      have e : levR (rankB x) = 0 := by unfold levR; rw [if_pos c1]
      rw [e]
      clear h9 c1
      go_enter Try.func7, Try.ntmps7
      go_wp2_with fail
      go_ret
      exact ⟨rfl, rfl⟩
    · have hu := unit_pos
      by_cases c9 : 9 * (unitN : Int) ≤ rankB x
      · rw [cmp_gt (by omega)] at h1
        have e : levR (rankB x) = 9 := by unfold levR; rw [if_neg c1, if_pos c9]
        rw [e]
        by_cases c99 : rankB x = 9 * (unitN : Int)
        · rw [c99, cmp_eq] at h9
          clear c1 c9 c99
          go_enter Try.func7, Try.ntmps7
          go_wp2_with fail
          go_ret
          exact ⟨rfl, rfl⟩
        · rw [cmp_gt (by omega)] at h9
          clear c1 c9 c99
          go_enter Try.func7, Try.ntmps7
          go_wp2_with fail
          go_ret
          exact ⟨rfl, rfl⟩
      · rw [cmp_lt (by omega)] at h9
        obtain ⟨m, p, k, hx, hk, k1, k8, hi⟩ := between hn c1 c9
        rw [← hk]
        clear hk
        have h1' : FloatKind.f64.format.order x 4607182418800017408 ≠ some .lt := by
          rw [h1]
          intro e
          injection e with e
          by_cases c11 : rankB x = (unitN : Int)
          · rw [c11, cmp_eq] at e; cases e
          · rw [cmp_gt (by omega)] at e; cases e
        have h1b : (FloatKind.f64.format.order x 4607182418800017408 == some .lt) = false := by rw [beq_eq_false_iff_ne]; exact h1'
        clear h1 h1'
        have HF := Lib.hid (fun W => math_floor (x := x) (k := k) hn (hi .down (.inl rfl)) W)
        have hcv := fun W => run_convert_float_int (P := Try.prog) W 22 3 .f64 .i64 (FloatKind.f64.encode (.number false k 0)) (k : Int) (by kernel_rfl) Try.underlying3 (whole_bits k k1 k8)
        generalize FloatKind.f64.encode (.number false k 0) = y at *
        go_enter Try.func7, Try.ntmps7
        go_wp2_with fail
        refine (HF.out _).mono ?_
        rintro e w1 ⟨rfl, hw⟩
        subst hw
        go_wp2_with fail
        go_ret
        exact ⟨rfl, rfl⟩
set_option maxHeartbeats 1600000 in
set_option maxRecDepth 100000 in
theorem ref_level (x : Nat) (w : World) :
    Calls Try.prog 8 #[.float .f64 x] w fun e w' => e = .returned (.int .i64 (levR (rankB x) : Nat)) ∧ w' = w := by
  by_cases hn : nanB x = true
  · have h0 := nan_ne hn
    have e : ((levR (rankB x) : Nat) : Int) = 6 := by
      rw [rank_nan hn]
      have hu := unit_pos
      unfold levR
      rw [if_neg (by omega), if_neg (by omega), show ((6 * unitN : Nat) : Int) = 6 * (unitN : Int) from by omega, Int.mul_ediv_cancel _ (by omega)]; rfl
    rw [e]
    go_enter Try.func8, Try.ntmps8
    go_wp2_with fail
    go_ret
    exact ⟨rfl, rfl⟩
  · have hn : nanB x = false := by simpa using hn
    have h0 := self_eq hn
    have h1 := order_bits hn rank_one.1
    have h9 := order_bits hn rank_nine.1
    rw [rank_one.2] at h1
    rw [rank_nine.2, show ((9 * unitN : Nat) : Int) = 9 * (unitN : Int) from by omega] at h9
    by_cases c1 : rankB x < unitN
    · rw [cmp_lt c1] at h1
      have e : levR (rankB x) = 0 := by unfold levR; rw [if_pos c1]
      rw [e]
      clear h9 c1
      go_enter Try.func8, Try.ntmps8
      go_wp2_with fail
      go_ret
      exact ⟨rfl, rfl⟩
    · have hu := unit_pos
      by_cases c9 : 9 * (unitN : Int) ≤ rankB x
      · rw [cmp_gt (by omega)] at h1
        have e : levR (rankB x) = 9 := by unfold levR; rw [if_neg c1, if_pos c9]
        rw [e]
        by_cases c99 : rankB x = 9 * (unitN : Int)
        · rw [c99, cmp_eq] at h9
          clear c1 c9 c99
          go_enter Try.func8, Try.ntmps8
          go_wp2_with fail
          go_ret
          exact ⟨rfl, rfl⟩
        · rw [cmp_gt (by omega)] at h9
          clear c1 c9 c99
          go_enter Try.func8, Try.ntmps8
          go_wp2_with fail
          go_ret
          exact ⟨rfl, rfl⟩
      · rw [cmp_lt (by omega)] at h9
        obtain ⟨m, p, k, hx, hk, k1, k8, hi⟩ := between hn c1 c9
        rw [← hk]
        clear hk
        have h1' : FloatKind.f64.format.order x 4607182418800017408 ≠ some .lt := by
          rw [h1]
          intro e
          injection e with e
          by_cases c11 : rankB x = (unitN : Int)
          · rw [c11, cmp_eq] at e; cases e
          · rw [cmp_gt (by omega)] at e; cases e
        have h1b : (FloatKind.f64.format.order x 4607182418800017408 == some .lt) = false := by rw [beq_eq_false_iff_ne]; exact h1'
        clear h1 h1'
        have hcv := fun W => run_convert_float_int (P := Try.prog) W 22 3 .f64 .i64 x (k : Int) (by kernel_rfl) Try.underlying3 (conv_ref (hi .zero (.inr rfl)) k8)
        go_enter Try.func8, Try.ntmps8
        go_wp2_with fail
        go_ret
        exact ⟨rfl, rfl⟩

def asB (x : Nat) : Nat := if nanB x then 4618441417868443648 else x
theorem as_ok (x : Nat) : nanB (asB x) = false ∧ rankB (asB x) = rankB x := by
  unfold asB
  by_cases h : nanB x = true
  · rw [if_pos h]; exact ⟨rank_six.1, by rw [rank_six.2, rank_nan h]⟩
  · rw [if_neg h]; exact ⟨by simpa using h, rfl⟩
def lessR (a b : Nat) : Bool := decide (rankB a < rankB b)
theorem less_order (a b : Nat) : (FloatKind.f64.format.order (asB a) (asB b) == some .lt) = lessR a b := by
  rw [order_bits (as_ok a).1 (as_ok b).1, (as_ok a).2, (as_ok b).2]
  unfold lessR
  by_cases h : rankB a < rankB b
  · rw [cmp_lt h]; simp [h]
  · by_cases e : rankB a = rankB b
    · rw [e, cmp_eq]; simp
    · rw [cmp_gt (by omega)]; simp [h]
set_option maxHeartbeats 1600000 in
set_option maxRecDepth 100000 in
theorem eff_as (x : Nat) (w : World) :
    Calls Try.prog 15 #[.float .f64 x] w fun e w' => e = .returned (.float .f64 (asB x)) ∧ w' = w := by
  unfold asB
  by_cases hn : nanB x = true
  · have h0 := nan_ne hn
    rw [if_pos hn]
    go_enter Try.func15, Try.ntmps15
    go_wp2_with fail
    go_ret
    exact ⟨rfl, rfl⟩
  · have h0 := self_eq (x := x) (by simpa using hn)
    rw [if_neg hn]
    go_enter Try.func15, Try.ntmps15
    go_wp2_with fail
    go_ret
    exact ⟨rfl, rfl⟩
set_option maxHeartbeats 1600000 in
set_option maxRecDepth 100000 in
theorem eff_less (a b : Nat) (w : World) :
    Calls Try.prog 11 #[.float .f64 a, .float .f64 b] w fun e w' => e = .returned (.bool (lessR a b)) ∧ w' = w := by
  have HL := Lib.hid (less_order a b)
  go_enter Try.func11, Try.ntmps11
  go_wp2_with fail
  refine (eff_as a w).mono ?_
  rintro e w1 ⟨rfl, hw⟩
  subst hw
  go_wp2_with fail
  refine (eff_as b w1).mono ?_
  rintro e w2 ⟨rfl, hw⟩
  subst hw
  go_wp2_with fail
  go_ret
  exact ⟨by rw [← HL.out]; rfl, rfl⟩
set_option maxHeartbeats 1600000 in
set_option maxRecDepth 100000 in
theorem ref_less (a b : Nat) (w : World) :
    Calls Try.prog 12 #[.float .f64 a, .float .f64 b] w fun e w' => e = .returned (.bool (lessR a b)) ∧ w' = w := by
  have hl := less_order a b
  unfold asB at hl
  by_cases ha : nanB a = true
  · have h0 := nan_ne ha
    rw [if_pos ha] at hl
    by_cases hb : nanB b = true
    · have h1 := nan_ne hb
      rw [if_pos hb] at hl
      have HL := Lib.hid hl
      clear hl
      go_enter Try.func12, Try.ntmps12
      go_wp2_with fail
      go_ret
      exact ⟨by rw [← HL.out]; rfl, rfl⟩
    · have h1 := self_eq (x := b) (by simpa using hb)
      rw [if_neg hb] at hl
      have HL := Lib.hid hl
      clear hl
      go_enter Try.func12, Try.ntmps12
      go_wp2_with fail
      go_ret
      exact ⟨by rw [← HL.out]; rfl, rfl⟩
  · have h0 := self_eq (x := a) (by simpa using ha)
    rw [if_neg ha] at hl
    by_cases hb : nanB b = true
    · have h1 := nan_ne hb
      rw [if_pos hb] at hl
      have HL := Lib.hid hl
      clear hl
      go_enter Try.func12, Try.ntmps12
      go_wp2_with fail
      go_ret
      exact ⟨by rw [← HL.out]; rfl, rfl⟩
    · have h1 := self_eq (x := b) (by simpa using hb)
      rw [if_neg hb] at hl
      have HL := Lib.hid hl
      clear hl
      go_enter Try.func12, Try.ntmps12
      go_wp2_with fail
      go_ret
      exact ⟨by rw [← HL.out]; rfl, rfl⟩
theorem none_run (w : World) : ∃ b, nanB b = true ∧ (binOp .quo 22 (.float .f64 0) (.float .f64 0)).run Try.prog w = .ok (.float .f64 b) w.drew := by
  refine ⟨_, nan_cut 0 0 (w.tape w.drawn (.nanBits .f64 0 0)), ?_⟩
  have e : FloatKind.f64.format.div 0 0 = none := by decide +kernel
  simp [binOp, Op.floatArith, e, Question.forced]
set_option maxHeartbeats 1600000 in
set_option maxRecDepth 100000 in
theorem ref_none (w : World) :
    Calls Try.prog 13 #[] w fun e w' => ∃ b, e = .returned (.float .f64 b) ∧ nanB b = true ∧ w' = w.drew := by
  obtain ⟨b, hb, hr⟩ := none_run w
  go_enter Try.func13, Try.ntmps13
  go_wp2_with fail
  go_ret
  exact ⟨b, rfl, hb, rfl⟩
end Go.Proofs.Ythiandempeabmaa
