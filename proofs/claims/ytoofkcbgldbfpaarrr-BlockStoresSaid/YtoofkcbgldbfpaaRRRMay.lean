import Derived.Test.YtoofkcbgldbfpaaRRRBas2
import Derived.Test.YtoofkcbgldbfpaaRRRRows
namespace Go.Proofs.YtoofkcbgldbfpaaRRR
set_option linter.unusedVariables false
set_option linter.unusedSimpArgs false
open Go.RowKit

def mayN (a b c : Int) (wide : Bool) : Bool :=
  if a = 0 then b == 0
  else c == 0 && decide (3 ≤ a) && decide (a ≤ if wide then 65538 else 258) && decide (1 ≤ b) && decide (b ≤ if wide then 65536 else 32768)
set_option maxHeartbeats 1600000 in
set_option maxRecDepth 100000 in
theorem lz_may (a b c : Int) (wide : Bool) (w : World) :
    Calls Try.prog 24 #[.agg #[.int .i64 a, .int .i64 b, .int .u8 c], .bool wide] w fun e w' => e = .returned (.bool (mayN a b c wide)) ∧ Same (fun _ => False) w w' := by
  by_cases h0 : a = 0
  · have hm : mayN a b c wide = (b == 0) := by rw [mayN, if_pos h0]
    have HM := Lib.hid hm
    clear hm
    rw [HM.out]
    have h0' : (a == 0) = true := by simp [h0]
    clear h0
    go_enter Try.func24, Try.ntmps24
    go_wp2
    go_ret
    exact ⟨rfl, (Same.refl _).alloc _⟩
  · have h0' : (a == 0) = false := by simp [h0]
    have h0i : a < 0 ∨ 0 < a := by omega
    have H0 := Lib.hid h0
    generalize hr : mayN a b c wide = r
    have HR := Lib.hid hr
    clear hr h0
    cases wide <;>
    · go_enter Try.func24, Try.ntmps24
      go_wp2
      all_goals go_ret
      all_goals refine ⟨?_, (Same.refl _).alloc _⟩
      all_goals rw [← HR.out, mayN, if_neg H0.out]
      all_goals clear HR H0
      all_goals simp_all <;> omega

set_option maxHeartbeats 1600000 in
set_option maxRecDepth 100000 in
theorem ref_may (a b c : Int) (wide : Bool) (w : World) :
    Calls Try.prog 27 #[.agg #[.int .i64 a, .int .i64 b, .int .u8 c], .bool wide] w fun e w' => e = .returned (.bool (mayN a b c wide)) ∧ Same (fun _ => False) w w' := by
  generalize hr : mayN a b c wide = r
  have HR := Lib.hid hr
  clear hr
  by_cases h0 : a = 0
  · have h0' : (a == 0) = true := by simp [h0]
    have H0 := Lib.hid h0
    have h0i : a ≤ 0 := by omega
    clear h0
    by_cases h1 : b = 0
    · have h1' : (b == 0) = true := by simp [h1]
      have H1 := Lib.hid h1
      clear h1
      go_enter Try.func27, Try.ntmps27
      go_wp2
      go_ret
      refine ⟨?_, (Same.refl _).alloc _⟩
      rw [← HR.out, mayN, if_pos H0.out, H1.out]; rfl
    · have h1' : (b == 0) = false := by simp [h1]
      have h1i : b < 0 ∨ 0 < b := by omega
      have H1 := Lib.hid h1
      clear h1
      cases wide <;>
      · go_enter Try.func27, Try.ntmps27
        go_wp2
        all_goals go_ret
        all_goals refine ⟨?_, (Same.refl _).alloc _⟩
        all_goals rw [← HR.out, mayN, if_pos H0.out, h1']
        all_goals clear HR H0 H1
        all_goals simp_all
        all_goals omega
  · have h0' : (a == 0) = false := by simp [h0]
    have h0i : a < 0 ∨ 0 < a := by omega
    have H0 := Lib.hid h0
    clear h0
    cases wide <;>
    · go_enter Try.func27, Try.ntmps27
      go_wp2
      all_goals go_ret
      all_goals refine ⟨?_, (Same.refl _).alloc _⟩
      all_goals rw [← HR.out, mayN, if_neg H0.out]
      all_goals clear HR H0
      all_goals simp_all <;> omega

end Go.Proofs.YtoofkcbgldbfpaaRRR
