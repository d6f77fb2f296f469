import Derived.Test.YteknaaijlkenkaaBitP
import Derived.Test.YteknaaijlkenkaaBas2
import Derived.Test.YteknaaijlkenkaaRows
namespace Go.Proofs.Yteknaaijlkenkaa
set_option linter.unusedVariables false
set_option linter.unusedSimpArgs false
open Go.RowKit

theorem and_u32_1 (x : Int) : bits .and .u32 x 1 = x % 2 := and_maskK .u32 (.inl rfl) x 1 (by decide)
theorem and_u8_1 (x : Int) : bits .and .u8 x 1 = x % 2 := and_maskK .u8 (.inr (.inr rfl)) x 1 (by decide)

theorem Try.u8inf : (Try.prog.info? 5).map (fun i => (i.zero, i.size, i.bytes)) = some (some (.int .u8 0), 1, 1) := by kernel_rfl
theorem or_u8 {b z r : Nat} (hb : b < 2 ^ r) (hz : z < 2) (hr : r < 8) : bits .or .u8 (b : Int) ((z : Int) * 2 ^ r % 256) = (b : Int) + z * 2 ^ r := by
  have hp : 2 ^ (r + 1) ≤ 2 ^ 8 := Nat.pow_le_pow_right (by decide) (by omega)
  rw [Nat.pow_succ] at hp
  have h1 : z * 2 ^ r ≤ 1 * 2 ^ r := Nat.mul_le_mul_right _ (by omega)
  have e : (z : Int) * 2 ^ r % 256 = (z : Int) * 2 ^ r := by
    have : ((z : Int) * 2 ^ r) = ((z * 2 ^ r : Nat) : Int) := by rw [Int.natCast_mul, Int.natCast_pow]; rfl
    rw [this]
    generalize z * 2 ^ r = y at *
    generalize 2 ^ r = x at *
    omega
  rw [e]
  exact or_addK .u8 (.inr (.inr rfl)) b z r hb (by simp only [IntKind.bits]; omega)

end Go.Proofs.Yteknaaijlkenkaa
namespace Go.Proofs.Yteknaaijlkenkaa
open Go.RowKit

section
variable {w w' w'' : World} {base p : Nat} {v v' v'' : Value} {t t' t'' : List Int}
end
end Go.Proofs.Yteknaaijlkenkaa
namespace Go.Proofs.Yteknaaijlkenkaa
open Go.RowKit

theorem u8wf {x : Int} (h : 0 ≤ x ∧ x < 256) : (Lit.int .u8 x).wf = true := by
  simp [Lit.wf, IntKind.min, IntKind.max, IntKind.bits, IntKind.signed]; omega
theorem u8_of {x : Int} (h : (Lit.int .u8 x).wf = true) : 0 ≤ x ∧ x < 256 := by
  simp [Lit.wf, IntKind.min, IntKind.max, IntKind.bits, IntKind.signed] at h; omega
theorem packB_wf {t : List Int} (h : bin t) : ∀ x ∈ packB t, (Lit.int .u8 x).wf = true := fun x hx => u8wf (packN_u8 h _ x hx)

end Go.Proofs.Yteknaaijlkenkaa
