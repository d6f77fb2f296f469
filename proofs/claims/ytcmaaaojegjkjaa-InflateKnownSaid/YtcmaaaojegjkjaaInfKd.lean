import Derived.Test.YtcmaaaojegjkjaaInfR
import Derived.Test.YtcmaaaojegjkjaaRefC
namespace Go.Proofs.Ytcmaaaojegjkjaa
set_option linter.unusedVariables false
set_option linter.unusedSimpArgs false
open Go.RowKit

def kL : List (List Int) := [[1, 1, 0, 0, 0, 0, 0, 0, 0, 0], [1, 1, 0, 0, 1, 1, 1, 0, 0, 0, 1, 0, 0, 0, 0, 0, 0, 0], [1, 1, 0, 0, 1, 1, 1, 0, 0, 0, 1, 0, 0, 0, 0, 0, 1, 0, 0, 0, 0, 0, 0, 0, 0, 0, 0, 0, 0, 0], [1, 1, 0, 0, 0, 0, 0, 0, 1, 0, 0, 0, 0, 0, 0, 0, 0, 0, 0, 0, 0, 0], [1, 1, 0, 0, 1, 1, 1, 0, 0, 0, 1, 0, 0, 0, 0, 0, 1, 0, 0, 0, 0, 0, 1, 0, 0, 0, 0, 0, 0, 0], [1, 1, 0, 0, 1, 1, 1, 0, 0, 0, 1, 0, 0, 0, 0, 0, 1, 0, 1, 1, 1, 1, 0, 0, 0, 0, 0, 0, 0, 0], [1, 1, 0, 1, 1, 0, 0, 0, 1, 1, 0], [1, 1, 1], [1, 0, 0, 0, 0, 0, 0, 0, 1, 0, 0, 0, 0, 0, 0, 0, 0, 0, 0, 0, 0, 0, 0, 0, 0, 1, 1, 1, 1, 1, 1, 1, 1, 1, 1, 1, 1, 1, 1, 1, 1, 0, 0, 0, 0, 1, 1, 0], [1, 0, 0, 0, 0, 0, 0, 0, 1, 0, 0, 0, 0, 0, 0, 0, 0, 0, 0, 0, 0, 0, 0, 0, 1, 1, 1, 1, 1, 1, 1, 1, 1, 1, 1, 1, 1, 1, 1, 1, 1, 0, 0, 0, 0, 1, 1, 0], [0, 1, 0, 0, 0, 0, 0, 0, 0, 0, 1, 1, 0, 0, 1, 1, 1, 0, 0, 0, 1, 0, 0, 0, 0, 0, 0, 0], [1, 0, 1, 0, 1, 1, 1, 1, 0, 0, 0, 0, 0, 0, 0, 0, 0], [1, 0, 1, 0, 0, 0, 0, 0, 0, 1, 1, 1, 1, 0, 0, 0, 0], [1, 0, 1, 0, 0, 0, 0, 0, 0, 0, 0, 0, 0, 0, 0, 0, 0, 0, 0, 0, 0, 0, 0, 0, 0, 0, 0, 0, 0], [1, 1, 0, 0, 1, 1, 1, 0, 0, 0, 1, 1, 1, 0, 0, 0, 1, 0, 1, 0, 0, 0, 0, 0, 0, 0, 0, 0, 0, 0, 0]]
def kW : List (List Int) := [[], [65], [65, 65, 65, 65, 65], [33], [33], [33], [33], [33], [97], [33], [65], [33], [33], [33], []]
def arr1 : Array Value := #[.string ⟨#[49, 49, 48, 48, 48, 48, 48, 48, 48, 48]⟩, .string ⟨#[49, 49, 48, 48, 49, 49, 49, 48, 48, 48, 49, 48, 48, 48, 48, 48, 48, 48]⟩, .string ⟨#[49, 49, 48, 48, 49, 49, 49, 48, 48, 48, 49, 48, 48, 48, 48, 48, 49, 48, 48, 48, 48, 48, 48, 48, 48, 48, 48, 48, 48, 48]⟩, .string ⟨#[49, 49, 48, 48, 48, 48, 48, 48, 49, 48, 48, 48, 48, 48, 48, 48, 48, 48, 48, 48, 48, 48]⟩, .string ⟨#[49, 49, 48, 48, 49, 49, 49, 48, 48, 48, 49, 48, 48, 48, 48, 48, 49, 48, 48, 48, 48, 48, 49, 48, 48, 48, 48, 48, 48, 48]⟩, .string ⟨#[49, 49, 48, 48, 49, 49, 49, 48, 48, 48, 49, 48, 48, 48, 48, 48, 49, 48, 49, 49, 49, 49, 48, 48, 48, 48, 48, 48, 48, 48]⟩, .string ⟨#[49, 49, 48, 49, 49, 48, 48, 48, 49, 49, 48]⟩, .string ⟨#[49, 49, 49]⟩, .string ⟨#[49, 48, 48, 48, 48, 48, 48, 48, 49, 48, 48, 48, 48, 48, 48, 48, 48, 48, 48, 48, 48, 48, 48, 48, 48, 49, 49, 49, 49, 49, 49, 49, 49, 49, 49, 49, 49, 49, 49, 49, 49, 48, 48, 48, 48, 49, 49, 48]⟩, .string ⟨#[49, 48, 48, 48, 48, 48, 48, 48, 49, 48, 48, 48, 48, 48, 48, 48, 48, 48, 48, 48, 48, 48, 48, 48, 49, 49, 49, 49, 49, 49, 49, 49, 49, 49, 49, 49, 49, 49, 49, 49, 49, 48, 48, 48, 48, 49, 49, 48]⟩, .string ⟨#[48, 49, 48, 48, 48, 48, 48, 48, 48, 48, 49, 49, 48, 48, 49, 49, 49, 48, 48, 48, 49, 48, 48, 48, 48, 48, 48, 48]⟩, .string ⟨#[49, 48, 49, 48, 49, 49, 49, 49, 48, 48, 48, 48, 48, 48, 48, 48, 48]⟩, .string ⟨#[49, 48, 49, 48, 48, 48, 48, 48, 48, 49, 49, 49, 49, 48, 48, 48, 48]⟩, .string ⟨#[49, 48, 49, 48, 48, 48, 48, 48, 48, 48, 48, 48, 48, 48, 48, 48, 48, 48, 48, 48, 48, 48, 48, 48, 48, 48, 48, 48, 48]⟩, .string ⟨#[49, 49, 48, 48, 49, 49, 49, 48, 48, 48, 49, 49, 49, 48, 48, 48, 49, 48, 49, 48, 48, 48, 48, 48, 48, 48, 48, 48, 48, 48, 48]⟩]
def arr2 : Array Value := #[.string ⟨#[]⟩, .string ⟨#[65]⟩, .string ⟨#[65, 65, 65, 65, 65]⟩, .string ⟨#[33]⟩, .string ⟨#[33]⟩, .string ⟨#[33]⟩, .string ⟨#[33]⟩, .string ⟨#[33]⟩, .string ⟨#[97]⟩, .string ⟨#[33]⟩, .string ⟨#[65]⟩, .string ⟨#[33]⟩, .string ⟨#[33]⟩, .string ⟨#[33]⟩, .string ⟨#[]⟩]
theorem arr1_at : ∀ j, j < 15 → arr1[j]? = some (.string (txt (kL.getD j [])))
  | 0, _ => by kernel_rfl
  | 1, _ => by kernel_rfl
  | 2, _ => by kernel_rfl
  | 3, _ => by kernel_rfl
  | 4, _ => by kernel_rfl
  | 5, _ => by kernel_rfl
  | 6, _ => by kernel_rfl
  | 7, _ => by kernel_rfl
  | 8, _ => by kernel_rfl
  | 9, _ => by kernel_rfl
  | 10, _ => by kernel_rfl
  | 11, _ => by kernel_rfl
  | 12, _ => by kernel_rfl
  | 13, _ => by kernel_rfl
  | 14, _ => by kernel_rfl
theorem arr2_at : ∀ j, j < 15 → arr2[j]? = some (.string (strOfNums (kW.getD j [])))
  | 0, _ => by kernel_rfl
  | 1, _ => by kernel_rfl
  | 2, _ => by kernel_rfl
  | 3, _ => by kernel_rfl
  | 4, _ => by kernel_rfl
  | 5, _ => by kernel_rfl
  | 6, _ => by kernel_rfl
  | 7, _ => by kernel_rfl
  | 8, _ => by kernel_rfl
  | 9, _ => by kernel_rfl
  | 10, _ => by kernel_rfl
  | 11, _ => by kernel_rfl
  | 12, _ => by kernel_rfl
  | 13, _ => by kernel_rfl
  | 14, _ => by kernel_rfl
def kR (j : Nat) : List Int × Nat × Nat := allQ (packB (kL.getD j [])) false 32768 300
theorem kR0 : kR 0 = ([], 2, 0) := by decide +kernel
theorem kR1 : kR 1 = ([65], 3, 0) := by decide +kernel
theorem kR2 : kR 2 = ([65, 65, 65, 65, 65], 4, 0) := by decide +kernel
theorem kR3 : kR 3 = ([], 0, 2) := by decide +kernel
theorem kR4 : kR 4 = ([], 0, 2) := by decide +kernel
theorem kR5 : kR 5 = ([], 0, 2) := by decide +kernel
theorem kR6 : kR 6 = ([], 0, 2) := by decide +kernel
theorem kR7 : kR 7 = ([], 0, 2) := by decide +kernel
theorem kR8 : kR 8 = ([97], 6, 0) := by decide +kernel
theorem kR9 : kR 9 = ([], 0, 2) := by decide +kernel
theorem kR10 : kR 10 = ([65], 4, 0) := by decide +kernel
theorem kR11 : kR 11 = ([], 0, 2) := by decide +kernel
theorem kR12 : kR 12 = ([], 0, 2) := by decide +kernel
theorem kR13 : kR 13 = ([], 0, 2) := by decide +kernel
theorem kR14 : kR 14 = (List.replicate 259 65, 4, 0) := by decide +kernel
theorem kL_bin : ∀ j : Fin 15, (∀ x ∈ kL.getD j.val [], x = 0 ∨ x = 1) ∧ (kL.getD j.val []).length ≤ 100 := by decide +kernel
end Go.Proofs.Ytcmaaaojegjkjaa
