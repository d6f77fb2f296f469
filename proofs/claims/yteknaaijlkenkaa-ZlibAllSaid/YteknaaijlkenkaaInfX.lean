import Derived.Test.YteknaaijlkenkaaInfU
namespace Go.Proofs.Yteknaaijlkenkaa
set_option linter.unusedVariables false
set_option linter.unusedSimpArgs false

/-! ### how a run ends, without a number of steps -/
inductive Ends : I → I × Nat → Prop
  | over {x : I} : x.st = 3 → Ends x (x, 0)
  | bad {x : I} {e : Nat} : x.st ≠ 3 → stepG x = .bad e → Ends x (x, e)
  | step {x y : I} {r : I × Nat} : x.st ≠ 3 → stepG x = .ok y → Ends y r → Ends x r
theorem Ends.run {x : I} {r : I × Nat} (h : Ends x r) : ∀ k, mu x < k → x.raw ≤ 65535 → x.st ≤ 3 → runP k x = r := by
  induction h with
  | over h =>
    intro k hk _ _
    obtain ⟨j, rfl⟩ : ∃ j, k = j + 1 := ⟨k - 1, by omega⟩
    rw [runP, if_pos h]
  | bad h h1 =>
    intro k hk _ _
    obtain ⟨j, rfl⟩ : ∃ j, k = j + 1 := ⟨k - 1, by omega⟩
    rw [runP, if_neg h, h1]
  | step h h1 _ ih =>
    intro k hk hr h3
    obtain ⟨j, rfl⟩ : ∃ j, k = j + 1 := ⟨k - 1, by omega⟩
    have g := step_goes h1 hr h3 h
    rw [runP, if_neg h, h1]
    exact ih j (by have := g.dec; omega) g.raw g.st
theorem ends_run : ∀ (k : Nat) (x : I), mu x < k → x.raw ≤ 65535 → x.st ≤ 3 → Ends x (runP k x)
  | 0, x, h, _, _ => by omega
  | k + 1, x, h, hr, h3 => by
    rw [runP]
    split
    · rename_i h1; exact .over h1
    · rename_i h1
      cases h2 : stepG x with
      | bad e => exact .bad h1 h2
      | ok y =>
        have g := step_goes h2 hr h3 h1
        exact .step h1 h2 (ends_run k y (by have := g.dec; omega) g.raw g.st)
/-- What a stream that is there ends with. -/
theorem all_ends (bs : List Int) (wide : Bool) (size most : Nat) : Ends (startI bs wide size most) (runP (16 * bs.length + 2) (startI bs wide size most)) :=
  ends_run _ _ (by unfold mu startI lf; simp; omega) (by simp [startI]) (by simp [startI])
theorem ends_all {bs : List Int} {wide : Bool} {size most : Nat} {r : I × Nat} (h : Ends (startI bs wide size most) r) : runP (16 * bs.length + 2) (startI bs wide size most) = r :=
  h.run _ (by unfold mu startI lf; simp; omega) (by simp [startI]) (by simp [startI])
end Go.Proofs.Yteknaaijlkenkaa
