import Derived.Test.YtbcngpmgimackaaArgs
import Derived.Test.YtbcngpmgimackaaWinP
namespace Go.Proofs.Ytbcngpmgimackaa
open Go.RowKit

abbrev Tok := S42
/-- May a token be? -/
def may (wide : Bool) (t : Tok) : Bool :=
  if t.f0 = 0 then t.f1 == 0
  else t.f2 == 0 && decide (3 ≤ t.f0) && decide (t.f0 ≤ if wide then 65538 else 258) && decide (1 ≤ t.f1) && decide (t.f1 ≤ if wide then 65536 else 32768)
/-- The bytes behind a token that is right. -/
def more (out : List Int) (t : Tok) : List Int := if t.f0 = 0 then out ++ [t.f2] else ext out t.f1.toNat t.f0.toNat
/-- What is wrong with a token behind so many bytes: 0, 2 or 3. -/
def wrong (wide : Bool) (most : Int) (n : Nat) (t : Tok) : Int :=
  if may wide t = false ∨ (n : Int) < t.f1 then 2 else if most - n < max t.f0 1 then 3 else 0
/-- The bytes that tokens are: the bytes, the place of the first wrong one, the error. -/
def expand (wide : Bool) (most : Int) : List Tok → Nat → List Int → List Int × Nat × Int
  | [], _, out => (out, 0, 0)
  | t :: l, i, out => if wrong wide most out.length t = 0 then expand wide most l (i + 1) (more out t) else ([], i, wrong wide most out.length t)

theorem more_length (out : List Int) (t : Tok) : (more out t).length = out.length + (if t.f0 = 0 then 1 else t.f0.toNat) := by
  unfold more
  split
  · simp
  · rw [ext_length]
theorem wrong_cases (wide : Bool) (most : Int) (n : Nat) (t : Tok) : wrong wide most n t = 0 ∨ wrong wide most n t = 2 ∨ wrong wide most n t = 3 := by
  unfold wrong
  split
  · exact .inr (.inl rfl)
  · split
    · exact .inr (.inr rfl)
    · exact .inl rfl
theorem wrong_zero {wide : Bool} {most : Int} {n : Nat} {t : Tok} (h : wrong wide most n t = 0) : may wide t = true ∧ t.f1 ≤ n ∧ max t.f0 1 ≤ most - n := by
  unfold wrong at h
  split at h
  · cases h
  · rename_i h1
    split at h
    · cases h
    · exact ⟨by cases hm : may wide t <;> simp_all, by omega, by omega⟩
theorem may_match {wide : Bool} {t : Tok} (h : may wide t = true) (h0 : ¬ t.f0 = 0) : t.f2 = 0 ∧ 3 ≤ t.f0 ∧ t.f0 ≤ 65538 ∧ 1 ≤ t.f1 ∧ t.f1 ≤ 65536 := by
  unfold may at h
  rw [if_neg h0] at h
  simp only [Bool.and_eq_true, beq_iff_eq, decide_eq_true_eq] at h
  refine ⟨by omega, by omega, ?_, by omega, ?_⟩
  · have := h.1.1.2; split at this <;> omega
  · have := h.2; split at this <;> omega
theorem may_lit {wide : Bool} {t : Tok} (h : may wide t = true) (h0 : t.f0 = 0) : t.f1 = 0 := by
  unfold may at h
  rw [if_pos h0] at h
  simpa using h
/-- How many bytes a token is. -/
def sz (t : Tok) : Int := if t.f0 = 0 then 1 else max t.f0 0
def sizeFrom (l : List Tok) (n : Int) : Int := l.foldl (fun n t => min (n + sz t) 1099511627776) n
def size (l : List Tok) : Int := sizeFrom l 0
theorem sz_nonneg (t : Tok) : 0 ≤ sz t := by unfold sz; split <;> omega
theorem sizeFrom_range (l : List Tok) : ∀ n, 0 ≤ n → n ≤ 1099511627776 → 0 ≤ sizeFrom l n ∧ sizeFrom l n ≤ 1099511627776 := by
  induction l with
  | nil => exact fun n h0 h1 => ⟨h0, h1⟩
  | cons t l ih => exact fun n h0 h1 => ih (min (n + sz t) 1099511627776) (by have := sz_nonneg t; omega) (by omega)
theorem sizeFrom_sat (l : List Tok) : sizeFrom l 1099511627776 = 1099511627776 := by
  induction l with
  | nil => rfl
  | cons t l ih =>
    have : min (1099511627776 + sz t) 1099511627776 = 1099511627776 := by have := sz_nonneg t; omega
    show sizeFrom l (min (1099511627776 + sz t) 1099511627776) = _
    rw [this, ih]
theorem size_snoc (l : List Tok) (t : Tok) : size (l ++ [t]) = min (size l + sz t) 1099511627776 := by simp [size, sizeFrom]
theorem size_append (l m : List Tok) : size (l ++ m) = sizeFrom m (size l) := by simp [size, sizeFrom]
end Go.Proofs.Ytbcngpmgimackaa
