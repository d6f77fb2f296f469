import Derived.Test.YtnnjpbghnfohaaaArgs
import Derived.Test.YtnnjpbghnfohaaaWinP
namespace Go.Proofs.Ytnnjpbghnfohaaa
set_option linter.unusedVariables false
set_option linter.unusedSimpArgs false
open Go.RowKit

abbrev Tok := S45
/-- May a token be? -/
def may (wide : Bool) (t : Tok) : Bool :=
  if t.f0 = 0 then t.f1 == 0
  else t.f2 == 0 && decide (3 ≤ t.f0) && decide (t.f0 ≤ if wide then 65538 else 258) && decide (1 ≤ t.f1) && decide (t.f1 ≤ if wide then 65536 else 32768)
/-- The bytes behind a token that is right. -/
def more (out : List Int) (t : Tok) : List Int := if t.f0 = 0 then out ++ [t.f2] else ext out t.f1.toNat t.f0.toNat
/-- What is wrong with a token behind so many bytes: 0, 2 or 3. -/
def wrong (wide : Bool) (most : Int) (n : Nat) (t : Tok) : Int :=
  if may wide t = false ∨ (n : Int) < t.f1 then 2 else if most - n < max t.f0 1 then 3 else 0
/-- The bytes that tokens are: the bytes, the place of the first wrong one, the error. -/
def expand (wide : Bool) (most : Int) : List Tok → Nat → List Int → List Int × Nat × Int
  | [], _, out => (out, 0, 0)
  | t :: l, i, out => if wrong wide most out.length t = 0 then expand wide most l (i + 1) (more out t) else ([], i, wrong wide most out.length t)

theorem more_length (out : List Int) (t : Tok) : (more out t).length = out.length + (if t.f0 = 0 then 1 else t.f0.toNat) := by
  unfold more
  split
  · simp
  · rw [ext_length]
theorem wrong_cases (wide : Bool) (most : Int) (n : Nat) (t : Tok) : wrong wide most n t = 0 ∨ wrong wide most n t = 2 ∨ wrong wide most n t = 3 := by
  unfold wrong
  split
  · exact .inr (.inl rfl)
  · split
    · exact .inr (.inr rfl)
    · exact .inl rfl
theorem wrong_zero {wide : Bool} {most : Int} {n : Nat} {t : Tok} (h : wrong wide most n t = 0) : may wide t = true ∧ t.f1 ≤ n ∧ max t.f0 1 ≤ most - n := by
  unfold wrong at h
  split at h
  · cases h
  · rename_i h1
    split at h
    · cases h
    · exact ⟨by cases hm : may wide t <;> simp_all, by omega, by omega⟩
theorem may_match {wide : Bool} {t : Tok} (h : may wide t = true) (h0 : ¬ t.f0 = 0) : t.f2 = 0 ∧ 3 ≤ t.f0 ∧ t.f0 ≤ 65538 ∧ 1 ≤ t.f1 ∧ t.f1 ≤ 65536 := by
  unfold may at h
  rw [if_neg h0] at h
  simp only [Bool.and_eq_true, beq_iff_eq, decide_eq_true_eq] at h
  refine ⟨by omega, by omega, ?_, by omega, ?_⟩
  · have := h.1.1.2; split at this <;> omega
  · have := h.2; split at this <;> omega
theorem may_lit {wide : Bool} {t : Tok} (h : may wide t = true) (h0 : t.f0 = 0) : t.f1 = 0 := by
  unfold may at h
  rw [if_pos h0] at h
  simpa using h
/-- How many bytes a token is. -/
def sz (t : Tok) : Int := if t.f0 = 0 then 1 else max t.f0 0
def sizeFrom (l : List Tok) (n : Int) : Int := l.foldl (fun n t => min (n + sz t) 1099511627776) n
def size (l : List Tok) : Int := sizeFrom l 0
theorem sz_nonneg (t : Tok) : 0 ≤ sz t := by unfold sz; split <;> omega
theorem sizeFrom_range (l : List Tok) : ∀ n, 0 ≤ n → n ≤ 1099511627776 → 0 ≤ sizeFrom l n ∧ sizeFrom l n ≤ 1099511627776 := by
  induction l with
  | nil => exact fun n h0 h1 => ⟨h0, h1⟩
  | cons t l ih => exact fun n h0 h1 => ih (min (n + sz t) 1099511627776) (by have := sz_nonneg t; omega) (by omega)
theorem sizeFrom_sat (l : List Tok) : sizeFrom l 1099511627776 = 1099511627776 := by
  induction l with
  | nil => rfl
  | cons t l ih =>
    have : min (1099511627776 + sz t) 1099511627776 = 1099511627776 := by have := sz_nonneg t; omega
    show sizeFrom l (min (1099511627776 + sz t) 1099511627776) = _
    rw [this, ih]
theorem sizeFrom_cons (t : Tok) (l : List Tok) (n : Int) (h : n + sz t ≤ 1099511627776) : sizeFrom (t :: l) n = sizeFrom l (n + sz t) := by
  show sizeFrom l (min (n + sz t) 1099511627776) = _
  rw [Int.min_eq_left h]
theorem size_snoc (l : List Tok) (t : Tok) : size (l ++ [t]) = min (size l + sz t) 1099511627776 := by simp [size, sizeFrom]
theorem size_append (l m : List Tok) : size (l ++ m) = sizeFrom m (size l) := by simp [size, sizeFrom]

theorem ext_prefix (p all : List Int) (d : Nat) (hd : 1 ≤ d) (hda : d ≤ all.length) : ∀ n, ext (p ++ all) d n = p ++ ext all d n
  | 0 => rfl
  | n + 1 => by
    have hl := ext_length all d n
    rw [ext, ext, ext_prefix p all d hd hda n, List.append_assoc]
    congr 2
    congr 1
    simp only [List.getD_eq_getElem?_getD, List.length_append]
    rw [List.getElem?_append_right (by omega), show p.length + (ext all d n).length - d - p.length = (ext all d n).length - d from by omega]
theorem more_prefix (p out : List Int) (t : Tok) (h : t.f0 = 0 ∨ (1 ≤ t.f1 ∧ t.f1 ≤ out.length)) : more (p ++ out) t = p ++ more out t := by
  unfold more
  by_cases h0 : t.f0 = 0
  · rw [if_pos h0, if_pos h0, List.append_assoc]
  · rw [if_neg h0, if_neg h0, ext_prefix _ _ _ (by omega) (by omega)]
theorem wrong_ok {wide : Bool} {most : Int} {n : Nat} {t : Tok} (h1 : may wide t = true) (h2 : t.f1 ≤ n) (h3 : max t.f0 1 ≤ most - n) : wrong wide most n t = 0 := by
  unfold wrong
  rw [if_neg (by simp [h1]; omega), if_neg (by omega)]
theorem more_length_ok {wide : Bool} {most : Int} {out : List Int} {t : Tok} (h : wrong wide most out.length t = 0) : ((more out t).length : Int) = out.length + max t.f0 1 ∧ (t.f0 = 0 ∨ (1 ≤ t.f1 ∧ t.f1 ≤ out.length)) := by
  obtain ⟨h1, h2, h3⟩ := wrong_zero h
  rw [more_length]
  by_cases h0 : t.f0 = 0
  · rw [if_pos h0]; exact ⟨by omega, .inl h0⟩
  · have := may_match h1 h0
    rw [if_neg h0]
    exact ⟨by omega, .inr ⟨by omega, by omega⟩⟩
/-- What a list that is right comes to. -/
theorem expand_cons {wide : Bool} {most : Int} {t : Tok} {l : List Tok} {i : Nat} {out r : List Int} {a : Nat} (h : expand wide most (t :: l) i out = (r, a, 0)) :
    wrong wide most out.length t = 0 ∧ expand wide most l (i + 1) (more out t) = (r, a, 0) := by
  rw [expand] at h
  by_cases hw : wrong wide most out.length t = 0
  · rw [if_pos hw] at h; exact ⟨hw, h⟩
  · rw [if_neg hw] at h
    simp only [Prod.mk.injEq] at h
    exact absurd h.2.2 hw
theorem expand_size {wide : Bool} {most : Int} (hm : most ≤ 1073741824) : ∀ {l : List Tok} {i : Nat} {out r : List Int} {a : Nat}, expand wide most l i out = (r, a, 0) → out.length ≤ most →
    a = 0 ∧ r.length ≤ most ∧ out.length ≤ r.length ∧ sizeFrom l out.length = r.length
  | [], i, out, r, a, h, ho => by
    simp only [expand, Prod.mk.injEq] at h
    obtain ⟨rfl, rfl, _⟩ := h
    exact ⟨rfl, ho, Nat.le_refl _, rfl⟩
  | t :: l, i, out, r, a, h, ho => by
    obtain ⟨hw, h⟩ := expand_cons h
    obtain ⟨hl, _⟩ := more_length_ok hw
    obtain ⟨h1, h2, h3⟩ := wrong_zero hw
    obtain ⟨e1, e2, e3, e4⟩ := expand_size hm h (by omega)
    refine ⟨e1, e2, by omega, ?_⟩
    have hz : sz t = max t.f0 1 := by
      unfold sz
      by_cases h0 : t.f0 = 0
      · rw [if_pos h0, h0]; rfl
      · have := may_match h1 h0
        rw [if_neg h0]
        clear e1 e2 e3 e4 hm h3 hl
        omega
    rw [← e4, hl, ← hz]
    exact sizeFrom_cons t l _ (by rw [hz, ← hl]; clear hz e4 h1 h2; omega)
theorem expand_shift {wide : Bool} {most : Int} (hm : most ≤ 1073741824) (p : List Int) : ∀ {l : List Tok} {i i' : Nat} {out r : List Int} {a : Nat}, expand wide most l i out = (r, a, 0) → (p.length : Int) + r.length ≤ most →
    expand wide most l i' (p ++ out) = (p ++ r, 0, 0)
  | [], i, i', out, r, a, h, hp => by
    simp only [expand, Prod.mk.injEq] at h
    obtain ⟨rfl, rfl, _⟩ := h
    rfl
  | t :: l, i, i', out, r, a, h, hp => by
    obtain ⟨hw, h⟩ := expand_cons h
    obtain ⟨hl, hd⟩ := more_length_ok hw
    obtain ⟨h1, h2, h3⟩ := wrong_zero hw
    have hs := expand_size hm h (by omega)
    have hw2 : wrong wide most (p ++ out).length t = 0 := wrong_ok h1 (by simp; omega) (by simp; omega)
    rw [expand, if_pos hw2, more_prefix p out t hd]
    exact expand_shift hm p h hp
theorem expand_append {wide : Bool} {most : Int} {m : List Tok} : ∀ {l : List Tok} {i : Nat} {out r : List Int} {a : Nat}, expand wide most l i out = (r, a, 0) → expand wide most (l ++ m) i out = expand wide most m (i + l.length) r
  | [], i, out, r, a, h => by
    simp only [expand, Prod.mk.injEq] at h
    obtain ⟨rfl, _, _⟩ := h
    rfl
  | t :: l, i, out, r, a, h => by
    obtain ⟨hw, h⟩ := expand_cons h
    rw [List.cons_append, expand, if_pos hw, expand_append h]
    congr 1
    simp; omega
/-- Two right lists, one behind the other. -/
theorem expand_joins {wide : Bool} {l m : List Tok} {a b : List Int} {x y : Nat} (hl : expand wide 1073741824 l 0 [] = (a, x, 0)) (hm : expand wide 1073741824 m 0 [] = (b, y, 0)) (hs : (a.length : Int) + b.length ≤ 1073741824) :
    expand wide 1073741824 (l ++ m) 0 [] = (a ++ b, 0, 0) ∧ size l = a.length := by
  refine ⟨?_, ?_⟩
  · rw [expand_append hl]
    have := expand_shift (i' := 0 + l.length) (by omega) a hm hs
    rwa [List.append_nil] at this
  · exact (expand_size (by omega) hl (by simp)).2.2.2
end Go.Proofs.Ytnnjpbghnfohaaa
