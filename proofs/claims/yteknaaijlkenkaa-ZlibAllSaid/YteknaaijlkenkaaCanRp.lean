import Derived.Test.YteknaaijlkenkaaJCan
import Derived.Test.YteknaaijlkenkaaRefB
namespace Go.Proofs.Yteknaaijlkenkaa
set_option linter.unusedVariables false
set_option linter.unusedSimpArgs false
open Go.RowKit

theorem bitT_drop (v : Int) (j : Nat) : ∀ m, j ≤ m → (bitT v m).drop j = bitT (v / 2 ^ j) (m - j) := fun m hj => by
  apply List.ext_getElem?
  intro i
  rw [List.getElem?_drop]
  by_cases hi : i < m - j
  · rw [bitT_at v (show j + i < m by omega), bitT_at _ hi, Int.pow_add, Int.ediv_ediv_of_nonneg (Int.pow_nonneg (by decide))]
  · rw [List.getElem?_eq_none (by rw [bitT_length]; omega), List.getElem?_eq_none (by rw [bitT_length]; omega)]
theorem bitT_inj {a b : Int} {n : Nat} (ha : 0 ≤ a) (hb : 0 ≤ b) (h : bitT a n = bitT b n) : a % 2 ^ n = b % 2 ^ n := by
  rw [← numT_bitT a ha, ← numT_bitT b hb, h]
def cw (l : List Int) (k : Nat) : List Int := codeT (code l k) (l.getD k 0)
theorem cw_eq {l : List Int} {k n : Nat} (h : l[k]? = some (n : Int)) (h1 : 1 ≤ n) (h2 : n ≤ 15) : cw l k = (bitT (code l k) n).reverse := by
  unfold cw codeT
  rw [List.getD_eq_getElem?_getD, h, Option.getD_some, putT_ok _ h1 (by omega)]
theorem cw_length {l : List Int} {k n : Nat} (h : l[k]? = some (n : Int)) (h1 : 1 ≤ n) (h2 : n ≤ 15) : (cw l k).length = n := by
  rw [cw_eq h h1 h2, List.length_reverse, bitT_length]
theorem cw_bin (l : List Int) (k : Nat) : bin (cw l k) := bin_rev (bin_putT _ _)
theorem cw_apart {l : List Int} (hS : below15 l 16 ≤ 32768) {i k n m : Nat} (h : l[i]? = some (n : Int)) (h' : l[k]? = some (m : Int)) (h1 : 1 ≤ n) (h15 : m ≤ 15) (hik : i ≠ k) (hnm : n ≤ m) :
    (cw l k).take n ≠ cw l i := by
  intro e
  obtain ⟨C, c1, _, _, _⟩ := code_true hS h h1 (by omega)
  obtain ⟨D, d1, _, _, _⟩ := code_true hS h' (by omega) h15
  have hC := code_small hS h h1 (by omega) c1
  have hD := code_small hS h' (by omega) h15 d1
  rw [cw_eq h' (by omega) h15, cw_eq h h1 (by omega), List.take_reverse, bitT_length, bitT_drop _ _ _ (by omega), show m - (m - n) = n from by omega] at e
  have e2 := List.reverse_inj.1 e
  rw [c1, d1] at e2
  have e3 := bitT_inj (by exact Int.ediv_nonneg (by omega) (Int.pow_nonneg (by decide))) (by omega) e2
  have hq : D / 2 ^ (m - n) < 2 ^ n := by
    rw [Nat.div_lt_iff_lt_mul (Nat.pow_pos (by decide)), ← Nat.pow_add, show n + (m - n) = m from by omega]; exact hD
  have e4 : D / 2 ^ (m - n) = C := by
    have e5 : ((D / 2 ^ (m - n) : Nat) : Int) % ((2 ^ n : Nat) : Int) = (C : Int) % ((2 ^ n : Nat) : Int) := by
      rw [Int.natCast_ediv, Int.natCast_pow, Int.natCast_pow]; exact e3
    rw [← Int.natCast_emod, ← Int.natCast_emod] at e5
    have e6 : D / 2 ^ (m - n) % 2 ^ n = C % 2 ^ n := by exact_mod_cast e5
    rwa [Nat.mod_eq_of_lt hq, Nat.mod_eq_of_lt hC] at e6
  by_cases hc : n < m ∨ (n = m ∧ i < k)
  · have := code_prefix hS h h' h1 h15 hc c1 d1
    omega
  · have hnm2 : n = m := by omega
    subst hnm2
    have := code_prefix hS h' h (by omega) (by omega) (.inr ⟨rfl, by omega⟩) d1 c1
    rw [Nat.sub_self, Nat.pow_zero, Nat.div_one] at e4 this
    omega
/-- What begins with one code begins with no other. -/
theorem cw_one {l : List Int} (hS : below15 l 16 ≤ 32768) {i k n m : Nat} (h : l[i]? = some (n : Int)) (h' : l[k]? = some (m : Int)) (h1 : 1 ≤ n) (hn : n ≤ 15) (hm1 : 1 ≤ m) (h15 : m ≤ 15) (hik : i ≠ k) (R : List Int) :
    (cw l k ++ R).take n ≠ cw l i := by
  intro e
  by_cases hnm : n ≤ m
  · rw [List.take_append_of_le_length (by rw [cw_length h' hm1 h15]; exact hnm)] at e
    exact cw_apart hS h h' h1 h15 hik hnm e
  · have e2 := congrArg (List.take m) e
    rw [List.take_take, Nat.min_eq_left (by omega), List.take_append_of_le_length (by rw [cw_length h' hm1 h15]; exact Nat.le_refl _), List.take_of_length_le (by rw [cw_length h' hm1 h15]; exact Nat.le_refl _)] at e2
    exact cw_apart hS h' h hm1 hn (fun c => hik c.symm) (by omega) e2.symm
theorem txt_inj {a b : List Int} (ha : bin a) (hb : bin b) (h : txt a = txt b) : a = b := by
  have e := congrArg (fun s => s.data.toList) h
  simp only [txt_data] at e
  apply List.ext_getElem?
  intro i
  have e2 := congrArg (fun l => l[i]?) e
  simp only [List.getElem?_map] at e2
  cases hx : a[i]? with
  | none =>
    rw [hx] at e2
    cases hy : b[i]? with
    | none => rfl
    | some y => rw [hy] at e2; simp at e2
  | some x =>
    rw [hx] at e2
    cases hy : b[i]? with
    | none => rw [hy] at e2; simp at e2
    | some y =>
      rw [hy] at e2
      have h1 := ha x (List.mem_of_getElem? hx)
      have h2 := hb y (List.mem_of_getElem? hy)
      rcases h1 with rfl | rfl <;> rcases h2 with rfl | rfl <;> first | rfl | (exfalso; revert e2; decide)
end Go.Proofs.Yteknaaijlkenkaa
