import Derived.Test.YteknaaijlkenkaaBase
namespace Go.Proofs.Yteknaaijlkenkaa
set_option linter.unusedVariables false
set_option linter.unusedSimpArgs false

/-- All that was ever put, and n bytes more, each the one d places ahead. -/
def ext (all : List Int) (d : Nat) : Nat → List Int
  | 0 => all
  | n + 1 => ext all d n ++ [(ext all d n).getD ((ext all d n).length - d) 0]

theorem ext_length (all : List Int) (d n : Nat) : (ext all d n).length = all.length + n := by
  induction n with
  | zero => rfl
  | succ n ih => simp [ext, ih]; omega

theorem ext_old (all : List Int) (d n i : Nat) (h : i < all.length) : (ext all d n)[i]? = all[i]? := by
  induction n with
  | zero => rfl
  | succ n ih => rw [ext, List.getElem?_append_left (by rw [ext_length]; omega), ih]

theorem ext_take (all : List Int) (d n : Nat) : (ext all d n).take all.length = all := by
  apply List.ext_getElem?
  intro i
  rw [List.getElem?_take]
  split
  · rename_i h; exact ext_old all d n i h
  · rename_i h; rw [List.getElem?_eq_none (by omega)]

theorem ext_split (all : List Int) (d n : Nat) : ext all d n = all ++ (ext all d n).drop all.length := by
  conv => lhs; rw [← List.take_append_drop all.length (ext all d n), ext_take]

theorem ext_mono (all : List Int) (d : Nat) : ∀ n m i, i < all.length + n → (ext all d (n + m))[i]? = (ext all d n)[i]?
  | n, 0, i, _ => rfl
  | n, m + 1, i, h => by
    rw [← Nat.add_assoc, ext, List.getElem?_append_left (by rw [ext_length]; omega)]
    exact ext_mono all d n m i h

/-- Each new byte is the one d places ahead. -/
theorem ext_new (all : List Int) (d n i : Nat) (hi : i < n) (hd : 1 ≤ d) (hda : d ≤ all.length) : (ext all d n)[all.length + i]? = (ext all d n)[all.length + i - d]? := by
  obtain ⟨m, rfl⟩ : ∃ m, n = (i + 1) + m := ⟨n - (i + 1), by omega⟩
  rw [ext_mono all d (i + 1) m _ (by omega), ext_mono all d (i + 1) m _ (by omega), ext]
  have hl := ext_length all d i
  rw [List.getElem?_append_right (by omega), List.getElem?_append_left (by omega), hl]
  simp only [Nat.sub_self, List.getElem?_cons_zero]
  rw [List.getD_eq_getElem?_getD, List.getElem?_eq_getElem (by omega)]
  rfl

/-- It repeats what stood there. -/
theorem ext_repeats (all : List Int) (d n : Nat) (hd : 1 ≤ d) (hda : d ≤ all.length) : ∀ i, i < n → (ext all d n)[all.length + i]? = all[all.length - d + i % d]?
  | i, hi => by
    rw [ext_new all d n i hi hd hda]
    by_cases h : i < d
    · rw [Nat.mod_eq_of_lt h, ext_old all d n _ (by omega)]
      congr 1
      omega
    · have := ext_repeats all d n hd hda (i - d) (by omega)
      rw [show all.length + i - d = all.length + (i - d) from by omega, this, ← Nat.mod_eq_sub_mod (by omega)]

theorem mod_ne {s i n : Nat} (h1 : i < n) (h2 : n < i + s) : i % s ≠ n % s := by
  intro e
  have := Nat.sub_mod_eq_zero_of_mod_eq e.symm
  have h3 := Nat.le_of_dvd (by omega) (Nat.dvd_of_mod_eq_zero this)
  omega
end Go.Proofs.Yteknaaijlkenkaa
