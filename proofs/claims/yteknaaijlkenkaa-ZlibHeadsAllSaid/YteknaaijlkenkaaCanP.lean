import Derived.Test.YteknaaijlkenkaaArgs
namespace Go.Proofs.Yteknaaijlkenkaa
set_option linter.unusedVariables false
set_option linter.unusedSimpArgs false
open Go.RowKit

/-- What a length takes, by 2^15. -/
def kr (n : Int) : Int := if 0 < n then ((2 ^ (15 - n).toNat : Nat) : Int) else 0
def kraftGo : List Int → Int → Int
  | [], s => s
  | n :: l, s => if n < 0 ∨ 15 < n then -1 else kraftGo l (s + kr n)
def kraft (l : List Int) : Int := if 65536 < l.length then -1 else kraftGo l 0
def someGo : List Int → Nat → Int → Nat × Int
  | [], s, d => (s, d)
  | n :: l, s, d => if n ≠ 0 then someGo l (s + 1) n else someGo l s d
def kindOf (sd : Nat × Int) (k : Int) : Int :=
  if sd.1 = 0 then 0 else if k = 32768 then 1 else if k < 0 ∨ 32768 < k then 4 else if sd.1 = 1 ∧ sd.2 = 1 then 2 else 3
def kind (l : List Int) : Int := kindOf (someGo l 0 0) (kraft l)

theorem kr_range (n : Int) : 0 ≤ kr n ∧ kr n ≤ 16384 := by
  unfold kr
  split
  · have : 2 ^ (15 - n).toNat ≤ 2 ^ 14 := Nat.pow_le_pow_right (by decide) (by omega)
    generalize 2 ^ (15 - n).toNat = p at *
    simp at this
    omega
  · omega
theorem kraftGo_good : ∀ {l : List Int} {s : Int}, (∀ n ∈ l, 0 ≤ n ∧ n ≤ 15) → kraftGo l s = s + (l.map kr).sum
  | [], s, _ => by simp [kraftGo]
  | n :: l, s, h => by
    have h0 := h n (by simp)
    rw [kraftGo, if_neg (by omega), kraftGo_good (fun x hx => h x (by simp [hx])), List.map_cons, List.sum_cons]
    omega
theorem kraftGo_range : ∀ (l : List Int) (s : Int), 0 ≤ s → kraftGo l s = -1 ∨ (s ≤ kraftGo l s ∧ kraftGo l s ≤ s + 16384 * l.length)
  | [], s, _ => by simp [kraftGo]
  | n :: l, s, hs => by
    rw [kraftGo]
    split
    · exact .inl rfl
    · have := kr_range n
      rcases kraftGo_range l (s + kr n) (by omega) with h | h
      · exact .inl h
      · refine .inr ⟨by omega, ?_⟩
        rw [List.length_cons]
        have : ((l.length + 1 : Nat) : Int) = l.length + 1 := by omega
        omega
theorem kraft_range (l : List Int) : -1 ≤ kraft l ∧ kraft l ≤ 1073741824 := by
  unfold kraft
  split
  · omega
  · rcases kraftGo_range l 0 (Int.le_refl _) with h | h <;> omega
theorem kr_pow {n : Nat} (h : n ≤ 15) (h0 : n ≠ 0) : wrap64 ((2 : Int) ^ (15 - n)) = kr n := by
  have e : kr n = (2 : Int) ^ (15 - n) := by
    unfold kr
    rw [if_pos (by omega), show (15 - (n : Int)).toNat = 15 - n from by omega, Int.natCast_pow]
    rfl
  have := kr_range n
  rw [e] at *
  rw [IntWalk.wrap64_in _ (by omega)]
theorem someGo_le : ∀ (l : List Int) (s : Nat) (d : Int), (someGo l s d).1 ≤ s + l.length
  | [], s, d => by simp [someGo]
  | n :: l, s, d => by
    rw [someGo]
    split
    · have := someGo_le l (s + 1) n; simp; omega
    · have := someGo_le l s d; simp; omega
end Go.Proofs.Yteknaaijlkenkaa
