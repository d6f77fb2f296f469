import Derived.Test.YtfmglcgdcdcpaaaBase
import Derived.Test.YtfmglcgdcdcpaaaBas2
import Derived.Test.YtfmglcgdcdcpaaaRows
namespace Go.Proofs.Ytfmglcgdcdcpaaa
set_option linter.unusedVariables false
set_option linter.unusedSimpArgs false

/-! ### lengths' and distances' symbols -/
def lenBase (k : Nat) : Nat := if k < 8 then k + 3 else 3 + (4 + (k - 4) % 4) * 2 ^ ((k - 4) / 4)
def lenMore (k : Nat) : Nat := if k < 8 then 0 else (k - 4) / 4
def farBase (k : Nat) : Nat := if k < 4 then k + 1 else 1 + (2 + k % 2) * 2 ^ (k / 2 - 1)
def farMore (k : Nat) : Nat := if k < 4 then 0 else k / 2 - 1
theorem len_next : ∀ k, k < 28 → lenBase (k + 1) = lenBase k + 2 ^ lenMore k := by decide
theorem far_next : ∀ k, k < 32 → farBase (k + 1) = farBase k + 2 ^ farMore k := by decide
theorem len_small : ∀ k, k < 28 → 3 ≤ lenBase k ∧ lenBase k ≤ 227 ∧ lenMore k ≤ 5 ∧ 1 ≤ 2 ^ lenMore k ∧ 2 ^ lenMore k ≤ 32 := by decide
theorem far_small : ∀ k, k < 32 → 1 ≤ farBase k ∧ farBase k ≤ 49153 ∧ farMore k ≤ 14 ∧ 1 ≤ 2 ^ farMore k ∧ 2 ^ farMore k ≤ 16384 := by decide
theorem step_mono {b m : Nat → Nat} {K : Nat} (h : ∀ k, k < K → b (k + 1) = b k + 2 ^ m k) : ∀ d j, j + d ≤ K → b j ≤ b (j + d)
  | 0, j, _ => Nat.le_refl _
  | d + 1, j, hd => by
    have h1 := step_mono h d j (by omega)
    have h2 := h (j + d) (by omega)
    rw [show j + (d + 1) = j + d + 1 from rfl, h2]
    exact Nat.le_trans h1 (Nat.le_add_right _ _)
theorem step_lt {b m : Nat → Nat} {K : Nat} (h : ∀ k, k < K → b (k + 1) = b k + 2 ^ m k) {j k n : Nat} (hk : k < K) (hn : b k ≤ n) (hj : j < k) : ¬ n < b j + 2 ^ m j := by
  have h1 := step_mono h (k - (j + 1)) (j + 1) (by omega)
  rw [show j + 1 + (k - (j + 1)) = k from by omega, h j (by omega)] at h1
  exact Nat.not_lt.2 (Nat.le_trans h1 hn)
/-- The first whose range ends behind n. -/
def lenIx (n : Nat) : Nat := ((List.range 28).find? (fun k => decide (n < lenBase k + 2 ^ lenMore k))).getD 0
def farIx (n : Nat) : Nat := ((List.range 32).find? (fun k => decide (n < farBase k + 2 ^ farMore k))).getD 0
theorem ix_of {b m : Nat → Nat} {K : Nat} (h : ∀ k, k < K → b (k + 1) = b k + 2 ^ m k) {k n : Nat} (hk : k < K) (h1 : b k ≤ n) (h2 : n < b k + 2 ^ m k) :
    ((List.range K).find? (fun k => decide (n < b k + 2 ^ m k))).getD 0 = k := by
  have e : (List.range K).find? (fun k => decide (n < b k + 2 ^ m k)) = some k := by
    rw [List.find?_range_eq_some]
    refine ⟨by simpa using h2, by simpa using hk, fun j hj => ?_⟩
    have := step_lt h hk h1 hj
    simpa using this
  rw [e]; rfl
theorem lenIx_of {k n : Nat} (hk : k < 28) (h1 : lenBase k ≤ n) (h2 : n < lenBase k + 2 ^ lenMore k) : lenIx n = k := ix_of len_next hk h1 h2
theorem farIx_of {k n : Nat} (hk : k < 32) (h1 : farBase k ≤ n) (h2 : n < farBase k + 2 ^ farMore k) : farIx n = k := ix_of far_next hk h1 h2
theorem ix_is {b m : Nat → Nat} {K n : Nat} (h : ∀ k, k < K → b (k + 1) = b k + 2 ^ m k) (h0 : b 0 ≤ n) : ∀ j, j ≤ K → n < b j → ∃ k, k < j ∧ b k ≤ n ∧ n < b k + 2 ^ m k
  | 0, _, hn => by omega
  | j + 1, hj, hn => by
    by_cases hc : n < b j
    · obtain ⟨k, h1, h2⟩ := ix_is h h0 j (by omega) hc
      exact ⟨k, by omega, h2⟩
    · exact ⟨j, by omega, by omega, by rw [← h j (by omega)]; exact hn⟩
theorem lenIx_is {n : Nat} (h1 : 3 ≤ n) (h2 : n ≤ 258) : lenIx n < 28 ∧ lenBase (lenIx n) ≤ n ∧ n < lenBase (lenIx n) + 2 ^ lenMore (lenIx n) := by
  obtain ⟨k, hk, a, b⟩ := ix_is len_next (n := n) (by show 3 ≤ n; exact h1) 28 (Nat.le_refl _) (show n < 259 by omega)
  rw [lenIx_of hk a b]
  exact ⟨hk, a, b⟩
theorem farIx_is {n : Nat} (h1 : 1 ≤ n) (h2 : n ≤ 65536) : farIx n < 32 ∧ farBase (farIx n) ≤ n ∧ n < farBase (farIx n) + 2 ^ farMore (farIx n) ∧ (n ≤ 32768 → farIx n < 30) := by
  obtain ⟨k, hk, a, b⟩ := ix_is far_next (n := n) (by show 1 ≤ n; exact h1) 32 (Nat.le_refl _) (show n < 65537 by omega)
  rw [farIx_of hk a b]
  refine ⟨hk, a, b, fun h => ?_⟩
  by_cases hc : k < 30
  · exact hc
  · have h3 := step_mono far_next (k - 30) 30 (by omega)
    rw [show 30 + (k - 30) = k from by omega, show farBase 30 = 32769 from by decide] at h3
    omega
/-- What Symbol and Reach tell. -/
def symS (n : Int) (wide : Bool) : Int := if n < 3 ∨ 65538 < n ∨ (258 < n ∧ wide = false) then -1 else if 258 < n ∨ (n = 258 ∧ wide = false) then 285 else 257 + lenIx n.toNat
def symM (n : Int) (wide : Bool) : Int := if n < 3 ∨ 65538 < n ∨ (258 < n ∧ wide = false) then 0 else if 258 < n then 16 else if n = 258 ∧ wide = false then 0 else lenMore (lenIx n.toNat)
def symV (n : Int) (wide : Bool) : Int := if n < 3 ∨ 65538 < n ∨ (258 < n ∧ wide = false) then 0 else if 258 < n then n - 3 else if n = 258 ∧ wide = false then 0 else n - lenBase (lenIx n.toNat)
def farS (n : Int) (wide : Bool) : Int := if n < 1 ∨ 65536 < n ∨ (32768 < n ∧ wide = false) then -1 else farIx n.toNat
def farM (n : Int) (wide : Bool) : Int := if n < 1 ∨ 65536 < n ∨ (32768 < n ∧ wide = false) then 0 else farMore (farIx n.toNat)
def farV (n : Int) (wide : Bool) : Int := if n < 1 ∨ 65536 < n ∨ (32768 < n ∧ wide = false) then 0 else n - farBase (farIx n.toNat)
end Go.Proofs.Ytfmglcgdcdcpaaa
namespace Go.Proofs.Ytfmglcgdcdcpaaa
open Go.RowKit

end Go.Proofs.Ytfmglcgdcdcpaaa
namespace Go.Proofs.Ytfmglcgdcdcpaaa
open Go.RowKit

theorem symS_no {n : Int} {wide : Bool} (h : n < 3 ∨ 65538 < n ∨ (258 < n ∧ wide = false)) : symS n wide = -1 ∧ symM n wide = 0 ∧ symV n wide = 0 := by
  unfold symS symM symV; rw [if_pos h, if_pos h, if_pos h]; exact ⟨rfl, rfl, rfl⟩
theorem symS_258 {n : Int} {wide : Bool} (h : n = 258) (hw : wide = false) : symS n wide = 285 ∧ symM n wide = 0 ∧ symV n wide = 0 := by
  subst h; subst hw; simp [symS, symM, symV]
theorem symS_far {n : Int} {wide : Bool} (h : 258 < n) (h2 : n ≤ 65538) (hw : wide = true) : symS n wide = 285 ∧ symM n wide = 16 ∧ symV n wide = n - 3 := by
  subst hw
  have a : ¬ n < 3 := by omega
  have b : ¬ 65538 < n := by omega
  simp [symS, symM, symV, a, b, h]
theorem symS_at {n k : Nat} {wide : Bool} (h3 : 3 ≤ n) (h2 : n ≤ 258) (hne : ¬ (n = 258 ∧ wide = false)) (hk : k < 28) (ha : lenBase k ≤ n) (hb : n < lenBase k + 2 ^ lenMore k) :
    symS n wide = ((257 + k : Nat) : Int) ∧ symM n wide = (lenMore k : Nat) ∧ symV n wide = (n : Int) - (lenBase k : Nat) := by
  have hi := lenIx_of hk ha hb
  have hne' : ¬ ((n : Int) = 258 ∧ wide = false) := fun h => hne ⟨by omega, h.2⟩
  have hno : ¬ ((n : Int) < 3 ∨ 65538 < (n : Int) ∨ (258 < (n : Int) ∧ wide = false)) := by omega
  have h258 : ¬ (258 < (n : Int)) := by omega
  have hor : ¬ (258 < (n : Int) ∨ ((n : Int) = 258 ∧ wide = false)) := fun h => h.elim h258 hne'
  refine ⟨?_, ?_, ?_⟩
  · unfold symS; rw [if_neg hno, if_neg hor, Int.toNat_natCast, hi]; omega
  · unfold symM; rw [if_neg hno, if_neg h258, if_neg hne', Int.toNat_natCast, hi]
  · unfold symV; rw [if_neg hno, if_neg h258, if_neg hne', Int.toNat_natCast, hi]
structure SyRel (w : World) (n : Nat) (g : Nat) (v7 : Value) (wr : World) : Prop where mk ::
  out_ : ∃ (k : Nat), k < 28 ∧ 28 ≤ g + k ∧ v7 = .int .i64 ((257 + k : Nat) : Int) ∧ lenBase k ≤ n ∧ wr = w
structure SzRel (w : World) (n : Int) (g : Nat) (v7 : Value) (wr : World) : Prop where mk ::
  out_ : ∃ (k : Nat), k ≤ 28 ∧ 28 ≤ g + k ∧ v7 = .int .i64 ((257 + k : Nat) : Int) ∧ (lenBase k : Int) ≤ n ∧ wr = w
theorem farS_no {n : Int} {wide : Bool} (h : n < 1 ∨ 65536 < n ∨ (32768 < n ∧ wide = false)) : farS n wide = -1 ∧ farM n wide = 0 ∧ farV n wide = 0 := by
  unfold farS farM farV; rw [if_pos h, if_pos h, if_pos h]; exact ⟨rfl, rfl, rfl⟩
theorem farS_at {n k : Nat} {wide : Bool} (hno : ¬ ((n : Int) < 1 ∨ 65536 < (n : Int) ∨ (32768 < (n : Int) ∧ wide = false))) (hk : k < 32) (ha : farBase k ≤ n) (hb : n < farBase k + 2 ^ farMore k) :
    farS n wide = (k : Int) ∧ farM n wide = (farMore k : Nat) ∧ farV n wide = (n : Int) - (farBase k : Nat) := by
  have hi := farIx_of hk ha hb
  unfold farS farM farV
  rw [if_neg hno, if_neg hno, if_neg hno, Int.toNat_natCast, hi]
  exact ⟨rfl, rfl, rfl⟩
structure FyRel (w : World) (n : Nat) (g : Nat) (v7 : Value) (wr : World) : Prop where mk ::
  out_ : ∃ (k : Nat), k < 32 ∧ 32 ≤ g + k ∧ v7 = .int .i64 (k : Int) ∧ farBase k ≤ n ∧ wr = w
end Go.Proofs.Ytfmglcgdcdcpaaa
namespace Go.Proofs.Ytfmglcgdcdcpaaa
open Go.RowKit

/-- Nothing found up to here. -/
structure NoRel (w : World) (g : Nat) (v7 : Value) (wr : World) : Prop where mk ::
  out_ : ∃ (k : Nat), k ≤ 32 ∧ 32 ≤ g + k ∧ v7 = .int .i64 (k : Int) ∧ wr = w
end Go.Proofs.Ytfmglcgdcdcpaaa
