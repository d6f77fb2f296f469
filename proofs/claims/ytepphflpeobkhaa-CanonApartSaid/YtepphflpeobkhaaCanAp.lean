import Derived.Test.YtepphflpeobkhaaCanA
import Derived.Test.YtepphflpeobkhaaRef5S
namespace Go.Proofs.Ytepphflpeobkhaa
open Go.RowKit
attribute [local go_sem] max2i min2i max2t min2t

def hit (l : List Int) (R i : Nat) : Bool := decide (1 ≤ l.getD i 0 ∧ code l i = ((R / 2 ^ (15 - (l.getD i 0).toNat) : Nat) : Int))
def fitsN (l : List Int) (R : Nat) : Nat → Nat
  | 0 => 0
  | k + 1 => fitsN l R k + if hit l R k then 1 else 0
theorem hit_once {l : List Int} (hok : okL l) (hS : below15 l 16 ≤ 32768) {R i k : Nat} (hi : i < l.length) (hk : k < l.length) (hik : i ≠ k) (h1 : hit l R i = true) (h2 : hit l R k = true) : False := by
  simp only [hit, decide_eq_true_eq] at h1 h2
  have key : ∀ i k n m : Nat, l[i]? = some (n : Int) → l[k]? = some (m : Int) → 1 ≤ n → m ≤ 15 → (n < m ∨ (n = m ∧ i < k)) → code l i = ((R / 2 ^ (15 - n) : Nat) : Int) → code l k = ((R / 2 ^ (15 - m) : Nat) : Int) → False := fun i k n m a b c d e f g => by
    have := code_order hS a b c d e f g
    have hp : 0 < 2 ^ (15 - n) := Nat.pow_pos (by decide)
    have q1 := Nat.lt_div_mul_add hp (a := R)
    have q2 := Nat.div_mul_le_self R (2 ^ (15 - m))
    omega
  have g1 : l[i]? = some (l.getD i 0) := by rw [List.getD_eq_getElem?_getD, List.getElem?_eq_getElem hi]; rfl
  have g2 : l[k]? = some (l.getD k 0) := by rw [List.getD_eq_getElem?_getD, List.getElem?_eq_getElem hk]; rfl
  have o1 := hok _ (List.mem_of_getElem? g1)
  have o2 := hok _ (List.mem_of_getElem? g2)
  obtain ⟨n, en⟩ : ∃ n : Nat, l.getD i 0 = n := ⟨(l.getD i 0).toNat, by omega⟩
  obtain ⟨m, em⟩ : ∃ m : Nat, l.getD k 0 = m := ⟨(l.getD k 0).toNat, by omega⟩
  rw [en] at g1 h1 o1
  rw [em] at g2 h2 o2
  rw [Int.toNat_natCast] at h1 h2
  by_cases c1 : n < m ∨ (n = m ∧ i < k)
  · exact key i k n m g1 g2 (by omega) (by omega) c1 h1.2 h2.2
  · exact key k i m n g2 g1 (by omega) (by omega) (by omega) h2.2 h1.2
theorem fits_hit {l : List Int} {R : Nat} : ∀ {k : Nat}, 0 < fitsN l R k → ∃ i, i < k ∧ hit l R i = true
  | 0, h => by simp [fitsN] at h
  | k + 1, h => by
    rw [fitsN] at h
    by_cases hh : hit l R k = true
    · exact ⟨k, by omega, hh⟩
    · rw [if_neg hh] at h
      obtain ⟨i, h1, h2⟩ := fits_hit (k := k) (by omega)
      exact ⟨i, by omega, h2⟩
theorem fits_le {l : List Int} (hok : okL l) (hS : below15 l 16 ≤ 32768) {R : Nat} : ∀ k, k ≤ l.length → fitsN l R k ≤ 1
  | 0, _ => by simp [fitsN]
  | k + 1, hk => by
    have ih := fits_le hok hS (R := R) k (by omega)
    rw [fitsN]
    by_cases hh : hit l R k = true
    · rw [if_pos hh]
      by_cases h0 : 0 < fitsN l R k
      · obtain ⟨i, h1, h2⟩ := fits_hit h0
        exact absurd (hit_once hok hS (by omega) (by omega) (by omega) h2 hh) (fun h => h)
      · omega
    · rw [if_neg hh]; omega
theorem fits_pos {l : List Int} {R i : Nat} (h : hit l R i = true) : ∀ k, i < k → 0 < fitsN l R k
  | 0, hk => by omega
  | k + 1, hk => by
    rw [fitsN]
    by_cases e : i = k
    · subst e; rw [if_pos h]; omega
    · have := fits_pos h k (by omega); omega
theorem fits_whole {l : List Int} (hok : okL l) (hS : below15 l 16 = 32768) {R : Nat} (hR : R < 32768) : fitsN l R l.length = 1 := by
  have h1 := fits_le hok (by omega) (R := R) l.length (Nat.le_refl _)
  obtain ⟨i, n, g, n1, n15, hc⟩ := code_cover hS hR
  have hi := (List.getElem?_eq_some_iff.1 g).1
  have hg : l.getD i 0 = n := by rw [List.getD_eq_getElem?_getD, g]; rfl
  have := fits_pos (l := l) (R := R) (i := i) (by
    simp only [hit, decide_eq_true_eq]
    rw [hg, Int.toNat_natCast]
    exact ⟨by omega, hc⟩) l.length hi
  omega
end Go.Proofs.Ytepphflpeobkhaa
