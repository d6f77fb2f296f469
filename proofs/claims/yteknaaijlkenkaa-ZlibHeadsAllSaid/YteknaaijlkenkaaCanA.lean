import Derived.Test.YteknaaijlkenkaaCanK
namespace Go.Proofs.Yteknaaijlkenkaa
set_option linter.unusedVariables false
set_option linter.unusedSimpArgs false
open Go.RowKit

theorem adv_mod' {x : Int} (h0 : 0 ≤ x) (h1 : x < 4294967296) : ∀ m, adv x m = (x + m) % 4294967296
  | 0 => by simp [adv]; omega
  | m + 1 => by rw [adv, adv_mod' h0 h1 m]; omega
/-- What the codes shorter than n take, by 2^15. -/
def below15 (l : List Int) : Nat → Nat
  | 0 => 0
  | n + 1 => below15 l n + cnt l n * 2 ^ (15 - n)
theorem below15_mono (l : List Int) {n m : Nat} (h : n ≤ m) : below15 l n ≤ below15 l m := by
  induction m with
  | zero => have : n = 0 := by omega
            subst this; exact Nat.le_refl _
  | succ m ih =>
    by_cases e : n = m + 1
    · subst e; exact Nat.le_refl _
    · exact Nat.le_trans (ih (by omega)) (Nat.le_add_right _ _)
theorem cnt_cons (x : Int) (l : List Int) (n : Nat) : cnt (x :: l) n = cnt l n + if n ≠ 0 ∧ x = n then 1 else 0 := by
  unfold cnt
  by_cases h0 : n = 0
  · simp [h0]
  · rw [if_neg h0, if_neg h0, List.count_cons]
    by_cases hx : x = n
    · simp [hx, h0]
    · simp [hx]
theorem below15_cons {x : Nat} (l : List Int) : ∀ n, below15 ((x : Int) :: l) n = below15 l n + if 1 ≤ x ∧ x < n then 2 ^ (15 - x) else 0
  | 0 => by simp [below15]
  | n + 1 => by
    rw [below15, below15, below15_cons l n, cnt_cons]
    by_cases e : n ≠ 0 ∧ (x : Int) = n
    · have : x = n := by omega
      subst this
      rw [if_pos e, if_neg (by omega), if_pos (by omega), Nat.add_mul]
      omega
    · rw [if_neg e, Nat.add_zero]
      by_cases h : 1 ≤ x ∧ x < n
      · rw [if_pos h, if_pos (by omega)]; omega
      · rw [if_neg h, if_neg (by omega)]; omega
theorem below15_all : ∀ {l : List Int}, okL l → (below15 l 16 : Int) = (l.map kr).sum
  | [], _ => by decide
  | x :: l, h => by
    have hx := h x (by simp)
    have ih := below15_all (l := l) (fun y hy => h y (by simp [hy]))
    obtain ⟨n, rfl⟩ : ∃ n : Nat, x = n := ⟨x.toNat, by omega⟩
    rw [below15_cons, List.map_cons, List.sum_cons, ← ih]
    unfold kr
    by_cases h0 : 1 ≤ n
    · rw [if_pos (by omega), if_pos (by omega), show (15 - (n : Int)).toNat = 15 - n from by omega]
      generalize 2 ^ (15 - n) = p
      omega
    · rw [if_neg (by omega), if_neg (by omega)]
      omega
theorem pow_step {n : Nat} (h : n + 1 ≤ 15) : 2 * 2 ^ (15 - (n + 1)) = 2 ^ (15 - n) := by
  rw [← Nat.pow_succ']; congr 1; omega
/-- No wrap: the first code of a length. -/
theorem nxt_true {l : List Int} (hS : below15 l 16 ≤ 32768) : ∀ n, 1 ≤ n → n ≤ 15 → ∃ m : Nat, nxt l n = m ∧ m * 2 ^ (15 - n) = below15 l n
  | 0, h, _ => by omega
  | 1, _, _ => ⟨0, rfl, by simp [below15, cnt]⟩
  | n + 2, _, h15 => by
    obtain ⟨m, e1, e2⟩ := nxt_true hS (n + 1) (by omega) (by omega)
    have hb : below15 l (n + 2) = below15 l (n + 1) + cnt l (n + 1) * 2 ^ (15 - (n + 1)) := rfl
    have hm := below15_mono l (show n + 2 ≤ 16 by omega)
    have hsum : (m + cnt l (n + 1)) * 2 ^ (15 - (n + 1)) = below15 l (n + 2) := by rw [Nat.add_mul, e2, hb]
    have hp : 1 ≤ 2 ^ (15 - (n + 1)) := Nat.pow_pos (by decide)
    have hle : m + cnt l (n + 1) ≤ 32768 := by
      have := Nat.mul_le_mul_left (m + cnt l (n + 1)) hp
      omega
    refine ⟨(m + cnt l (n + 1)) * 2, ?_, ?_⟩
    · rw [nxt_succ l (by omega), e1]
      omega
    · rw [Nat.mul_assoc, pow_step (by omega)]
      exact hsum
theorem count_take_lt {l : List Int} {i : Nat} {x : Int} (h : l[i]? = some x) : (l.take i).count x + 1 ≤ l.count x := by
  have h1 := take_count h x
  rw [if_pos rfl] at h1
  have := List.Sublist.count_le x (List.take_sublist (i + 1) l)
  omega
/-- The code of a symbol, as a place. -/
theorem code_true {l : List Int} (hS : below15 l 16 ≤ 32768) {i n : Nat} (h : l[i]? = some (n : Int)) (h1 : 1 ≤ n) (h15 : n ≤ 15) :
    ∃ C : Nat, code l i = C ∧ C * 2 ^ (15 - n) = below15 l n + (l.take i).count (n : Int) * 2 ^ (15 - n) ∧ (l.take i).count (n : Int) + 1 ≤ cnt l n ∧ C * 2 ^ (15 - n) + 2 ^ (15 - n) ≤ below15 l (n + 1) := by
  obtain ⟨m, e1, e2⟩ := nxt_true hS n h1 h15
  have hc := count_take_lt h
  have hg : l.getD i 0 = n := by rw [List.getD_eq_getElem?_getD, h]; rfl
  have hcn : cnt l n = l.count (n : Int) := by unfold cnt; rw [if_neg (by omega)]
  have hb : below15 l (n + 1) = below15 l n + cnt l n * 2 ^ (15 - n) := rfl
  have hm := below15_mono l (show n + 1 ≤ 16 by omega)
  generalize hq : (l.take i).count (n : Int) = b at *
  rw [← hcn] at hc
  have hmul : (b + 1) * 2 ^ (15 - n) ≤ cnt l n * 2 ^ (15 - n) := Nat.mul_le_mul_right _ hc
  have hsum : (m + b) * 2 ^ (15 - n) = below15 l n + b * 2 ^ (15 - n) := by rw [Nat.add_mul, e2]
  have hs1 : (b + 1) * 2 ^ (15 - n) = b * 2 ^ (15 - n) + 2 ^ (15 - n) := by rw [Nat.add_mul]; omega
  have hp : 1 ≤ 2 ^ (15 - n) := Nat.pow_pos (by decide)
  have hle : m + b ≤ 32768 := by
    have := Nat.mul_le_mul_left (m + b) hp
    omega
  refine ⟨m + b, ?_, hsum, hc, by omega⟩
  unfold code
  rw [hg, Int.toNat_natCast, if_neg (by omega), hq, e1, adv_mod' (by omega) (by omega)]
  omega
/-- Two codes: the shorter (or the earlier of two alike) ends ahead of the other's beginning. -/
theorem code_order {l : List Int} (hS : below15 l 16 ≤ 32768) {i k n m : Nat} (h : l[i]? = some (n : Int)) (h' : l[k]? = some (m : Int)) (h1 : 1 ≤ n) (h15 : m ≤ 15)
    (hlt : n < m ∨ (n = m ∧ i < k)) {C D : Nat} (hC : code l i = C) (hD : code l k = D) : C * 2 ^ (15 - n) + 2 ^ (15 - n) ≤ D * 2 ^ (15 - m) := by
  have hnm : n ≤ m := by omega
  obtain ⟨C', e1, e2, e3, e4⟩ := code_true hS h h1 (by omega)
  obtain ⟨D', g1, g2, g3, g4⟩ := code_true hS h' (by omega) h15
  have : C' = C := by omega
  subst this
  have : D' = D := by omega
  subst this
  rcases hlt with hlt | ⟨rfl, hlt⟩
  · have := below15_mono l (show n + 1 ≤ m from hlt)
    omega
  · have hc : (l.take i).count (n : Int) + 1 ≤ (l.take k).count (n : Int) := by
      have h2 := take_count h (n : Int)
      rw [if_pos rfl] at h2
      have := List.Sublist.count_le (n : Int) (show (l.take (i + 1)).Sublist (l.take k) from by
        rw [show l.take (i + 1) = (l.take k).take (i + 1) from by rw [List.take_take, Nat.min_eq_left (by omega)]]
        exact List.take_sublist _ _)
      omega
    have := Nat.mul_le_mul_right (2 ^ (15 - n)) hc
    rw [Nat.add_mul, Nat.one_mul] at this
    omega
theorem pow_split {n m : Nat} (h : n ≤ m) (h15 : m ≤ 15) : 2 ^ (m - n) * 2 ^ (15 - m) = 2 ^ (15 - n) := by
  rw [← Nat.pow_add]; congr 1; omega
/-- Seen by the shorter one's bits, the later code is greater. -/
theorem code_prefix {l : List Int} (hS : below15 l 16 ≤ 32768) {i k n m : Nat} (h : l[i]? = some (n : Int)) (h' : l[k]? = some (m : Int)) (h1 : 1 ≤ n) (h15 : m ≤ 15)
    (hlt : n < m ∨ (n = m ∧ i < k)) {C D : Nat} (hC : code l i = C) (hD : code l k = D) : C + 1 ≤ D / 2 ^ (m - n) := by
  have ho := code_order hS h h' h1 h15 hlt hC hD
  have hs := pow_split (n := n) (m := m) (by omega) h15
  have hp : 0 < 2 ^ (15 - m) := Nat.pow_pos (by decide)
  rw [Nat.le_div_iff_mul_le (Nat.pow_pos (by decide))]
  rw [← hs, ← Nat.mul_assoc, show C * 2 ^ (m - n) * 2 ^ (15 - m) + 2 ^ (m - n) * 2 ^ (15 - m) = (C + 1) * 2 ^ (m - n) * 2 ^ (15 - m) from by rw [Nat.add_mul, Nat.add_mul, Nat.one_mul]] at ho
  exact Nat.le_of_mul_le_mul_right ho hp
theorem code_small {l : List Int} (hS : below15 l 16 ≤ 32768) {i n : Nat} (h : l[i]? = some (n : Int)) (h1 : 1 ≤ n) (h15 : n ≤ 15) {C : Nat} (hC : code l i = C) : C < 2 ^ n := by
  obtain ⟨C', e1, e2, e3, e4⟩ := code_true hS h h1 h15
  have : C' = C := by omega
  subst this
  have hm := below15_mono l (show n + 1 ≤ 16 by omega)
  have hs := pow_split (n := 0) (m := n) (by omega) h15
  rw [Nat.sub_zero] at hs
  have hp : 0 < 2 ^ (15 - n) := Nat.pow_pos (by decide)
  have : (C' + 1) * 2 ^ (15 - n) ≤ 2 ^ n * 2 ^ (15 - n) := by
    rw [hs, Nat.add_mul, Nat.one_mul]
    have : 2 ^ (15 - 0) = 32768 := by decide
    omega
  exact Nat.le_of_mul_le_mul_right this hp
/-- The symbol that is there at a place. -/
theorem find_count : ∀ {l : List Int} {x : Int} {b : Nat}, b < l.count x → ∃ i, l[i]? = some x ∧ (l.take i).count x = b
  | [], x, b, h => by simp at h
  | y :: l, x, b, h => by
    rw [List.count_cons] at h
    by_cases hy : y = x
    · subst hy
      by_cases hb : b = 0
      · exact ⟨0, by simp, by simp [hb]⟩
      · obtain ⟨i, h1, h2⟩ := find_count (l := l) (x := y) (b := b - 1) (by simp at h; omega)
        exact ⟨i + 1, by simpa using h1, by simp [h2]; omega⟩
    · obtain ⟨i, h1, h2⟩ := find_count (l := l) (x := x) (b := b) (by simpa [hy] using h)
      exact ⟨i + 1, by simpa using h1, by simp [h2, hy]⟩
/-- Where nothing is left, each row of 15 bits begins with a code. -/
theorem code_cover {l : List Int} (hS : below15 l 16 = 32768) {R : Nat} (hR : R < 32768) : ∃ i n : Nat, l[i]? = some (n : Int) ∧ 1 ≤ n ∧ n ≤ 15 ∧ code l i = ((R / 2 ^ (15 - n) : Nat) : Int) := by
  have hex : ∀ m, R < below15 l m → ∃ n, n < m ∧ below15 l n ≤ R ∧ R < below15 l (n + 1) := fun m => by
    induction m with
    | zero => intro h; simp [below15] at h
    | succ m ih =>
      intro h
      by_cases hm : R < below15 l m
      · obtain ⟨n, h1, h2⟩ := ih hm; exact ⟨n, by omega, h2⟩
      · exact ⟨m, by omega, by omega, h⟩
  obtain ⟨n, hn, hlo, hhi⟩ := hex 16 (by omega)
  have hb : below15 l (n + 1) = below15 l n + cnt l n * 2 ^ (15 - n) := rfl
  have hp : 0 < 2 ^ (15 - n) := Nat.pow_pos (by decide)
  have hn0 : n ≠ 0 := fun e => by
    subst e
    have hb0 : below15 l (0 + 1) = below15 l 0 := by simp [below15, cnt]
    have : below15 l 0 = 0 := rfl
    omega
  have hlt : (R - below15 l n) / 2 ^ (15 - n) < l.count (n : Int) := by
    have hcn : cnt l n = l.count (n : Int) := by unfold cnt; rw [if_neg hn0]
    rw [← hcn, Nat.div_lt_iff_lt_mul hp]
    omega
  obtain ⟨i, h1, h2⟩ := find_count hlt
  obtain ⟨C, e1, e2, _, _⟩ := code_true (by omega) h1 (by omega) (by omega)
  refine ⟨i, n, h1, by omega, by omega, ?_⟩
  rw [e1]
  obtain ⟨m, _, hm⟩ := nxt_true (l := l) (by omega) n (by omega) (by omega)
  rw [h2, ← hm, ← Nat.add_mul] at e2
  have hC : C = m + (R - m * 2 ^ (15 - n)) / 2 ^ (15 - n) := Nat.eq_of_mul_eq_mul_right hp e2
  rw [hC]
  congr 1
  have hR2 : R = m * 2 ^ (15 - n) + (R - m * 2 ^ (15 - n)) := by omega
  conv => rhs; rw [hR2, Nat.add_comm, Nat.add_mul_div_right _ _ hp]
  omega
end Go.Proofs.Yteknaaijlkenkaa
