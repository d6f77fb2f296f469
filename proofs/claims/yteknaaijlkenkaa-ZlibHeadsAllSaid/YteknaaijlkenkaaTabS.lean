import Derived.Test.YteknaaijlkenkaaTabR
namespace Go.Proofs.Yteknaaijlkenkaa
set_option linter.unusedVariables false
set_option linter.unusedSimpArgs false

theorem turnN_bits {v n : Nat} (hv : v < 2 ^ n) : bitT (turnN v n : Int) n = (bitT (v : Int) n).reverse := by
  refine numT_inj (a := []) (b := []) (bin_bitT _ _) (bin_rev (bin_bitT _ _)) (by rw [List.length_reverse, bitT_length, bitT_length]) ?_
  rw [numT_bitT _ (by omega), ← turnN_num]
  have := turnN_lt v n
  have e : ((turnN v n % 2 ^ n : Nat) : Int) = turnN v n := by rw [Nat.mod_eq_of_lt this]
  rw [← e, Int.natCast_emod, Int.natCast_pow]
  simp
theorem turnN_twice {v n : Nat} (hv : v < 2 ^ n) : turnN (turnN v n) n = v := by
  have h := turnN_num (turnN v n) n
  rw [turnN_bits hv, List.reverse_reverse, numT_bitT _ (by omega)] at h
  have e : ((v % 2 ^ n : Nat) : Int) = (v : Int) % 2 ^ n := by rw [Int.natCast_emod, Int.natCast_pow]; rfl
  rw [← e, Nat.mod_eq_of_lt hv] at h
  omega
def codeN (l : List Int) (j : Nat) : Nat := (code l j).toNat
section
variable {l : List Int}
theorem Good.cod (h : Good l) {j : Nat} (h1 : 1 ≤ ln l j) : code l j = codeN l j ∧ codeN l j < 2 ^ ln l j := by
  obtain ⟨C, c1, _⟩ := code_true h.sum (h.get h1) h1 (h.at_ j).1
  have := code_small h.sum (h.get h1) h1 (h.at_ j).1 c1
  unfold codeN
  rw [c1]
  exact ⟨by simp, by simpa using this⟩
theorem Good.tc_turn (h : Good l) {j : Nat} (h1 : 1 ≤ ln l j) : tc l j = turnN (codeN l j) (ln l j) := by
  have e1 := tc_num l j
  rw [cw_eq (h.get h1) h1 (h.at_ j).1, (h.cod h1).1, ← turnN_num] at e1
  omega
/-- The first n bits of a code, as a number. -/
theorem Good.tc_mod (h : Good l) {j n : Nat} (h1 : n < ln l j) : tc l j % 2 ^ n = turnN (codeN l j / 2 ^ (ln l j - n)) n := by
  have h1' : 1 ≤ ln l j := by omega
  have e1 := numT_take (cw l j) n (cw_bin l j)
  rw [← tc_num, cw_eq (h.get h1') h1' (h.at_ j).1, List.take_reverse, bitT_length, bitT_drop _ _ _ (by omega), (h.cod h1').1, show ln l j - (ln l j - n) = n from by omega] at e1
  have e2 : ((codeN l j : Int) / 2 ^ (ln l j - n)) = ((codeN l j / 2 ^ (ln l j - n) : Nat) : Int) := by rw [Int.natCast_ediv, Int.natCast_pow]; rfl
  rw [e2, ← turnN_num] at e1
  have e3 : ((tc l j % 2 ^ n : Nat) : Int) = (tc l j : Int) % 2 ^ n := by rw [Int.natCast_emod, Int.natCast_pow]; rfl
  rw [← e3] at e1
  omega
theorem Good.div_lt (h : Good l) {j n : Nat} (h1 : n < ln l j) : codeN l j / 2 ^ (ln l j - n) < 2 ^ n := by
  rw [Nat.div_lt_iff_lt_mul (Nat.pow_pos (by decide)), ← Nat.pow_add, show n + (ln l j - n) = ln l j from by omega]
  exact (h.cod (by omega)).2
theorem Good.tc_beg (h : Good l) {j n v : Nat} (h1 : n < ln l j) (hv : v < 2 ^ n) : tc l j % 2 ^ n = v ↔ codeN l j / 2 ^ (ln l j - n) = turnN v n := by
  rw [h.tc_mod h1]
  constructor
  · intro e; rw [← e, turnN_twice (h.div_lt h1)]
  · intro e; rw [e, turnN_twice hv]
/-- The codes of a length follow each other. -/
theorem Good.run (h : Good l) {k : Nat} (h1 : 1 ≤ k) (h15 : k ≤ 15) : ∃ m : Nat, nxt l k = m ∧ m + cnt l k ≤ 32768 ∧ (∀ j, ln l j = k → codeN l j < m + cnt l k ∧ m ≤ codeN l j) ∧ ∀ b, b < cnt l k → ∃ j, ln l j = k ∧ codeN l j = m + b := by
  obtain ⟨m, e1, e2⟩ := nxt_true h.sum k h1 h15
  have hb : below15 l (k + 1) = below15 l k + cnt l k * 2 ^ (15 - k) := rfl
  have hm := below15_mono l (show k + 1 ≤ 16 by omega)
  have hp : 0 < 2 ^ (15 - k) := Nat.pow_pos (by decide)
  have hcn : cnt l k = l.count (k : Int) := by unfold cnt; rw [if_neg (by omega)]
  have hj : ∀ j, ln l j = k → codeN l j = m + (l.take j).count (k : Int) ∧ (l.take j).count (k : Int) + 1 ≤ cnt l k := fun j hj => by
    have hg := h.get (i := j) (by omega)
    rw [hj] at hg
    obtain ⟨C, c1, c2, c3, _⟩ := code_true h.sum hg h1 h15
    rw [← e2, ← Nat.add_mul] at c2
    have := Nat.eq_of_mul_eq_mul_right hp c2
    unfold codeN
    rw [c1, Int.toNat_natCast]
    exact ⟨this, c3⟩
  refine ⟨m, e1, ?_, fun j hj' => ?_, fun b hb' => ?_⟩
  · have hs := h.sum
    have h3 : (m + cnt l k) * 1 ≤ (m + cnt l k) * 2 ^ (15 - k) := Nat.mul_le_mul_left _ hp
    have h4 : (m + cnt l k) * 2 ^ (15 - k) = below15 l (k + 1) := by rw [Nat.add_mul, e2, hb]
    omega
  · obtain ⟨a, b⟩ := hj j hj'; omega
  · rw [hcn] at hb'
    obtain ⟨j, j1, j2⟩ := find_count hb'
    have hlj : ln l j = k := by unfold ln; rw [List.getD_eq_getElem?_getD, j1]; simp
    exact ⟨j, hlj, by rw [(hj j hlj).1, j2]⟩
/-- Is there a code of length k that goes on from c? -/
theorem Good.ex (h : Good l) {k n c : Nat} (h1 : n < k) (h15 : k ≤ 15) {m : Nat} (hm : nxt l k = m) :
    (0 < cnt l k ∧ m < (c + 1) * 2 ^ (k - n) ∧ c * 2 ^ (k - n) < m + cnt l k) ↔ ∃ j, ln l j = k ∧ codeN l j / 2 ^ (k - n) = c := by
  obtain ⟨m', e1, _, r1, r2⟩ := h.run (k := k) (by omega) h15
  have : m' = m := by omega
  subst this
  have hp : 0 < 2 ^ (k - n) := Nat.pow_pos (by decide)
  constructor
  · rintro ⟨a, b, d⟩
    have hx : ∃ x, x < cnt l k ∧ c * 2 ^ (k - n) ≤ m' + x ∧ m' + x < (c + 1) * 2 ^ (k - n) := by
      by_cases q : c * 2 ^ (k - n) ≤ m'
      · exact ⟨0, a, by omega, by omega⟩
      · refine ⟨c * 2 ^ (k - n) - m', by omega, by omega, ?_⟩
        rw [Nat.add_mul]; omega
    obtain ⟨x, x1, x2, x3⟩ := hx
    obtain ⟨j, j1, j2⟩ := r2 x x1
    refine ⟨j, j1, ?_⟩
    rw [j2]
    exact Nat.div_eq_of_lt_le x2 x3
  · rintro ⟨j, j1, j2⟩
    obtain ⟨a, b⟩ := r1 j j1
    have d1 : c * 2 ^ (k - n) ≤ codeN l j := by rw [← j2]; exact Nat.div_mul_le_self _ _
    have d2 : codeN l j < (c + 1) * 2 ^ (k - n) := by
      rw [← j2, Nat.mul_comm]; exact Nat.lt_mul_div_succ _ hp
    exact ⟨by omega, by omega, by omega⟩
end
/-- What is found by n bits v. -/
def hitN (l : List Int) (v n : Nat) : Option Nat := (List.range l.length).find? (fun j => decide (mt l j v ∧ ln l j ≤ n))
def begN (l : List Int) (v n : Nat) : Bool := (List.range l.length).any (fun j => decide (n < ln l j ∧ tc l j % 2 ^ n = v))
def findN (l : List Int) (v n : Nat) : Nat × Nat × Nat := match hitN l v n with
  | some j => (j, ln l j, 0)
  | none => if begN l v n then (0, 0, 5) else (0, 0, 2)
section
variable {l : List Int}
theorem Good.hit (h : Good l) {v n j : Nat} (hm : mt l j v) (hn : ln l j ≤ n) : hitN l v n = some j := by
  unfold hitN
  cases hf : (List.range l.length).find? (fun j => decide (mt l j v ∧ ln l j ≤ n)) with
  | none =>
    have := List.find?_eq_none.1 hf j (by rw [List.mem_range]; exact h.lt hm.1)
    simp [hm, hn] at this
  | some i =>
    have := List.find?_some hf
    simp only [decide_eq_true_eq] at this
    rw [h.one this.1 hm]
theorem hit_none {v n : Nat} (h : hitN l v n = none) (hg : Good l) {j : Nat} (hm : mt l j v) : n < ln l j := by
  rcases Nat.lt_or_ge n (ln l j) with c | c
  · exact c
  · rw [hg.hit hm c] at h; cases h
theorem hit_some {v n j : Nat} (h : hitN l v n = some j) : mt l j v ∧ ln l j ≤ n := by
  have := List.find?_some h
  simpa using this
theorem begN_iff (hg : Good l) {v n : Nat} : begN l v n = true ↔ ∃ j, n < ln l j ∧ tc l j % 2 ^ n = v := by
  unfold begN
  rw [List.any_eq_true]
  constructor
  · rintro ⟨j, _, h⟩; exact ⟨j, by simpa using h⟩
  · rintro ⟨j, h1, h2⟩; exact ⟨j, by rw [List.mem_range]; exact hg.lt (by omega), by simp [h1, h2]⟩
end
end Go.Proofs.Yteknaaijlkenkaa
