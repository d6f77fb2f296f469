import Derived.Test.YtnnjpbghnfohaaaMapU
namespace Go.Proofs.Ytnnjpbghnfohaaa
set_option linter.unusedVariables false
set_option linter.unusedSimpArgs false
open Go.RowKit Go.MapKept

theorem alkN_mono (bs : List Int) {M M' : Nat} (h : M ≤ M') (p q : Nat) : ∀ k n, alkN bs M p q k n ≤ alkN bs M' p q k n
  | 0, n => Nat.le_refl _
  | k + 1, n => by
    by_cases c : n < M ∧ q + n < bs.length ∧ bs.getD (p + n) 0 = bs.getD (q + n) 0
    · rw [alkN, alkN, if_pos c, if_pos ⟨by omega, c.2⟩]
      exact alkN_mono bs h p q k (n + 1)
    · rw [alkN, if_neg c]
      exact alkN_le _ _ _ _ _ _
theorem alk_mono (bs : List Int) {M M' : Nat} (h : M ≤ M') (p q : Nat) : alk bs M p q ≤ alk bs M' p q := alkN_mono bs h p q _ _
theorem findR_grow (bs : List Int) (M : Nat) (far chain good : Int) (at_ : Nat) : ∀ (qs : List Nat) (s : Nat) (r : Nat × Nat), r.1 ≤ (findR bs M far chain good at_ qs s r).1
  | [], s, r => Nat.le_refl _
  | q :: qs, s, (b, d) => by
    by_cases c : (s : Int) < chain ∧ (at_ : Int) - q ≤ far
    · rw [findR_more _ _ _ _ _ _ _ _ _ _ _ _ c.1 c.2 rfl]
      have h1 := findR_grow bs M far chain good at_ qs (s + 1) (alk bs M q at_, at_ - q)
      have h2 := findR_grow bs M far chain good at_ qs (s + 1) (b, d)
      simp only at h1 h2 ⊢
      by_cases c2 : b < alk bs M q at_
      · rw [if_pos c2]
        split
        · exact Nat.le_of_lt c2
        · omega
      · rw [if_neg c2]
        split
        · exact Nat.le_refl _
        · exact h2
    · rw [findR, if_neg c]; exact Nat.le_refl _
theorem findR_more2 (bs : List Int) {M M' : Nat} {far far' chain chain' good : Int} (hM : M ≤ M') (hf : far ≤ far') (hc : chain ≤ chain') (hg : (M' : Int) < good) (at_ : Nat) : ∀ (qs : List Nat) (s b d b' d' : Nat), b ≤ b' → b' ≤ M' →
    (findR bs M far chain good at_ qs s (b, d)).1 ≤ (findR bs M' far' chain' good at_ qs s (b', d')).1
  | [], s, b, d, b', d', h, _ => h
  | q :: qs, s, b, d, b', d', h, h' => by
    by_cases c : (s : Int) < chain ∧ (at_ : Int) - q ≤ far
    · have h1 := alk_le bs M q at_
      have h2 := alk_le bs M' q at_
      have h3 := alk_mono bs hM q at_
      rw [findR_more _ _ _ _ _ _ _ _ _ _ _ _ c.1 c.2 rfl, findR_more _ _ _ _ _ _ _ _ _ _ _ _ (by omega) (by omega) rfl]
      rw [if_neg (show ¬ good ≤ ((alk bs M q at_ : Nat) : Int) from by omega), if_neg (show ¬ good ≤ ((alk bs M' q at_ : Nat) : Int) from by omega), if_neg (show ¬ good ≤ (b : Int) from by omega), if_neg (show ¬ good ≤ (b' : Int) from by omega)]
      by_cases c1 : b < alk bs M q at_
      · rw [if_pos c1]
        by_cases c2 : b' < alk bs M' q at_
        · rw [if_pos c2]; exact findR_more2 bs hM hf hc hg at_ qs _ _ _ _ _ h3 h2
        · rw [if_neg c2]; exact findR_more2 bs hM hf hc hg at_ qs _ _ _ _ _ (by omega) h'
      · rw [if_neg c1]
        by_cases c2 : b' < alk bs M' q at_
        · rw [if_pos c2]; exact findR_more2 bs hM hf hc hg at_ qs _ _ _ _ _ (by omega) h2
        · rw [if_neg c2]; exact findR_more2 bs hM hf hc hg at_ qs _ _ _ _ _ h h'
    · have := findR_grow bs M' far' chain' good at_ (q :: qs) s (b', d')
      rw [findR, if_neg c]
      simp only at this ⊢
      omega
theorem findR_from (bs : List Int) (M : Nat) (far chain good : Int) (at_ : Nat) : ∀ (qs : List Nat) (s b d : Nat), findR bs M far chain good at_ qs s (b, d) = (b, d) ∨ ∃ q ∈ qs, findR bs M far chain good at_ qs s (b, d) = (alk bs M q at_, at_ - q)
  | [], s, b, d => .inl rfl
  | q :: qs, s, b, d => by
    by_cases c : (s : Int) < chain ∧ (at_ : Int) - q ≤ far
    · rw [findR_more _ _ _ _ _ _ _ _ _ _ _ _ c.1 c.2 rfl]
      split
      · split
        · exact .inr ⟨q, by simp, rfl⟩
        · rcases findR_from bs M far chain good at_ qs (s + 1) (alk bs M q at_) (at_ - q) with e | ⟨x, hx, e⟩
          · exact .inr ⟨q, by simp, e⟩
          · exact .inr ⟨x, List.mem_cons_of_mem _ hx, e⟩
      · split
        · exact .inl rfl
        · rcases findR_from bs M far chain good at_ qs (s + 1) b d with e | ⟨x, hx, e⟩
          · exact .inl e
          · exact .inr ⟨x, List.mem_cons_of_mem _ hx, e⟩
    · rw [findR, if_neg c]; exact .inl rfl
theorem alk_three {bs : List Int} {M p q : Nat} (hM : 3 ≤ M) (hq : q + 3 ≤ bs.length) (ht : tri bs p = tri bs q) : 3 ≤ alk bs M p q := by
  rcases Nat.lt_or_ge (alk bs M p q) 3 with h | h
  · exfalso
    have hs := alkN_stop bs M p q (bs.length - q) 0 (by omega)
    simp only [tri, Prod.mk.injEq] at ht
    obtain ⟨t0, t1, t2⟩ := ht
    refine hs ⟨by show alk bs M p q < M; omega, by show q + alk bs M p q < _; omega, ?_⟩
    show bs.getD (p + alk bs M p q) 0 = bs.getD (q + alk bs M p q) 0
    generalize alk bs M p q = n at h
    rcases (by omega : n = 0 ∨ n = 1 ∨ n = 2) with rfl | rfl | rfl
    · exact t0
    · exact t1
    · exact t2
  · exact h
/-- What is found: nothing, or a match. -/
theorem findQ_is (bs : List Int) (M : Nat) (far chain good : Int) (at_ : Nat) (hM : 3 ≤ M) : findQ bs M far chain good at_ = (0, 0) ∨ ∃ q, q < at_ ∧ at_ + 3 ≤ bs.length ∧ (findQ bs M far chain good at_).1 = alk bs M q at_ ∧ (findQ bs M far chain good at_).2 = at_ - q ∧ 3 ≤ (findQ bs M far chain good at_).1 := by
  unfold findQ
  split
  · rename_i h
    unfold findP
    rcases findR_from bs M far chain good at_ (poss bs at_ (tri bs at_)).reverse 0 0 0 with e | ⟨q, hq, e⟩
    · exact .inl e
    · rw [List.mem_reverse] at hq
      obtain ⟨h1, h2⟩ := poss_mem hq
      rw [e]
      exact .inr ⟨q, h1, h, rfl, rfl, alk_three hM h h2⟩
  · exact .inl rfl
theorem findQ_same {bs : List Int} {M : Nat} {far chain good : Int} {at_ i a d : Nat} (hM : 3 ≤ M) (h : findQ bs M far chain good at_ = (a, d)) (hi : i < a) : d ≤ at_ ∧ at_ + i < bs.length ∧ bs.getD (at_ + i) 0 = bs.getD (at_ + i - d) 0 := by
  rcases findQ_is bs M far chain good at_ hM with e | ⟨q, h1, h2, h3, h4, _⟩
  · rw [e] at h
    injection h with h _
    omega
  · rw [h] at h3 h4
    simp only at h3 h4
    obtain ⟨x1, x2, x3⟩ := alkN_same bs M q at_ (bs.length - at_) 0 i (Nat.zero_le _) (by rw [h3] at hi; exact hi)
    refine ⟨by omega, x3, ?_⟩
    rw [show at_ + i - d = q + i from by omega]
    exact x1.symm
theorem findQ_mono (bs : List Int) {M M' : Nat} {far far' chain chain' good : Int} (hM : M ≤ M') (hf : far ≤ far') (hc : chain ≤ chain') (hg : (M' : Int) < good) (at_ : Nat) : (findQ bs M far chain good at_).1 ≤ (findQ bs M' far' chain' good at_).1 := by
  unfold findQ
  split
  · exact findR_more2 bs hM hf hc hg at_ _ _ _ _ _ _ (Nat.le_refl _) (Nat.zero_le _)
  · exact Nat.le_refl _
theorem findQ_no (bs : List Int) (M : Nat) (far good : Int) (at_ : Nat) : (findQ bs M far 0 good at_).1 = 0 := by
  unfold findQ
  split
  · unfold findP
    cases (poss bs at_ (tri bs at_)).reverse with
    | nil => rfl
    | cons q qs => rw [findR, if_neg (fun c => by omega)]
  · rfl
end Go.Proofs.Ytnnjpbghnfohaaa
