import Derived.Test.YteknaaijlkenkaaJInp
namespace Go.Proofs.Yteknaaijlkenkaa
set_option linter.unusedVariables false
set_option linter.unusedSimpArgs false

/-! ### each step goes on -/
theorem getG_ok {bs : List Int} {a n v : Nat} (h : getG bs a n = .ok v) : n ≤ lf bs a ∧ v < 2 ^ n := by
  unfold getG at h
  split at h
  · cases h
  · injection h with h; exact ⟨by omega, h ▸ pk_lt bs a n⟩
theorem smallG_ge {bs : List Int} : ∀ (r : List Nat) (l l' : List Int) (a a' : Nat), smallG bs r l a = .ok (l', a') → a ≤ a'
  | [], l, l', a, a', h => by rw [smallG] at h; injection h with h; simp only [Prod.mk.injEq] at h; omega
  | s :: r, l, l', a, a', h => by
    rw [smallG] at h
    split at h
    · cases h
    · have := smallG_ge r _ l' _ a' h; omega
theorem rowOne_ge {bs out : List Int} {s a : Nat} {v : Int} {t a' : Nat} (h : rowOne bs out s a = .ok (v, t, a')) : a ≤ a' := by
  unfold rowOne at h
  split at h
  · injection h with h; simp only [Prod.mk.injEq] at h; omega
  · split at h
    · split at h
      · cases h
      · split at h
        · cases h
        · injection h with h; simp only [Prod.mk.injEq] at h; omega
    · split at h
      · split at h
        · cases h
        · injection h with h; simp only [Prod.mk.injEq] at h; omega
      · split at h
        · cases h
        · injection h with h; simp only [Prod.mk.injEq] at h; omega
theorem rowG_ge {l bs : List Int} {m : Nat} : ∀ (k : Nat) (out row : List Int) (a a' : Nat), rowG l bs m k out a = .ok (row, a') → a ≤ a'
  | 0, out, row, a, a', h => by rw [rowG] at h; injection h with h; simp only [Prod.mk.injEq] at h; omega
  | k + 1, out, row, a, a', h => by
    rw [rowG] at h
    split at h
    · injection h with h; simp only [Prod.mk.injEq] at h; omega
    · split at h
      · cases h
      · split at h
        · cases h
        · rename_i hone
          have h1 := rowOne_ge hone
          split at h
          · cases h
          · have h2 := rowG_ge k _ row _ a' h; omega
theorem headG_ge {wide : Bool} {bs : List Int} {n : Nat} {la ld : List Int} {a : Nat} (h : headG wide bs n = .ok (la, ld, a)) : n ≤ a := by
  unfold headG at h
  split at h
  · cases h
  · split at h
    · cases h
    · split at h
      · cases h
      · split at h
        · cases h
        · split at h
          · cases h
          · rename_i c1 h3
            cases hsg : smallG bs (ordL.take (c1 + 4)) (List.replicate 19 0) (n + 5 + 5 + 4) with
            | bad e => rw [hsg, headK] at h; cases h
            | ok q =>
              obtain ⟨l, a3⟩ := q
              have h1 := smallG_ge _ _ _ _ _ hsg
              rw [hsg, headK] at h
              split at h
              · cases h
              · split at h
                · cases h
                · rename_i row a4 hrow
                  have h2 := rowG_ge _ _ _ _ _ hrow
                  split at h
                  · cases h
                  · injection h with h
                    simp only [Prod.mk.injEq] at h
                    omega
def mu (x : I) : Nat := 2 * lf x.bs x.at_ + if x.st = 1 then 1 else 0
structure Going (x y : I) : Prop where
  dec : mu y < mu x
  st : y.st ≤ 3
  raw : y.raw ≤ 65535
  bs : y.bs = x.bs
  most : y.most = x.most
  size : y.size = x.size
  wide : y.wide = x.wide
theorem block_goes {x y : I} (h : blockG x = .ok y) (hr : x.raw ≤ 65535) (hs : x.st ≠ 1) : Going x y := by
  have hmx : mu x = 2 * lf x.bs x.at_ := by unfold mu; rw [if_neg hs]; rfl
  unfold blockG at h
  split at h
  · cases h
  · rename_i l hl
    have g1 := getG_ok hl
    split at h
    · cases h
    · rename_i k hk
      have g2 := getG_ok hk
      have hlf : 3 ≤ lf x.bs x.at_ := by have := g2.1; unfold lf at *; omega
      split at h
      · split at h
        · cases h
        · rename_i n hn
          have g3 := getG_ok hn
          split at h
          · cases h
          · split at h
            · cases h
            · injection h with h
              subst h
              refine ⟨?_, by simp, by have := g3.2; simp at this ⊢; omega, rfl, rfl, rfl, rfl⟩
              rw [hmx]
              simp only [mu, if_true]
              unfold lf at *
              omega
      · split at h
        · injection h with h
          subst h
          refine ⟨?_, by simp, hr, rfl, rfl, rfl, rfl⟩
          rw [hmx]
          simp only [mu]
          unfold lf at *
          simp
          omega
        · split at h
          · split at h
            · cases h
            · rename_i hh
              have h1 := headG_ge hh
              injection h with h
              subst h
              refine ⟨?_, by simp, hr, rfl, rfl, rfl, rfl⟩
              rw [hmx]
              simp only [mu]
              unfold lf at *
              simp
              omega
          · cases h
theorem next_fields (x : I) : (nextP x).bs = x.bs ∧ (nextP x).at_ = x.at_ ∧ (nextP x).raw = x.raw ∧ (nextP x).most = x.most ∧ (nextP x).size = x.size ∧ (nextP x).wide = x.wide ∧ ((nextP x).st = 0 ∨ (nextP x).st = 3) := by
  refine ⟨rfl, rfl, rfl, rfl, rfl, rfl, ?_⟩
  unfold nextP
  simp only
  split
  · exact .inr rfl
  · exact .inl rfl
theorem raw_goes {x y : I} (h : rawG x = .ok y) (hr : x.raw ≤ 65535) (hs : x.st = 1) : Going x y := by
  have hmx : mu x = 2 * lf x.bs x.at_ + 1 := by unfold mu; rw [if_pos hs]
  unfold rawG at h
  split at h
  · injection h with h
    obtain ⟨e1, e2, e3, e4, e5, e6, e7⟩ := next_fields x
    subst h
    refine ⟨?_, by omega, by rw [e3]; exact hr, e1, e4, e5, e6⟩
    rw [hmx]
    unfold mu
    rw [e1, e2, if_neg (by omega)]
    omega
  · split at h
    · cases h
    · split at h
      · cases h
      · rename_i h1 h2 h3
        injection h with h
        subst h
        refine ⟨?_, by simp only; omega, by simp only; omega, rfl, rfl, rfl, rfl⟩
        rw [hmx]
        simp only [mu, hs, if_true]
        generalize hN : min (min x.raw (lf x.bs x.at_ / 8)) (x.most - x.all.length) = N at *
        have : N ≤ lf x.bs x.at_ / 8 := by omega
        unfold lf at *
        omega
theorem sym_goes {l bs : List Int} {a s m : Nat} (h : symG l bs a = .ok (s, m)) : m ≤ lf bs a ∧ 1 ≤ m := by
  unfold symG at h
  simp only at h
  split at h
  · rename_i h0
    injection h with h
    simp only [Prod.mk.injEq] at h
    generalize hf : findN l (pk bs a 15 % 2 ^ min (lf bs a) 15) (min (lf bs a) 15) = q at *
    unfold findN at hf
    split at hf
    · rename_i j hj
      obtain ⟨h1, h2⟩ := hit_some hj
      subst hf
      simp only at h
      have := h1.1
      omega
    · split at hf
      · subst hf; simp at h0
      · subst hf; simp at h0
  · cases h
theorem token_goes {x y : I} (h : tokenG x = .ok y) (hr : x.raw ≤ 65535) (hs : x.st = 2) : Going x y := by
  have hmx : mu x = 2 * lf x.bs x.at_ := by unfold mu; rw [if_neg (by omega)]; rfl
  unfold tokenG at h
  split at h
  · cases h
  · rename_i s m hsy
    have g1 := sym_goes hsy
    split at h
    · injection h with h
      obtain ⟨e1, e2, e3, e4, e5, e6, e7⟩ := next_fields { x with at_ := x.at_ + m }
      subst h
      refine ⟨?_, by omega, by rw [e3]; exact hr, e1, e4, e5, e6⟩
      rw [hmx]
      unfold mu
      rw [e1, e2, if_neg (by omega)]
      simp only
      unfold lf at *
      omega
    · split at h
      · split at h
        · cases h
        · injection h with h
          subst h
          refine ⟨?_, by simp only; omega, hr, rfl, rfl, rfl, rfl⟩
          rw [hmx]
          simp only [mu, hs]
          unfold lf at *
          simp
          omega
      · split at h
        · cases h
        · split at h
          · cases h
          · split at h
            · cases h
            · split at h
              · cases h
              · split at h
                · cases h
                · split at h
                  · cases h
                  · split at h
                    · cases h
                    · injection h with h
                      subst h
                      refine ⟨?_, by simp only; omega, hr, rfl, rfl, rfl, rfl⟩
                      rw [hmx]
                      simp only [mu, hs]
                      unfold lf at *
                      simp
                      omega
theorem step_goes {x y : I} (h : stepG x = .ok y) (hr : x.raw ≤ 65535) (h3 : x.st ≤ 3) (hs : x.st ≠ 3) : Going x y := by
  unfold stepG at h
  split at h
  · exact block_goes h hr (by omega)
  · split at h
    · rename_i h1; exact raw_goes h hr h1
    · exact token_goes h hr (by omega)
end Go.Proofs.Yteknaaijlkenkaa
