import Derived.Test.YtnnjpbghnfohaaaMapV
namespace Go.Proofs.Ytnnjpbghnfohaaa
set_option linter.unusedVariables false
set_option linter.unusedSimpArgs false
open Go.RowKit Go.MapKept

/-! ### the longest match there is -/
theorem findR_keep (bs : List Int) (M : Nat) (far chain good : Int) (at_ : Nat) : ∀ (qs : List Nat) (s b d : Nat), (findR bs M far chain good at_ qs s (b, d)).1 = b → (findR bs M far chain good at_ qs s (b, d)).2 = d
  | [], s, b, d, _ => rfl
  | q :: qs, s, b, d, h => by
    by_cases c : (s : Int) < chain ∧ (at_ : Int) - q ≤ far
    · rw [findR_more _ _ _ _ _ _ _ _ _ _ _ _ c.1 c.2 rfl] at h ⊢
      by_cases c2 : b < alk bs M q at_
      · exfalso
        have h1 := findR_grow bs M far chain good at_ qs (s + 1) (alk bs M q at_, at_ - q)
        simp only at h1
        rw [if_pos c2] at h
        split at h
        · simp only at h; omega
        · omega
      · rw [if_neg c2] at h ⊢
        split
        · rfl
        · rename_i c3
          rw [if_neg c3] at h
          exact findR_keep bs M far chain good at_ qs (s + 1) b d h
    · rw [findR, if_neg c]
theorem findR_max (bs : List Int) {M : Nat} {far chain good : Int} (hg : (M : Int) < good) (at_ : Nat) : ∀ (qs : List Nat) (s b d : Nat), b ≤ M → ((s + qs.length : Nat) : Int) ≤ chain → (∀ q ∈ qs, (at_ : Int) - q ≤ far) → (∀ q ∈ qs, d ≤ at_ - q) → qs.Pairwise (fun x y => y < x) →
    ∀ q ∈ qs, alk bs M q at_ ≤ (findR bs M far chain good at_ qs s (b, d)).1 ∧ (alk bs M q at_ = (findR bs M far chain good at_ qs s (b, d)).1 → (findR bs M far chain good at_ qs s (b, d)).2 ≤ at_ - q)
  | [], s, b, d, _, _, _, _, _, q, hq => by simp at hq
  | p :: qs, s, b, d, hb, hc, hf, hd, hp, q, hq => by
    rw [List.length_cons] at hc
    obtain ⟨hp1, hp2⟩ := List.pairwise_cons.1 hp
    have hm := alk_le bs M p at_
    rw [findR_more _ _ _ _ _ _ _ _ _ _ _ _ (by omega) (hf p (by simp)) rfl, if_neg (show ¬ good ≤ ((alk bs M p at_ : Nat) : Int) from by omega), if_neg (show ¬ good ≤ (b : Int) from by omega)]
    by_cases c : b < alk bs M p at_
    · rw [if_pos c]
      have h1 := findR_grow bs M far chain good at_ qs (s + 1) (alk bs M p at_, at_ - p)
      have h2 := findR_keep bs M far chain good at_ qs (s + 1) (alk bs M p at_) (at_ - p)
      simp only at h1
      rcases List.mem_cons.1 hq with e | e
      · subst e
        exact ⟨h1, fun e => by rw [h2 e.symm]; exact Nat.le_refl _⟩
      · exact findR_max bs hg at_ qs (s + 1) _ _ hm (by omega) (fun x hx => hf x (List.mem_cons_of_mem _ hx)) (fun x hx => by have := hp1 x hx; omega) hp2 q e
    · rw [if_neg c]
      have h1 := findR_grow bs M far chain good at_ qs (s + 1) (b, d)
      have h2 := findR_keep bs M far chain good at_ qs (s + 1) b d
      simp only at h1
      rcases List.mem_cons.1 hq with e | e
      · subst e
        refine ⟨by omega, fun e => ?_⟩
        rw [h2 (by omega)]
        exact hd q (by simp)
      · exact findR_max bs hg at_ qs (s + 1) _ _ hb (by omega) (fun x hx => hf x (List.mem_cons_of_mem _ hx)) (fun x hx => hd x (List.mem_cons_of_mem _ hx)) hp2 q e
theorem poss_rev (bs : List Int) (i : Nat) (t : Int × Int × Int) : (poss bs i t).reverse.Pairwise (fun x y => y < x) := by
  rw [List.pairwise_reverse]
  unfold poss
  exact List.Pairwise.filter _ List.pairwise_lt_range
/-- Nothing longer is anywhere, and nothing as long is nearer. -/
theorem findQ_longest {bs : List Int} {M : Nat} {far chain good : Int} {at_ q : Nat} (hM : 3 ≤ M) (hg : (M : Int) < good) (hc : (at_ : Int) ≤ chain) (hf : (at_ : Int) ≤ far) (hq : q < at_) (h3 : 3 ≤ alk bs M q at_) :
    alk bs M q at_ ≤ (findQ bs M far chain good at_).1 ∧ (alk bs M q at_ = (findQ bs M far chain good at_).1 → (findQ bs M far chain good at_).2 ≤ at_ - q) := by
  have s := fun j (hj : j < 3) => alkN_same bs M q at_ (bs.length - at_) 0 j (Nat.zero_le _) (by show j < alk bs M q at_; omega)
  have hl := (s 2 (by omega)).2.2
  have ht : tri bs q = tri bs at_ := by
    simp only [tri, Prod.mk.injEq]
    exact ⟨(s 0 (by omega)).1, (s 1 (by omega)).1, (s 2 (by omega)).1⟩
  unfold findQ
  rw [if_pos (by omega)]
  unfold findP
  have hle := poss_le bs at_ (tri bs at_)
  refine findR_max bs hg at_ _ 0 0 0 (Nat.zero_le _) (by rw [List.length_reverse]; omega) (fun x hx => by omega) (fun x hx => Nat.zero_le _) (poss_rev _ _ _) q ?_
  rw [List.mem_reverse]
  unfold poss
  rw [List.mem_filter, List.mem_range]
  exact ⟨hq, decide_eq_true ht⟩
end Go.Proofs.Ytnnjpbghnfohaaa
