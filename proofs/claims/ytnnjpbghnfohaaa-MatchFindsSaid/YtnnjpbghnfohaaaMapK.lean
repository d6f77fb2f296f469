import Derived.Test.YtnnjpbghnfohaaaMapT
namespace Go.Proofs.Ytnnjpbghnfohaaa
set_option linter.unusedVariables false
set_option linter.unusedSimpArgs false
open Go.RowKit Go.MapKept

/-! ### the reference's look at each place ahead, plainly -/
def refR (bs : List Int) (M : Nat) (far chain good : Int) (at_ : Nat) : Nat → Nat → Nat × Nat → Nat × Nat
  | 0, _, r => r
  | q + 1, s, r =>
    if (at_ : Int) - q ≤ far ∧ (s : Int) < chain then
      if tri bs q = tri bs at_ then
        let r' := if r.1 < alk bs M q at_ then (alk bs M q at_, at_ - q) else r
        if good ≤ (alk bs M q at_ : Int) then (alk bs M q at_, at_ - q) else refR bs M far chain good at_ q (s + 1) r'
      else refR bs M far chain good at_ q s r
    else r
theorem findR_stop (bs : List Int) (M : Nat) (far chain good : Int) (at_ : Nat) (s : Nat) (r : Nat × Nat) : ∀ qs : List Nat, (∀ q ∈ qs, ¬ ((s : Int) < chain ∧ (at_ : Int) - q ≤ far)) → findR bs M far chain good at_ qs s r = r
  | [], _ => rfl
  | q :: qs, h => by rw [findR, if_neg (h q (by simp))]
theorem refR_is (bs : List Int) (M : Nat) (far chain good : Int) (at_ : Nat) : ∀ (k s b d : Nat), (b : Int) < good → refR bs M far chain good at_ k s (b, d) = findR bs M far chain good at_ (poss bs k (tri bs at_)).reverse s (b, d)
  | 0, s, b, d, _ => rfl
  | q + 1, s, b, d, hb => by
    rw [refR, poss_succ]
    by_cases c : (at_ : Int) - q ≤ far ∧ (s : Int) < chain
    · rw [if_pos c]
      by_cases t : tri bs q = tri bs at_
      · rw [if_pos t, if_pos t, List.reverse_append, List.reverse_singleton, List.singleton_append, findR, if_pos (show (s : Int) < chain ∧ (at_ : Int) - q ≤ far from ⟨c.2, c.1⟩)]
        dsimp only
        by_cases c2 : b < alk bs M q at_
        · by_cases c3 : good ≤ ((alk bs M q at_ : Nat) : Int)
          · simp only [if_pos c2, if_pos c3]
          · simp only [if_pos c2, if_neg c3]
            exact refR_is bs M far chain good at_ q (s + 1) _ _ (by omega)
        · have c3 : ¬ good ≤ ((alk bs M q at_ : Nat) : Int) := by omega
          have c4 : ¬ good ≤ (b : Int) := by omega
          simp only [if_neg c2, if_neg c3, if_neg c4]
          exact refR_is bs M far chain good at_ q (s + 1) _ _ hb
      · rw [if_neg t, if_neg t, List.append_nil]
        exact refR_is bs M far chain good at_ q s b d hb
    · rw [if_neg c]
      refine (findR_stop bs M far chain good at_ s (b, d) _ (fun x hx => ?_)).symm
      have hx' : x ≤ q := by
        rw [List.mem_reverse] at hx
        rcases List.mem_append.1 hx with h | h
        · have := (poss_mem h).1; omega
        · split at h
          · simp at h; omega
          · simp at h
      omega
theorem findQ_ref (bs : List Int) (M : Nat) (far chain good : Int) (hg : 0 < good) (at_ : Nat) (h : at_ + 3 ≤ bs.length) : findQ bs M far chain good at_ = refR bs M far chain good at_ at_ 0 (0, 0) := by
  unfold findQ
  rw [if_pos h, refR_is _ _ _ _ _ _ _ _ _ _ hg]
  rfl
end Go.Proofs.Ytnnjpbghnfohaaa
