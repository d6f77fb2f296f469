import Derived.Test.YteknaaijlkenkaaInfX
import Derived.Test.YteknaaijlkenkaaRxS
namespace Go.Proofs.Yteknaaijlkenkaa
set_option linter.unusedVariables false
set_option linter.unusedSimpArgs false

/-! ### the machine's runs, for the reference's walk: which errors a head may tell; a stored block in one -/
theorem getG_bad5 {bs : List Int} {a n e : Nat} (h : getG bs a n = .bad e) : e = 5 := by
  unfold getG at h
  split at h
  · injection h with h; exact h.symm
  · cases h
theorem smallG_bad {bs : List Int} : ∀ (l : List Nat) (L : List Int) (a : Nat) {e : Nat}, smallG bs l L a = .bad e → e = 5
  | [], L, a, e, h => by rw [smallG] at h; cases h
  | s :: r, L, a, e, h => by
    rw [smallG] at h
    split at h
    · rename_i h1; injection h with h; rw [← h]; exact getG_bad5 h1
    · exact smallG_bad r _ _ h
theorem rowOne_bad {bs out : List Int} {s a e : Nat} (h : rowOne bs out s a = .bad e) : e = 2 ∨ e = 5 := by
  unfold rowOne at h
  split at h
  · cases h
  · split at h
    · split at h
      · injection h with h; exact .inl h.symm
      · split at h
        · rename_i h1; injection h with h; rw [← h]; exact .inr (getG_bad5 h1)
        · cases h
    · split at h
      · split at h
        · rename_i h1; injection h with h; rw [← h]; exact .inr (getG_bad5 h1)
        · cases h
      · split at h
        · rename_i h1; injection h with h; rw [← h]; exact .inr (getG_bad5 h1)
        · cases h
theorem rowG_bad {l bs : List Int} {n : Nat} : ∀ (k : Nat) (out : List Int) (a : Nat) {e : Nat}, rowG l bs n k out a = .bad e → e = 2 ∨ e = 5
  | 0, out, a, e, h => by rw [rowG] at h; cases h
  | k + 1, out, a, e, h => by
    rw [rowG] at h
    split at h
    · cases h
    · split at h
      · rename_i h1; injection h with h; rw [← h]; exact (symG_bad h1).2
      · split at h
        · rename_i h1; injection h with h; rw [← h]; exact rowOne_bad h1
        · split at h
          · injection h with h; exact .inl h.symm
          · exact rowG_bad k _ _ h
theorem headK_bad {bs : List Int} {m k e : Nat} {g : G (List Int × Nat)} (hg : ∀ e, g = .bad e → e = 2 ∨ e = 5) (h : headK bs m k g = .bad e) : e = 2 ∨ e = 5 := by
  unfold headK at h
  split at h
  · injection h with h; rw [← h]; exact hg _ rfl
  · split at h
    · injection h with h; exact .inl h.symm
    · split at h
      · rename_i h1; injection h with h; rw [← h]; exact rowG_bad _ _ _ h1
      · split at h
        · injection h with h; exact .inl h.symm
        · cases h
theorem headG_bad {wide : Bool} {bs : List Int} {a e : Nat} (h : headG wide bs a = .bad e) : e = 2 ∨ e = 5 := by
  unfold headG at h
  split at h
  · rename_i h1; injection h with h; rw [← h]; exact .inr (getG_bad5 h1)
  · split at h
    · injection h with h; exact .inl h.symm
    · split at h
      · rename_i h1; injection h with h; rw [← h]; exact .inr (getG_bad5 h1)
      · split at h
        · injection h with h; exact .inl h.symm
        · split at h
          · rename_i h1; injection h with h; rw [← h]; exact .inr (getG_bad5 h1)
          · exact headK_bad (fun e he => .inr (smallG_bad _ _ _ he)) h
/-- From one state on to another one. -/
structure Via (x y : I) : Prop where
  le : mu y ≤ mu x
  st : y.st ≤ 3
  raw : y.raw ≤ 65535
  bs : y.bs = x.bs
  most : y.most = x.most
  size : y.size = x.size
  wide : y.wide = x.wide
  ends : ∀ r, Ends y r → Ends x r
theorem Via.refl {x : I} (hs : x.st ≤ 3) (hr : x.raw ≤ 65535) : Via x x := ⟨Nat.le_refl _, hs, hr, rfl, rfl, rfl, rfl, fun _ h => h⟩
theorem Via.trans {x y z : I} (h : Via x y) (k : Via y z) : Via x z :=
  ⟨Nat.le_trans k.le h.le, k.st, k.raw, k.bs.trans h.bs, k.most.trans h.most, k.size.trans h.size, k.wide.trans h.wide, fun r hr => h.ends r (k.ends r hr)⟩
theorem Via.step {x y : I} (h : stepG x = .ok y) (hs : x.st ≤ 3) (hr : x.raw ≤ 65535) (h3 : x.st ≠ 3) : Via x y ∧ mu y < mu x := by
  have g := step_goes h hr hs h3
  exact ⟨⟨Nat.le_of_lt g.dec, g.st, g.raw, g.bs, g.most, g.size, g.wide, fun r hr => .step h3 h hr⟩, g.dec⟩
theorem raw_one {x : I} (h1 : x.st = 1) (h0 : x.raw ≠ 0) (hL : lf x.bs x.at_ / 8 ≠ 0) (hM : x.most - x.all.length ≠ 0) (n : Nat) (hn : n = min (min x.raw (lf x.bs x.at_ / 8)) (x.most - x.all.length)) :
    stepG x = .ok { x with at_ := x.at_ + 8 * n, raw := x.raw - n, out := x.out ++ (x.bs.drop (x.at_ / 8)).take n, all := x.all ++ (x.bs.drop (x.at_ / 8)).take n } := by
  unfold stepG
  rw [if_neg (by omega), if_pos h1]
  unfold rawG
  rw [if_neg h0, if_neg (by omega), if_neg (by omega), hn]
theorem raw_done {x : I} (h1 : x.st = 1) (h0 : x.raw = 0) : stepG x = .ok (nextP x) := by
  unfold stepG
  rw [if_neg (by omega), if_pos h1]
  unfold rawG
  rw [if_pos h0]
theorem raw_fine {x : I} (h1 : x.st = 1) (hr : x.raw ≤ 65535) (hL : x.raw ≤ lf x.bs x.at_ / 8) (hM : x.raw ≤ x.most - x.all.length) :
    ∃ y, Via x y ∧ y.st = (if x.last then 3 else 0) ∧ y.at_ = x.at_ + 8 * x.raw ∧ y.all = x.all ++ (x.bs.drop (x.at_ / 8)).take x.raw ∧ y.last = x.last := by
  by_cases h0 : x.raw = 0
  · obtain ⟨v, _⟩ := Via.step (raw_done h1 h0) (by omega) hr (by omega)
    refine ⟨_, v, rfl, by simp [nextP, h0], by simp [nextP, h0], rfl⟩
  · obtain ⟨v1, _⟩ := Via.step (raw_one h1 h0 (by omega) (by omega) x.raw (by omega)) (by omega) hr (by omega)
    obtain ⟨v2, _⟩ := Via.step (raw_done (x := { x with at_ := x.at_ + 8 * x.raw, raw := x.raw - x.raw, out := x.out ++ (x.bs.drop (x.at_ / 8)).take x.raw, all := x.all ++ (x.bs.drop (x.at_ / 8)).take x.raw }) h1 (Nat.sub_self _)) (by simp only; omega) (by simp only; omega) (by simp only; omega)
    exact ⟨_, v1.trans v2, rfl, rfl, rfl, rfl⟩
theorem raw_less {x : I} (h1 : x.st = 1) (hr : x.raw ≤ 65535) (ha : x.at_ % 8 = 0) (hal : x.at_ ≤ 8 * x.bs.length) (h : ¬ (x.raw ≤ lf x.bs x.at_ / 8 ∧ x.raw ≤ x.most - x.all.length)) :
    ∃ y, Ends x (y, if lf x.bs x.at_ / 8 ≤ x.most - x.all.length then 5 else 3) := by
  have h0 : x.raw ≠ 0 := by omega
  have hs3 : x.st ≠ 3 := by omega
  by_cases hL : lf x.bs x.at_ / 8 = 0
  · refine ⟨x, .bad hs3 ?_⟩
    unfold stepG
    rw [if_neg (by omega), if_pos h1]
    unfold rawG
    rw [if_neg h0, if_pos (by omega), if_pos (by omega)]
  by_cases hM : x.most - x.all.length = 0
  · refine ⟨x, .bad hs3 ?_⟩
    unfold stepG
    rw [if_neg (by omega), if_pos h1]
    unfold rawG
    rw [if_neg h0, if_neg (by omega), if_pos (by omega), if_neg (by omega)]
  obtain ⟨n, hn⟩ : ∃ n, n = min (min x.raw (lf x.bs x.at_ / 8)) (x.most - x.all.length) := ⟨_, rfl⟩
  have s1 := raw_one h1 h0 hL hM n hn
  have hlen : ((x.bs.drop (x.at_ / 8)).take n).length = n := by rw [List.length_take, List.length_drop]; unfold lf at *; omega
  obtain ⟨y, hy⟩ : ∃ y : I, y = { x with at_ := x.at_ + 8 * n, raw := x.raw - n, out := x.out ++ (x.bs.drop (x.at_ / 8)).take n, all := x.all ++ (x.bs.drop (x.at_ / 8)).take n } := ⟨_, rfl⟩
  rw [← hy] at s1
  have y1 : y.st = 1 := by rw [hy]; exact h1
  have yr : y.raw = x.raw - n := by rw [hy]
  have yl : lf y.bs y.at_ / 8 = lf x.bs x.at_ / 8 - n := by rw [hy]; unfold lf at *; simp only; omega
  have ym : y.most - y.all.length = x.most - x.all.length - n := by rw [hy]; simp only [List.length_append, hlen]; omega
  refine ⟨y, .step hs3 s1 (.bad (by omega) ?_)⟩
  unfold stepG
  rw [if_neg (by omega), if_pos y1]
  unfold rawG
  rw [if_neg (by omega)]
  by_cases hLM : lf x.bs x.at_ / 8 ≤ x.most - x.all.length
  · rw [if_pos hLM, if_pos (by omega)]
  · rw [if_neg hLM, if_neg (by omega), if_pos (by omega)]
theorem getG_at {bs : List Int} {a n : Nat} (h : n ≤ lf bs a) : getG bs a n = .ok (pk bs a n) := by unfold getG; rw [if_neg (by omega)]
theorem getG_no {bs : List Int} {a n : Nat} (h : lf bs a < n) : getG bs a n = .bad 5 := by unfold getG; rw [if_pos h]
theorem stored_bad {x : I} (hst : x.st = 0) (hal : x.at_ ≤ 8 * x.bs.length) (h3 : 3 ≤ lf x.bs x.at_) (hk : pk x.bs (x.at_ + 1) 2 = 0) {e : Nat} (hs : storedG x.bs (x.at_ + 3) x.all x.most = .bad e) : ∃ y, Ends x (y, e) := by
  have g1 := getG_at (bs := x.bs) (a := x.at_) (n := 1) (by omega)
  have g2 := getG_at (bs := x.bs) (a := x.at_ + 1) (n := 2) (by unfold lf at *; omega)
  rw [hk] at g2
  have hst3 : x.st ≠ 3 := by omega
  have hB : stepG x = blockG x := by unfold stepG; rw [if_pos hst]
  obtain ⟨s, hsd⟩ : ∃ s, (x.at_ + 3 + 7) / 8 * 8 = s := ⟨_, rfl⟩
  unfold storedG at hs
  rw [hsd] at hs
  by_cases h32 : lf x.bs s < 32
  · rw [if_pos h32] at hs
    injection hs with hs
    subst hs
    refine ⟨x, .bad hst3 ?_⟩
    rw [hB, blockG, g1, g2]
    simp only [if_true]
    rw [hsd]
    by_cases h16 : lf x.bs s < 16
    · rw [getG_no h16]
    · rw [getG_at (by omega), getG_no (by unfold lf at *; omega)]
  rw [if_neg h32] at hs
  have e1 : blockG x = if pk x.bs (s + 16) 16 ≠ 65535 - pk x.bs s 16 then .bad 2 else .ok { x with st := 1, raw := pk x.bs s 16, at_ := s + 16 + 16, last := decide (pk x.bs x.at_ 1 = 1) } := by
    rw [blockG, g1, g2]
    simp only [if_true]
    rw [hsd, getG_at (by omega), getG_at (by unfold lf at *; omega)]
  have p1 : pk x.bs s 16 < 65536 := pk_lt _ _ 16
  have p2 : pk x.bs (s + 16) 16 < 65536 := pk_lt _ _ 16
  by_cases hn : pk x.bs s 16 ≠ 65535 - pk x.bs (s + 16) 16
  · rw [if_pos hn] at hs
    injection hs with hs
    subst hs
    exact ⟨x, .bad hst3 (by rw [hB, e1, if_pos (by omega)])⟩
  rw [if_neg hn] at hs
  rw [if_neg (by omega)] at e1
  split at hs
  · cases hs
  · rename_i hc
    injection hs with hs
    subst hs
    obtain ⟨y, hy⟩ := raw_less (x := { x with st := 1, raw := pk x.bs s 16, at_ := s + 16 + 16, last := decide (pk x.bs x.at_ 1 = 1) }) rfl (by simp only; omega) (by simp only; omega) (by unfold lf at h32; simp only; omega) hc
    exact ⟨y, .step hst3 (by rw [hB, e1]) hy⟩
theorem stored_ok {x : I} (hst : x.st = 0) (hal : x.at_ ≤ 8 * x.bs.length) (hr : x.raw ≤ 65535) (h3 : 3 ≤ lf x.bs x.at_) (hk : pk x.bs (x.at_ + 1) 2 = 0) {a' : Nat} {all' : List Int} (hs : storedG x.bs (x.at_ + 3) x.all x.most = .ok (a', all')) :
    ∃ y, Via x y ∧ mu y < mu x ∧ y.st = (if pk x.bs x.at_ 1 = 1 then 3 else 0) ∧ y.at_ = a' ∧ y.all = all' := by
  have g1 := getG_at (bs := x.bs) (a := x.at_) (n := 1) (by omega)
  have g2 := getG_at (bs := x.bs) (a := x.at_ + 1) (n := 2) (by unfold lf at *; omega)
  rw [hk] at g2
  have hst3 : x.st ≠ 3 := by omega
  have hB : stepG x = blockG x := by unfold stepG; rw [if_pos hst]
  obtain ⟨s, hsd⟩ : ∃ s, (x.at_ + 3 + 7) / 8 * 8 = s := ⟨_, rfl⟩
  have hsd8 : (x.at_ + 3 + 7) / 8 + 4 = (s + 16 + 16) / 8 := by omega
  unfold storedG at hs
  rw [hsd8, hsd] at hs
  by_cases h32 : lf x.bs s < 32
  · rw [if_pos h32] at hs; cases hs
  rw [if_neg h32] at hs
  have e1 : blockG x = if pk x.bs (s + 16) 16 ≠ 65535 - pk x.bs s 16 then .bad 2 else .ok { x with st := 1, raw := pk x.bs s 16, at_ := s + 16 + 16, last := decide (pk x.bs x.at_ 1 = 1) } := by
    rw [blockG, g1, g2]
    simp only [if_true]
    rw [hsd, getG_at (by omega), getG_at (by unfold lf at *; omega)]
  have p1 : pk x.bs s 16 < 65536 := pk_lt _ _ 16
  have p2 : pk x.bs (s + 16) 16 < 65536 := pk_lt _ _ 16
  by_cases hn : pk x.bs s 16 ≠ 65535 - pk x.bs (s + 16) 16
  · rw [if_pos hn] at hs; cases hs
  rw [if_neg hn] at hs
  rw [if_neg (by omega)] at e1
  split at hs
  · rename_i hc
    injection hs with hs
    simp only [Prod.mk.injEq] at hs
    obtain ⟨v1, d1⟩ := Via.step (by rw [hB, e1]) (by omega) hr hst3
    obtain ⟨y, v2, s2, a2, l2, _⟩ := raw_fine (x := { x with st := 1, raw := pk x.bs s 16, at_ := s + 16 + 16, last := decide (pk x.bs x.at_ 1 = 1) }) rfl (by simp only; omega) (by simp only; exact hc.1) (by simp only; exact hc.2)
    refine ⟨y, v1.trans v2, Nat.lt_of_le_of_lt v2.le d1, ?_, ?_, ?_⟩
    · rw [s2]; simp
    · rw [a2, ← hs.1]
    · rw [l2, ← hs.2]
  · cases hs
end Go.Proofs.Yteknaaijlkenkaa
