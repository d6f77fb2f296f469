import Derived.Test.YteknaaijlkenkaaJInr
namespace Go.Proofs.Yteknaaijlkenkaa
set_option linter.unusedVariables false
set_option linter.unusedSimpArgs false

/-! ### what comes out stands behind what there was, and never more than may; more may never hurts -/
structure PreOf (pre : List Int) (x : I) : Prop where
  all : x.all = pre ++ x.out
  cap : x.all.length ≤ x.most
theorem PreOf.next {pre : List Int} {x : I} (h : PreOf pre x) : PreOf pre (nextP x) := ⟨h.all, h.cap⟩
theorem block_pre {pre : List Int} {x y : I} (h : blockG x = .ok y) (hp : PreOf pre x) : PreOf pre y := by
  unfold blockG at h
  split at h
  · cases h
  · split at h
    · cases h
    · split at h
      · split at h
        · cases h
        · split at h
          · cases h
          · split at h
            · cases h
            · injection h with h; subst h; exact ⟨hp.all, hp.cap⟩
      · split at h
        · injection h with h; subst h; exact ⟨hp.all, hp.cap⟩
        · split at h
          · split at h
            · cases h
            · injection h with h; subst h; exact ⟨hp.all, hp.cap⟩
          · cases h
theorem raw_pre {pre : List Int} {x y : I} (h : rawG x = .ok y) (hp : PreOf pre x) : PreOf pre y := by
  unfold rawG at h
  split at h
  · injection h with h; subst h; exact hp.next
  · split at h
    · cases h
    · split at h
      · cases h
      · injection h with h
        subst h
        refine ⟨?_, ?_⟩
        · simp only
          rw [hp.all, List.append_assoc]
        · have := hp.cap
          simp only [List.length_append, List.length_take]
          omega
theorem token_pre {pre : List Int} {x y : I} (h : tokenG x = .ok y) (hp : PreOf pre x) : PreOf pre y := by
  have hc := hp.cap
  unfold tokenG at h
  split at h
  · cases h
  · split at h
    · injection h with h; subst h; exact ⟨hp.all, hp.cap⟩
    · split at h
      · split at h
        · cases h
        · injection h with h
          subst h
          refine ⟨?_, ?_⟩
          · simp only
            rw [hp.all, List.append_assoc]
          · simp only [List.length_append, List.length_singleton]
            omega
      · split at h
        · cases h
        · split at h
          · cases h
          · split at h
            · cases h
            · split at h
              · cases h
              · split at h
                · cases h
                · split at h
                  · cases h
                  · split at h
                    · cases h
                    · injection h with h
                      subst h
                      refine ⟨?_, ?_⟩
                      · simp only
                        rw [← List.append_assoc, ← hp.all]
                        exact ext_split _ _ _
                      · simp only [ext_length]
                        omega
theorem step_pre {pre : List Int} {x y : I} (h : stepG x = .ok y) (hp : PreOf pre x) : PreOf pre y := by
  unfold stepG at h
  split at h
  · exact block_pre h hp
  · split at h
    · exact raw_pre h hp
    · exact token_pre h hp
theorem run_pre {pre : List Int} : ∀ (k : Nat) (x : I), PreOf pre x → PreOf pre (runP k x).1
  | 0, x, hp => hp
  | k + 1, x, hp => by
    rw [runP]
    split
    · exact hp
    · split
      · exact hp
      · rename_i y hy
        exact run_pre k y (step_pre hy hp)
def I.up (x : I) (q : Nat) : I := { x with most := q }
theorem block_up {x y : I} {q : Nat} (h : blockG x = .ok y) : blockG (x.up q) = .ok (y.up q) := by
  unfold blockG at h
  unfold blockG
  simp +instances only [I.up] at h ⊢
  split at h
  · cases h
  · rename_i l hl
    try rw [hl]
    try simp only
    split at h
    · cases h
    · rename_i k hk
      try rw [hk]
      try simp only
      split at h
      · rename_i h1
        rw [if_pos h1]
        split at h
        · cases h
        · rename_i n hn
          try rw [hn]
          try simp only
          split at h
          · cases h
          · rename_i m hm
            try rw [hm]
            try simp only
            split at h
            · cases h
            · rename_i h2
              rw [if_neg h2]
              injection h with h; subst h; rfl
      · rename_i h1
        rw [if_neg h1]
        split at h
        · rename_i h2
          rw [if_pos h2]
          injection h with h; subst h; rfl
        · rename_i h2
          rw [if_neg h2]
          split at h
          · rename_i h3
            rw [if_pos h3]
            split at h
            · cases h
            · rename_i hh
              try rw [hh]
              try simp only
              injection h with h; subst h; rfl
          · cases h
theorem raw_up {x y : I} {q : Nat} (h : rawG x = .ok y) (hq : x.most ≤ q) (hs : x.st = 1) : rawG (x.up q) = .ok (y.up q) ∨ (y.st = 1 ∧ rawG y = .bad 3) := by
  unfold rawG at h
  split at h
  · rename_i h0
    injection h with h
    subst h
    left
    unfold rawG
    rw [if_pos (show (x.up q).raw = 0 from h0)]
    rfl
  · split at h
    · cases h
    · split at h
      · cases h
      · rename_i h1 h2 h3
        injection h with h
        by_cases hf : min x.raw (lf x.bs x.at_ / 8) ≤ x.most - x.all.length
        · left
          have e1 : min (min x.raw (lf x.bs x.at_ / 8)) (q - x.all.length) = min (min x.raw (lf x.bs x.at_ / 8)) (x.most - x.all.length) := by omega
          unfold rawG I.up
          simp only
          rw [if_neg h1, if_neg h2, e1, if_neg h3]
          subst h
          rfl
        · right
          subst h
          refine ⟨hs, ?_⟩
          have hl : ((x.bs.drop (x.at_ / 8)).take (min (min x.raw (lf x.bs x.at_ / 8)) (x.most - x.all.length))).length = min (min x.raw (lf x.bs x.at_ / 8)) (x.most - x.all.length) := by
            rw [List.length_take, List.length_drop]
            unfold lf at *
            omega
          generalize hN : min (min x.raw (lf x.bs x.at_ / 8)) (x.most - x.all.length) = N at *
          have hlf : lf x.bs (x.at_ + 8 * N) = lf x.bs x.at_ - 8 * N := by unfold lf; omega
          unfold rawG
          simp only [List.length_append, hl, hlf]
          rw [if_neg (by omega), if_neg (by omega), if_pos (by omega)]
theorem token_up {x y : I} {q : Nat} (h : tokenG x = .ok y) (hq : x.most ≤ q) (hc : x.all.length ≤ x.most) : tokenG (x.up q) = .ok (y.up q) := by
  unfold tokenG at h
  unfold tokenG
  simp only [I.up] at h ⊢
  split at h
  · cases h
  · rename_i s m hs
    try rw [hs]
    try simp only
    split at h
    · rename_i h1
      rw [if_pos h1]
      injection h with h; subst h; rfl
    · rename_i h1
      rw [if_neg h1]
      split at h
      · rename_i h2
        rw [if_pos h2]
        split at h
        · cases h
        · rename_i h3
          refine (if_neg (show ¬ x.all.length = q by omega)).trans ?_
          injection h with h; subst h; rfl
      · rename_i h2
        rw [if_neg h2]
        split at h
        · cases h
        · rename_i b k hb
          try rw [hb]
          try simp only
          split at h
          · cases h
          · rename_i v hv
            try rw [hv]
            try simp only
            split at h
            · cases h
            · rename_i t r ht
              try rw [ht]
              try simp only
              split at h
              · cases h
              · rename_i f j hf
                try rw [hf]
                try simp only
                split at h
                · cases h
                · rename_i u hu
                  try rw [hu]
                  try simp only
                  by_cases h4 : x.win < f + u
                  · exact absurd ((if_pos h4).symm.trans h) (by intro c; cases c)
                  · have h := (if_neg h4).symm.trans h
                    refine (if_neg h4).trans ?_
                    by_cases h5 : x.most - x.all.length < b + v
                    · exact absurd ((if_pos h5).symm.trans h) (by intro c; cases c)
                    · have h := (if_neg h5).symm.trans h
                      refine (if_neg (show ¬ q - x.all.length < b + v by omega)).trans ?_
                      injection h with h; subst h; rfl
theorem step_up {x y : I} {q : Nat} (h : stepG x = .ok y) (hq : x.most ≤ q) (hc : x.all.length ≤ x.most) : stepG (x.up q) = .ok (y.up q) ∨ (y.st = 1 ∧ stepG y = .bad 3) := by
  unfold stepG at h
  split at h
  · rename_i h0
    left
    unfold stepG
    rw [if_pos (show (x.up q).st = 0 from h0), block_up h]
  · rename_i h0
    split at h
    · rename_i h1
      rcases raw_up h hq h1 with e | ⟨e1, e2⟩
      · left
        unfold stepG
        rw [if_neg (show ¬ (x.up q).st = 0 from h0), if_pos (show (x.up q).st = 1 from h1), e]
      · right
        refine ⟨e1, ?_⟩
        unfold stepG
        rw [if_neg (by omega), if_pos e1, e2]
    · rename_i h1
      left
      unfold stepG
      rw [if_neg (show ¬ (x.up q).st = 0 from h0), if_neg (show ¬ (x.up q).st = 1 from h1), token_up h hq hc]
theorem step_most {x y : I} (h : stepG x = .ok y) (hr : x.raw ≤ 65535) (h3 : x.st ≤ 3) (hs : x.st ≠ 3) : y.most = x.most := (step_goes h hr h3 hs).most
theorem run_up {pre : List Int} : ∀ (k : Nat) (x y : I) (q : Nat), runP k x = (y, 0) → x.most ≤ q → PreOf pre x → x.raw ≤ 65535 → x.st ≤ 3 → runP k (x.up q) = (y.up q, 0)
  | 0, x, y, q, h, _, _, _, _ => by rw [runP] at h; simp at h
  | k + 1, x, y, q, h, hq, hc, hr, h3 => by
    rw [runP] at h ⊢
    by_cases hs : x.st = 3
    · rw [if_pos hs] at h
      rw [if_pos (show (x.up q).st = 3 from hs)]
      injection h with h
      rw [h]
    · rw [if_neg hs] at h
      rw [if_neg (show ¬ (x.up q).st = 3 from hs)]
      cases hst : stepG x with
      | bad e =>
        exfalso
        rw [hst] at h
        simp only at h
        injection h with _ h
        subst h
        exact stepG_bad hst rfl
      | ok z =>
        rw [hst] at h
        simp only at h
        have hg := step_goes hst hr h3 hs
        rcases step_up hst hq hc.cap with e | ⟨e1, e2⟩
        · rw [e]
          simp only
          exact run_up k z y q h (by rw [hg.most]; exact hq) (step_pre hst hc) hg.raw hg.st
        · exfalso
          cases k with
          | zero => rw [runP] at h; simp at h
          | succ k =>
            rw [runP, if_neg (by omega), e2] at h
            simp at h
theorem run_most : ∀ (k : Nat) (x : I), x.raw ≤ 65535 → x.st ≤ 3 → (runP k x).1.most = x.most
  | 0, _, _, _ => rfl
  | k + 1, x, hr, h3 => by
    rw [runP]
    split
    · rfl
    · rename_i hs
      split
      · rfl
      · rename_i y hy
        have hg := step_goes hy hr h3 hs
        rw [run_most k y hg.raw hg.st, hg.most]
theorem allQ_up {bs : List Int} {wide : Bool} {size p q : Nat} {y : I} (h : runP (16 * bs.length + 2) (startI bs wide size p) = (y, 0)) (hpq : p ≤ q) : runP (16 * bs.length + 2) (startI bs wide size q) = (y.up q, 0) :=
  run_up (pre := []) _ (startI bs wide size p) y q h hpq ⟨rfl, Nat.zero_le _⟩ (Nat.zero_le _) (Nat.zero_le _)
end Go.Proofs.Yteknaaijlkenkaa
