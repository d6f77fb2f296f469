import Derived.Test.YteknaaijlkenkaaInfSt
namespace Go.Proofs.Yteknaaijlkenkaa
set_option linter.unusedVariables false
set_option linter.unusedSimpArgs false

/-! ### one stored block that is the last (for ZlibBack) -/
theorem one_block {x : I} {b r : List Int} (hs : x.st = 0) (hq : x.at_ = 0) (hb : x.bs = headB b true ++ (b ++ r)) (hn : b.length ≤ 65535) :
    stepG x = .ok { x with st := 1, raw := b.length, at_ := 8 * 5, last := true } := by
  unfold stepG
  rw [if_pos hs]
  exact block_stored (q := 0) (r := b ++ r) (by rw [hq]) (by rw [List.drop_zero]; exact hb) hn (Nat.zero_le _)
theorem run_one {x : I} {k : Nat} {b r : List Int} (hs : x.st = 0) (hq : x.at_ = 0) (hb : x.bs = headB b true ++ (b ++ r)) (hn : b.length ≤ 65535) (h0 : b ≠ []) (hm : x.all.length + b.length ≤ x.most) :
    runP (k + 4) x = ({ x with at_ := 8 * (5 + b.length), st := 3, raw := 0, last := true, out := x.out ++ b, all := x.all ++ b }, 0) := by
  have hl : x.bs.length = 5 + (b.length + r.length) := by rw [hb, List.length_append, List.length_append]; rfl
  have s1 := one_block hs hq hb hn
  have hb5 : x.bs.drop 5 = b ++ r := by rw [hb]; rfl
  have s2 : stepG { x with st := 1, raw := b.length, at_ := 8 * 5, last := true } = .ok { x with st := 1, raw := 0, at_ := 8 * (5 + b.length), last := true, out := x.out ++ b, all := x.all ++ b } := by
    unfold stepG
    rw [if_neg (by simp), if_pos rfl]
    exact raw_all (x := { x with st := 1, raw := b.length, at_ := 8 * 5, last := true }) (q := 5) (b := b) (r := r) rfl hb5 rfl h0 hm (by simp only; omega)
  have s3 : stepG { x with st := 1, raw := 0, at_ := 8 * (5 + b.length), last := true, out := x.out ++ b, all := x.all ++ b } = .ok { x with at_ := 8 * (5 + b.length), st := 3, raw := 0, last := true, out := x.out ++ b, all := x.all ++ b } := by
    unfold stepG
    rw [if_neg (by simp), if_pos rfl]
    rfl
  rw [show k + 4 = k + 3 + 1 from rfl, runP_ok (by omega) s1, show k + 3 = k + 2 + 1 from rfl, runP_ok (by simp) s2, show k + 2 = k + 1 + 1 from rfl, runP_ok (by simp) s3, runP, if_pos rfl]
/-- One stored block, the last: all of it comes. -/
theorem allQ_one (b r : List Int) (wide : Bool) (size m : Nat) (hn : b.length ≤ 65535) (hm : b.length ≤ m) : allQ (headB b true ++ (b ++ r)) wide size m = (b, 5 + b.length, 0) := by
  have hlen : (headB b true ++ (b ++ r)).length = 5 + (b.length + r.length) := by rw [List.length_append, List.length_append]; rfl
  by_cases h0 : b = []
  · subst h0
    obtain ⟨k, hk⟩ : ∃ k, 16 * (headB [] true ++ ([] ++ r)).length + 2 = k + 3 := ⟨16 * (headB [] true ++ ([] ++ r)).length + 2 - 3, by omega⟩
    have h := run_last (x := startI (headB [] true ++ ([] ++ r)) wide size m) (q := 0) (k := k) (r := r) rfl rfl rfl (Nat.zero_le _)
    unfold allQ
    rw [hk, h]
    simp [startI]
  · obtain ⟨k, hk⟩ : ∃ k, 16 * (headB b true ++ (b ++ r)).length + 2 = k + 4 := ⟨16 * (headB b true ++ (b ++ r)).length + 2 - 4, by omega⟩
    have h := run_one (x := startI (headB b true ++ (b ++ r)) wide size m) (k := k) (r := r) rfl rfl rfl hn h0 (by simpa [startI] using hm)
    unfold allQ
    rw [hk, h]
    simp [startI]
    omega
/-- With room for one byte less: too much. -/
theorem allQ_onemore (b r : List Int) (wide : Bool) (size m : Nat) (hn : b.length ≤ 65535) (h0 : b ≠ []) (hm : m + 1 = b.length) : allQ (headB b true ++ (b ++ r)) wide size m = ([], 0, 3) := by
  have hlen : (headB b true ++ (b ++ r)).length = 5 + (b.length + r.length) := by rw [List.length_append, List.length_append]; rfl
  obtain ⟨k, hk⟩ : ∃ k, 16 * (headB b true ++ (b ++ r)).length + 2 = k + 3 := ⟨16 * (headB b true ++ (b ++ r)).length + 2 - 3, by omega⟩
  have s1 := one_block (x := startI (headB b true ++ (b ++ r)) wide size m) (b := b) (r := r) rfl rfl rfl hn
  have h3 := raw_short (x := { startI (headB b true ++ (b ++ r)) wide size m with st := 1, raw := b.length, at_ := 8 * 5, last := true }) (q := 5) (k := k) (b := b) (r := r) rfl rfl rfl rfl h0 (by simp only [startI, List.length_nil]; omega) (by simp only [startI]; omega)
  have h : (runP (k + 3) (startI (headB b true ++ (b ++ r)) wide size m)).2 = 3 := by
    rw [show k + 3 = k + 2 + 1 from rfl, runP_ok (by simp [startI]) s1]; exact h3
  unfold allQ
  rw [hk]
  dsimp only
  rw [h]
  simp
end Go.Proofs.Yteknaaijlkenkaa
