import Derived.Test.YtcmaaaojegjkjaaInfT
namespace Go.Proofs.Ytcmaaaojegjkjaa
set_option linter.unusedVariables false
set_option linter.unusedSimpArgs false
open Go.RowKit

def vals3 (x y : Int) (b : Bool) : Value := .tuple #[.int .i64 x, .int .i64 y, .bool b]
set_option maxHeartbeats 1600000 in
set_option maxRecDepth 100000 in
theorem base_both (s : Int) (wide : Bool) : ∃ x y b,
    (∀ w, Calls Try.prog 9 #[.int .i64 s, .bool wide] w fun e w' => e = .returned (vals3 x y b) ∧ w' = w) ∧
    (∀ w, Calls Try.prog 10 #[.int .i64 s, .bool wide] w fun e w' => e = .returned (vals3 x y b) ∧ w' = w) := by
  by_cases h1 : 257 ≤ s ∧ s < 285
  · obtain ⟨k, rfl⟩ : ∃ k : Nat, s = ((257 + k : Nat) : Int) := ⟨(s - 257).toNat, by omega⟩
    exact ⟨_, _, _, fun w => inf_base k (by omega) wide w, fun w => ref_base k (by omega) wide w⟩
  · by_cases h2 : s = 285
    · subst h2
      exact ⟨_, _, _, fun w => inf_base285 wide w, fun w => ref_base285 wide w⟩
    · have e0 : decide (s < 257) = !decide (285 < s) := by
        rcases Int.lt_or_le s 257 with h | h
        · have : ¬ 285 < s := by omega
          simp [h, this]
        · have a : ¬ s < 257 := by omega
          have b : 285 < s := by omega
          simp [a, b]
      have e1 : (s == 285) = false := by rw [beq_eq_false_iff_ne]; exact h2
      rcases Bool.eq_false_or_eq_true (decide (285 < s)) with e2 | e2
      · rw [e2] at e0
        refine ⟨0, 0, false, fun w => ?_, fun w => ?_⟩
        · go_enter Try.func9, Try.ntmps9
          go_wp2_with fail
          go_ret3
          exact ⟨rfl, rfl⟩
        · go_enter Try.func10, Try.ntmps10
          go_wp2_with fail
          go_ret3
          exact ⟨rfl, rfl⟩
      · rw [e2] at e0
        refine ⟨0, 0, false, fun w => ?_, fun w => ?_⟩
        · go_enter Try.func9, Try.ntmps9
          go_wp2_with fail
          go_ret3
          exact ⟨rfl, rfl⟩
        · go_enter Try.func10, Try.ntmps10
          go_wp2_with fail
          go_ret3
          exact ⟨rfl, rfl⟩
set_option maxHeartbeats 1600000 in
set_option maxRecDepth 100000 in
theorem far_both (s : Int) (wide : Bool) : ∃ x y b,
    (∀ w, Calls Try.prog 11 #[.int .i64 s, .bool wide] w fun e w' => e = .returned (vals3 x y b) ∧ w' = w) ∧
    (∀ w, Calls Try.prog 12 #[.int .i64 s, .bool wide] w fun e w' => e = .returned (vals3 x y b) ∧ w' = w) := by
  by_cases h1 : 0 ≤ s ∧ s < 32 ∧ (30 ≤ s → wide = true)
  · obtain ⟨k, rfl⟩ : ∃ k : Nat, s = ((k : Nat) : Int) := ⟨s.toNat, by omega⟩
    exact ⟨_, _, _, fun w => inf_far k (by omega) wide (fun h => h1.2.2 (by omega)) w, fun w => ref_far k (by omega) wide (fun h => h1.2.2 (by omega)) w⟩
  · refine ⟨0, 0, false, fun w => ?_, fun w => ?_⟩
    · rcases Bool.eq_false_or_eq_true (decide (s < 0)) with e0 | e0
      · go_enter Try.func11, Try.ntmps11
        go_wp2_with fail
        go_ret3
        exact ⟨rfl, rfl⟩
      · rcases Bool.eq_false_or_eq_true (decide (31 < s)) with e1 | e1
        · go_enter Try.func11, Try.ntmps11
          go_wp2_with fail
          go_ret3
          exact ⟨rfl, rfl⟩
        · have h0 : ¬ s < 0 := by simpa using e0
          have h3 : ¬ 31 < s := by simpa using e1
          have hw : wide = false := by
            cases wide with
            | false => rfl
            | true => exact absurd ⟨by omega, by omega, fun _ => rfl⟩ h1
          subst hw
          have e2 : decide (29 < s) = true := by
            rw [decide_eq_true_eq]
            rcases Int.lt_or_le 29 s with h | h
            · exact h
            · exact absurd ⟨by omega, by omega, fun c => by omega⟩ h1
          go_enter Try.func11, Try.ntmps11
          go_wp2_with fail
          go_ret3
          exact ⟨rfl, rfl⟩
    · rcases Bool.eq_false_or_eq_true (decide (s < 0)) with e0 | e0
      · go_enter Try.func12, Try.ntmps12
        go_wp2_with fail
        go_ret3
        exact ⟨rfl, rfl⟩
      · rcases Bool.eq_false_or_eq_true (decide (31 < s)) with e1 | e1
        · go_enter Try.func12, Try.ntmps12
          go_wp2_with fail
          go_ret3
          exact ⟨rfl, rfl⟩
        · have h0 : ¬ s < 0 := by simpa using e0
          have h3 : ¬ 31 < s := by simpa using e1
          have hw : wide = false := by
            cases wide with
            | false => rfl
            | true => exact absurd ⟨by omega, by omega, fun _ => rfl⟩ h1
          subst hw
          have e2 : decide (29 < s) = true := by
            rw [decide_eq_true_eq]
            rcases Int.lt_or_le 29 s with h | h
            · exact h
            · exact absurd ⟨by omega, by omega, fun c => by omega⟩ h1
          go_enter Try.func12, Try.ntmps12
          go_wp2_with fail
          go_ret3
          exact ⟨rfl, rfl⟩
set_option maxHeartbeats 1600000 in
set_option maxRecDepth 100000 in
theorem inflateSymbols_walk (s : Int) (wide : Bool) (w : World) (_h00 : (Lit.int .i64 s).wf = true) :
    Calls Try.prog 3 #[.int .i64 s, .bool wide] w fun e w' => e = .returned (.bool true) ∧ Below w.heap.size w w' := by
  obtain ⟨x1, x2, x3, hp, hq⟩ := base_both s wide
  obtain ⟨x4, x5, x6, hr, ht⟩ := far_both s wide
  have hp := Lib.hid hp
  have hq := Lib.hid hq
  have hr := Lib.hid hr
  have ht := Lib.hid ht
  have hT := fun W => Lib.hid (told12 W)
  have e1 : (x1 == x1) = true := by simp
  have e2 : (x2 == x2) = true := by simp
  have e3 : (x3 == x3) = true := by simp
  have e4 : (x4 == x4) = true := by simp
  have e5 : (x5 == x5) = true := by simp
  have e6 : (x6 == x6) = true := by simp
  go_enter Try.func3, Try.ntmps3
  go_wp2_with fail
  refine (hp.out _).mono ?_
  rintro e w1 ⟨rfl, hw⟩
  subst hw
  simp only [vals3]
  go_wp2_with fail
  refine (hq.out _).mono ?_
  rintro e w2 ⟨rfl, hw⟩
  subst hw
  simp only [vals3]
  go_wp2_with fail
  refine (hr.out _).mono ?_
  rintro e w3 ⟨rfl, hw⟩
  subst hw
  simp only [vals3]
  go_wp2_with fail
  refine (ht.out _).mono ?_
  rintro e w4 ⟨rfl, hw⟩
  subst hw
  simp only [vals3]
  go_wp2_with fail
  refine (hT _).out.mono ?_
  rintro e w5 ⟨rfl, hb⟩
  go_wp2_with fail
  go_ret
  exact ⟨rfl, hb⟩
end Go.Proofs.Ytcmaaaojegjkjaa
