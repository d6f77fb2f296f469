import Derived.Test.YtoofkcbgldbfpaaRRRBlkS
namespace Go.Proofs.YtoofkcbgldbfpaaRRR
set_option linter.unusedVariables false
set_option linter.unusedSimpArgs false
open Go.RowKit

set_option maxHeartbeats 1600000 in
set_option maxRecDepth 100000 in
theorem ref_far_no (k : Nat) (hk : k < 32) (hk2 : 30 ≤ k) (w : World) :
    Calls Try.prog 16 #[.int .i64 (k : Int), .bool false] w fun e w' => e = .returned (.tuple #[.int .i64 0, .int .i64 0, .bool false]) ∧ w' = w := by
  have e1 : decide ((29 : Int) < k) = true := by simp; omega
  go_enter Try.func16, Try.ntmps16
  go_wp2_with fail
  go_ret3
  exact ⟨rfl, rfl⟩
/-- Nothing found up to here. -/
structure NoRel (w : World) (g : Nat) (v7 : Value) (wr : World) : Prop where mk ::
  out_ : ∃ (k : Nat), k ≤ 32 ∧ 32 ≤ g + k ∧ v7 = .int .i64 (k : Int) ∧ wr = w
set_option maxHeartbeats 1600000 in
set_option maxRecDepth 100000 in
theorem ref_reach_no (n : Int) (wide : Bool) (w : World) (hno : n < 1 ∨ 65536 < n ∨ (32768 < n ∧ wide = false)) (h1 : -9223372036854775808 ≤ n) (h2 : n ≤ 9223372036854775807) :
    Calls Try.prog 10 #[.int .i64 n, .bool wide] w fun e w' => e = .returned (.tuple #[.int .i64 (-1), .int .i64 0, .int .i64 0]) ∧ w' = w := by
  have hmiss : ∀ k, k < 32 → (wide = true ∨ k < 30 → ((farBase k : Int) ≤ n → ¬ n < farBase k + ((2 ^ farMore k : Nat) : Int))) := fun k hk hw hb hlt => by
    have h3 := step_mono far_next (31 - k) (k + 1) (by omega)
    rw [show k + 1 + (31 - k) = 32 from by omega, far_next k hk, show farBase 32 = 65537 from rfl] at h3
    have h4 := (far_small k hk).1
    rcases hno with h | h | ⟨h, hf⟩
    · omega
    · omega
    · rcases hw with hw | hw
      · rw [hw] at hf; cases hf
      · have h5 := step_mono far_next (29 - k) (k + 1) (by omega)
        rw [show k + 1 + (29 - k) = 30 from by omega, far_next k hk, show farBase 30 = 32769 from rfl] at h5
        omega
  have HMI := Lib.hid hmiss
  clear hmiss hno
  go_enter Try.func10, Try.ntmps10
  go_wp2_with fail
  go_loopg [7] 32 (NoRel w)
  case atStart => exact ⟨0, by omega, by omega, rfl, rfl⟩
  case round =>
    obtain ⟨k, hk, hg, rfl, hw⟩ := hrel
    subst hw
    by_cases hk32 : k < 32
    · have hk := hk32
      by_cases hok : wide = true ∨ k < 30
      · skip
        obtain ⟨s1, s2, s3, s4, s5⟩ := far_small k hk
        have HB := Lib.hid (ref_far k hk wide (fun h => hok.elim id (fun h' => absurd h' (by omega))) wr)
        have hcond := HMI.out k hk hok
        generalize farBase k = B at *
        generalize farMore k = M at *
        obtain ⟨P, hP⟩ : ∃ P : Nat, P = 2 ^ M := ⟨_, rfl⟩
        rw [← hP] at s4 s5 hcond
        have hPi : (2 : Int) ^ M = (P : Int) := by rw [hP, Int.natCast_pow]; rfl
        have hM5 : M ≤ 14 := s3
        clear hP
        by_cases hge : (B : Int) ≤ n
        · have f0 : decide ((B : Int) ≤ n) = true := by simpa using hge
          have hcond := hcond hge
          have f1 : decide (n - (B : Int) < P) = false := by simp; omega
          clear hcond hok
          go_wp2_with fail
          refine HB.out.mono ?_
          rintro e w1 ⟨rfl, hw⟩
          subst hw
          go_wp2_with fail
          go_roundg (gk - 1)
          case measure => omega
          case rel => exact ⟨k + 1, by omega, by omega, by go_num, rfl⟩
        · have f0 : decide ((B : Int) ≤ n) = false := by simp; omega
          clear hcond hge hok
          go_wp2_with fail
          refine HB.out.mono ?_
          rintro e w1 ⟨rfl, hw⟩
          subst hw
          go_wp2_with fail
          go_roundg (gk - 1)
          case measure => omega
          case rel => exact ⟨k + 1, by omega, by omega, by go_num, rfl⟩
      · have hwf : wide = false := by cases wide; rfl; exact absurd (Or.inl rfl) hok
        subst hwf
        have HB := Lib.hid (ref_far_no k hk (by omega) wr)
        clear hok
        go_wp2_with fail
        refine HB.out.mono ?_
        rintro e w1 ⟨rfl, hw⟩
        subst hw
        go_wp2_with fail
        go_roundg (gk - 1)
        case measure => omega
        case rel => exact ⟨k + 1, by omega, by omega, by go_num, rfl⟩
    · skip
      have hk32 : k = 32 := by omega
      subst hk32
      go_wp2_with fail
      go_ret3
      exact ⟨rfl, rfl⟩
set_option maxHeartbeats 1600000 in
set_option maxRecDepth 100000 in
theorem ref_reach (n : Int) (wide : Bool) (w : World) (h1 : -9223372036854775808 ≤ n) (h2 : n ≤ 9223372036854775807) :
    Calls Try.prog 10 #[.int .i64 n, .bool wide] w fun e w' => e = .returned (.tuple #[.int .i64 (farS n wide), .int .i64 (farM n wide), .int .i64 (farV n wide)]) ∧ w' = w := by
  by_cases hno : n < 1 ∨ 65536 < n ∨ (32768 < n ∧ wide = false)
  · obtain ⟨a, b, c⟩ := farS_no (wide := wide) hno
    rw [a, b, c]
    exact ref_reach_no n wide w hno h1 h2
  · obtain ⟨m, rfl⟩ : ∃ m : Nat, n = m := ⟨n.toNat, by omega⟩
    have hm1 : 1 ≤ m := by omega
    have hm2 : m ≤ 65536 := by omega
    have HS := Lib.hid (fun k (hk : k < 32) ha hb => farS_at (wide := wide) (n := m) hno hk ha hb)
    by_cases c3 : 32768 < (m : Int)
    · have hw : wide = true := by cases wide; exact absurd (.inr (.inr ⟨c3, rfl⟩)) hno; rfl
      subst hw
      clear hno c3
      go_enter Try.func10, Try.ntmps10
      go_wp2_with fail
      go_loopg [7] 32 (FyRel w m)
      case atStart => exact ⟨0, by omega, by omega, rfl, by show 1 ≤ m; exact hm1, rfl⟩
      case round =>
        obtain ⟨k, hk, hg, rfl, hb, hw⟩ := hrel
        subst hw
        have hbig := hb
        obtain ⟨s1, s2, s3, s4, s5⟩ := far_small k hk
        have HB := Lib.hid (ref_far k hk true (fun _ => rfl) wr)
        have hnx := far_next k hk
        have HT := Lib.hid (HS.out k hk hb)
        have HN := Lib.hid hnx
        have HK := Lib.hid (fun h : k = 31 => show farBase k + 2 ^ farMore k = 65537 by rw [h]; rfl)
        clear hnx hbig
        generalize farBase k = B at *
        generalize farMore k = M at *
        obtain ⟨P, hP⟩ : ∃ P : Nat, P = 2 ^ M := ⟨_, rfl⟩
        rw [← hP] at s4 s5 HT HN HK
        have hPi : (2 : Int) ^ M = (P : Int) := by rw [hP, Int.natCast_pow]; rfl
        have hM5 : M ≤ 14 := s3
        clear hP
        have f0 : decide ((B : Int) ≤ m) = true := by simp; omega
        have f0' : decide (B ≤ m) = true := by simp; omega
        have f2 : decide ((k : Int) < 32) = true := by simp; omega
        go_wp2_with fail
        refine HB.out.mono ?_
        rintro e w1 ⟨rfl, hw⟩
        subst hw
        by_cases hlt : m < B + P
        · have f1 : decide ((m : Int) - B < P) = true := by simp; omega
          have HR := Lib.hid (HT.out hlt)
          clear HT
          go_wp2_with fail
          go_ret3
          obtain ⟨h1, h2, h3⟩ := HR.out
          rw [h1, h2, h3]
          exact ⟨rfl, rfl⟩
        · have f1 : decide ((m : Int) - B < P) = false := by simp; omega
          clear HT
          go_wp2_with fail
          go_roundg (gk - 1)
          case measure => omega
          case rel => 
            have hk31 : k ≠ 31 := fun h => by have := HK.out h; omega
            exact ⟨k + 1, by omega, by omega, by go_num, by rw [HN.out]; omega, rfl⟩
    · have hm3 : m ≤ 32768 := by omega
      clear hno c3
      go_enter Try.func10, Try.ntmps10
      go_wp2_with fail
      go_loopg [7] 32 (FyRel w m)
      case atStart => exact ⟨0, by omega, by omega, rfl, by show 1 ≤ m; exact hm1, rfl⟩
      case round =>
        obtain ⟨k, hk, hg, rfl, hb, hw⟩ := hrel
        subst hw
        have hbig := hb
        obtain ⟨s1, s2, s3, s4, s5⟩ := far_small k hk
        have HB := Lib.hid (ref_far k hk wide (fun h => absurd hbig (by have := step_mono far_next (k - 30) 30 (by omega); rw [show 30 + (k - 30) = k from by omega, show farBase 30 = 32769 from rfl] at this; omega)) wr)
        have hnx := far_next k hk
        have HT := Lib.hid (HS.out k hk hb)
        have HN := Lib.hid hnx
        have HK := Lib.hid (fun h : k = 31 => show farBase k + 2 ^ farMore k = 65537 by rw [h]; rfl)
        clear hnx hbig
        generalize farBase k = B at *
        generalize farMore k = M at *
        obtain ⟨P, hP⟩ : ∃ P : Nat, P = 2 ^ M := ⟨_, rfl⟩
        rw [← hP] at s4 s5 HT HN HK
        have hPi : (2 : Int) ^ M = (P : Int) := by rw [hP, Int.natCast_pow]; rfl
        have hM5 : M ≤ 14 := s3
        clear hP
        have f0 : decide ((B : Int) ≤ m) = true := by simp; omega
        have f0' : decide (B ≤ m) = true := by simp; omega
        have f2 : decide ((k : Int) < 32) = true := by simp; omega
        go_wp2_with fail
        refine HB.out.mono ?_
        rintro e w1 ⟨rfl, hw⟩
        subst hw
        by_cases hlt : m < B + P
        · have f1 : decide ((m : Int) - B < P) = true := by simp; omega
          have HR := Lib.hid (HT.out hlt)
          clear HT
          go_wp2_with fail
          go_ret3
          obtain ⟨h1, h2, h3⟩ := HR.out
          rw [h1, h2, h3]
          exact ⟨rfl, rfl⟩
        · have f1 : decide ((m : Int) - B < P) = false := by simp; omega
          clear HT
          go_wp2_with fail
          go_roundg (gk - 1)
          case measure => omega
          case rel => 
            have hk31 : k ≠ 31 := fun h => by have := HK.out h; omega
            exact ⟨k + 1, by omega, by omega, by go_num, by rw [HN.out]; omega, rfl⟩
end Go.Proofs.YtoofkcbgldbfpaaRRR
