import Derived.Test.YtoofkcbgldbfpaaRRRBlk
namespace Go.Proofs.YtoofkcbgldbfpaaRRR
set_option linter.unusedVariables false
set_option linter.unusedSimpArgs false
open Go.RowKit

theorem symS_no {n : Int} {wide : Bool} (h : n < 3 ∨ 65538 < n ∨ (258 < n ∧ wide = false)) : symS n wide = -1 ∧ symM n wide = 0 ∧ symV n wide = 0 := by
  unfold symS symM symV; rw [if_pos h, if_pos h, if_pos h]; exact ⟨rfl, rfl, rfl⟩
theorem symS_258 {n : Int} {wide : Bool} (h : n = 258) (hw : wide = false) : symS n wide = 285 ∧ symM n wide = 0 ∧ symV n wide = 0 := by
  subst h; subst hw; simp [symS, symM, symV]
theorem symS_far {n : Int} {wide : Bool} (h : 258 < n) (h2 : n ≤ 65538) (hw : wide = true) : symS n wide = 285 ∧ symM n wide = 16 ∧ symV n wide = n - 3 := by
  subst hw
  have a : ¬ n < 3 := by omega
  have b : ¬ 65538 < n := by omega
  simp [symS, symM, symV, a, b, h]
theorem symS_at {n k : Nat} {wide : Bool} (h3 : 3 ≤ n) (h2 : n ≤ 258) (hne : ¬ (n = 258 ∧ wide = false)) (hk : k < 28) (ha : lenBase k ≤ n) (hb : n < lenBase k + 2 ^ lenMore k) :
    symS n wide = ((257 + k : Nat) : Int) ∧ symM n wide = (lenMore k : Nat) ∧ symV n wide = (n : Int) - (lenBase k : Nat) := by
  have hi := lenIx_of hk ha hb
  have hne' : ¬ ((n : Int) = 258 ∧ wide = false) := fun h => hne ⟨by omega, h.2⟩
  have hno : ¬ ((n : Int) < 3 ∨ 65538 < (n : Int) ∨ (258 < (n : Int) ∧ wide = false)) := by omega
  have h258 : ¬ (258 < (n : Int)) := by omega
  have hor : ¬ (258 < (n : Int) ∨ ((n : Int) = 258 ∧ wide = false)) := fun h => h.elim h258 hne'
  refine ⟨?_, ?_, ?_⟩
  · unfold symS; rw [if_neg hno, if_neg hor, Int.toNat_natCast, hi]; omega
  · unfold symM; rw [if_neg hno, if_neg h258, if_neg hne', Int.toNat_natCast, hi]
  · unfold symV; rw [if_neg hno, if_neg h258, if_neg hne', Int.toNat_natCast, hi]
structure SyRel (w : World) (n : Nat) (g : Nat) (v7 : Value) (wr : World) : Prop where mk ::
  out_ : ∃ (k : Nat), k < 28 ∧ 28 ≤ g + k ∧ v7 = .int .i64 ((257 + k : Nat) : Int) ∧ lenBase k ≤ n ∧ wr = w
set_option maxHeartbeats 1600000 in
set_option maxRecDepth 100000 in
theorem blk_symbol (n : Int) (wide : Bool) (w : World) (hn : (Lit.int .i64 n).wf = true) :
    Calls Try.prog 7 #[.int .i64 n, .bool wide] w fun e w' => e = .returned (.tuple #[.int .i64 (symS n wide), .int .i64 (symM n wide), .int .i64 (symV n wide)]) ∧ w' = w := by
  by_cases c1 : n < 3
  · have e1 : decide (n < 3) = true := by simpa using c1
    obtain ⟨a, b, c⟩ := symS_no (wide := wide) (.inl c1)
    rw [a, b, c]
    clear c1 a b c
    go_enter Try.func7, Try.ntmps7
    go_wp2_with fail
    go_ret3
    exact ⟨rfl, rfl⟩
  · have e1 : decide (n < 3) = false := by simp; omega
    by_cases c2 : 65538 < n
    · have e2 : decide (65538 < n) = true := by simpa using c2
      obtain ⟨a, b, c⟩ := symS_no (wide := wide) (.inr (.inl c2))
      rw [a, b, c]
      clear c1 c2 a b c
      go_enter Try.func7, Try.ntmps7
      go_wp2_with fail
      go_ret3
      exact ⟨rfl, rfl⟩
    · have e2 : decide (65538 < n) = false := by simp; omega
      by_cases c3 : 258 < n
      · have e3 : decide (258 < n) = true := by simpa using c3
        cases hw : wide with
        | false =>
          obtain ⟨a, b, c⟩ := symS_no (n := n) (.inr (.inr ⟨c3, rfl⟩))
          rw [a, b, c]
          clear c1 c2 c3 a b c
          go_enter Try.func7, Try.ntmps7
          go_wp2_with fail
          go_ret3
          exact ⟨rfl, rfl⟩
        | true =>
          obtain ⟨a, b, c⟩ := symS_far (n := n) (wide := true) c3 (by omega) rfl
          rw [a, b, c]
          have e4 : (n == 258) = false := by rw [beq_eq_false_iff_ne]; omega
          have hle : n ≤ 65538 := by omega
          clear c1 c2 a b c
          go_enter Try.func7, Try.ntmps7
          go_wp2_with fail
          go_ret3
          exact ⟨rfl, rfl⟩
      · have e3 : decide (258 < n) = false := by simp; omega
        obtain ⟨m, rfl⟩ : ∃ m : Nat, n = m := ⟨n.toNat, by omega⟩
        by_cases c4 : m = 258 ∧ wide = false
        · obtain ⟨a, b, c⟩ := symS_258 (n := (m : Int)) (by omega) c4.2
          rw [a, b, c]
          have e4 : ((m : Int) == 258) = true := by rw [beq_iff_eq]; omega
          obtain ⟨h4, rfl⟩ := c4
          clear c1 c2 c3 a b c h4
          go_enter Try.func7, Try.ntmps7
          go_wp2_with fail
          go_ret3
          exact ⟨rfl, rfl⟩
        · have hm3 : 3 ≤ m := by omega
          have hm2 : m ≤ 258 := by omega
          have HS := Lib.hid (fun k (hk : k < 28) ha hb => symS_at hm3 hm2 c4 hk ha hb)
          have e4 : wide = false → ((m : Int) == 258) = false := fun hw => by rw [beq_eq_false_iff_ne]; intro h; exact c4 ⟨by omega, hw⟩
          clear c1 c2 c3 c4
          cases wide with
          | false =>
            have e4 := e4 rfl
            go_enter Try.func7, Try.ntmps7
            go_wp2_with fail
            go_loopg [7] 28 (SyRel w m)
            case atStart => exact ⟨0, by omega, by omega, rfl, by show 3 ≤ m; exact hm3, rfl⟩
            case round =>
              obtain ⟨k, hk, hg, rfl, hb, hw⟩ := hrel
              subst hw
              obtain ⟨s1, s2, s3, s4, s5⟩ := len_small k hk
              have HB := Lib.hid (inf_base k hk false wr)
              rw [show (((257 + k : Nat) : Nat) : Int) = 257 + (k : Int) from by omega] at HB
              have hnx := len_next k hk
              have HT := Lib.hid (HS.out k hk hb)
              have HN := Lib.hid hnx
              have HK := Lib.hid (fun h : k = 27 => show lenBase k + 2 ^ lenMore k = 259 by rw [h]; rfl)
              clear hnx
              generalize lenBase k = B at *
              generalize lenMore k = M at *
              obtain ⟨P, hP⟩ : ∃ P : Nat, P = 2 ^ M := ⟨_, rfl⟩
              rw [← hP] at s4 s5 HT HN HK
              have hPi : (2 : Int) ^ M = (P : Int) := by rw [hP, Int.natCast_pow]; rfl
              have hM5 : M ≤ 5 := s3
              clear hP
              go_wp2_with fail
              refine HB.out.mono ?_
              rintro e w1 ⟨rfl, hw⟩
              subst hw
              by_cases hlt : m < B + P
              · have f1 : decide ((m : Int) < B + P) = true := by simp; omega
                have HR := Lib.hid (HT.out hlt)
                clear HT
                go_wp2_with fail
                go_ret3
                obtain ⟨h1, h2, h3⟩ := HR.out
                rw [h1, h2, h3, show (((257 + k : Nat) : Nat) : Int) = 257 + (k : Int) from by omega]
                exact ⟨rfl, rfl⟩
              · have f1 : decide ((m : Int) < B + P) = false := by simp; omega
                clear HT
                go_wp2_with fail
                go_roundg (gk - 1)
                case measure => omega
                case rel => 
                  have hk27 : k ≠ 27 := fun h => by have := HK.out h; omega
                  exact ⟨k + 1, by omega, by omega, by go_num, by rw [HN.out]; omega, rfl⟩
          | true =>
            clear e4
            by_cases c5 : m = 258
            · have e5 : ((m : Int) == 258) = true := by rw [beq_iff_eq]; omega
              clear c5
              go_enter Try.func7, Try.ntmps7
              go_wp2_with fail
              go_loopg [7] 28 (SyRel w m)
              case atStart => exact ⟨0, by omega, by omega, rfl, by show 3 ≤ m; exact hm3, rfl⟩
              case round =>
                obtain ⟨k, hk, hg, rfl, hb, hw⟩ := hrel
                subst hw
                obtain ⟨s1, s2, s3, s4, s5⟩ := len_small k hk
                have HB := Lib.hid (inf_base k hk true wr)
                rw [show (((257 + k : Nat) : Nat) : Int) = 257 + (k : Int) from by omega] at HB
                have hnx := len_next k hk
                have HT := Lib.hid (HS.out k hk hb)
                have HN := Lib.hid hnx
                have HK := Lib.hid (fun h : k = 27 => show lenBase k + 2 ^ lenMore k = 259 by rw [h]; rfl)
                clear hnx
                generalize lenBase k = B at *
                generalize lenMore k = M at *
                obtain ⟨P, hP⟩ : ∃ P : Nat, P = 2 ^ M := ⟨_, rfl⟩
                rw [← hP] at s4 s5 HT HN HK
                have hPi : (2 : Int) ^ M = (P : Int) := by rw [hP, Int.natCast_pow]; rfl
                have hM5 : M ≤ 5 := s3
                clear hP
                go_wp2_with fail
                refine HB.out.mono ?_
                rintro e w1 ⟨rfl, hw⟩
                subst hw
                by_cases hlt : m < B + P
                · have f1 : decide ((m : Int) < B + P) = true := by simp; omega
                  have HR := Lib.hid (HT.out hlt)
                  clear HT
                  go_wp2_with fail
                  go_ret3
                  obtain ⟨h1, h2, h3⟩ := HR.out
                  rw [h1, h2, h3, show (((257 + k : Nat) : Nat) : Int) = 257 + (k : Int) from by omega]
                  exact ⟨rfl, rfl⟩
                · have f1 : decide ((m : Int) < B + P) = false := by simp; omega
                  clear HT
                  go_wp2_with fail
                  go_roundg (gk - 1)
                  case measure => omega
                  case rel => 
                    have hk27 : k ≠ 27 := fun h => by have := HK.out h; omega
                    exact ⟨k + 1, by omega, by omega, by go_num, by rw [HN.out]; omega, rfl⟩
            · have e5 : ((m : Int) == 258) = false := by rw [beq_eq_false_iff_ne]; omega
              clear c5
              go_enter Try.func7, Try.ntmps7
              go_wp2_with fail
              go_loopg [7] 28 (SyRel w m)
              case atStart => exact ⟨0, by omega, by omega, rfl, by show 3 ≤ m; exact hm3, rfl⟩
              case round =>
                obtain ⟨k, hk, hg, rfl, hb, hw⟩ := hrel
                subst hw
                obtain ⟨s1, s2, s3, s4, s5⟩ := len_small k hk
                have HB := Lib.hid (inf_base k hk true wr)
                rw [show (((257 + k : Nat) : Nat) : Int) = 257 + (k : Int) from by omega] at HB
                have hnx := len_next k hk
                have HT := Lib.hid (HS.out k hk hb)
                have HN := Lib.hid hnx
                have HK := Lib.hid (fun h : k = 27 => show lenBase k + 2 ^ lenMore k = 259 by rw [h]; rfl)
                clear hnx
                generalize lenBase k = B at *
                generalize lenMore k = M at *
                obtain ⟨P, hP⟩ : ∃ P : Nat, P = 2 ^ M := ⟨_, rfl⟩
                rw [← hP] at s4 s5 HT HN HK
                have hPi : (2 : Int) ^ M = (P : Int) := by rw [hP, Int.natCast_pow]; rfl
                have hM5 : M ≤ 5 := s3
                clear hP
                go_wp2_with fail
                refine HB.out.mono ?_
                rintro e w1 ⟨rfl, hw⟩
                subst hw
                by_cases hlt : m < B + P
                · have f1 : decide ((m : Int) < B + P) = true := by simp; omega
                  have HR := Lib.hid (HT.out hlt)
                  clear HT
                  go_wp2_with fail
                  go_ret3
                  obtain ⟨h1, h2, h3⟩ := HR.out
                  rw [h1, h2, h3, show (((257 + k : Nat) : Nat) : Int) = 257 + (k : Int) from by omega]
                  exact ⟨rfl, rfl⟩
                · have f1 : decide ((m : Int) < B + P) = false := by simp; omega
                  clear HT
                  go_wp2_with fail
                  go_roundg (gk - 1)
                  case measure => omega
                  case rel => 
                    have hk27 : k ≠ 27 := fun h => by have := HK.out h; omega
                    exact ⟨k + 1, by omega, by omega, by go_num, by rw [HN.out]; omega, rfl⟩
structure SzRel (w : World) (n : Int) (g : Nat) (v7 : Value) (wr : World) : Prop where mk ::
  out_ : ∃ (k : Nat), k ≤ 28 ∧ 28 ≤ g + k ∧ v7 = .int .i64 ((257 + k : Nat) : Int) ∧ (lenBase k : Int) ≤ n ∧ wr = w
set_option maxHeartbeats 1600000 in
set_option maxRecDepth 100000 in
theorem ref_symbol (n : Int) (wide : Bool) (w : World) (hn : (Lit.int .i64 n).wf = true) :
    Calls Try.prog 8 #[.int .i64 n, .bool wide] w fun e w' => e = .returned (.tuple #[.int .i64 (symS n wide), .int .i64 (symM n wide), .int .i64 (symV n wide)]) ∧ w' = w := by
  by_cases c1 : n < 3
  · have e1 : decide (n < 3) = true := by simpa using c1
    obtain ⟨a, b, c⟩ := symS_no (wide := wide) (.inl c1)
    rw [a, b, c]
    clear c1 a b c
    go_enter Try.func8, Try.ntmps8
    go_wp2_with fail
    go_ret3
    exact ⟨rfl, rfl⟩
  · have e1 : decide (n < 3) = false := by simp; omega
    by_cases c2 : 65538 < n
    · have e2 : decide (65538 < n) = true := by simpa using c2
      obtain ⟨a, b, c⟩ := symS_no (wide := wide) (.inr (.inl c2))
      rw [a, b, c]
      clear c1 c2 a b c
      go_enter Try.func8, Try.ntmps8
      go_wp2_with fail
      go_ret3
      exact ⟨rfl, rfl⟩
    · have e2 : decide (65538 < n) = false := by simp; omega
      by_cases c3 : 258 < n
      · have e3 : decide (258 < n) = true := by simpa using c3
        cases hw : wide with
        | false =>
          obtain ⟨a, b, c⟩ := symS_no (n := n) (.inr (.inr ⟨c3, rfl⟩))
          rw [a, b, c]
          clear c1 c2 c3 a b c
          go_enter Try.func8, Try.ntmps8
          go_wp2_with fail
          go_ret3
          exact ⟨rfl, rfl⟩
        | true =>
          obtain ⟨a, b, c⟩ := symS_far (n := n) (wide := true) c3 (by omega) rfl
          rw [a, b, c]
          have e4 : (n == 258) = false := by rw [beq_eq_false_iff_ne]; omega
          have hle : n ≤ 65538 := by omega
          clear c1 c2 a b c
          go_enter Try.func8, Try.ntmps8
          go_wp2_with fail
          go_loopg [7] 29 (SzRel w n)
          case atStart => exact ⟨0, by omega, by omega, rfl, by show (3 : Int) ≤ n; omega, rfl⟩
          case round =>
            obtain ⟨k, hk, hg, rfl, hb, hw⟩ := hrel
            subst hw
            by_cases hk28 : k = 28
            · subst hk28
              have HB := Lib.hid (ref_base285 true wr)
              go_wp2_with fail
              refine HB.out.mono ?_
              rintro e w1 ⟨rfl, hw⟩
              subst hw
              have f0 : decide ((3 : Int) ≤ n) = true := by simp; omega
              have f1 : decide (n - 3 < 65536) = true := by simp; omega
              go_wp2_with fail
              go_ret3
              exact ⟨rfl, rfl⟩
            · have hk2 : k < 28 := by omega
              obtain ⟨s1, s2, s3, s4, s5⟩ := len_small k hk2
              have HB := Lib.hid (ref_base k hk2 true wr)
              rw [show (((257 + k : Nat) : Nat) : Int) = 257 + (k : Int) from by omega] at HB
              have hnx := len_next k hk2
              have hmono := step_mono len_next (27 - k) (k + 1) (by omega)
              rw [show k + 1 + (27 - k) = 28 from by omega, hnx, show lenBase 28 = 259 from rfl] at hmono
              have HN := Lib.hid hnx
              have HMO := Lib.hid hmono
              clear hnx hmono
              generalize lenBase k = B at *
              generalize lenMore k = M at *
              obtain ⟨P, hP⟩ : ∃ P : Nat, P = 2 ^ M := ⟨_, rfl⟩
              rw [← hP] at s4 s5 HN HMO
              have hPi : (2 : Int) ^ M = (P : Int) := by rw [hP, Int.natCast_pow]; rfl
              have hM5 : M ≤ 5 := s3
              clear hP
              have f0 : decide ((B : Int) ≤ n) = true := by simp; omega
              have f2 : decide (257 + (k : Int) ≤ 285) = true := by simp; omega
              have f1 : decide (n - (B : Int) < P) = false := by have := HMO.out; simp; omega
              clear hk28
              go_wp2_with fail
              refine HB.out.mono ?_
              rintro e w1 ⟨rfl, hw⟩
              subst hw
              go_wp2_with fail
              go_roundg (gk - 1)
              case measure => omega
              case rel => exact ⟨k + 1, by omega, by omega, by go_num, by rw [HN.out]; have := HMO.out; omega, rfl⟩
      · have e3 : decide (258 < n) = false := by simp; omega
        obtain ⟨m, rfl⟩ : ∃ m : Nat, n = m := ⟨n.toNat, by omega⟩
        by_cases c4 : m = 258 ∧ wide = false
        · obtain ⟨a, b, c⟩ := symS_258 (n := (m : Int)) (by omega) c4.2
          rw [a, b, c]
          have e4 : ((m : Int) == 258) = true := by rw [beq_iff_eq]; omega
          obtain ⟨h4, rfl⟩ := c4
          clear c1 c2 c3 a b c h4
          go_enter Try.func8, Try.ntmps8
          go_wp2_with fail
          go_ret3
          exact ⟨rfl, rfl⟩
        · have hm3 : 3 ≤ m := by omega
          have hm2 : m ≤ 258 := by omega
          have HS := Lib.hid (fun k (hk : k < 28) ha hb => symS_at hm3 hm2 c4 hk ha hb)
          have e4 : wide = false → ((m : Int) == 258) = false := fun hw => by rw [beq_eq_false_iff_ne]; intro h; exact c4 ⟨by omega, hw⟩
          clear c1 c2 c3 c4
          cases wide with
          | false =>
            have e4 := e4 rfl
            go_enter Try.func8, Try.ntmps8
            go_wp2_with fail
            go_loopg [7] 28 (SyRel w m)
            case atStart => exact ⟨0, by omega, by omega, rfl, by show 3 ≤ m; exact hm3, rfl⟩
            case round =>
              obtain ⟨k, hk, hg, rfl, hb, hw⟩ := hrel
              subst hw
              obtain ⟨s1, s2, s3, s4, s5⟩ := len_small k hk
              have HB := Lib.hid (ref_base k hk false wr)
              rw [show (((257 + k : Nat) : Nat) : Int) = 257 + (k : Int) from by omega] at HB
              have hnx := len_next k hk
              have HT := Lib.hid (HS.out k hk hb)
              have HN := Lib.hid hnx
              have HK := Lib.hid (fun h : k = 27 => show lenBase k + 2 ^ lenMore k = 259 by rw [h]; rfl)
              clear hnx
              generalize lenBase k = B at *
              generalize lenMore k = M at *
              obtain ⟨P, hP⟩ : ∃ P : Nat, P = 2 ^ M := ⟨_, rfl⟩
              rw [← hP] at s4 s5 HT HN HK
              have hPi : (2 : Int) ^ M = (P : Int) := by rw [hP, Int.natCast_pow]; rfl
              have hM5 : M ≤ 5 := s3
              clear hP
              have f0 : decide ((B : Int) ≤ m) = true := by simp; omega
              have f0' : decide (B ≤ m) = true := by simp; omega
              have f2 : decide (257 + (k : Int) ≤ 285) = true := by simp; omega
              go_wp2_with fail
              refine HB.out.mono ?_
              rintro e w1 ⟨rfl, hw⟩
              subst hw
              by_cases hlt : m < B + P
              · have f1 : decide ((m : Int) - B < P) = true := by simp; omega
                have HR := Lib.hid (HT.out hlt)
                clear HT
                go_wp2_with fail
                go_ret3
                obtain ⟨h1, h2, h3⟩ := HR.out
                rw [h1, h2, h3, show (((257 + k : Nat) : Nat) : Int) = 257 + (k : Int) from by omega]
                exact ⟨rfl, rfl⟩
              · have f1 : decide ((m : Int) - B < P) = false := by simp; omega
                clear HT
                go_wp2_with fail
                go_roundg (gk - 1)
                case measure => omega
                case rel => 
                  have hk27 : k ≠ 27 := fun h => by have := HK.out h; omega
                  exact ⟨k + 1, by omega, by omega, by go_num, by rw [HN.out]; omega, rfl⟩
          | true =>
            clear e4
            by_cases c5 : m = 258
            · have e5 : ((m : Int) == 258) = true := by rw [beq_iff_eq]; omega
              clear c5
              go_enter Try.func8, Try.ntmps8
              go_wp2_with fail
              go_loopg [7] 28 (SyRel w m)
              case atStart => exact ⟨0, by omega, by omega, rfl, by show 3 ≤ m; exact hm3, rfl⟩
              case round =>
                obtain ⟨k, hk, hg, rfl, hb, hw⟩ := hrel
                subst hw
                obtain ⟨s1, s2, s3, s4, s5⟩ := len_small k hk
                have HB := Lib.hid (ref_base k hk true wr)
                rw [show (((257 + k : Nat) : Nat) : Int) = 257 + (k : Int) from by omega] at HB
                have hnx := len_next k hk
                have HT := Lib.hid (HS.out k hk hb)
                have HN := Lib.hid hnx
                have HK := Lib.hid (fun h : k = 27 => show lenBase k + 2 ^ lenMore k = 259 by rw [h]; rfl)
                clear hnx
                generalize lenBase k = B at *
                generalize lenMore k = M at *
                obtain ⟨P, hP⟩ : ∃ P : Nat, P = 2 ^ M := ⟨_, rfl⟩
                rw [← hP] at s4 s5 HT HN HK
                have hPi : (2 : Int) ^ M = (P : Int) := by rw [hP, Int.natCast_pow]; rfl
                have hM5 : M ≤ 5 := s3
                clear hP
                have f0 : decide ((B : Int) ≤ m) = true := by simp; omega
                have f0' : decide (B ≤ m) = true := by simp; omega
                have f2 : decide (257 + (k : Int) ≤ 285) = true := by simp; omega
                go_wp2_with fail
                refine HB.out.mono ?_
                rintro e w1 ⟨rfl, hw⟩
                subst hw
                by_cases hlt : m < B + P
                · have f1 : decide ((m : Int) - B < P) = true := by simp; omega
                  have HR := Lib.hid (HT.out hlt)
                  clear HT
                  go_wp2_with fail
                  go_ret3
                  obtain ⟨h1, h2, h3⟩ := HR.out
                  rw [h1, h2, h3, show (((257 + k : Nat) : Nat) : Int) = 257 + (k : Int) from by omega]
                  exact ⟨rfl, rfl⟩
                · have f1 : decide ((m : Int) - B < P) = false := by simp; omega
                  clear HT
                  go_wp2_with fail
                  go_roundg (gk - 1)
                  case measure => omega
                  case rel => 
                    have hk27 : k ≠ 27 := fun h => by have := HK.out h; omega
                    exact ⟨k + 1, by omega, by omega, by go_num, by rw [HN.out]; omega, rfl⟩
            · have e5 : ((m : Int) == 258) = false := by rw [beq_eq_false_iff_ne]; omega
              clear c5
              go_enter Try.func8, Try.ntmps8
              go_wp2_with fail
              go_loopg [7] 28 (SyRel w m)
              case atStart => exact ⟨0, by omega, by omega, rfl, by show 3 ≤ m; exact hm3, rfl⟩
              case round =>
                obtain ⟨k, hk, hg, rfl, hb, hw⟩ := hrel
                subst hw
                obtain ⟨s1, s2, s3, s4, s5⟩ := len_small k hk
                have HB := Lib.hid (ref_base k hk true wr)
                rw [show (((257 + k : Nat) : Nat) : Int) = 257 + (k : Int) from by omega] at HB
                have hnx := len_next k hk
                have HT := Lib.hid (HS.out k hk hb)
                have HN := Lib.hid hnx
                have HK := Lib.hid (fun h : k = 27 => show lenBase k + 2 ^ lenMore k = 259 by rw [h]; rfl)
                clear hnx
                generalize lenBase k = B at *
                generalize lenMore k = M at *
                obtain ⟨P, hP⟩ : ∃ P : Nat, P = 2 ^ M := ⟨_, rfl⟩
                rw [← hP] at s4 s5 HT HN HK
                have hPi : (2 : Int) ^ M = (P : Int) := by rw [hP, Int.natCast_pow]; rfl
                have hM5 : M ≤ 5 := s3
                clear hP
                have f0 : decide ((B : Int) ≤ m) = true := by simp; omega
                have f0' : decide (B ≤ m) = true := by simp; omega
                have f2 : decide (257 + (k : Int) ≤ 285) = true := by simp; omega
                go_wp2_with fail
                refine HB.out.mono ?_
                rintro e w1 ⟨rfl, hw⟩
                subst hw
                by_cases hlt : m < B + P
                · have f1 : decide ((m : Int) - B < P) = true := by simp; omega
                  have HR := Lib.hid (HT.out hlt)
                  clear HT
                  go_wp2_with fail
                  go_ret3
                  obtain ⟨h1, h2, h3⟩ := HR.out
                  rw [h1, h2, h3, show (((257 + k : Nat) : Nat) : Int) = 257 + (k : Int) from by omega]
                  exact ⟨rfl, rfl⟩
                · have f1 : decide ((m : Int) - B < P) = false := by simp; omega
                  clear HT
                  go_wp2_with fail
                  go_roundg (gk - 1)
                  case measure => omega
                  case rel => 
                    have hk27 : k ≠ 27 := fun h => by have := HK.out h; omega
                    exact ⟨k + 1, by omega, by omega, by go_num, by rw [HN.out]; omega, rfl⟩

theorem farS_no {n : Int} {wide : Bool} (h : n < 1 ∨ 65536 < n ∨ (32768 < n ∧ wide = false)) : farS n wide = -1 ∧ farM n wide = 0 ∧ farV n wide = 0 := by
  unfold farS farM farV; rw [if_pos h, if_pos h, if_pos h]; exact ⟨rfl, rfl, rfl⟩
theorem farS_at {n k : Nat} {wide : Bool} (hno : ¬ ((n : Int) < 1 ∨ 65536 < (n : Int) ∨ (32768 < (n : Int) ∧ wide = false))) (hk : k < 32) (ha : farBase k ≤ n) (hb : n < farBase k + 2 ^ farMore k) :
    farS n wide = (k : Int) ∧ farM n wide = (farMore k : Nat) ∧ farV n wide = (n : Int) - (farBase k : Nat) := by
  have hi := farIx_of hk ha hb
  unfold farS farM farV
  rw [if_neg hno, if_neg hno, if_neg hno, Int.toNat_natCast, hi]
  exact ⟨rfl, rfl, rfl⟩
structure FyRel (w : World) (n : Nat) (g : Nat) (v7 : Value) (wr : World) : Prop where mk ::
  out_ : ∃ (k : Nat), k < 32 ∧ 32 ≤ g + k ∧ v7 = .int .i64 (k : Int) ∧ farBase k ≤ n ∧ wr = w
set_option maxHeartbeats 1600000 in
set_option maxRecDepth 100000 in
theorem blk_reach (n : Int) (wide : Bool) (w : World) (hn : (Lit.int .i64 n).wf = true) :
    Calls Try.prog 9 #[.int .i64 n, .bool wide] w fun e w' => e = .returned (.tuple #[.int .i64 (farS n wide), .int .i64 (farM n wide), .int .i64 (farV n wide)]) ∧ w' = w := by
  by_cases c1 : n < 1
  · have e1 : decide (n < 1) = true := by simpa using c1
    obtain ⟨a, b, c⟩ := farS_no (wide := wide) (.inl c1)
    rw [a, b, c]
    clear c1 a b c
    go_enter Try.func9, Try.ntmps9
    go_wp2_with fail
    go_ret3
    exact ⟨rfl, rfl⟩
  · have e1 : decide (n < 1) = false := by simp; omega
    by_cases c2 : 65536 < n
    · have e2 : decide (65536 < n) = true := by simpa using c2
      obtain ⟨a, b, c⟩ := farS_no (wide := wide) (.inr (.inl c2))
      rw [a, b, c]
      clear c1 c2 a b c
      go_enter Try.func9, Try.ntmps9
      go_wp2_with fail
      go_ret3
      exact ⟨rfl, rfl⟩
    · have e2 : decide (65536 < n) = false := by simp; omega
      obtain ⟨m, rfl⟩ : ∃ m : Nat, n = m := ⟨n.toNat, by omega⟩
      have hm1 : 1 ≤ m := by omega
      have hm2 : m ≤ 65536 := by omega
      by_cases c3 : 32768 < (m : Int)
      · have e3 : decide (32768 < (m : Int)) = true := by simpa using c3
        cases hw : wide with
        | false =>
          obtain ⟨a, b, c⟩ := farS_no (n := (m : Int)) (.inr (.inr ⟨c3, rfl⟩))
          rw [a, b, c]
          clear c1 c2 c3 a b c
          go_enter Try.func9, Try.ntmps9
          go_wp2_with fail
          go_ret3
          exact ⟨rfl, rfl⟩
        | true =>
          have HS := Lib.hid (fun k (hk : k < 32) ha hb => farS_at (wide := true) (n := m) (by simp; omega) hk ha hb)
          clear c1 c2 c3
          go_enter Try.func9, Try.ntmps9
          go_wp2_with fail
          go_loopg [7] 32 (FyRel w m)
          case atStart => exact ⟨0, by omega, by omega, rfl, by show 1 ≤ m; exact hm1, rfl⟩
          case round =>
            obtain ⟨k, hk, hg, rfl, hb, hw⟩ := hrel
            subst hw
            have hbig := hb
            obtain ⟨s1, s2, s3, s4, s5⟩ := far_small k hk
            have HB := Lib.hid (inf_far k hk true (fun _ => rfl) wr)
            have hnx := far_next k hk
            have HT := Lib.hid (HS.out k hk hb)
            have HN := Lib.hid hnx
            have HK := Lib.hid (fun h : k = 31 => show farBase k + 2 ^ farMore k = 65537 by rw [h]; rfl)
            clear hnx hbig
            generalize farBase k = B at *
            generalize farMore k = M at *
            obtain ⟨P, hP⟩ : ∃ P : Nat, P = 2 ^ M := ⟨_, rfl⟩
            rw [← hP] at s4 s5 HT HN HK
            have hPi : (2 : Int) ^ M = (P : Int) := by rw [hP, Int.natCast_pow]; rfl
            have hM5 : M ≤ 14 := s3
            clear hP
            go_wp2_with fail
            refine HB.out.mono ?_
            rintro e w1 ⟨rfl, hw⟩
            subst hw
            by_cases hlt : m < B + P
            · have f1 : decide ((m : Int) < B + P) = true := by simp; omega
              have HR := Lib.hid (HT.out hlt)
              clear HT
              go_wp2_with fail
              go_ret3
              obtain ⟨h1, h2, h3⟩ := HR.out
              rw [h1, h2, h3]
              exact ⟨rfl, rfl⟩
            · have f1 : decide ((m : Int) < B + P) = false := by simp; omega
              clear HT
              go_wp2_with fail
              go_roundg (gk - 1)
              case measure => omega
              case rel => 
                have hk31 : k ≠ 31 := fun h => by have := HK.out h; omega
                exact ⟨k + 1, by omega, by omega, by go_num, by rw [HN.out]; omega, rfl⟩
      · have e3 : decide (32768 < (m : Int)) = false := by simp; omega
        have HS := Lib.hid (fun k (hk : k < 32) ha hb => farS_at (wide := wide) (n := m) (by omega) hk ha hb)
        have hm3 : m ≤ 32768 := by omega
        clear c1 c2 c3
        go_enter Try.func9, Try.ntmps9
        go_wp2_with fail
        go_loopg [7] 32 (FyRel w m)
        case atStart => exact ⟨0, by omega, by omega, rfl, by show 1 ≤ m; exact hm1, rfl⟩
        case round =>
          obtain ⟨k, hk, hg, rfl, hb, hw⟩ := hrel
          subst hw
          have hbig := hb
          obtain ⟨s1, s2, s3, s4, s5⟩ := far_small k hk
          have HB := Lib.hid (inf_far k hk wide (fun h => absurd hbig (by have := step_mono far_next (k - 30) 30 (by omega); rw [show 30 + (k - 30) = k from by omega, show farBase 30 = 32769 from rfl] at this; omega)) wr)
          have hnx := far_next k hk
          have HT := Lib.hid (HS.out k hk hb)
          have HN := Lib.hid hnx
          have HK := Lib.hid (fun h : k = 31 => show farBase k + 2 ^ farMore k = 65537 by rw [h]; rfl)
          clear hnx hbig
          generalize farBase k = B at *
          generalize farMore k = M at *
          obtain ⟨P, hP⟩ : ∃ P : Nat, P = 2 ^ M := ⟨_, rfl⟩
          rw [← hP] at s4 s5 HT HN HK
          have hPi : (2 : Int) ^ M = (P : Int) := by rw [hP, Int.natCast_pow]; rfl
          have hM5 : M ≤ 14 := s3
          clear hP
          go_wp2_with fail
          refine HB.out.mono ?_
          rintro e w1 ⟨rfl, hw⟩
          subst hw
          by_cases hlt : m < B + P
          · have f1 : decide ((m : Int) < B + P) = true := by simp; omega
            have HR := Lib.hid (HT.out hlt)
            clear HT
            go_wp2_with fail
            go_ret3
            obtain ⟨h1, h2, h3⟩ := HR.out
            rw [h1, h2, h3]
            exact ⟨rfl, rfl⟩
          · have f1 : decide ((m : Int) < B + P) = false := by simp; omega
            clear HT
            go_wp2_with fail
            go_roundg (gk - 1)
            case measure => omega
            case rel => 
              have hk31 : k ≠ 31 := fun h => by have := HK.out h; omega
              exact ⟨k + 1, by omega, by omega, by go_num, by rw [HN.out]; omega, rfl⟩
end Go.Proofs.YtoofkcbgldbfpaaRRR
