import Derived.Test.YtoofkcbgldbfpaaRRRBlkU
namespace Go.Proofs.YtoofkcbgldbfpaaRRR
set_option linter.unusedVariables false
set_option linter.unusedSimpArgs false
open Go.RowKit
attribute [local go_sem] max2i min2i max2t min2t

theorem uint_rem3 (a : Int) (m : Nat) (h0 : 0 < m) (h : m ≤ 1000000) : ∃ D : Nat, 3 ≤ D ∧ D ≤ m + 2 ∧ wrap64 (3 + wrap64 ((IntKind.u64.wrap a).tmod (m : Int))) = (D : Int) := by
  obtain ⟨D, h1, h2⟩ := uint_rem a m h0 (by omega)
  refine ⟨3 + D, by omega, by omega, ?_⟩
  rw [h2, IntWalk.wrap64_in _ (by omega)]
  omega
set_option maxHeartbeats 1600000 in
set_option maxRecDepth 100000 in
theorem base_sym (l : Nat) (wide : Bool) (h3 : 3 ≤ l) (h2 : l ≤ 65538) (hw : 258 < l → wide = true) :
    ∃ (S B M V : Nat), symS l wide = (S : Int) ∧ symM l wide = (M : Int) ∧ symV l wide = (V : Int) ∧ B + V = l ∧ V < 2 ^ M ∧ M ≤ 16 ∧
      ∀ w, Calls Try.prog 15 #[.int .i64 (S : Int), .bool wide] w fun e w' => e = .returned (.tuple #[.int .i64 (B : Int), .int .i64 (M : Int), .bool true]) ∧ w' = w := by
  by_cases hf : 258 < l
  · have hwt := hw hf
    subst hwt
    obtain ⟨a, b, c⟩ := symS_far (n := (l : Int)) (wide := true) (by omega) (by omega) rfl
    refine ⟨285, 3, 16, l - 3, a, b, by rw [c]; omega, by omega, by rw [show 2 ^ 16 = 65536 from rfl]; omega, by omega, fun w => ?_⟩
    exact ref_base285 true w
  · by_cases h4 : l = 258 ∧ wide = false
    · obtain ⟨rfl, rfl⟩ := h4
      obtain ⟨a, b, c⟩ := symS_258 (n := ((258 : Nat) : Int)) (wide := false) rfl rfl
      exact ⟨285, 258, 0, 0, a, b, c, rfl, by decide, by decide, fun w => ref_base285 false w⟩
    · obtain ⟨hk, ha, hb⟩ := lenIx_is h3 (by omega : l ≤ 258)
      obtain ⟨a, b, c⟩ := symS_at (wide := wide) h3 (by omega) h4 hk ha hb
      have hs := len_small _ hk
      refine ⟨257 + lenIx l, lenBase (lenIx l), lenMore (lenIx l), l - lenBase (lenIx l), a, b, by rw [c]; omega, by omega, by omega, by omega, fun w => ?_⟩
      exact ref_base _ hk wide w
set_option maxHeartbeats 1600000 in
set_option maxRecDepth 100000 in
theorem far_sym (d : Nat) (wide : Bool) (h1 : 1 ≤ d) (h2 : d ≤ 65536) (hw : 32768 < d → wide = true) :
    ∃ (S B M V : Nat), farS d wide = (S : Int) ∧ farM d wide = (M : Int) ∧ farV d wide = (V : Int) ∧ B + V = d ∧ V < 2 ^ M ∧ M ≤ 16 ∧
      ∀ w, Calls Try.prog 16 #[.int .i64 (S : Int), .bool wide] w fun e w' => e = .returned (.tuple #[.int .i64 (B : Int), .int .i64 (M : Int), .bool true]) ∧ w' = w := by
  obtain ⟨hk, ha, hb, hn⟩ := farIx_is h1 h2
  have hno : ¬ ((d : Int) < 1 ∨ 65536 < (d : Int) ∨ (32768 < (d : Int) ∧ wide = false)) := by
    rintro (h | h | ⟨h, hf⟩)
    · omega
    · omega
    · rw [hw (by omega)] at hf; cases hf
  obtain ⟨a, b, c⟩ := farS_at (wide := wide) hno hk ha hb
  have hs := far_small _ hk
  refine ⟨farIx d, farBase (farIx d), farMore (farIx d), d - farBase (farIx d), a, b, by rw [c]; omega, by omega, by omega, by omega, fun w => ?_⟩
  refine ref_far _ hk wide (fun h30 => ?_) w
  by_cases hd : 32768 < d
  · exact hw hd
  · have := hn (by omega); omega
set_option maxHeartbeats 1600000 in
set_option maxRecDepth 100000 in
theorem blockBack_walk (n dist : Int) (wide : Bool) (w : World) (h00 : (Lit.int .i64 n).wf = true) (h01 : (Lit.int .i64 dist).wf = true) :
    Calls Try.prog 4 #[.int .i64 n, .int .i64 dist, .bool wide] w fun e w' => e = .returned (.bool true) ∧ Below w.heap.size w w' := by
  have ht := fun W => Lib.hid (told14 W)
  cases wide with
  | false =>
      obtain ⟨l, hl3, hl2, el⟩ := uint_rem3 n 256 (by omega) (by omega)
      obtain ⟨d, hd1, hd2, ed⟩ := uint_rem1 dist 32768 (by omega) (by omega)
      have el : wrap64 (3 + wrap64 ((IntKind.u64.wrap n).tmod 256)) = (l : Int) := el
      have ed : wrap64 (1 + wrap64 ((IntKind.u64.wrap dist).tmod 32768)) = (d : Int) := ed
      obtain ⟨S, B, M, V, s1, s2, s3, hBV, hVM, hM, HB⟩ := base_sym l false hl3 (by omega) (fun h => by first | rfl | omega)
      obtain ⟨S', B', M', V', s1', s2', s3', hBV', hVM', hM', HB'⟩ := far_sym d false hd1 (by omega) (fun h => by first | rfl | omega)
      have HS := fun W => Lib.hid (blk_symbol l false W (by simp [Lit.wf, IntKind.min, IntKind.max, IntKind.bits, IntKind.signed]; omega))
      have HR := fun W => Lib.hid (blk_reach d false W (by simp [Lit.wf, IntKind.min, IntKind.max, IntKind.bits, IntKind.signed]; omega))
      rw [s1, s2, s3] at HS
      rw [s1', s2', s3'] at HR
      have HB := fun W => Lib.hid (HB W)
      have HB' := fun W => Lib.hid (HB' W)
      obtain ⟨P, hP⟩ : ∃ P : Nat, P = 2 ^ M := ⟨_, rfl⟩
      obtain ⟨P', hP'⟩ : ∃ P : Nat, P = 2 ^ M' := ⟨_, rfl⟩
      rw [← hP] at hVM
      rw [← hP'] at hVM'
      have hPi : (2 : Int) ^ M = (P : Int) := by rw [hP, Int.natCast_pow]; rfl
      have hPi' : (2 : Int) ^ M' = (P' : Int) := by rw [hP', Int.natCast_pow]; rfl
      have hPm : P ≤ 65536 := by rw [hP]; exact Nat.pow_le_pow_right (by decide) hM
      have hPm' : P' ≤ 65536 := by rw [hP']; exact Nat.pow_le_pow_right (by decide) hM'
      clear hP hP' s1 s2 s3 s1' s2' s3'
      have e1 : ((M : Int) == M) = true := by simp
      have e2 : ((M' : Int) == M') = true := by simp
      have e3 : ((B : Int) + V == l) = true := by rw [beq_iff_eq]; omega
      have e4 : ((B' : Int) + V' == d) = true := by rw [beq_iff_eq]; omega
      have e5 : decide ((V : Int) < P) = true := by simp; omega
      have e6 : decide ((V' : Int) < P') = true := by simp; omega
      have e7 : decide ((0 : Int) ≤ V) = true := by simp
      have e8 : decide ((0 : Int) ≤ V') = true := by simp
      go_enter Try.func4, Try.ntmps4
      go_wp2_with fail
      refine (HS _).out.mono ?_
      rintro e w1 ⟨rfl, hw⟩
      subst hw
      go_wp2_with fail
      refine (HR _).out.mono ?_
      rintro e w2 ⟨rfl, hw⟩
      subst hw
      go_wp2_with fail
      refine (HB _).out.mono ?_
      rintro e w3 ⟨rfl, hw⟩
      subst hw
      go_wp2_with fail
      refine (HB' _).out.mono ?_
      rintro e w4 ⟨rfl, hw⟩
      subst hw
      go_wp2_with fail
      refine (ht _).out.mono ?_
      rintro e w5 ⟨rfl, hb5⟩
      go_wp2_with fail
      go_ret
      exact ⟨rfl, hb5⟩
  | true =>
      obtain ⟨l, hl3, hl2, el⟩ := uint_rem3 n 65536 (by omega) (by omega)
      obtain ⟨d, hd1, hd2, ed⟩ := uint_rem1 dist 65536 (by omega) (by omega)
      have el : wrap64 (3 + wrap64 ((IntKind.u64.wrap n).tmod 65536)) = (l : Int) := el
      have ed : wrap64 (1 + wrap64 ((IntKind.u64.wrap dist).tmod 65536)) = (d : Int) := ed
      obtain ⟨S, B, M, V, s1, s2, s3, hBV, hVM, hM, HB⟩ := base_sym l true hl3 (by omega) (fun h => by first | rfl | omega)
      obtain ⟨S', B', M', V', s1', s2', s3', hBV', hVM', hM', HB'⟩ := far_sym d true hd1 (by omega) (fun h => by first | rfl | omega)
      have HS := fun W => Lib.hid (blk_symbol l true W (by simp [Lit.wf, IntKind.min, IntKind.max, IntKind.bits, IntKind.signed]; omega))
      have HR := fun W => Lib.hid (blk_reach d true W (by simp [Lit.wf, IntKind.min, IntKind.max, IntKind.bits, IntKind.signed]; omega))
      rw [s1, s2, s3] at HS
      rw [s1', s2', s3'] at HR
      have HB := fun W => Lib.hid (HB W)
      have HB' := fun W => Lib.hid (HB' W)
      obtain ⟨P, hP⟩ : ∃ P : Nat, P = 2 ^ M := ⟨_, rfl⟩
      obtain ⟨P', hP'⟩ : ∃ P : Nat, P = 2 ^ M' := ⟨_, rfl⟩
      rw [← hP] at hVM
      rw [← hP'] at hVM'
      have hPi : (2 : Int) ^ M = (P : Int) := by rw [hP, Int.natCast_pow]; rfl
      have hPi' : (2 : Int) ^ M' = (P' : Int) := by rw [hP', Int.natCast_pow]; rfl
      have hPm : P ≤ 65536 := by rw [hP]; exact Nat.pow_le_pow_right (by decide) hM
      have hPm' : P' ≤ 65536 := by rw [hP']; exact Nat.pow_le_pow_right (by decide) hM'
      clear hP hP' s1 s2 s3 s1' s2' s3'
      have e1 : ((M : Int) == M) = true := by simp
      have e2 : ((M' : Int) == M') = true := by simp
      have e3 : ((B : Int) + V == l) = true := by rw [beq_iff_eq]; omega
      have e4 : ((B' : Int) + V' == d) = true := by rw [beq_iff_eq]; omega
      have e5 : decide ((V : Int) < P) = true := by simp; omega
      have e6 : decide ((V' : Int) < P') = true := by simp; omega
      have e7 : decide ((0 : Int) ≤ V) = true := by simp
      have e8 : decide ((0 : Int) ≤ V') = true := by simp
      go_enter Try.func4, Try.ntmps4
      go_wp2_with fail
      refine (HS _).out.mono ?_
      rintro e w1 ⟨rfl, hw⟩
      subst hw
      go_wp2_with fail
      refine (HR _).out.mono ?_
      rintro e w2 ⟨rfl, hw⟩
      subst hw
      go_wp2_with fail
      refine (HB _).out.mono ?_
      rintro e w3 ⟨rfl, hw⟩
      subst hw
      go_wp2_with fail
      refine (HB' _).out.mono ?_
      rintro e w4 ⟨rfl, hw⟩
      subst hw
      go_wp2_with fail
      refine (ht _).out.mono ?_
      rintro e w5 ⟨rfl, hb5⟩
      go_wp2_with fail
      go_ret
      exact ⟨rfl, hb5⟩
end Go.Proofs.YtoofkcbgldbfpaaRRR
