import Derived.Test.YthiandempeabmaaEff
namespace Go.Proofs.Ythiandempeabmaa
set_option linter.unusedVariables false
set_option linter.unusedSimpArgs false
open Go.RowKit

theorem buildP0 (w : World) : (Instr.build 26 #[(0, .bool true)]).run Try.prog w = .ok (.agg #[.bool true, .int .i64 0, .bool false, .int .i64 0]) w := run_build w 26 _ _ (by kernel_rfl)
theorem buildP1 (c g : Int) (w : World) : (Instr.build 26 #[(1, .int .i64 c), (3, .int .i64 g)]).run Try.prog w = .ok (.agg #[.bool false, .int .i64 c, .bool false, .int .i64 g]) w := run_build w 26 _ _ (by kernel_rfl)
theorem buildP2 (c g : Int) (w : World) : (Instr.build 26 #[(1, .int .i64 c), (3, .int .i64 g), (2, .bool true)]).run Try.prog w = .ok (.agg #[.bool false, .int .i64 c, .bool true, .int .i64 g]) w := run_build w 26 _ _ (by kernel_rfl)
theorem buildP3 (s l : Bool) (c g : Int) (w : World) : (Instr.build 26 #[(0, .bool s), (1, .int .i64 c), (3, .int .i64 g), (2, .bool l)]).run Try.prog w = .ok (.agg #[.bool s, .int .i64 c, .bool l, .int .i64 g]) w := run_build w 26 _ _ (by kernel_rfl)
attribute [local go_sem] buildP0 buildP1 buildP2 buildP3

def chainN (k : Nat) : Int := [0, 1, 4, 8, 8, 16, 32, 64, 256, 1024].getD k 0
def goodN (k : Nat) : Int := [0, 8, 8, 16, 16, 32, 64, 128, 258, 258].getD k 0
def planV (k : Nat) : Value := .agg #[.bool (k == 0), .int .i64 (chainN k), .bool (decide (4 ≤ k)), .int .i64 (goodN k)]

theorem own_bool : Try.prog.underlying 4 = some .bool := Try.underlying4
@[local go_sem] theorem eqPlan (a a' b b' : Bool) (c c' d d' : Int) (w : World) : (Op.equalIn 10000 26 (.agg #[.bool a, .int .i64 c, .bool b, .int .i64 d]) (.agg #[.bool a', .int .i64 c', .bool b', .int .i64 d'])).run Try.prog w = .ok (a == a' && c == c' && b == b' && d == d') w := by
  have u3 := Try.underlying3
  have u4 := Try.underlying4
  have a3 := Try.isAgg3
  have z3 := Try.sizeOf3
  have a4 := Try.isAgg4
  have z4 := Try.sizeOf4
  have hS : Try.prog.underlying 26 = some (.struct (Try.prog.fieldsOf 26)) := by kernel_rfl
  have hp : Try.prog.stoodInHeld 26 = false := by kernel_rfl
  rw [show (10000 : Nat) = 9999 + 1 from rfl, run_equalIn_agg w 9999 26 _ _ hS hp]
  simp only [Program.fieldsOf, Try.underlying26]
  go_simp
  by_cases h1 : a = a' <;> by_cases h2 : c = c' <;> by_cases h3 : b = b' <;> by_cases h4 : d = d' <;> simp [h1, h2, h3, h4]

set_option maxHeartbeats 1600000 in
set_option maxRecDepth 100000 in
theorem eff_plan0 (x : Nat) (w : World) (hk : levR (rankB x) = 0) :
    Calls Try.prog 9 #[.float .f64 x] w fun e w' => e = .returned (planV 0) ∧ Below w.heap.size w w' := by
  have HL := Lib.hid (fun W => eff_level x W)
  rw [hk] at HL
  clear hk
  go_enter Try.func9, Try.ntmps9
  go_wp2_with fail
  refine (HL.out _).mono ?_
  rintro e w1 ⟨rfl, hw⟩
  subst hw
  go_wp2_with fail
  exact bodyPost_ret (v := .agg #[.bool true, .int .i64 0, .bool false, .int .i64 0]) (by simp [results, Try.results9, go_sem]) rfl ⟨rfl, ((Below.refl _ _).alloc (Nat.le_refl _) _).alloc (by simp) _⟩
set_option maxHeartbeats 1600000 in
set_option maxRecDepth 100000 in
theorem ref_plan0 (x : Nat) (w : World) (hk : levR (rankB x) = 0) :
    Calls Try.prog 10 #[.float .f64 x] w fun e w' => e = .returned (planV 0) ∧ Below w.heap.size w w' := by
  have HL := Lib.hid (fun W => ref_level x W)
  rw [hk] at HL
  clear hk
  go_enter Try.func10, Try.ntmps10
  go_wp2_with fail
  refine (HL.out _).mono ?_
  rintro e w1 ⟨rfl, hw⟩
  subst hw
  go_wp2_with fail
  go_region
  all_goals go_wp2_with fail
  exact bodyPost_ret (v := .agg #[.bool true, .int .i64 0, .bool false, .int .i64 0]) (by simp [results, Try.results10, go_sem]) rfl ⟨rfl, ((((Below.refl _ _).alloc (Nat.le_refl _) _).alloc (by simp) _).alloc (by simp; omega) _).drew⟩
set_option maxHeartbeats 1600000 in
set_option maxRecDepth 100000 in
theorem eff_plan1 (x : Nat) (w : World) (hk : levR (rankB x) = 1) :
    Calls Try.prog 9 #[.float .f64 x] w fun e w' => e = .returned (planV 1) ∧ Below w.heap.size w w' := by
  have HL := Lib.hid (fun W => eff_level x W)
  rw [hk] at HL
  clear hk
  go_enter Try.func9, Try.ntmps9
  go_wp2_with fail
  refine (HL.out _).mono ?_
  rintro e w1 ⟨rfl, hw⟩
  subst hw
  go_wp2_with fail
  exact bodyPost_ret (v := .agg #[.bool false, .int .i64 1, .bool false, .int .i64 8]) (by simp [results, Try.results9, go_sem]) rfl ⟨rfl, ((Below.refl _ _).alloc (Nat.le_refl _) _).alloc (by simp) _⟩
set_option maxHeartbeats 1600000 in
set_option maxRecDepth 100000 in
theorem ref_plan1 (x : Nat) (w : World) (hk : levR (rankB x) = 1) :
    Calls Try.prog 10 #[.float .f64 x] w fun e w' => e = .returned (planV 1) ∧ Below w.heap.size w w' := by
  have HL := Lib.hid (fun W => ref_level x W)
  rw [hk] at HL
  clear hk
  go_enter Try.func10, Try.ntmps10
  go_wp2_with fail
  refine (HL.out _).mono ?_
  rintro e w1 ⟨rfl, hw⟩
  subst hw
  go_wp2_with fail
  go_region
  all_goals go_wp2_with fail
  exact bodyPost_ret (v := .agg #[.bool false, .int .i64 1, .bool false, .int .i64 8]) (by simp [results, Try.results10, go_sem]) rfl ⟨rfl, ((((Below.refl _ _).alloc (Nat.le_refl _) _).alloc (by simp) _).alloc (by simp; omega) _).drew⟩
set_option maxHeartbeats 1600000 in
set_option maxRecDepth 100000 in
theorem eff_plan2 (x : Nat) (w : World) (hk : levR (rankB x) = 2) :
    Calls Try.prog 9 #[.float .f64 x] w fun e w' => e = .returned (planV 2) ∧ Below w.heap.size w w' := by
  have HL := Lib.hid (fun W => eff_level x W)
  rw [hk] at HL
  clear hk
  go_enter Try.func9, Try.ntmps9
  go_wp2_with fail
  refine (HL.out _).mono ?_
  rintro e w1 ⟨rfl, hw⟩
  subst hw
  go_wp2_with fail
  exact bodyPost_ret (v := .agg #[.bool false, .int .i64 4, .bool false, .int .i64 8]) (by simp [results, Try.results9, go_sem]) rfl ⟨rfl, ((Below.refl _ _).alloc (Nat.le_refl _) _).alloc (by simp) _⟩
set_option maxHeartbeats 1600000 in
set_option maxRecDepth 100000 in
theorem ref_plan2 (x : Nat) (w : World) (hk : levR (rankB x) = 2) :
    Calls Try.prog 10 #[.float .f64 x] w fun e w' => e = .returned (planV 2) ∧ Below w.heap.size w w' := by
  have HL := Lib.hid (fun W => ref_level x W)
  rw [hk] at HL
  clear hk
  go_enter Try.func10, Try.ntmps10
  go_wp2_with fail
  refine (HL.out _).mono ?_
  rintro e w1 ⟨rfl, hw⟩
  subst hw
  go_wp2_with fail
  go_region
  all_goals go_wp2_with fail
  exact bodyPost_ret (v := .agg #[.bool false, .int .i64 4, .bool false, .int .i64 8]) (by simp [results, Try.results10, go_sem]) rfl ⟨rfl, ((((Below.refl _ _).alloc (Nat.le_refl _) _).alloc (by simp) _).alloc (by simp; omega) _).drew⟩
set_option maxHeartbeats 1600000 in
set_option maxRecDepth 100000 in
theorem eff_plan3 (x : Nat) (w : World) (hk : levR (rankB x) = 3) :
    Calls Try.prog 9 #[.float .f64 x] w fun e w' => e = .returned (planV 3) ∧ Below w.heap.size w w' := by
  have HL := Lib.hid (fun W => eff_level x W)
  rw [hk] at HL
  clear hk
  go_enter Try.func9, Try.ntmps9
  go_wp2_with fail
  refine (HL.out _).mono ?_
  rintro e w1 ⟨rfl, hw⟩
  subst hw
  go_wp2_with fail
  exact bodyPost_ret (v := .agg #[.bool false, .int .i64 8, .bool false, .int .i64 16]) (by simp [results, Try.results9, go_sem]) rfl ⟨rfl, ((Below.refl _ _).alloc (Nat.le_refl _) _).alloc (by simp) _⟩
set_option maxHeartbeats 1600000 in
set_option maxRecDepth 100000 in
theorem ref_plan3 (x : Nat) (w : World) (hk : levR (rankB x) = 3) :
    Calls Try.prog 10 #[.float .f64 x] w fun e w' => e = .returned (planV 3) ∧ Below w.heap.size w w' := by
  have HL := Lib.hid (fun W => ref_level x W)
  rw [hk] at HL
  clear hk
  go_enter Try.func10, Try.ntmps10
  go_wp2_with fail
  refine (HL.out _).mono ?_
  rintro e w1 ⟨rfl, hw⟩
  subst hw
  go_wp2_with fail
  go_region
  all_goals go_wp2_with fail
  exact bodyPost_ret (v := .agg #[.bool false, .int .i64 8, .bool false, .int .i64 16]) (by simp [results, Try.results10, go_sem]) rfl ⟨rfl, ((((Below.refl _ _).alloc (Nat.le_refl _) _).alloc (by simp) _).alloc (by simp; omega) _).drew⟩
set_option maxHeartbeats 1600000 in
set_option maxRecDepth 100000 in
theorem eff_plan4 (x : Nat) (w : World) (hk : levR (rankB x) = 4) :
    Calls Try.prog 9 #[.float .f64 x] w fun e w' => e = .returned (planV 4) ∧ Below w.heap.size w w' := by
  have HL := Lib.hid (fun W => eff_level x W)
  rw [hk] at HL
  clear hk
  go_enter Try.func9, Try.ntmps9
  go_wp2_with fail
  refine (HL.out _).mono ?_
  rintro e w1 ⟨rfl, hw⟩
  subst hw
  go_wp2_with fail
  exact bodyPost_ret (v := .agg #[.bool false, .int .i64 8, .bool true, .int .i64 16]) (by simp [results, Try.results9, go_sem]) rfl ⟨rfl, ((Below.refl _ _).alloc (Nat.le_refl _) _).alloc (by simp) _⟩
set_option maxHeartbeats 1600000 in
set_option maxRecDepth 100000 in
theorem ref_plan4 (x : Nat) (w : World) (hk : levR (rankB x) = 4) :
    Calls Try.prog 10 #[.float .f64 x] w fun e w' => e = .returned (planV 4) ∧ Below w.heap.size w w' := by
  have HL := Lib.hid (fun W => ref_level x W)
  rw [hk] at HL
  clear hk
  go_enter Try.func10, Try.ntmps10
  go_wp2_with fail
  refine (HL.out _).mono ?_
  rintro e w1 ⟨rfl, hw⟩
  subst hw
  go_wp2_with fail
  go_region
  all_goals go_wp2_with fail
  exact bodyPost_ret (v := .agg #[.bool false, .int .i64 8, .bool true, .int .i64 16]) (by simp [results, Try.results10, go_sem]) rfl ⟨rfl, ((((Below.refl _ _).alloc (Nat.le_refl _) _).alloc (by simp) _).alloc (by simp; omega) _).drew⟩
set_option maxHeartbeats 1600000 in
set_option maxRecDepth 100000 in
theorem eff_plan5 (x : Nat) (w : World) (hk : levR (rankB x) = 5) :
    Calls Try.prog 9 #[.float .f64 x] w fun e w' => e = .returned (planV 5) ∧ Below w.heap.size w w' := by
  have HL := Lib.hid (fun W => eff_level x W)
  rw [hk] at HL
  clear hk
  go_enter Try.func9, Try.ntmps9
  go_wp2_with fail
  refine (HL.out _).mono ?_
  rintro e w1 ⟨rfl, hw⟩
  subst hw
  go_wp2_with fail
  exact bodyPost_ret (v := .agg #[.bool false, .int .i64 16, .bool true, .int .i64 32]) (by simp [results, Try.results9, go_sem]) rfl ⟨rfl, ((Below.refl _ _).alloc (Nat.le_refl _) _).alloc (by simp) _⟩
set_option maxHeartbeats 1600000 in
set_option maxRecDepth 100000 in
theorem ref_plan5 (x : Nat) (w : World) (hk : levR (rankB x) = 5) :
    Calls Try.prog 10 #[.float .f64 x] w fun e w' => e = .returned (planV 5) ∧ Below w.heap.size w w' := by
  have HL := Lib.hid (fun W => ref_level x W)
  rw [hk] at HL
  clear hk
  go_enter Try.func10, Try.ntmps10
  go_wp2_with fail
  refine (HL.out _).mono ?_
  rintro e w1 ⟨rfl, hw⟩
  subst hw
  go_wp2_with fail
  go_region
  all_goals go_wp2_with fail
  exact bodyPost_ret (v := .agg #[.bool false, .int .i64 16, .bool true, .int .i64 32]) (by simp [results, Try.results10, go_sem]) rfl ⟨rfl, ((((Below.refl _ _).alloc (Nat.le_refl _) _).alloc (by simp) _).alloc (by simp; omega) _).drew⟩
set_option maxHeartbeats 1600000 in
set_option maxRecDepth 100000 in
theorem eff_plan6 (x : Nat) (w : World) (hk : levR (rankB x) = 6) :
    Calls Try.prog 9 #[.float .f64 x] w fun e w' => e = .returned (planV 6) ∧ Below w.heap.size w w' := by
  have HL := Lib.hid (fun W => eff_level x W)
  rw [hk] at HL
  clear hk
  go_enter Try.func9, Try.ntmps9
  go_wp2_with fail
  refine (HL.out _).mono ?_
  rintro e w1 ⟨rfl, hw⟩
  subst hw
  go_wp2_with fail
  exact bodyPost_ret (v := .agg #[.bool false, .int .i64 32, .bool true, .int .i64 64]) (by simp [results, Try.results9, go_sem]) rfl ⟨rfl, ((Below.refl _ _).alloc (Nat.le_refl _) _).alloc (by simp) _⟩
set_option maxHeartbeats 1600000 in
set_option maxRecDepth 100000 in
theorem ref_plan6 (x : Nat) (w : World) (hk : levR (rankB x) = 6) :
    Calls Try.prog 10 #[.float .f64 x] w fun e w' => e = .returned (planV 6) ∧ Below w.heap.size w w' := by
  have HL := Lib.hid (fun W => ref_level x W)
  rw [hk] at HL
  clear hk
  go_enter Try.func10, Try.ntmps10
  go_wp2_with fail
  refine (HL.out _).mono ?_
  rintro e w1 ⟨rfl, hw⟩
  subst hw
  go_wp2_with fail
  go_region
  all_goals go_wp2_with fail
  exact bodyPost_ret (v := .agg #[.bool false, .int .i64 32, .bool true, .int .i64 64]) (by simp [results, Try.results10, go_sem]) rfl ⟨rfl, ((((Below.refl _ _).alloc (Nat.le_refl _) _).alloc (by simp) _).alloc (by simp; omega) _).drew⟩
set_option maxHeartbeats 1600000 in
set_option maxRecDepth 100000 in
theorem eff_plan7 (x : Nat) (w : World) (hk : levR (rankB x) = 7) :
    Calls Try.prog 9 #[.float .f64 x] w fun e w' => e = .returned (planV 7) ∧ Below w.heap.size w w' := by
  have HL := Lib.hid (fun W => eff_level x W)
  rw [hk] at HL
  clear hk
  go_enter Try.func9, Try.ntmps9
  go_wp2_with fail
  refine (HL.out _).mono ?_
  rintro e w1 ⟨rfl, hw⟩
  subst hw
  go_wp2_with fail
  exact bodyPost_ret (v := .agg #[.bool false, .int .i64 64, .bool true, .int .i64 128]) (by simp [results, Try.results9, go_sem]) rfl ⟨rfl, ((Below.refl _ _).alloc (Nat.le_refl _) _).alloc (by simp) _⟩
set_option maxHeartbeats 1600000 in
set_option maxRecDepth 100000 in
theorem ref_plan7 (x : Nat) (w : World) (hk : levR (rankB x) = 7) :
    Calls Try.prog 10 #[.float .f64 x] w fun e w' => e = .returned (planV 7) ∧ Below w.heap.size w w' := by
  have HL := Lib.hid (fun W => ref_level x W)
  rw [hk] at HL
  clear hk
  go_enter Try.func10, Try.ntmps10
  go_wp2_with fail
  refine (HL.out _).mono ?_
  rintro e w1 ⟨rfl, hw⟩
  subst hw
  go_wp2_with fail
  go_region
  all_goals go_wp2_with fail
  exact bodyPost_ret (v := .agg #[.bool false, .int .i64 64, .bool true, .int .i64 128]) (by simp [results, Try.results10, go_sem]) rfl ⟨rfl, ((((Below.refl _ _).alloc (Nat.le_refl _) _).alloc (by simp) _).alloc (by simp; omega) _).drew⟩
set_option maxHeartbeats 1600000 in
set_option maxRecDepth 100000 in
theorem eff_plan8 (x : Nat) (w : World) (hk : levR (rankB x) = 8) :
    Calls Try.prog 9 #[.float .f64 x] w fun e w' => e = .returned (planV 8) ∧ Below w.heap.size w w' := by
  have HL := Lib.hid (fun W => eff_level x W)
  rw [hk] at HL
  clear hk
  go_enter Try.func9, Try.ntmps9
  go_wp2_with fail
  refine (HL.out _).mono ?_
  rintro e w1 ⟨rfl, hw⟩
  subst hw
  go_wp2_with fail
  exact bodyPost_ret (v := .agg #[.bool false, .int .i64 256, .bool true, .int .i64 258]) (by simp [results, Try.results9, go_sem]) rfl ⟨rfl, ((Below.refl _ _).alloc (Nat.le_refl _) _).alloc (by simp) _⟩
set_option maxHeartbeats 1600000 in
set_option maxRecDepth 100000 in
theorem ref_plan8 (x : Nat) (w : World) (hk : levR (rankB x) = 8) :
    Calls Try.prog 10 #[.float .f64 x] w fun e w' => e = .returned (planV 8) ∧ Below w.heap.size w w' := by
  have HL := Lib.hid (fun W => ref_level x W)
  rw [hk] at HL
  clear hk
  go_enter Try.func10, Try.ntmps10
  go_wp2_with fail
  refine (HL.out _).mono ?_
  rintro e w1 ⟨rfl, hw⟩
  subst hw
  go_wp2_with fail
  go_region
  all_goals go_wp2_with fail
  exact bodyPost_ret (v := .agg #[.bool false, .int .i64 256, .bool true, .int .i64 258]) (by simp [results, Try.results10, go_sem]) rfl ⟨rfl, ((((Below.refl _ _).alloc (Nat.le_refl _) _).alloc (by simp) _).alloc (by simp; omega) _).drew⟩
set_option maxHeartbeats 1600000 in
set_option maxRecDepth 100000 in
theorem eff_plan9 (x : Nat) (w : World) (hk : levR (rankB x) = 9) :
    Calls Try.prog 9 #[.float .f64 x] w fun e w' => e = .returned (planV 9) ∧ Below w.heap.size w w' := by
  have HL := Lib.hid (fun W => eff_level x W)
  rw [hk] at HL
  clear hk
  go_enter Try.func9, Try.ntmps9
  go_wp2_with fail
  refine (HL.out _).mono ?_
  rintro e w1 ⟨rfl, hw⟩
  subst hw
  go_wp2_with fail
  exact bodyPost_ret (v := .agg #[.bool false, .int .i64 1024, .bool true, .int .i64 258]) (by simp [results, Try.results9, go_sem]) rfl ⟨rfl, ((Below.refl _ _).alloc (Nat.le_refl _) _).alloc (by simp) _⟩
set_option maxHeartbeats 1600000 in
set_option maxRecDepth 100000 in
theorem ref_plan9 (x : Nat) (w : World) (hk : levR (rankB x) = 9) :
    Calls Try.prog 10 #[.float .f64 x] w fun e w' => e = .returned (planV 9) ∧ Below w.heap.size w w' := by
  have HL := Lib.hid (fun W => ref_level x W)
  rw [hk] at HL
  clear hk
  go_enter Try.func10, Try.ntmps10
  go_wp2_with fail
  refine (HL.out _).mono ?_
  rintro e w1 ⟨rfl, hw⟩
  subst hw
  go_wp2_with fail
  go_region
  all_goals go_wp2_with fail
  exact bodyPost_ret (v := .agg #[.bool false, .int .i64 1024, .bool true, .int .i64 258]) (by simp [results, Try.results10, go_sem]) rfl ⟨rfl, ((((Below.refl _ _).alloc (Nat.le_refl _) _).alloc (by simp) _).alloc (by simp; omega) _).drew⟩
theorem eff_plan (x : Nat) (w : World) : Calls Try.prog 9 #[.float .f64 x] w fun e w' => e = .returned (planV (levR (rankB x))) ∧ Below w.heap.size w w' := by
  have hl := levR_lt (rankB x)
  generalize hk : levR (rankB x) = k at *
  match k, hl with
  | 0, _ => exact eff_plan0 x w hk
  | 1, _ => exact eff_plan1 x w hk
  | 2, _ => exact eff_plan2 x w hk
  | 3, _ => exact eff_plan3 x w hk
  | 4, _ => exact eff_plan4 x w hk
  | 5, _ => exact eff_plan5 x w hk
  | 6, _ => exact eff_plan6 x w hk
  | 7, _ => exact eff_plan7 x w hk
  | 8, _ => exact eff_plan8 x w hk
  | 9, _ => exact eff_plan9 x w hk
  | k + 10, h => omega
theorem ref_plan (x : Nat) (w : World) : Calls Try.prog 10 #[.float .f64 x] w fun e w' => e = .returned (planV (levR (rankB x))) ∧ Below w.heap.size w w' := by
  have hl := levR_lt (rankB x)
  generalize hk : levR (rankB x) = k at *
  match k, hl with
  | 0, _ => exact ref_plan0 x w hk
  | 1, _ => exact ref_plan1 x w hk
  | 2, _ => exact ref_plan2 x w hk
  | 3, _ => exact ref_plan3 x w hk
  | 4, _ => exact ref_plan4 x w hk
  | 5, _ => exact ref_plan5 x w hk
  | 6, _ => exact ref_plan6 x w hk
  | 7, _ => exact ref_plan7 x w hk
  | 8, _ => exact ref_plan8 x w hk
  | 9, _ => exact ref_plan9 x w hk
  | k + 10, h => omega
end Go.Proofs.Ythiandempeabmaa
