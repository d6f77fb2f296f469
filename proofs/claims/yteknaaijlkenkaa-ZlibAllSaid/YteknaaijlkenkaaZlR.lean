import Derived.Test.YteknaaijlkenkaaAdl
namespace Go.Proofs.Yteknaaijlkenkaa
set_option linter.unusedVariables false
set_option linter.unusedSimpArgs false
open Go.RowKit

/-- A head: is it right? -/
def zok (a b : Nat) : Bool := decide (a % 16 = 8 ∧ a / 16 ≤ 7 ∧ (a * 256 + b) % 31 = 0 ∧ b / 32 % 2 = 0)
theorem and15 : ∀ a : Fin 256, bits .and .u8 (a.val : Int) 15 = ((a.val % 16 : Nat) : Int) := by decide +kernel
theorem and32 : ∀ a : Fin 256, bits .and .u8 (a.val : Int) 32 = ((a.val / 32 % 2 * 32 : Nat) : Int) := by decide +kernel
set_option maxHeartbeats 1600000 in
set_option maxRecDepth 100000 in
theorem zlib_read (bk o c : Nat) (l : List Int) (a b : Nat) (ha : a < 256) (hb : b < 256) (hl : 2 ≤ l.length) (w : World) (hcap : l.length ≤ c) (hm : c ≤ 9223372036854775807) (h0 : w.cell? ⟨bk, o, none⟩ = some (.int .u8 a)) (h1 : w.cell? ⟨bk, o + 1, none⟩ = some (.int .u8 b)) :
    Calls Try.prog 11 #[.slice (some ⟨bk, o, none⟩) l.length c] w fun e w' => e = .returned (if zok a b then .tuple #[.int .i64 (2 ^ (a / 16 + 8) : Nat), .int .i64 0] else .tuple #[.int .i64 0, .int .i64 2]) ∧ Same (fun _ => False) w w' := by
  have e1 : decide ((l.length : Int) < 2) = false := by simp; omega
  have hA := and15 ⟨a, ha⟩
  have hB := and32 ⟨b, hb⟩
  simp only at hA hB
  by_cases q1 : 7 < a / 16
  · have f1 : decide ((7 : Int) < (a : Int) / 16) = true := by simp; omega
    have f2 : decide ((a : Int) / 16 ≤ 7) = false := by simp; omega
    have hz : zok a b = false := by simp [zok]; omega
    have m0 : ∀ d : Ext (fun _ => False) w, d.world.cell? ⟨bk, o, none⟩ = some (.int .u8 a) := fun d => d.same.cell h0 (fun c => c)
    have m1 : ∀ d : Ext (fun _ => False) w, d.world.cell? ⟨bk, o + 1, none⟩ = some (.int .u8 b) := fun d => d.same.cell h1 (fun c => c)
    go_enter Try.func11, Try.ntmps11
    go_upto_region 8 with fail
    refine wp_region_ext (fun _ => False) (by kernel_rfl) (by kernel_rfl) ?_
    repeat (go_big_quiet_step (fail))
    refine wpQuiet_nil ?_
    rintro _ ⟨d, rfl⟩
    go_wp2_with fail
    all_goals
      go_ret2
      exact ⟨rfl, d.same⟩
  · have f1 : decide ((7 : Int) < (a : Int) / 16) = false := by simp; omega
    have f2 : decide ((a : Int) / 16 ≤ 7) = true := by simp; omega
    by_cases q2 : b / 32 % 2 = 0
    · rw [q2] at hB
      have hB : bits .and .u8 (b : Int) 32 = 0 := hB
      by_cases q3 : a % 16 = 8
      · rw [q3] at hA
        have hA : bits .and .u8 (a : Int) 15 = 8 := hA
        have hs : IntKind.i64.wrap ((a : Int) * 256) = (a : Int) * 256 := IntWalk.i64_in _ (by omega)
        have hs2 : IntKind.i64.wrap ((a : Int) * 256 + b) = (a : Int) * 256 + b := IntWalk.i64_in _ (by omega)
        have ht : ((a : Int) * 256 + b).tmod 31 = ((a : Int) * 256 + b) % 31 := Int.tmod_eq_emod_of_nonneg (by omega)
        by_cases q4 : (a * 256 + b) % 31 = 0
        · have f4 : ((a : Int) * 256 + b) % 31 = 0 := by omega
          have hz : zok a b = true := by simp [zok]; omega
          have hk : a / 16 = 0 ∨ a / 16 = 1 ∨ a / 16 = 2 ∨ a / 16 = 3 ∨ a / 16 = 4 ∨ a / 16 = 5 ∨ a / 16 = 6 ∨ a / 16 = 7 := by omega
          rcases hk with hk | hk | hk | hk | hk | hk | hk | hk
          · have f5 : (a : Int) / 16 = 0 := by omega
            rw [hk]
            clear q1 hk
            have m0 : ∀ d : Ext (fun _ => False) w, d.world.cell? ⟨bk, o, none⟩ = some (.int .u8 a) := fun d => d.same.cell h0 (fun c => c)
            have m1 : ∀ d : Ext (fun _ => False) w, d.world.cell? ⟨bk, o + 1, none⟩ = some (.int .u8 b) := fun d => d.same.cell h1 (fun c => c)
            go_enter Try.func11, Try.ntmps11
            go_upto_region 8 with fail
            refine wp_region_ext (fun _ => False) (by kernel_rfl) (by kernel_rfl) ?_
            repeat (go_big_quiet_step (fail))
            refine wpQuiet_nil ?_
            rintro _ ⟨d, rfl⟩
            go_wp2_with fail
            all_goals
              go_ret2
              exact ⟨rfl, d.same⟩
          · have f5 : (a : Int) / 16 = 1 := by omega
            rw [hk]
            clear q1 hk
            have m0 : ∀ d : Ext (fun _ => False) w, d.world.cell? ⟨bk, o, none⟩ = some (.int .u8 a) := fun d => d.same.cell h0 (fun c => c)
            have m1 : ∀ d : Ext (fun _ => False) w, d.world.cell? ⟨bk, o + 1, none⟩ = some (.int .u8 b) := fun d => d.same.cell h1 (fun c => c)
            go_enter Try.func11, Try.ntmps11
            go_upto_region 8 with fail
            refine wp_region_ext (fun _ => False) (by kernel_rfl) (by kernel_rfl) ?_
            repeat (go_big_quiet_step (fail))
            refine wpQuiet_nil ?_
            rintro _ ⟨d, rfl⟩
            go_wp2_with fail
            all_goals
              go_ret2
              exact ⟨rfl, d.same⟩
          · have f5 : (a : Int) / 16 = 2 := by omega
            rw [hk]
            clear q1 hk
            have m0 : ∀ d : Ext (fun _ => False) w, d.world.cell? ⟨bk, o, none⟩ = some (.int .u8 a) := fun d => d.same.cell h0 (fun c => c)
            have m1 : ∀ d : Ext (fun _ => False) w, d.world.cell? ⟨bk, o + 1, none⟩ = some (.int .u8 b) := fun d => d.same.cell h1 (fun c => c)
            go_enter Try.func11, Try.ntmps11
            go_upto_region 8 with fail
            refine wp_region_ext (fun _ => False) (by kernel_rfl) (by kernel_rfl) ?_
            repeat (go_big_quiet_step (fail))
            refine wpQuiet_nil ?_
            rintro _ ⟨d, rfl⟩
            go_wp2_with fail
            all_goals
              go_ret2
              exact ⟨rfl, d.same⟩
          · have f5 : (a : Int) / 16 = 3 := by omega
            rw [hk]
            clear q1 hk
            have m0 : ∀ d : Ext (fun _ => False) w, d.world.cell? ⟨bk, o, none⟩ = some (.int .u8 a) := fun d => d.same.cell h0 (fun c => c)
            have m1 : ∀ d : Ext (fun _ => False) w, d.world.cell? ⟨bk, o + 1, none⟩ = some (.int .u8 b) := fun d => d.same.cell h1 (fun c => c)
            go_enter Try.func11, Try.ntmps11
            go_upto_region 8 with fail
            refine wp_region_ext (fun _ => False) (by kernel_rfl) (by kernel_rfl) ?_
            repeat (go_big_quiet_step (fail))
            refine wpQuiet_nil ?_
            rintro _ ⟨d, rfl⟩
            go_wp2_with fail
            all_goals
              go_ret2
              exact ⟨rfl, d.same⟩
          · have f5 : (a : Int) / 16 = 4 := by omega
            rw [hk]
            clear q1 hk
            have m0 : ∀ d : Ext (fun _ => False) w, d.world.cell? ⟨bk, o, none⟩ = some (.int .u8 a) := fun d => d.same.cell h0 (fun c => c)
            have m1 : ∀ d : Ext (fun _ => False) w, d.world.cell? ⟨bk, o + 1, none⟩ = some (.int .u8 b) := fun d => d.same.cell h1 (fun c => c)
            go_enter Try.func11, Try.ntmps11
            go_upto_region 8 with fail
            refine wp_region_ext (fun _ => False) (by kernel_rfl) (by kernel_rfl) ?_
            repeat (go_big_quiet_step (fail))
            refine wpQuiet_nil ?_
            rintro _ ⟨d, rfl⟩
            go_wp2_with fail
            all_goals
              go_ret2
              exact ⟨rfl, d.same⟩
          · have f5 : (a : Int) / 16 = 5 := by omega
            rw [hk]
            clear q1 hk
            have m0 : ∀ d : Ext (fun _ => False) w, d.world.cell? ⟨bk, o, none⟩ = some (.int .u8 a) := fun d => d.same.cell h0 (fun c => c)
            have m1 : ∀ d : Ext (fun _ => False) w, d.world.cell? ⟨bk, o + 1, none⟩ = some (.int .u8 b) := fun d => d.same.cell h1 (fun c => c)
            go_enter Try.func11, Try.ntmps11
            go_upto_region 8 with fail
            refine wp_region_ext (fun _ => False) (by kernel_rfl) (by kernel_rfl) ?_
            repeat (go_big_quiet_step (fail))
            refine wpQuiet_nil ?_
            rintro _ ⟨d, rfl⟩
            go_wp2_with fail
            all_goals
              go_ret2
              exact ⟨rfl, d.same⟩
          · have f5 : (a : Int) / 16 = 6 := by omega
            rw [hk]
            clear q1 hk
            have m0 : ∀ d : Ext (fun _ => False) w, d.world.cell? ⟨bk, o, none⟩ = some (.int .u8 a) := fun d => d.same.cell h0 (fun c => c)
            have m1 : ∀ d : Ext (fun _ => False) w, d.world.cell? ⟨bk, o + 1, none⟩ = some (.int .u8 b) := fun d => d.same.cell h1 (fun c => c)
            go_enter Try.func11, Try.ntmps11
            go_upto_region 8 with fail
            refine wp_region_ext (fun _ => False) (by kernel_rfl) (by kernel_rfl) ?_
            repeat (go_big_quiet_step (fail))
            refine wpQuiet_nil ?_
            rintro _ ⟨d, rfl⟩
            go_wp2_with fail
            all_goals
              go_ret2
              exact ⟨rfl, d.same⟩
          · have f5 : (a : Int) / 16 = 7 := by omega
            rw [hk]
            clear q1 hk
            have m0 : ∀ d : Ext (fun _ => False) w, d.world.cell? ⟨bk, o, none⟩ = some (.int .u8 a) := fun d => d.same.cell h0 (fun c => c)
            have m1 : ∀ d : Ext (fun _ => False) w, d.world.cell? ⟨bk, o + 1, none⟩ = some (.int .u8 b) := fun d => d.same.cell h1 (fun c => c)
            go_enter Try.func11, Try.ntmps11
            go_upto_region 8 with fail
            refine wp_region_ext (fun _ => False) (by kernel_rfl) (by kernel_rfl) ?_
            repeat (go_big_quiet_step (fail))
            refine wpQuiet_nil ?_
            rintro _ ⟨d, rfl⟩
            go_wp2_with fail
            all_goals
              go_ret2
              exact ⟨rfl, d.same⟩
        · have f4 : (((a : Int) * 256 + b) % 31 == 0) = false := by rw [beq_eq_false_iff_ne]; omega
          have hz : zok a b = false := by simp [zok]; omega
          have m0 : ∀ d : Ext (fun _ => False) w, d.world.cell? ⟨bk, o, none⟩ = some (.int .u8 a) := fun d => d.same.cell h0 (fun c => c)
          have m1 : ∀ d : Ext (fun _ => False) w, d.world.cell? ⟨bk, o + 1, none⟩ = some (.int .u8 b) := fun d => d.same.cell h1 (fun c => c)
          go_enter Try.func11, Try.ntmps11
          go_upto_region 8 with fail
          refine wp_region_ext (fun _ => False) (by kernel_rfl) (by kernel_rfl) ?_
          repeat (go_big_quiet_step (fail))
          refine wpQuiet_nil ?_
          rintro _ ⟨d, rfl⟩
          go_wp2_with fail
          all_goals
            go_ret2
            exact ⟨rfl, d.same⟩
      · have f3 : ((a : Int) % 16 == 8) = false := by rw [beq_eq_false_iff_ne]; omega
        have hz : zok a b = false := by simp [zok]; omega
        have m0 : ∀ d : Ext (fun _ => False) w, d.world.cell? ⟨bk, o, none⟩ = some (.int .u8 a) := fun d => d.same.cell h0 (fun c => c)
        have m1 : ∀ d : Ext (fun _ => False) w, d.world.cell? ⟨bk, o + 1, none⟩ = some (.int .u8 b) := fun d => d.same.cell h1 (fun c => c)
        go_enter Try.func11, Try.ntmps11
        go_upto_region 8 with fail
        refine wp_region_ext (fun _ => False) (by kernel_rfl) (by kernel_rfl) ?_
        repeat (go_big_quiet_step (fail))
        refine wpQuiet_nil ?_
        rintro _ ⟨d, rfl⟩
        go_wp2_with fail
        all_goals
          go_ret2
          exact ⟨rfl, d.same⟩
    · rw [show b / 32 % 2 = 1 from by omega] at hB
      have hB : bits .and .u8 (b : Int) 32 = 32 := hB
      have hz : zok a b = false := by simp [zok]; omega
      have m0 : ∀ d : Ext (fun _ => False) w, d.world.cell? ⟨bk, o, none⟩ = some (.int .u8 a) := fun d => d.same.cell h0 (fun c => c)
      have m1 : ∀ d : Ext (fun _ => False) w, d.world.cell? ⟨bk, o + 1, none⟩ = some (.int .u8 b) := fun d => d.same.cell h1 (fun c => c)
      go_enter Try.func11, Try.ntmps11
      go_upto_region 8 with fail
      refine wp_region_ext (fun _ => False) (by kernel_rfl) (by kernel_rfl) ?_
      repeat (go_big_quiet_step (fail))
      refine wpQuiet_nil ?_
      rintro _ ⟨d, rfl⟩
      go_wp2_with fail
      all_goals
        go_ret2
        exact ⟨rfl, d.same⟩
set_option maxHeartbeats 1600000 in
set_option maxRecDepth 100000 in
theorem ref_readz (bk o c : Nat) (l : List Int) (a b : Nat) (ha : a < 256) (hb : b < 256) (hl : 2 ≤ l.length) (w : World) (hcap : l.length ≤ c) (hm : c ≤ 9223372036854775807) (h0 : w.cell? ⟨bk, o, none⟩ = some (.int .u8 a)) (h1 : w.cell? ⟨bk, o + 1, none⟩ = some (.int .u8 b)) :
    Calls Try.prog 18 #[.slice (some ⟨bk, o, none⟩) l.length c] w fun e w' => e = .returned (if zok a b then .tuple #[.int .i64 (2 ^ (a / 16 + 8) : Nat), .int .i64 0] else .tuple #[.int .i64 0, .int .i64 2]) ∧ Same (fun _ => False) w w' := by
  have e1 : decide ((l.length : Int) < 2) = false := by simp; omega
  have hA := and15 ⟨a, ha⟩
  have hB := and32 ⟨b, hb⟩
  simp only at hA hB
  have hs : IntKind.i64.wrap ((a : Int) * 256) = (a : Int) * 256 := IntWalk.i64_in _ (by omega)
  have hs2 : IntKind.i64.wrap ((a : Int) * 256 + b) = (a : Int) * 256 + b := IntWalk.i64_in _ (by omega)
  have ht : ((a : Int) * 256 + b).tmod 31 = ((a : Int) * 256 + b) % 31 := Int.tmod_eq_emod_of_nonneg (by omega)
  by_cases q3 : a % 16 = 8
  · rw [q3] at hA
    have hA : bits .and .u8 (a : Int) 15 = 8 := hA
    by_cases q1 : 7 < a / 16
    · have f1 : decide ((7 : Int) < (a : Int) / 16) = true := by simp; omega
      have hz : zok a b = false := by simp [zok]; omega
      clear q1 q3
      have m0 : ∀ d : Ext (fun _ => False) w, d.world.cell? ⟨bk, o, none⟩ = some (.int .u8 a) := fun d => d.same.cell h0 (fun c => c)
      have m1 : ∀ d : Ext (fun _ => False) w, d.world.cell? ⟨bk, o + 1, none⟩ = some (.int .u8 b) := fun d => d.same.cell h1 (fun c => c)
      go_enter Try.func18, Try.ntmps18
      go_upto_region 3 with fail
      refine wp_region_ext (fun _ => False) (by kernel_rfl) (by kernel_rfl) ?_
      repeat (go_big_quiet_step (fail))
      refine wpQuiet_nil ?_
      rintro _ ⟨d, rfl⟩
      go_wp2_with fail
      all_goals
        go_ret2
        exact ⟨rfl, d.same⟩
    · have f1 : decide ((7 : Int) < (a : Int) / 16) = false := by simp; omega
      by_cases q4 : (a * 256 + b) % 31 = 0
      · have f4 : ((a : Int) * 256 + b) % 31 = 0 := by omega
        by_cases q2 : b / 32 % 2 = 0
        · rw [q2] at hB
          have hB : bits .and .u8 (b : Int) 32 = 0 := hB
          have hz : zok a b = true := by simp [zok]; omega
          have hk : a / 16 = 0 ∨ a / 16 = 1 ∨ a / 16 = 2 ∨ a / 16 = 3 ∨ a / 16 = 4 ∨ a / 16 = 5 ∨ a / 16 = 6 ∨ a / 16 = 7 := by omega
          clear q2 q3 q4
          rcases hk with hk | hk | hk | hk | hk | hk | hk | hk
          · have f5 : (a : Int) / 16 = 0 := by omega
            rw [hk]
            clear q1 hk
            have m0 : ∀ d : Ext (fun _ => False) w, d.world.cell? ⟨bk, o, none⟩ = some (.int .u8 a) := fun d => d.same.cell h0 (fun c => c)
            have m1 : ∀ d : Ext (fun _ => False) w, d.world.cell? ⟨bk, o + 1, none⟩ = some (.int .u8 b) := fun d => d.same.cell h1 (fun c => c)
            go_enter Try.func18, Try.ntmps18
            go_upto_region 3 with fail
            refine wp_region_ext (fun _ => False) (by kernel_rfl) (by kernel_rfl) ?_
            repeat (go_big_quiet_step (fail))
            refine wpQuiet_nil ?_
            rintro _ ⟨d, rfl⟩
            go_wp2_with fail
            all_goals
              go_ret2
              exact ⟨rfl, d.same⟩
          · have f5 : (a : Int) / 16 = 1 := by omega
            rw [hk]
            clear q1 hk
            have m0 : ∀ d : Ext (fun _ => False) w, d.world.cell? ⟨bk, o, none⟩ = some (.int .u8 a) := fun d => d.same.cell h0 (fun c => c)
            have m1 : ∀ d : Ext (fun _ => False) w, d.world.cell? ⟨bk, o + 1, none⟩ = some (.int .u8 b) := fun d => d.same.cell h1 (fun c => c)
            go_enter Try.func18, Try.ntmps18
            go_upto_region 3 with fail
            refine wp_region_ext (fun _ => False) (by kernel_rfl) (by kernel_rfl) ?_
            repeat (go_big_quiet_step (fail))
            refine wpQuiet_nil ?_
            rintro _ ⟨d, rfl⟩
            go_wp2_with fail
            all_goals
              go_ret2
              exact ⟨rfl, d.same⟩
          · have f5 : (a : Int) / 16 = 2 := by omega
            rw [hk]
            clear q1 hk
            have m0 : ∀ d : Ext (fun _ => False) w, d.world.cell? ⟨bk, o, none⟩ = some (.int .u8 a) := fun d => d.same.cell h0 (fun c => c)
            have m1 : ∀ d : Ext (fun _ => False) w, d.world.cell? ⟨bk, o + 1, none⟩ = some (.int .u8 b) := fun d => d.same.cell h1 (fun c => c)
            go_enter Try.func18, Try.ntmps18
            go_upto_region 3 with fail
            refine wp_region_ext (fun _ => False) (by kernel_rfl) (by kernel_rfl) ?_
            repeat (go_big_quiet_step (fail))
            refine wpQuiet_nil ?_
            rintro _ ⟨d, rfl⟩
            go_wp2_with fail
            all_goals
              go_ret2
              exact ⟨rfl, d.same⟩
          · have f5 : (a : Int) / 16 = 3 := by omega
            rw [hk]
            clear q1 hk
            have m0 : ∀ d : Ext (fun _ => False) w, d.world.cell? ⟨bk, o, none⟩ = some (.int .u8 a) := fun d => d.same.cell h0 (fun c => c)
            have m1 : ∀ d : Ext (fun _ => False) w, d.world.cell? ⟨bk, o + 1, none⟩ = some (.int .u8 b) := fun d => d.same.cell h1 (fun c => c)
            go_enter Try.func18, Try.ntmps18
            go_upto_region 3 with fail
            refine wp_region_ext (fun _ => False) (by kernel_rfl) (by kernel_rfl) ?_
            repeat (go_big_quiet_step (fail))
            refine wpQuiet_nil ?_
            rintro _ ⟨d, rfl⟩
            go_wp2_with fail
            all_goals
              go_ret2
              exact ⟨rfl, d.same⟩
          · have f5 : (a : Int) / 16 = 4 := by omega
            rw [hk]
            clear q1 hk
            have m0 : ∀ d : Ext (fun _ => False) w, d.world.cell? ⟨bk, o, none⟩ = some (.int .u8 a) := fun d => d.same.cell h0 (fun c => c)
            have m1 : ∀ d : Ext (fun _ => False) w, d.world.cell? ⟨bk, o + 1, none⟩ = some (.int .u8 b) := fun d => d.same.cell h1 (fun c => c)
            go_enter Try.func18, Try.ntmps18
            go_upto_region 3 with fail
            refine wp_region_ext (fun _ => False) (by kernel_rfl) (by kernel_rfl) ?_
            repeat (go_big_quiet_step (fail))
            refine wpQuiet_nil ?_
            rintro _ ⟨d, rfl⟩
            go_wp2_with fail
            all_goals
              go_ret2
              exact ⟨rfl, d.same⟩
          · have f5 : (a : Int) / 16 = 5 := by omega
            rw [hk]
            clear q1 hk
            have m0 : ∀ d : Ext (fun _ => False) w, d.world.cell? ⟨bk, o, none⟩ = some (.int .u8 a) := fun d => d.same.cell h0 (fun c => c)
            have m1 : ∀ d : Ext (fun _ => False) w, d.world.cell? ⟨bk, o + 1, none⟩ = some (.int .u8 b) := fun d => d.same.cell h1 (fun c => c)
            go_enter Try.func18, Try.ntmps18
            go_upto_region 3 with fail
            refine wp_region_ext (fun _ => False) (by kernel_rfl) (by kernel_rfl) ?_
            repeat (go_big_quiet_step (fail))
            refine wpQuiet_nil ?_
            rintro _ ⟨d, rfl⟩
            go_wp2_with fail
            all_goals
              go_ret2
              exact ⟨rfl, d.same⟩
          · have f5 : (a : Int) / 16 = 6 := by omega
            rw [hk]
            clear q1 hk
            have m0 : ∀ d : Ext (fun _ => False) w, d.world.cell? ⟨bk, o, none⟩ = some (.int .u8 a) := fun d => d.same.cell h0 (fun c => c)
            have m1 : ∀ d : Ext (fun _ => False) w, d.world.cell? ⟨bk, o + 1, none⟩ = some (.int .u8 b) := fun d => d.same.cell h1 (fun c => c)
            go_enter Try.func18, Try.ntmps18
            go_upto_region 3 with fail
            refine wp_region_ext (fun _ => False) (by kernel_rfl) (by kernel_rfl) ?_
            repeat (go_big_quiet_step (fail))
            refine wpQuiet_nil ?_
            rintro _ ⟨d, rfl⟩
            go_wp2_with fail
            all_goals
              go_ret2
              exact ⟨rfl, d.same⟩
          · have f5 : (a : Int) / 16 = 7 := by omega
            rw [hk]
            clear q1 hk
            have m0 : ∀ d : Ext (fun _ => False) w, d.world.cell? ⟨bk, o, none⟩ = some (.int .u8 a) := fun d => d.same.cell h0 (fun c => c)
            have m1 : ∀ d : Ext (fun _ => False) w, d.world.cell? ⟨bk, o + 1, none⟩ = some (.int .u8 b) := fun d => d.same.cell h1 (fun c => c)
            go_enter Try.func18, Try.ntmps18
            go_upto_region 3 with fail
            refine wp_region_ext (fun _ => False) (by kernel_rfl) (by kernel_rfl) ?_
            repeat (go_big_quiet_step (fail))
            refine wpQuiet_nil ?_
            rintro _ ⟨d, rfl⟩
            go_wp2_with fail
            all_goals
              go_ret2
              exact ⟨rfl, d.same⟩
        · rw [show b / 32 % 2 = 1 from by omega] at hB
          have hB : bits .and .u8 (b : Int) 32 = 32 := hB
          have hz : zok a b = false := by simp [zok]; omega
          clear q1 q2 q3 q4
          have m0 : ∀ d : Ext (fun _ => False) w, d.world.cell? ⟨bk, o, none⟩ = some (.int .u8 a) := fun d => d.same.cell h0 (fun c => c)
          have m1 : ∀ d : Ext (fun _ => False) w, d.world.cell? ⟨bk, o + 1, none⟩ = some (.int .u8 b) := fun d => d.same.cell h1 (fun c => c)
          go_enter Try.func18, Try.ntmps18
          go_upto_region 3 with fail
          refine wp_region_ext (fun _ => False) (by kernel_rfl) (by kernel_rfl) ?_
          repeat (go_big_quiet_step (fail))
          refine wpQuiet_nil ?_
          rintro _ ⟨d, rfl⟩
          go_wp2_with fail
          all_goals
            go_ret2
            exact ⟨rfl, d.same⟩
      · have f4 : (((a : Int) * 256 + b) % 31 == 0) = false := by rw [beq_eq_false_iff_ne]; omega
        have f4' : (((a : Int) * 256 + b) % 31 != 0) = true := by rw [bne_iff_ne]; omega
        have hz : zok a b = false := by simp [zok]; omega
        clear q1 q3 q4
        have m0 : ∀ d : Ext (fun _ => False) w, d.world.cell? ⟨bk, o, none⟩ = some (.int .u8 a) := fun d => d.same.cell h0 (fun c => c)
        have m1 : ∀ d : Ext (fun _ => False) w, d.world.cell? ⟨bk, o + 1, none⟩ = some (.int .u8 b) := fun d => d.same.cell h1 (fun c => c)
        go_enter Try.func18, Try.ntmps18
        go_upto_region 3 with fail
        refine wp_region_ext (fun _ => False) (by kernel_rfl) (by kernel_rfl) ?_
        repeat (go_big_quiet_step (fail))
        refine wpQuiet_nil ?_
        rintro _ ⟨d, rfl⟩
        go_wp2_with fail
        all_goals
          go_ret2
          exact ⟨rfl, d.same⟩
  · have f3 : ((a : Int) % 16 == 8) = false := by rw [beq_eq_false_iff_ne]; omega
    have f3' : ((a : Int) % 16 != 8) = true := by rw [bne_iff_ne]; omega
    have hz : zok a b = false := by simp [zok]; omega
    clear q3
    have m0 : ∀ d : Ext (fun _ => False) w, d.world.cell? ⟨bk, o, none⟩ = some (.int .u8 a) := fun d => d.same.cell h0 (fun c => c)
    have m1 : ∀ d : Ext (fun _ => False) w, d.world.cell? ⟨bk, o + 1, none⟩ = some (.int .u8 b) := fun d => d.same.cell h1 (fun c => c)
    go_enter Try.func18, Try.ntmps18
    go_upto_region 3 with fail
    refine wp_region_ext (fun _ => False) (by kernel_rfl) (by kernel_rfl) ?_
    repeat (go_big_quiet_step (fail))
    refine wpQuiet_nil ?_
    rintro _ ⟨d, rfl⟩
    go_wp2_with fail
    all_goals
      go_ret2
      exact ⟨rfl, d.same⟩
end Go.Proofs.Yteknaaijlkenkaa
