import Derived.Test.YteknaaijlkenkaaZlU
namespace Go.Proofs.Yteknaaijlkenkaa
set_option linter.unusedVariables false
set_option linter.unusedSimpArgs false
open Go.RowKit Ieee

def zcnt (a i : Nat) : Nat := ((List.range i).filter (fun j => zok a j)).length
theorem zcnt_succ (a i : Nat) : zcnt a (i + 1) = zcnt a i + if zok a i then 1 else 0 := by
  unfold zcnt
  rw [List.range_succ, List.filter_append, List.length_append]
  cases h : zok a i <;> simp [h]
theorem zcnt_le (a : Nat) : ∀ i, zcnt a i ≤ i
  | 0 => Nat.le_refl _
  | i + 1 => by have := zcnt_le a i; rw [zcnt_succ]; split <;> omega
theorem zcnt_all : ∀ a : Fin 256, zcnt a.val 256 ≤ 8 ∧ (decide (0 < zcnt a.val 256) = (decide (a.val % 16 = 8) && decide (a.val / 16 ≤ 7))) := by decide +kernel
theorem and32i : ∀ a : Fin 256, bits .and .i64 (a.val : Int) 32 = ((a.val / 32 % 2 * 32 : Nat) : Int) := by decide +kernel
structure ZhRel (w : World) (a : Nat) (g : Nat) (v3 v4 : Value) (wr : World) : Prop where mk ::
  out_ : ∃ i : Nat, i ≤ 256 ∧ 256 ≤ g + i ∧ v4 = .int .i64 (i : Int) ∧ v3 = .int .i64 (zcnt a i : Nat) ∧ Below w.heap.size w wr
set_option maxHeartbeats 4000000 in
set_option maxRecDepth 100000 in
theorem zlibHeadsAll_walk (a' : Int) (w : World) (h00 : (Lit.int .u8 a').wf = true) :
    Calls Try.prog 4 #[.int .u8 a'] w fun e w' => e = .returned (.bool true) ∧ Below w.heap.size w w' := by
  obtain ⟨a, rfl⟩ : ∃ a : Nat, a' = (a : Int) := ⟨a'.toNat, by simp [Lit.wf, IntKind.min, IntKind.max, IntKind.bits, IntKind.signed] at h00; omega⟩
  have ha : a < 256 := by simp [Lit.wf, IntKind.min, IntKind.max, IntKind.bits, IntKind.signed] at h00; omega
  have hT := fun W => Lib.hid (told18 W)
  have hA := and15 ⟨a, ha⟩
  simp only at hA
  clear h00
  go_enter Try.func4, Try.ntmps4
  go_upto_block 0 with fail
  go_wp2_with fail
  go_loopg [3, 4] 256 (ZhRel w a)
  case atStart => exact ⟨⟨0, by omega, by omega, rfl, rfl, Below.refl _ _⟩⟩
  case round =>
    obtain ⟨i, hi, hg, rfl, rfl, hB⟩ := hrel.out_
    clear hrel
    rcases Nat.lt_or_ge i 256 with hlt | hge
    · have c1 : decide ((i : Int) < 256) = true := by simp; omega
      have hw : IntKind.u8.wrap (i : Int) = i := by rw [IntKind.wrap]; simp [IntKind.signed, IntKind.bits]; omega
      have hw' : (i : Int) % 256 = i := by omega
      have B4 := hB.alloc hB.size (.cells #[.int .u8 a, .int .u8 i, .int .u8 7] 5)
      have hbk := Blk.new wr 5 #[.int .u8 a, .int .u8 i, .int .u8 7]
      have CR := zlib_read wr.heap.size 0 3 [(a : Int), i, 7] a i ha hlt (by simp) _ (by simp) (by decide) (hbk.cell 0) (hbk.cell 1)
      have hcs := zcnt_succ a i
      have hcl := zcnt_le a i
      clear hbk
      cases hz : zok a i with
      | false =>
        rw [hz] at CR hcs
        have HC := Lib.hid hcs
        have CR := Lib.hid CR
        clear hcs hz
        go_wp2_with fail
        refine CR.out.mono ?_
        rintro e w5 ⟨rfl, hs5⟩
        have B5 := hs5.below_of B4 B4.size (fun _ _ c => c)
        go_wp2_with fail
        go_roundg (gk - 1)
        case measure => omega
        case rel => exact ⟨⟨i + 1, by omega, by omega, by go_num, by rw [HC.out]; rfl, B5⟩⟩
      | true =>
        rw [hz] at CR hcs
        have hz' : a % 16 = 8 ∧ a / 16 ≤ 7 ∧ (a * 256 + i) % 31 = 0 ∧ i / 32 % 2 = 0 := by simpa [zok] using hz
        obtain ⟨q3, q1, q4, q2⟩ := hz'
        have hI := and32i ⟨i, hlt⟩
        simp only at hI
        rw [q2] at hI
        have hI : bits .and .i64 (i : Int) 32 = 0 := hI
        rw [q3] at hA
        have hA : bits .and .u8 (a : Int) 15 = 8 := hA
        have hs : IntKind.i64.wrap ((a : Int) * 256) = (a : Int) * 256 := IntWalk.i64_in _ (by omega)
        have hs2 : IntKind.i64.wrap ((a : Int) * 256 + i) = (a : Int) * 256 + i := IntWalk.i64_in _ (by omega)
        have ht : ((a : Int) * 256 + i).tmod 31 = 0 := by rw [Int.tmod_eq_emod_of_nonneg (by omega)]; omega
        have ht2 : ((a : Int) * 256 + i) % 31 = 0 := by omega
        have HC := Lib.hid hcs
        clear hcs hz q2 q3 q4
        have hk : a / 16 = 0 ∨ a / 16 = 1 ∨ a / 16 = 2 ∨ a / 16 = 3 ∨ a / 16 = 4 ∨ a / 16 = 5 ∨ a / 16 = 6 ∨ a / 16 = 7 := by omega
        rcases hk with hk | hk | hk | hk | hk | hk | hk | hk
        · have f5 : (a : Int) / 16 = 0 := by omega
          rw [hk] at CR
          have CR := Lib.hid CR
          clear q1 hk
          go_wp2_with fail
          refine CR.out.mono ?_
          rintro e w5 ⟨rfl, hs5⟩
          have B5 := hs5.below_of B4 B4.size (fun _ _ c => c)
          go_wp2_with fail
          go_roundg (gk - 1)
          case measure => omega
          case rel => exact ⟨⟨i + 1, by omega, by omega, by go_num, by rw [HC.out]; rfl, B5⟩⟩
        · have f5 : (a : Int) / 16 = 1 := by omega
          rw [hk] at CR
          have CR := Lib.hid CR
          clear q1 hk
          go_wp2_with fail
          refine CR.out.mono ?_
          rintro e w5 ⟨rfl, hs5⟩
          have B5 := hs5.below_of B4 B4.size (fun _ _ c => c)
          go_wp2_with fail
          go_roundg (gk - 1)
          case measure => omega
          case rel => exact ⟨⟨i + 1, by omega, by omega, by go_num, by rw [HC.out]; rfl, B5⟩⟩
        · have f5 : (a : Int) / 16 = 2 := by omega
          rw [hk] at CR
          have CR := Lib.hid CR
          clear q1 hk
          go_wp2_with fail
          refine CR.out.mono ?_
          rintro e w5 ⟨rfl, hs5⟩
          have B5 := hs5.below_of B4 B4.size (fun _ _ c => c)
          go_wp2_with fail
          go_roundg (gk - 1)
          case measure => omega
          case rel => exact ⟨⟨i + 1, by omega, by omega, by go_num, by rw [HC.out]; rfl, B5⟩⟩
        · have f5 : (a : Int) / 16 = 3 := by omega
          rw [hk] at CR
          have CR := Lib.hid CR
          clear q1 hk
          go_wp2_with fail
          refine CR.out.mono ?_
          rintro e w5 ⟨rfl, hs5⟩
          have B5 := hs5.below_of B4 B4.size (fun _ _ c => c)
          go_wp2_with fail
          go_roundg (gk - 1)
          case measure => omega
          case rel => exact ⟨⟨i + 1, by omega, by omega, by go_num, by rw [HC.out]; rfl, B5⟩⟩
        · have f5 : (a : Int) / 16 = 4 := by omega
          rw [hk] at CR
          have CR := Lib.hid CR
          clear q1 hk
          go_wp2_with fail
          refine CR.out.mono ?_
          rintro e w5 ⟨rfl, hs5⟩
          have B5 := hs5.below_of B4 B4.size (fun _ _ c => c)
          go_wp2_with fail
          go_roundg (gk - 1)
          case measure => omega
          case rel => exact ⟨⟨i + 1, by omega, by omega, by go_num, by rw [HC.out]; rfl, B5⟩⟩
        · have f5 : (a : Int) / 16 = 5 := by omega
          rw [hk] at CR
          have CR := Lib.hid CR
          clear q1 hk
          go_wp2_with fail
          refine CR.out.mono ?_
          rintro e w5 ⟨rfl, hs5⟩
          have B5 := hs5.below_of B4 B4.size (fun _ _ c => c)
          go_wp2_with fail
          go_roundg (gk - 1)
          case measure => omega
          case rel => exact ⟨⟨i + 1, by omega, by omega, by go_num, by rw [HC.out]; rfl, B5⟩⟩
        · have f5 : (a : Int) / 16 = 6 := by omega
          rw [hk] at CR
          have CR := Lib.hid CR
          clear q1 hk
          go_wp2_with fail
          refine CR.out.mono ?_
          rintro e w5 ⟨rfl, hs5⟩
          have B5 := hs5.below_of B4 B4.size (fun _ _ c => c)
          go_wp2_with fail
          go_roundg (gk - 1)
          case measure => omega
          case rel => exact ⟨⟨i + 1, by omega, by omega, by go_num, by rw [HC.out]; rfl, B5⟩⟩
        · have f5 : (a : Int) / 16 = 7 := by omega
          rw [hk] at CR
          have CR := Lib.hid CR
          clear q1 hk
          go_wp2_with fail
          refine CR.out.mono ?_
          rintro e w5 ⟨rfl, hs5⟩
          have B5 := hs5.below_of B4 B4.size (fun _ _ c => c)
          go_wp2_with fail
          go_roundg (gk - 1)
          case measure => omega
          case rel => exact ⟨⟨i + 1, by omega, by omega, by go_num, by rw [HC.out]; rfl, B5⟩⟩
    · have : i = 256 := by omega
      subst this
      have c1 : decide (((256 : Nat) : Int) < 256) = false := by decide
      obtain ⟨h8, he⟩ := zcnt_all ⟨a, ha⟩
      simp only at h8 he
      have e8 : decide ((zcnt a 256 : Nat) ≤ (8 : Int)) = true := by simp; omega
      have e8' : decide (zcnt a 256 ≤ 8) = true := by simp; omega
      have hN : (0 < zcnt a 256 ↔ (a % 16 = 8 ∧ a / 16 ≤ 7)) := by rw [← decide_eq_true_iff (p := 0 < zcnt a 256), he, Bool.and_eq_true, decide_eq_true_eq, decide_eq_true_eq]
      clear he h8
      generalize zcnt a 256 = N at *
      by_cases g2 : a % 16 = 8
      · rw [g2] at hA
        have hA : bits .and .u8 (a : Int) 15 = 8 := hA
        by_cases g3 : a / 16 ≤ 7
        · have f2 : decide ((a : Int) / 16 ≤ 7) = true := by simp; omega
          have gN : 0 < N := hN.2 ⟨g2, g3⟩
          have e0 : decide ((0 : Int) < N) = true := by simp; omega
          have e0' : decide (0 < N) = true := by simp; omega
          clear hN gN g2 g3
          go_wp2_with fail
          refine (hT _).out.mono ?_
          rintro e w5 ⟨rfl, hb⟩
          go_wp2_with fail
          go_ret
          exact ⟨rfl, hB.trans (hb.mono hB.size)⟩
        · have f2 : decide ((a : Int) / 16 ≤ 7) = false := by simp; omega
          have gN : ¬ 0 < N := fun c => g3 (hN.1 c).2
          have e0 : decide ((0 : Int) < N) = false := by simp; omega
          have e0' : decide (0 < N) = false := by simp; omega
          clear hN gN g2 g3
          go_wp2_with fail
          refine (hT _).out.mono ?_
          rintro e w5 ⟨rfl, hb⟩
          go_wp2_with fail
          go_ret
          exact ⟨rfl, hB.trans (hb.mono hB.size)⟩
      · have f3 : ((a : Int) % 16 == 8) = false := by rw [beq_eq_false_iff_ne]; omega
        have gN : ¬ 0 < N := fun c => g2 (hN.1 c).1
        have e0 : decide ((0 : Int) < N) = false := by simp; omega
        have e0' : decide (0 < N) = false := by simp; omega
        clear hN gN g2
        go_wp2_with fail
        refine (hT _).out.mono ?_
        rintro e w5 ⟨rfl, hb⟩
        go_wp2_with fail
        go_ret
        exact ⟨rfl, hB.trans (hb.mono hB.size)⟩
end Go.Proofs.Yteknaaijlkenkaa
