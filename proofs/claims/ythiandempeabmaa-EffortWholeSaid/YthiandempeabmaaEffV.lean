import Derived.Test.YthiandempeabmaaEffT
import Derived.Test.YthiandempeabmaaEffW
import Derived.Deep.Cut
import Derived.Deep.DeepCutAuto
import Derived.Deep.CutBlock
namespace Go.Proofs.Ythiandempeabmaa
set_option linter.unusedVariables false
set_option linter.unusedSimpArgs false
open Go.RowKit
attribute [local go_sem] buildP0 eqPlan fieldP0 fieldP1

@[local go_sem] theorem neg_run (x : Nat) (w : World) : (Op.unary .neg (.float .f64 x)).run Try.prog w = .ok (.float .f64 (Op.negFloat .f64 x)) w := rfl
theorem inf_bits : FloatKind.f64.format.div 4607182418800017408 0 = some 9218868437227405312 := by decide +kernel
theorem inf_rank : nanB 9218868437227405312 = false ∧ rankB 9218868437227405312 = (bigN : Int) := by
  have e : Ieee.double.read 9218868437227405312 = .infinity false := by decide +kernel
  exact ⟨by unfold nanB; rw [e]; rfl, by unfold rankB; rw [e]; rfl⟩
theorem lev_between {r : Int} {k : Nat} (hk : k < 10) (h1 : ((k * unitN : Nat) : Int) ≤ r) (h2 : r < (((k + 1) * unitN : Nat) : Int)) : levR r = k := by
  have hu := unit_pos
  rw [Nat.add_mul, Nat.one_mul] at h2
  unfold levR
  by_cases h0 : k = 0
  · subst h0
    rw [if_pos (by omega)]
  · have h3 : 1 * unitN ≤ k * unitN := Nat.mul_le_mul_right _ (by omega)
    rw [if_neg (by omega)]
    by_cases h9 : k = 9
    · subst h9
      rw [if_pos (by omega)]
    · have h4 : (k + 1) * unitN ≤ 9 * unitN := Nat.mul_le_mul_right _ (by omega)
      rw [Nat.add_mul, Nat.one_mul] at h4
      rw [if_neg (by omega)]
      have : r / unitN = k := by
        have e1 : r = (k : Int) * unitN + (r - (k : Int) * unitN) := by omega
        have h6 : ((k * unitN : Nat) : Int) = (k : Int) * unitN := Int.natCast_mul _ _
        have h7 : r < (k : Int) * unitN + unitN := by rw [Int.natCast_add, h6] at h2; exact h2
        rw [h6] at h1
        rw [e1, Int.add_comm, Int.add_mul_ediv_right _ _ (by omega), Int.ediv_eq_zero_of_lt (by omega) (by omega)]
        omega
      rw [this]; rfl
theorem order_cases {x y : Nat} (hx : nanB x = false) (hy : nanB y = false) :
    (FloatKind.f64.format.order x y = some .lt ∧ rankB x < rankB y) ∨ (FloatKind.f64.format.order x y = some .eq ∧ rankB x = rankB y) ∨ (FloatKind.f64.format.order x y = some .gt ∧ rankB y < rankB x) := by
  rw [order_bits hx hy]
  rcases Int.lt_trichotomy (rankB x) (rankB y) with h | h | h
  · exact .inl ⟨by rw [cmp_lt h], h⟩
  · exact .inr (.inl ⟨by rw [h, cmp_eq], h⟩)
  · exact .inr (.inr ⟨by rw [cmp_gt h], h⟩)
theorem order_nan2 {x y : Nat} (hx : nanB x = true) : FloatKind.f64.format.order x y = none := by
  unfold nanB Ieee.Datum.isNaN at hx
  show (Ieee.double.read x).order (Ieee.double.read y) = none
  generalize Ieee.double.read x = d at *
  generalize Ieee.double.read y = e at *
  cases d <;> simp at hx ⊢
  rfl

structure PartOk (v1 : Value) : Prop where mk ::
  out_ : ∃ q, v1 = .float .f64 q ∧ nanB q = false ∧ 0 ≤ rankB q ∧ rankB q < unitN
structure XOk (k : Nat) (v6 : Value) : Prop where mk ::
  out_ : ∃ x, v6 = .float .f64 x ∧ nanB x = false ∧ ((k * unitN : Nat) : Int) ≤ rankB x ∧ rankB x < (((k + 1) * unitN : Nat) : Int)
structure CondOk (p : Nat) (v18 : Value) : Prop where mk ::
  out_ : v18 = .bool true ∨ (v18 = .bool false ∧ nanB p = false ∧ 0 ≤ rankB p ∧ rankB p < unitN)
theorem lev_inf : levR (bigN : Int) = 9 := by
  have h := big_32
  have hu := unit_pos
  unfold levR
  rw [if_neg (by omega), if_pos (by omega)]
theorem lev_neg {r : Int} (h : r ≤ 0) : levR r = 0 := by
  have hu := unit_pos
  unfold levR
  rw [if_pos (by omega)]
set_option maxHeartbeats 1600000 in
set_option maxRecDepth 100000 in
theorem effortWhole_walk (n : Int) (p : Nat) (w : World) (h00 : (Lit.int .i64 n).wf = true) (h01 : (Lit.float .f64 p).wf = true) :
    Calls Try.prog 5 #[.int .i64 n, .float .f64 p] w fun e w' => e = .returned (.bool true) ∧ Below w.heap.size w w' := by
  have hu := unit_pos
  obtain ⟨D, hD, eD⟩ := uint_rem n 10 (by omega) (by omega)
  rw [show ((10 : Nat) : Int) = 10 from rfl] at eD
  have ED := Lib.hid eD
  clear eD
  go_enter Try.func5, Try.ntmps5
  go_upto_region 2 with fail
  rw [ED.out]
  go_cut [18] (fun v18 wx => CondOk p v18 ∧ w = wx)
  case first =>
    by_cases hn : nanB p = true
    · have h1 := order_nan2 (y := 0) hn
      go_wp2_with fail
      go_meet
      exact ⟨⟨.inl rfl⟩, rfl⟩
    · have hn : nanB p = false := by simpa using hn
      rcases order_cases hn rank_zero.1 with ⟨h1, r1⟩ | ⟨h1, r1⟩ | ⟨h1, r1⟩
      · skip
        go_wp2_with fail
        go_meet
        exact ⟨⟨.inl rfl⟩, rfl⟩
      · rw [rank_zero.2] at r1
        rcases order_cases hn rank_one.1 with ⟨h2, r2⟩ | ⟨h2, r2⟩ | ⟨h2, r2⟩
        · rw [rank_one.2] at r2
          have HP := Lib.hid r1
          clear r1
          go_wp2_with fail
          go_meet
          exact ⟨⟨.inr ⟨rfl, hn, by have := HP.out; omega, r2⟩⟩, rfl⟩
        · clear r1 r2
          go_wp2_with fail
          go_meet
          exact ⟨⟨.inl rfl⟩, rfl⟩
        · clear r1 r2
          go_wp2_with fail
          go_meet
          exact ⟨⟨.inl rfl⟩, rfl⟩
      · rw [rank_zero.2] at r1
        rcases order_cases hn rank_one.1 with ⟨h2, r2⟩ | ⟨h2, r2⟩ | ⟨h2, r2⟩
        · rw [rank_one.2] at r2
          go_wp2_with fail
          go_meet
          exact ⟨⟨.inr ⟨rfl, hn, by omega, r2⟩⟩, rfl⟩
        · clear r1 r2
          go_wp2_with fail
          go_meet
          exact ⟨⟨.inl rfl⟩, rfl⟩
        · clear r1 r2
          go_wp2_with fail
          go_meet
          exact ⟨⟨.inl rfl⟩, rfl⟩
  case rest =>
   obtain ⟨⟨hcond⟩, rfl⟩ := hcut
   have HC := Lib.hid hcond
   clear hcond
   go_upto_if 18 with fail
   go_cut [1] (fun v1 wx => PartOk v1 ∧ w = wx)
   case first =>
    rcases HC.out with rfl | ⟨rfl, a, b, c⟩
    · go_wp2_with fail
      go_meet
      exact ⟨⟨0, rfl, rank_zero.1, by rw [rank_zero.2]; omega, by rw [rank_zero.2]; omega⟩, rfl⟩
    · go_wp2_with fail
      go_meet
      exact ⟨⟨p, rfl, a, b, c⟩, rfl⟩
   case rest =>
    obtain ⟨⟨q, rfl, hq, q0, q1⟩, rfl⟩ := hcut
    obtain ⟨n1, n2⟩ := rank_int D (by omega)
    obtain ⟨n3, n4⟩ := rank_int (D + 1) (by omega)
    have hDu : D * unitN ≤ 9 * unitN := Nat.mul_le_mul_right _ (by omega)
    have hD1 : (D + 1) * unitN = D * unitN + unitN := by rw [Nat.add_mul, Nat.one_mul]
    obtain ⟨r, hadd, hr, r0, hround⟩ := add_ok n1 hq (by rw [n2]; omega) q0 (by rw [n2]; omega)
    have hrlo := (hround D).1 (by rw [n2]; omega)
    have hrhi := (hround (D + 1)).2 (by rw [n2]; omega)
    have hrun := fun W => run_float_arith (P := Try.prog) W .add 22 .f64 (floatOfInt .f64 (D : Int)) q r hadd
    have hc1 : ((D + 1 : Nat) : Int) = (D : Int) + 1 := by omega
    rw [hc1] at n3 n4
    have hsubr := fun W => run_float_arith (P := Try.prog) W .sub 22 .f64 q q 0 (sub_self hq (by have := big_32; omega) (by have := big_32; omega))
    have hdivr := fun W => run_float_arith (P := Try.prog) W .quo 22 .f64 4607182418800017408 0 9218868437227405312 inf_bits
    have HLI := Lib.hid (show levR (rankB 9218868437227405312) = 9 from by rw [inf_rank.2]; exact lev_inf)
    have HLJ := Lib.hid (show levR (rankB (Op.negFloat .f64 9218868437227405312)) = 0 from lev_neg (by rw [(neg_rank _ inf_rank.1).2, inf_rank.2]; omega))
    clear hround hadd
    rcases order_cases hr n3 with ⟨h1, r1⟩ | ⟨h1, r1⟩ | ⟨h1, r1⟩
    · rw [n4] at r1
      have HLX := Lib.hid (lev_between hD hrlo r1)
      obtain ⟨hng, hngr⟩ := neg_rank r hr
      have HLN := Lib.hid (lev_neg (r := rankB (Op.negFloat .f64 r)) (by rw [hngr]; omega))
      obtain ⟨r9, h9add, h9n, h90, h9r⟩ := add_ok rank_nine.1 hr (by rw [rank_nine.2]; omega) (by omega) (by rw [rank_nine.2]; omega)
      have h9lo := (h9r 9).1 (by rw [rank_nine.2]; omega)
      have HL9 := Lib.hid (show levR (rankB r9) = 9 from by
        have hc2 : ¬ rankB r9 < unitN := by omega
        unfold levR
        rw [if_neg hc2, if_pos (by omega)])
      have hrun9 := fun W => run_float_arith (P := Try.prog) W .add 22 .f64 4621256167635550208 r r9 h9add
      clear hng hngr h9add h9n h90 h9r h9lo
      go_wp2_with fail
      refine (told15 _).mono ?_
      rintro e w1 ⟨rfl, hb1⟩
      go_wp2_with fail
      refine (eff_level r _).mono ?_
      rintro e w2 ⟨rfl, hw⟩
      rw [HLX.out]
      subst hw
      have ek : ((D : Int) == D) = true := by simp
      go_wp2_with fail
      refine (eff_level 9218868437227405312 _).mono ?_
      rintro e w3 ⟨rfl, hw⟩
      rw [HLI.out]
      subst hw
      go_wp2_with fail
      refine (eff_level (Op.negFloat .f64 9218868437227405312) _).mono ?_
      rintro e w3 ⟨rfl, hw⟩
      rw [HLJ.out]
      subst hw
      go_wp2_with fail
      refine (eff_level (Op.negFloat .f64 r) _).mono ?_
      rintro e w3 ⟨rfl, hw⟩
      rw [HLN.out]
      subst hw
      go_wp2_with fail
      refine (eff_level r9 _).mono ?_
      rintro e w3 ⟨rfl, hw⟩
      rw [HL9.out]
      subst hw
      go_wp2_with fail
      refine (eff_plan r _).mono ?_
      rintro e w4 ⟨rfl, hb4⟩
      rw [HLX.out]
      have hb5 := hb1.trans (hb4.mono hb1.size)
      have eb : ((D == 0) == ((D : Int) == 0)) = true := by
        by_cases h0 : D = 0
        · subst h0; rfl
        · have e1 : (D == 0) = false := by simpa using h0
          have e2 : ((D : Int) == 0) = false := by rw [beq_eq_false_iff_ne]; omega
          rw [e1, e2]; rfl
      unfold planV
      generalize (D == 0) = za at *
      generalize chainN D = cn at *
      generalize goodN D = gn at *
      generalize decide (4 ≤ D) = zl at *
      go_wp2_with fail
      go_ret
      exact ⟨by simp, hb5⟩
    · have k0 : ((D * unitN : Nat) : Int) ≤ rankB (floatOfInt .f64 (D : Int)) := by rw [n2]; omega
      have k1 : rankB (floatOfInt .f64 (D : Int)) < (((D + 1) * unitN : Nat) : Int) := by rw [n2]; omega
      clear r1
      have HLX := Lib.hid (lev_between hD k0 k1)
      obtain ⟨hng, hngr⟩ := neg_rank (floatOfInt .f64 (D : Int)) n1
      have HLN := Lib.hid (lev_neg (r := rankB (Op.negFloat .f64 (floatOfInt .f64 (D : Int)))) (by rw [hngr]; omega))
      obtain ⟨r9, h9add, h9n, h90, h9r⟩ := add_ok rank_nine.1 n1 (by rw [rank_nine.2]; omega) (by omega) (by rw [rank_nine.2]; omega)
      have h9lo := (h9r 9).1 (by rw [rank_nine.2]; omega)
      have HL9 := Lib.hid (show levR (rankB r9) = 9 from by
        have hc2 : ¬ rankB r9 < unitN := by omega
        unfold levR
        rw [if_neg hc2, if_pos (by omega)])
      have hrun9 := fun W => run_float_arith (P := Try.prog) W .add 22 .f64 4621256167635550208 (floatOfInt .f64 (D : Int)) r9 h9add
      clear hng hngr h9add h9n h90 h9r h9lo
      go_wp2_with fail
      refine (told15 _).mono ?_
      rintro e w1 ⟨rfl, hb1⟩
      go_wp2_with fail
      refine (eff_level (floatOfInt .f64 (D : Int)) _).mono ?_
      rintro e w2 ⟨rfl, hw⟩
      rw [HLX.out]
      subst hw
      have ek : ((D : Int) == D) = true := by simp
      go_wp2_with fail
      refine (eff_level 9218868437227405312 _).mono ?_
      rintro e w3 ⟨rfl, hw⟩
      rw [HLI.out]
      subst hw
      go_wp2_with fail
      refine (eff_level (Op.negFloat .f64 9218868437227405312) _).mono ?_
      rintro e w3 ⟨rfl, hw⟩
      rw [HLJ.out]
      subst hw
      go_wp2_with fail
      refine (eff_level (Op.negFloat .f64 (floatOfInt .f64 (D : Int))) _).mono ?_
      rintro e w3 ⟨rfl, hw⟩
      rw [HLN.out]
      subst hw
      go_wp2_with fail
      refine (eff_level r9 _).mono ?_
      rintro e w3 ⟨rfl, hw⟩
      rw [HL9.out]
      subst hw
      go_wp2_with fail
      refine (eff_plan (floatOfInt .f64 (D : Int)) _).mono ?_
      rintro e w4 ⟨rfl, hb4⟩
      rw [HLX.out]
      have hb5 := hb1.trans (hb4.mono hb1.size)
      have eb : ((D == 0) == ((D : Int) == 0)) = true := by
        by_cases h0 : D = 0
        · subst h0; rfl
        · have e1 : (D == 0) = false := by simpa using h0
          have e2 : ((D : Int) == 0) = false := by rw [beq_eq_false_iff_ne]; omega
          rw [e1, e2]; rfl
      unfold planV
      generalize (D == 0) = za at *
      generalize chainN D = cn at *
      generalize goodN D = gn at *
      generalize decide (4 ≤ D) = zl at *
      go_wp2_with fail
      go_ret
      exact ⟨by simp, hb5⟩
    · rw [n4] at r1
      exact absurd (Int.lt_of_lt_of_le r1 hrhi) (Int.lt_irrefl _)
end Go.Proofs.Ythiandempeabmaa
