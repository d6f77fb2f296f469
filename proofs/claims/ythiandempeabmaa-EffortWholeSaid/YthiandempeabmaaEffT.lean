import Derived.Test.YthiandempeabmaaEffQ
import Derived.Test.YthiandempeabmaaArgs
import Derived.Deep.RegionWith
namespace Go.Proofs.Ythiandempeabmaa
set_option linter.unusedVariables false
set_option linter.unusedSimpArgs false
open Go.RowKit
attribute [local go_sem] buildP0 eqPlan

@[local go_sem] theorem fieldP0 (a b : Bool) (c d : Int) (w : World) : (Instr.field 26 (.agg #[.bool a, .int .i64 c, .bool b, .int .i64 d]) 0).run Try.prog w = .ok (.bool a) w := by kernel_rfl
@[local go_sem] theorem fieldP1 (a b : Bool) (c d : Int) (w : World) : (Instr.field 26 (.agg #[.bool a, .int .i64 c, .bool b, .int .i64 d]) 1).run Try.prog w = .ok (.int .i64 c) w := by kernel_rfl
theorem chain_mono {j k : Nat} (h : j ≤ k) (hk : k < 10) : chainN j ≤ chainN k := by
  have key : ∀ a, a < 10 → ∀ b, b < 10 → a ≤ b → chainN a ≤ chainN b := by decide
  exact key j (by omega) k hk h
theorem bits_599 : nanB 4618430158869375222 = false ∧ levR (rankB 4618430158869375222) = 5 := by
  have e : Ieee.double.read 4618430158869375222 = .number false 6744140441987318 (-50) := by decide +kernel
  refine ⟨by unfold nanB; rw [e]; rfl, ?_⟩
  unfold rankB
  rw [e]
  have hr : rankD (.number false 6744140441987318 (-50)) = (scaleN 6744140441987318 (-50) : Int) := rfl
  rw [hr]
  have hu := unit_pos
  have es : unitN = twoP 50 * twoP (((-50 : Int) + 1074).toNat) := by unfold unitN; rw [← twoP_add]; rfl
  have ed : scaleN 6744140441987318 (-50) / unitN = 5 := by
    rw [es]; unfold scaleN
    rw [Nat.mul_div_mul_right _ _ (twoP_pos _), twoP_def]
  have h1 : 5 * unitN ≤ scaleN 6744140441987318 (-50) := by have := Nat.div_mul_le_self (scaleN 6744140441987318 (-50)) unitN; rw [ed] at this; exact this
  have h2 : scaleN 6744140441987318 (-50) < 6 * unitN := by have := Nat.lt_div_mul_add hu (a := scaleN 6744140441987318 (-50)); rw [ed] at this; omega
  unfold levR
  rw [if_neg (by omega), if_neg (by omega), ← Int.natCast_ediv, Int.toNat_natCast, ed]
theorem bits_zero : levR (rankB 0) = 0 := by
  have e : Ieee.double.read 0 = .number false 0 (-1074) := by decide +kernel
  have hr : rankB 0 = 0 := by
    unfold rankB
    rw [e]
    show ((scaleN 0 _ : Nat) : Int) = 0
    unfold scaleN
    simp
  rw [hr]
  have hu := unit_pos
  unfold levR
  rw [if_pos (by omega)]
theorem less_12 : lessR 4607182418800017408 4611686018427387904 = true := by
  have h2 : rankB 4611686018427387904 = ((2 * unitN : Nat) : Int) := (rank_of (k := 2) (e := 51) (by decide) (by rw [twoP_def]; decide +kernel)).2
  have hu := unit_pos
  unfold lessR
  rw [h2, rank_one.2]
  simp; omega
theorem level_nan {x : Nat} (h : nanB x = true) : levR (rankB x) = 6 := by
  rw [rank_nan h]
  have hu := unit_pos
  unfold levR
  rw [if_neg (by omega), if_neg (by omega), show ((6 * unitN : Nat) : Int) = 6 * (unitN : Int) from by omega, Int.mul_ediv_cancel _ (by omega)]; rfl

set_option maxHeartbeats 1600000 in
set_option maxRecDepth 100000 in
theorem told15 (w : World) : Calls Try.prog 6 #[] w fun e w' => e = .returned (.bool true) ∧ Below w.heap.size w w' := by
  go_enter Try.func6, Try.ntmps6
  go_wp2_with fail
  refine (ref_none w).mono ?_
  rintro e w1 ⟨b, rfl, hb, hw⟩
  subst hw
  have H1 := Lib.hid (level_nan hb)
  have H2 := Lib.hid bits_599.2
  have H3 := Lib.hid bits_zero
  have H4 := Lib.hid less_12
  go_wp2_with fail
  refine (eff_level b _).mono ?_
  rintro e w1 ⟨rfl, hw⟩
  rw [H1.out]
  subst hw
  go_wp2_with fail
  refine (eff_level _ _).mono ?_
  rintro e w1 ⟨rfl, hw⟩
  rw [H2.out]
  subst hw
  go_wp2_with fail
  refine (eff_plan _ _).mono ?_
  rintro e w1 ⟨rfl, hb1⟩
  rw [H3.out]
  have hb2 : Below w.heap.size w w1 := ((Below.refl _ _).drew).trans (hb1.mono (by simp))
  rw [show planV 0 = .agg #[.bool true, .int .i64 0, .bool false, .int .i64 0] from rfl]
  go_wp2_with fail
  refine (eff_less _ _ _).mono ?_
  rintro e w2 ⟨rfl, hw⟩
  rw [H4.out]
  subst hw
  go_wp2_with fail
  go_ret
  exact ⟨rfl, hb2⟩

set_option maxHeartbeats 1600000 in
set_option maxRecDepth 100000 in
theorem effortPlans_walk (a b : Nat) (w : World) (h00 : (Lit.float .f64 a).wf = true) (h01 : (Lit.float .f64 b).wf = true) :
    Calls Try.prog 3 #[.float .f64 a, .float .f64 b] w fun e w' => e = .returned (.bool true) ∧ Below w.heap.size w w' := by
  have hl := levR_lt (rankB a)
  have HLV := Lib.hid (fun W => eff_level a W)
  have HRV := Lib.hid (fun W => ref_level a W)
  have HP := Lib.hid (fun W => eff_plan a W)
  have HQ := Lib.hid (fun W => ref_plan a W)
  have HL := Lib.hid (fun W => eff_less a b W)
  have HM := Lib.hid (fun W => ref_less a b W)
  generalize levR (rankB a) = k at *
  generalize lessR a b = r at *
  have ek : ((k : Int) == k) = true := by simp
  unfold planV at *
  generalize chainN k = cn at *
  generalize goodN k = gn at *
  generalize (k == 0) = kb at *
  generalize decide (4 ≤ k) = kl at *
  go_enter Try.func3, Try.ntmps3
  go_wp2_with fail
  refine (told15 _).mono ?_
  rintro e w1 ⟨rfl, hb1⟩
  go_wp2_with fail
  refine (HLV.out _).mono ?_
  rintro e w2 ⟨rfl, hw⟩
  subst hw
  go_wp2_with fail
  refine (HRV.out _).mono ?_
  rintro e w3 ⟨rfl, hw⟩
  subst hw
  go_wp2_with fail
  refine (HP.out _).mono ?_
  rintro e w4 ⟨rfl, hb4⟩
  have hb4' := hb1.trans (hb4.mono hb1.size)
  go_wp2_with fail
  refine (HQ.out _).mono ?_
  rintro e w5 ⟨rfl, hb5⟩
  have hb5' := hb4'.trans (hb5.mono hb4'.size)
  go_wp2_with fail
  refine (HL.out _).mono ?_
  rintro e w6 ⟨rfl, hw⟩
  subst hw
  go_wp2_with fail
  refine (HM.out _).mono ?_
  rintro e w7 ⟨rfl, hw⟩
  subst hw
  go_wp2_with fail
  go_ret
  exact ⟨by simp, hb5'⟩

set_option maxHeartbeats 1600000 in
set_option maxRecDepth 100000 in
theorem effortOrder_walk (a b c : Nat) (w : World) (h00 : (Lit.float .f64 a).wf = true) (h01 : (Lit.float .f64 b).wf = true) (h02 : (Lit.float .f64 c).wf = true) :
    Calls Try.prog 4 #[.float .f64 a, .float .f64 b, .float .f64 c] w fun e w' => e = .returned (.bool true) ∧ Below w.heap.size w w' := by
  have AA := Lib.hid (fun W => eff_less a a W)
  have AB := Lib.hid (fun W => eff_less a b W)
  have BA := Lib.hid (fun W => eff_less b a W)
  have BC := Lib.hid (fun W => eff_less b c W)
  have AC := Lib.hid (fun W => eff_less a c W)
  have LA := Lib.hid (fun W => eff_level a W)
  have LB := Lib.hid (fun W => eff_level b W)
  have PA := Lib.hid (fun W => eff_plan a W)
  have PB := Lib.hid (fun W => eff_plan b W)
  have hla := levR_lt (rankB a)
  have hlb := levR_lt (rankB b)
  have saa : lessR a a = false := by unfold lessR; simp
  rw [saa] at AA
  unfold planV at PA PB
  rcases Int.lt_trichotomy (rankB a) (rankB b) with hr | hr | hr
  · have sab : lessR a b = true := by unfold lessR; simpa using hr
    have sba : lessR b a = false := by unfold lessR; simp; omega
    rw [sab] at AB
    rw [sba] at BA
    have hm := levR_mono (Int.le_of_lt hr)
    have hc := chain_mono hm hlb
    have c1 : decide ((levR (rankB a) : Int) ≤ levR (rankB b)) = true := by simp; omega
    have c1' : decide (levR (rankB a) ≤ levR (rankB b)) = true := by simp; omega
    have c2 : decide (chainN (levR (rankB a)) ≤ chainN (levR (rankB b))) = true := by simpa using hc
    have hsbc : lessR b c = true → lessR a c = true := by unfold lessR; simp; omega
    have HBC := Lib.hid hsbc
    clear hm hc hr sab sba saa hsbc
    generalize chainN (levR (rankB a)) = ca at *
    generalize chainN (levR (rankB b)) = cb at *
    generalize goodN (levR (rankB a)) = ga at *
    generalize goodN (levR (rankB b)) = gb at *
    generalize (levR (rankB a) == 0) = za at *
    generalize (levR (rankB b) == 0) = zb at *
    generalize decide (4 ≤ levR (rankB a)) = la at *
    generalize decide (4 ≤ levR (rankB b)) = lb at *
    generalize levR (rankB a) = ka at *
    generalize levR (rankB b) = kb at *
    cases hbc : lessR b c with
    | true =>
      rw [hbc] at BC
      rw [HBC.out hbc] at AC
      clear hbc HBC
      go_enter Try.func4, Try.ntmps4
      go_wp2_with fail
      refine (AA.out _).mono ?_
      rintro e w' ⟨rfl, hw⟩
      subst hw
      go_wp2_with fail
      refine (AB.out _).mono ?_
      rintro e w' ⟨rfl, hw⟩
      subst hw
      go_wp2_with fail
      refine (BA.out _).mono ?_
      rintro e w' ⟨rfl, hw⟩
      subst hw
      go_wp2_with fail
      refine (AB.out _).mono ?_
      rintro e w' ⟨rfl, hw⟩
      subst hw
      go_wp2_with fail
      refine (BC.out _).mono ?_
      rintro e w' ⟨rfl, hw⟩
      subst hw
      go_wp2_with fail
      refine (AC.out _).mono ?_
      rintro e w' ⟨rfl, hw⟩
      subst hw
      go_wp2_with fail
      refine (AB.out _).mono ?_
      rintro e w' ⟨rfl, hw⟩
      subst hw
      go_wp2_with fail
      refine (told15 _).mono ?_
      rintro e w1 ⟨rfl, hb1⟩
      go_wp2_with fail
      refine (AB.out _).mono ?_
      rintro e w' ⟨rfl, hw⟩
      subst hw
      go_wp2_with fail
      refine (LA.out _).mono ?_
      rintro e w' ⟨rfl, hw⟩
      subst hw
      go_wp2_with fail
      refine (LB.out _).mono ?_
      rintro e w' ⟨rfl, hw⟩
      subst hw
      go_wp2_with fail
      refine (PA.out _).mono ?_
      rintro e w4 ⟨rfl, hb4⟩
      have hb4' := hb1.trans (hb4.mono hb1.size)
      go_wp2_with fail
      refine (PB.out _).mono ?_
      rintro e w5 ⟨rfl, hb5⟩
      have hb5' := hb4'.trans (hb5.mono hb4'.size)
      go_wp2_with fail
      refine (AB.out _).mono ?_
      rintro e w' ⟨rfl, hw⟩
      subst hw
      go_wp2_with fail
      go_ret
      exact ⟨rfl, hb5'⟩
    | false =>
      rw [hbc] at BC
      clear hbc HBC
      go_enter Try.func4, Try.ntmps4
      go_wp2_with fail
      refine (AA.out _).mono ?_
      rintro e w' ⟨rfl, hw⟩
      subst hw
      go_wp2_with fail
      refine (AB.out _).mono ?_
      rintro e w' ⟨rfl, hw⟩
      subst hw
      go_wp2_with fail
      refine (BA.out _).mono ?_
      rintro e w' ⟨rfl, hw⟩
      subst hw
      go_wp2_with fail
      refine (AB.out _).mono ?_
      rintro e w' ⟨rfl, hw⟩
      subst hw
      go_wp2_with fail
      refine (BC.out _).mono ?_
      rintro e w' ⟨rfl, hw⟩
      subst hw
      go_wp2_with fail
      refine (AB.out _).mono ?_
      rintro e w' ⟨rfl, hw⟩
      subst hw
      go_wp2_with fail
      refine (told15 _).mono ?_
      rintro e w1 ⟨rfl, hb1⟩
      go_wp2_with fail
      refine (AB.out _).mono ?_
      rintro e w' ⟨rfl, hw⟩
      subst hw
      go_wp2_with fail
      refine (LA.out _).mono ?_
      rintro e w' ⟨rfl, hw⟩
      subst hw
      go_wp2_with fail
      refine (LB.out _).mono ?_
      rintro e w' ⟨rfl, hw⟩
      subst hw
      go_wp2_with fail
      refine (PA.out _).mono ?_
      rintro e w4 ⟨rfl, hb4⟩
      have hb4' := hb1.trans (hb4.mono hb1.size)
      go_wp2_with fail
      refine (PB.out _).mono ?_
      rintro e w5 ⟨rfl, hb5⟩
      have hb5' := hb4'.trans (hb5.mono hb4'.size)
      go_wp2_with fail
      refine (AB.out _).mono ?_
      rintro e w' ⟨rfl, hw⟩
      subst hw
      go_wp2_with fail
      go_ret
      exact ⟨rfl, hb5'⟩
  · have sab : lessR a b = false := by unfold lessR; simp; omega
    have sba : lessR b a = false := by unfold lessR; simp; omega
    have sac : lessR a c = lessR b c := by unfold lessR; rw [hr]
    rw [sab] at AB
    rw [sba] at BA
    rw [sac] at AC
    rw [hr] at LA
    have ec : (lessR b c != lessR b c) = false := by simp
    clear hr sab sba saa sac PA PB
    generalize lessR b c = bc at *
    generalize levR (rankB b) = kb at *
    go_enter Try.func4, Try.ntmps4
    go_wp2_with fail
    refine (AA.out _).mono ?_
    rintro e w' ⟨rfl, hw⟩
    subst hw
    go_wp2_with fail
    refine (AB.out _).mono ?_
    rintro e w' ⟨rfl, hw⟩
    subst hw
    go_wp2_with fail
    refine (AB.out _).mono ?_
    rintro e w' ⟨rfl, hw⟩
    subst hw
    go_wp2_with fail
    refine (AB.out _).mono ?_
    rintro e w' ⟨rfl, hw⟩
    subst hw
    go_wp2_with fail
    refine (BA.out _).mono ?_
    rintro e w' ⟨rfl, hw⟩
    subst hw
    go_wp2_with fail
    refine (AC.out _).mono ?_
    rintro e w' ⟨rfl, hw⟩
    subst hw
    go_wp2_with fail
    refine (BC.out _).mono ?_
    rintro e w' ⟨rfl, hw⟩
    subst hw
    go_wp2_with fail
    refine (told15 _).mono ?_
    rintro e w1 ⟨rfl, hb1⟩
    go_wp2_with fail
    refine (AB.out _).mono ?_
    rintro e w' ⟨rfl, hw⟩
    subst hw
    go_wp2_with fail
    refine (AB.out _).mono ?_
    rintro e w' ⟨rfl, hw⟩
    subst hw
    go_wp2_with fail
    refine (BA.out _).mono ?_
    rintro e w' ⟨rfl, hw⟩
    subst hw
    go_wp2_with fail
    refine (LA.out _).mono ?_
    rintro e w' ⟨rfl, hw⟩
    subst hw
    go_wp2_with fail
    refine (LB.out _).mono ?_
    rintro e w' ⟨rfl, hw⟩
    subst hw
    go_wp2_with fail
    go_ret
    exact ⟨by simp, hb1⟩
  · have sab : lessR a b = false := by unfold lessR; simp; omega
    have sba : lessR b a = true := by unfold lessR; simpa using hr
    rw [sab] at AB
    rw [sba] at BA
    clear hr sab sba saa PA PB
    go_enter Try.func4, Try.ntmps4
    go_wp2_with fail
    refine (AA.out _).mono ?_
    rintro e w' ⟨rfl, hw⟩
    subst hw
    go_wp2_with fail
    refine (AB.out _).mono ?_
    rintro e w' ⟨rfl, hw⟩
    subst hw
    go_wp2_with fail
    refine (AB.out _).mono ?_
    rintro e w' ⟨rfl, hw⟩
    subst hw
    go_wp2_with fail
    refine (AB.out _).mono ?_
    rintro e w' ⟨rfl, hw⟩
    subst hw
    go_wp2_with fail
    refine (BA.out _).mono ?_
    rintro e w' ⟨rfl, hw⟩
    subst hw
    go_wp2_with fail
    refine (told15 _).mono ?_
    rintro e w1 ⟨rfl, hb1⟩
    go_wp2_with fail
    refine (AB.out _).mono ?_
    rintro e w' ⟨rfl, hw⟩
    subst hw
    go_wp2_with fail
    refine (AB.out _).mono ?_
    rintro e w' ⟨rfl, hw⟩
    subst hw
    go_wp2_with fail
    refine (BA.out _).mono ?_
    rintro e w' ⟨rfl, hw⟩
    subst hw
    go_wp2_with fail
    go_ret
    exact ⟨rfl, hb1⟩
end Go.Proofs.Ythiandempeabmaa
