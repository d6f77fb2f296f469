import Derived.Test.YtcmaaaojegjkjaaInfT
import Derived.Test.YtcmaaaojegjkjaaInfKd
namespace Go.Proofs.Ytcmaaaojegjkjaa
set_option linter.unusedVariables false
set_option linter.unusedSimpArgs false
open Go.RowKit

set_option maxHeartbeats 1600000 in
set_option maxRecDepth 100000 in
theorem known_one (which : Int) (j : Nat) (hj15 : j < 15) (hj : (wrap64 (which.tmod 15 + 15)).tmod 15 = (j : Int)) (K Wd : List Int) (R : List Int × Nat × Nat) (hK : kL.getD j [] = K) (hWd : kW.getD j [] = Wd) (hKb : bin K) (hKl : K.length ≤ 100) (hR : allQ (packB K) false 32768 300 = R)
    (hcase : (j = 14 ∧ R.2.2 = 0 ∧ R.1.length = 259) ∨ (j ≠ 14 ∧ Wd = [33] ∧ R.2.2 = 2 ∧ R.1 = []) ∨ (j ≠ 14 ∧ ((strOfNums Wd).toList == [33]) = false ∧ R.2.2 = 0 ∧ R.1 = Wd)) (w : World) (hwf : (Lit.int .i64 which).wf = true) :
    Calls Try.prog 7 #[.int .i64 which] w fun e w' => e = .returned (.bool true) ∧ Below w.heap.size w w' := by
  have hT := fun W => Lib.hid (told12 W)
  have HB := fun W => Lib.hid (ref_bytes K W hKb (by omega))
  have k1 := arr1_at j hj15
  have k2 := arr2_at j hj15
  rw [hK] at k1
  rw [hWd] at k2
  go_enter Try.func7, Try.ntmps7
  go_upto_region 3 with fail
  generalize hA1 : (#[.string ⟨#[49, 49, 48, 48, 48, 48, 48, 48, 48, 48]⟩, .string ⟨#[49, 49, 48, 48, 49, 49, 49, 48, 48, 48, 49, 48, 48, 48, 48, 48, 48, 48]⟩, .string ⟨#[49, 49, 48, 48, 49, 49, 49, 48, 48, 48, 49, 48, 48, 48, 48, 48, 49, 48, 48, 48, 48, 48, 48, 48, 48, 48, 48, 48, 48, 48]⟩, .string ⟨#[49, 49, 48, 48, 48, 48, 48, 48, 49, 48, 48, 48, 48, 48, 48, 48, 48, 48, 48, 48, 48, 48]⟩, .string ⟨#[49, 49, 48, 48, 49, 49, 49, 48, 48, 48, 49, 48, 48, 48, 48, 48, 49, 48, 48, 48, 48, 48, 49, 48, 48, 48, 48, 48, 48, 48]⟩, .string ⟨#[49, 49, 48, 48, 49, 49, 49, 48, 48, 48, 49, 48, 48, 48, 48, 48, 49, 48, 49, 49, 49, 49, 48, 48, 48, 48, 48, 48, 48, 48]⟩, .string ⟨#[49, 49, 48, 49, 49, 48, 48, 48, 49, 49, 48]⟩, .string ⟨#[49, 49, 49]⟩, .string ⟨#[49, 48, 48, 48, 48, 48, 48, 48, 49, 48, 48, 48, 48, 48, 48, 48, 48, 48, 48, 48, 48, 48, 48, 48, 48, 49, 49, 49, 49, 49, 49, 49, 49, 49, 49, 49, 49, 49, 49, 49, 49, 48, 48, 48, 48, 49, 49, 48]⟩, .string ⟨#[49, 48, 48, 48, 48, 48, 48, 48, 49, 48, 48, 48, 48, 48, 48, 48, 48, 48, 48, 48, 48, 48, 48, 48, 49, 49, 49, 49, 49, 49, 49, 49, 49, 49, 49, 49, 49, 49, 49, 49, 49, 48, 48, 48, 48, 49, 49, 48]⟩, .string ⟨#[48, 49, 48, 48, 48, 48, 48, 48, 48, 48, 49, 49, 48, 48, 49, 49, 49, 48, 48, 48, 49, 48, 48, 48, 48, 48, 48, 48]⟩, .string ⟨#[49, 48, 49, 48, 49, 49, 49, 49, 48, 48, 48, 48, 48, 48, 48, 48, 48]⟩, .string ⟨#[49, 48, 49, 48, 48, 48, 48, 48, 48, 49, 49, 49, 49, 48, 48, 48, 48]⟩, .string ⟨#[49, 48, 49, 48, 48, 48, 48, 48, 48, 48, 48, 48, 48, 48, 48, 48, 48, 48, 48, 48, 48, 48, 48, 48, 48, 48, 48, 48, 48]⟩, .string ⟨#[49, 49, 48, 48, 49, 49, 49, 48, 48, 48, 49, 49, 49, 48, 48, 48, 49, 48, 49, 48, 48, 48, 48, 48, 48, 48, 48, 48, 48, 48, 48]⟩] : Array Value) = A1 at *
  generalize hA2 : (#[.string ⟨#[]⟩, .string ⟨#[65]⟩, .string ⟨#[65, 65, 65, 65, 65]⟩, .string ⟨#[33]⟩, .string ⟨#[33]⟩, .string ⟨#[33]⟩, .string ⟨#[33]⟩, .string ⟨#[33]⟩, .string ⟨#[97]⟩, .string ⟨#[33]⟩, .string ⟨#[65]⟩, .string ⟨#[33]⟩, .string ⟨#[33]⟩, .string ⟨#[33]⟩, .string ⟨#[]⟩] : Array Value) = A2 at *
  rw [show arr1 = A1 from hA1] at k1
  rw [show arr2 = A2 from hA2] at k2
  clear hA1 hA2
  have hb1 : Blk ((w.alloc (.cells A1 9)).alloc (.cells A2 9)) w.heap.size 9 A1 := (Blk.new w _ A1).alloc _
  have hb2 := Blk.new (w.alloc (.cells A1 9)) 9 A2
  rw [World.size_alloc] at hb2
  have c1 : ((w.alloc (.cells A1 9)).alloc (.cells A2 9)).cell? ⟨w.heap.size, j, none⟩ = some (.string (txt K)) := (hb1.cell j).trans k1
  have c2 : ((w.alloc (.cells A1 9)).alloc (.cells A2 9)).cell? ⟨w.heap.size + 1, j, none⟩ = some (.string (strOfNums Wd)) := (hb2.cell j).trans k2
  have hB0 := (((Below.refl w.heap.size w).alloc (Nat.le_refl _) (.cells A1 9)).alloc (by simp) (.cells A2 9))
  have hz2 : w.heap.size + 1 < ((w.alloc (.cells A1 9)).alloc (.cells A2 9)).heap.size := by simp
  generalize ((w.alloc (.cells A1 9)).alloc (.cells A2 9)) = W at *
  clear hb1 hb2 k1 k2
  generalize hTX : txt K = TX at *
  clear hTX
  go_upto_region 4 with fail
  have HJ := Lib.hid hj
  clear hj
  go_wp2_with fail
  refine (HB _).out.mono ?_
  rintro e w1 ⟨A5, c5, rfl, ho5, hb5⟩
  have hB1 := hB0.trans (hb5.mono hB0.size)
  have d2 := (hb5.cell (p := ⟨w.heap.size + 1, j, none⟩) hz2).trans c2
  obtain ⟨A6, c6, e6, hr6, _⟩ := ho5.row (fun x hx => by have := packN_u8 hKb _ x hx; simp [Lit.wf, IntKind.min, IntKind.max, IntKind.bits, IntKind.signed]; omega)
  injection e6 with e6 e7 e8
  subst e6 e8
  have hpl : (packB K).length ≤ 1000000000 := by rw [packB_length]; omega
  have CA := inf_all A5 c5 (packB K) false 32768 300 (by decide) (by decide) (by decide) w1 hr6 hpl
  rw [hR] at CA
  have CA := Lib.hid CA
  generalize packB K = PK at *
  clear c1 c2 ho5 hr6
  go_wp2_with fail
  refine CA.out.mono ?_
  rintro e w2 ⟨v2, rfl, ho2, hb2⟩
  have hB2 := hB1.trans (hb2.mono hB1.size)
  have d3 := (hb2.cell (p := ⟨w.heap.size + 1, j, none⟩) (World.block_lt_of_cell? w1 _ d2)).trans d2
  obtain ⟨A7, c7, rfl, hl7, hc7, hR7, _⟩ := ho2.rdb
  obtain ⟨l7, u7, e7⟩ := R
  simp only at *
  rcases hcase with ⟨q1, q2, q3⟩ | ⟨q1, q2, q3, q4⟩ | ⟨q1, q2, q3, q4⟩
  · have g1 : ((j : Int) == 14) = true := by rw [beq_iff_eq]; omega
    have g1' : (j == 14) = true := by rw [beq_iff_eq]; exact q1
    have g2 : ((l7.length : Int) == 259) = true := by rw [beq_iff_eq]; omega
    have g2' : (l7.length == 259) = true := by rw [beq_iff_eq]; exact q3
    subst q2
    clear q1 q3 d3 d2 hj15
    go_wp2_with fail
    refine (hT _).out.mono ?_
    rintro e w3 ⟨rfl, hb3⟩
    go_wp2_with fail
    go_ret
    exact ⟨rfl, hB2.trans (hb3.mono hB2.size)⟩
  · have g1 : ((j : Int) == 14) = false := by rw [beq_eq_false_iff_ne]; omega
    have g1' : (j == 14) = false := by rw [beq_eq_false_iff_ne]; exact q1
    subst q2 q3 q4
    rw [show strOfNums [33] = ⟨#[33]⟩ from by decide] at d3
    clear q1 d2
    go_wp2_with fail
    refine (hT _).out.mono ?_
    rintro e w3 ⟨rfl, hb3⟩
    go_wp2_with fail
    go_ret
    exact ⟨rfl, hB2.trans (hb3.mono hB2.size)⟩
  · have g1 : ((j : Int) == 14) = false := by rw [beq_eq_false_iff_ne]; omega
    have g1' : (j == 14) = false := by rw [beq_eq_false_iff_ne]; exact q1
    subst q3 q4
    have hne2 : ((strOfNums l7).toList == [33]) = false := q2
    have cv : ∀ W', Same (fun _ => False) w2 W' → (convert 26 9 (.slice A7 l7.length c7)).run Try.prog W' = .ok (.string (strOfNums l7)) W' := fun W' hs => (hR7.same hs (fun _ _ c => c)).to_string rfl Try.underlying26 Try.underlying5 Try.underlying9
    generalize strOfNums l7 = S7 at *
    clear q1 d2
    have hd3 := World.block_lt_of_cell? w2 _ d3
    go_upto_region 9 with fail
    have j1 : (0 : Int) ≤ (j : Int) := by omega
    have j2 : (j : Int) < 15 := by omega
    have j3 : (j : Int) < ((15 : Nat) : Int) := by omega
    have j4 : decide ((0 : Int) ≤ (j : Int)) = true := by simp
    have j5 : decide ((j : Int) < 15) = true := by simp; omega
    have j6 : ((j : Int)).toNat = j := by omega
    go_region_held3 (fun W : World => W.cell? ⟨w.heap.size + 1, j, none⟩ = some (.string S7) ∧ (convert 26 9 (.slice A7 l7.length c7)).run Try.prog W = .ok (.string S7) W) (first | exact ⟨d3, cv _ (by first | exact Same.refl _ | exact (Same.refl _).drew)⟩ | exact ⟨d4, cv _ (by first | exact s3 | exact s3.drew)⟩) (first
      | (go_at_call 13; refine (hT _).out.mono ?_; rintro e w3 ⟨rfl, hb3⟩; have d4 := (hb3.cell (p := ⟨w.heap.size + 1, j, none⟩) hd3).trans d3; have s3 := (Same.of_below (S := fun _ => False) hb3).drew_left))
    all_goals
      go_wp2_with fail
      go_ret
      exact ⟨rfl, hB2.drew.trans (hb3.mono hB2.drew.size)⟩
theorem kR_case : ∀ j : Nat, j < 15 → (j = 14 ∧ (kR j).2.2 = 0 ∧ (kR j).1.length = 259) ∨ (j ≠ 14 ∧ kW.getD j [] = [33] ∧ (kR j).2.2 = 2 ∧ (kR j).1 = []) ∨ (j ≠ 14 ∧ ((strOfNums (kW.getD j [])).toList == [33]) = false ∧ (kR j).2.2 = 0 ∧ (kR j).1 = kW.getD j [])
  | 0, _ => .inr (.inr ⟨by decide, by rw [ByteArray.toList_eq]; decide, by rw [kR0], by rw [kR0]; rfl⟩)
  | 1, _ => .inr (.inr ⟨by decide, by rw [ByteArray.toList_eq]; decide, by rw [kR1], by rw [kR1]; rfl⟩)
  | 2, _ => .inr (.inr ⟨by decide, by rw [ByteArray.toList_eq]; decide, by rw [kR2], by rw [kR2]; rfl⟩)
  | 3, _ => .inr (.inl ⟨by decide, rfl, by rw [kR3], by rw [kR3]⟩)
  | 4, _ => .inr (.inl ⟨by decide, rfl, by rw [kR4], by rw [kR4]⟩)
  | 5, _ => .inr (.inl ⟨by decide, rfl, by rw [kR5], by rw [kR5]⟩)
  | 6, _ => .inr (.inl ⟨by decide, rfl, by rw [kR6], by rw [kR6]⟩)
  | 7, _ => .inr (.inl ⟨by decide, rfl, by rw [kR7], by rw [kR7]⟩)
  | 8, _ => .inr (.inr ⟨by decide, by rw [ByteArray.toList_eq]; decide, by rw [kR8], by rw [kR8]; rfl⟩)
  | 9, _ => .inr (.inl ⟨by decide, rfl, by rw [kR9], by rw [kR9]⟩)
  | 10, _ => .inr (.inr ⟨by decide, by rw [ByteArray.toList_eq]; decide, by rw [kR10], by rw [kR10]; rfl⟩)
  | 11, _ => .inr (.inl ⟨by decide, rfl, by rw [kR11], by rw [kR11]⟩)
  | 12, _ => .inr (.inl ⟨by decide, rfl, by rw [kR12], by rw [kR12]⟩)
  | 13, _ => .inr (.inl ⟨by decide, rfl, by rw [kR13], by rw [kR13]⟩)
  | 14, _ => .inl ⟨rfl, by rw [kR14], by rw [kR14]; exact List.length_replicate⟩
set_option maxHeartbeats 1600000 in
set_option maxRecDepth 100000 in
theorem inflateKnown_walk (which : Int) (w : World) (h00 : (Lit.int .i64 which).wf = true) :
    Calls Try.prog 7 #[.int .i64 which] w fun e w' => e = .returned (.bool true) ∧ Below w.heap.size w w' := by
  have h1 : -15 < which.tmod 15 ∧ which.tmod 15 < 15 := ⟨Int.lt_tmod_of_pos which (by decide), Int.tmod_lt_of_pos which (by decide)⟩
  have h2 : wrap64 (which.tmod 15 + 15) = which.tmod 15 + 15 := IntWalk.wrap64_in _ (by omega)
  have h3 : 0 ≤ (which.tmod 15 + 15).tmod 15 := Int.tmod_nonneg _ (by omega)
  have h4 : (which.tmod 15 + 15).tmod 15 < 15 := Int.tmod_lt_of_pos _ (by decide)
  obtain ⟨j, hj⟩ : ∃ j : Nat, (which.tmod 15 + 15).tmod 15 = (j : Int) := ⟨((which.tmod 15 + 15).tmod 15).toNat, by omega⟩
  have hj15 : j < 15 := by omega
  obtain ⟨hb, hl⟩ := kL_bin ⟨j, hj15⟩
  exact known_one which j hj15 (by rw [h2]; exact hj) _ _ _ rfl rfl hb hl rfl (kR_case j hj15) w h00
end Go.Proofs.Ytcmaaaojegjkjaa
