import Derived.Test.YteknaaijlkenkaaTabP
namespace Go.Proofs.Yteknaaijlkenkaa
set_option linter.unusedVariables false
set_option linter.unusedSimpArgs false
open Go.RowKit
attribute [local go_sem] max2i min2i max2t min2t

/-! ### 32 bits the other way round -/
theorem and_bv (A B : BitVec 32) : bits .and .u32 (A.toNat : Int) (B.toNat : Int) = ((A &&& B).toNat : Int) := by
  show IntKind.u32.wrap ((BitVec.ofInt 32 (A.toNat : Int) &&& BitVec.ofInt 32 (B.toNat : Int)).toNat : Int) = _
  rw [BitVec.ofInt_natCast, BitVec.ofInt_natCast, BitVec.ofNat_toNat, BitVec.ofNat_toNat, BitVec.setWidth_eq, BitVec.setWidth_eq, IntKind.wrap_u32]
  have := (A &&& B).isLt
  omega
theorem or_bv (A B : BitVec 32) : bits .or .u32 (A.toNat : Int) (B.toNat : Int) = ((A ||| B).toNat : Int) := by
  show IntKind.u32.wrap ((BitVec.ofInt 32 (A.toNat : Int) ||| BitVec.ofInt 32 (B.toNat : Int)).toNat : Int) = _
  rw [BitVec.ofInt_natCast, BitVec.ofInt_natCast, BitVec.ofNat_toNat, BitVec.ofNat_toNat, BitVec.setWidth_eq, BitVec.setWidth_eq, IntKind.wrap_u32]
  have := (A ||| B).isLt
  omega
theorem shr_bv (A : BitVec 32) (k : Nat) : (A.toNat : Int) / ((2 ^ k : Nat) : Int) = ((A >>> k).toNat : Int) := by
  rw [BitVec.toNat_ushiftRight, Nat.shiftRight_eq_div_pow, Int.natCast_ediv]
theorem shl_bv (A : BitVec 32) (k : Nat) : (A.toNat : Int) * ((2 ^ k : Nat) : Int) % 4294967296 = ((A <<< k).toNat : Int) := by
  rw [BitVec.toNat_shiftLeft, Nat.shiftLeft_eq, Int.natCast_emod, Int.natCast_mul]; rfl
def swp (k : Nat) (M X : BitVec 32) : BitVec 32 := (X >>> k &&& M) ||| ((X &&& M) <<< k)
theorem swp_num (k : Nat) (M X : BitVec 32) : bits .or .u32 (bits .and .u32 ((X.toNat : Int) / ((2 ^ k : Nat) : Int)) (M.toNat : Int)) (bits .and .u32 (X.toNat : Int) (M.toNat : Int) * ((2 ^ k : Nat) : Int) % 4294967296) = ((swp k M X).toNat : Int) := by
  rw [shr_bv, and_bv, and_bv, shl_bv, or_bv]; rfl
def ix (k j : Nat) : Nat := if j / k % 2 = 0 then k + j else j - k
theorem swp_bit (k : Nat) (M X : BitVec 32) (i : Nat) (hi : i < 32) (hM : ∀ j, j < 32 → M.getLsbD j = decide (j / k % 2 = 0)) (h1 : ∀ j, j < 32 → j / k % 2 = 0 → k ≤ j → (j - k) / k % 2 ≠ 0) (h2 : ∀ j, j < 32 → j / k % 2 ≠ 0 → k ≤ j ∧ (j - k) / k % 2 = 0) :
    (swp k M X).getLsbD i = X.getLsbD (ix k i) := by
  unfold swp ix
  rw [BitVec.getLsbD_or, BitVec.getLsbD_and, BitVec.getLsbD_ushiftRight, BitVec.getLsbD_shiftLeft, BitVec.getLsbD_and, hM i hi]
  by_cases c : i / k % 2 = 0
  · by_cases d : k ≤ i
    · rw [hM (i - k) (by omega)]
      have := h1 i hi c d
      simp [c, d, this]
    · simp [c, show i < k from by omega]
  · obtain ⟨d, e⟩ := h2 i hi c
    rw [hM (i - k) (by omega)]
    simp [c, e, hi, show ¬ i < k from by omega]
def rev32 (X : BitVec 32) : BitVec 32 :=
  let Y := swp 8 16711935#32 (swp 4 252645135#32 (swp 2 858993459#32 (swp 1 1431655765#32 X)))
  (Y >>> 16) ||| (Y <<< 16)
theorem mask_ok : (∀ j, j < 32 → (1431655765#32).getLsbD j = decide (j / 1 % 2 = 0)) ∧ (∀ j, j < 32 → (858993459#32).getLsbD j = decide (j / 2 % 2 = 0)) ∧ (∀ j, j < 32 → (252645135#32).getLsbD j = decide (j / 4 % 2 = 0)) ∧ (∀ j, j < 32 → (16711935#32).getLsbD j = decide (j / 8 % 2 = 0)) := by
  refine ⟨?_, ?_, ?_, ?_⟩ <;> decide +kernel
theorem hix : ∀ j, j < 32 → ix 1 (ix 2 (ix 4 (ix 8 j))) = (if j < 16 then 15 - j else 47 - j) ∧ ix 2 (ix 4 (ix 8 j)) < 32 ∧ ix 4 (ix 8 j) < 32 ∧ ix 8 j < 32 := by decide +kernel
theorem rev32_bit (X : BitVec 32) (i : Nat) (hi : i < 32) : (rev32 X).getLsbD i = X.getLsbD (31 - i) := by
  obtain ⟨m1, m2, m4, m8⟩ := mask_ok
  unfold rev32
  simp only
  rw [BitVec.getLsbD_or, BitVec.getLsbD_ushiftRight, BitVec.getLsbD_shiftLeft]
  have key : ∀ j, j < 32 → (swp 8 16711935#32 (swp 4 252645135#32 (swp 2 858993459#32 (swp 1 1431655765#32 X)))).getLsbD j = X.getLsbD (if j < 16 then 15 - j else 47 - j) := fun j hj => by
    obtain ⟨i1, i2, i4, i8⟩ := hix j hj
    rw [swp_bit 8 _ _ j hj m8 (by decide +kernel) (by decide +kernel), swp_bit 4 _ _ _ i8 m4 (by decide +kernel) (by decide +kernel), swp_bit 2 _ _ _ i4 m2 (by decide +kernel) (by decide +kernel), swp_bit 1 _ _ _ i2 m1 (by decide +kernel) (by decide +kernel), i1]
  by_cases c : i < 16
  · rw [key (16 + i) (by omega)]
    simp [c, show ¬ 16 + i < 16 from by omega]
    congr 1; omega
  · rw [key (i - 16) (by omega)]
    have h0 : (swp 8 16711935#32 (swp 4 252645135#32 (swp 2 858993459#32 (swp 1 1431655765#32 X)))).getLsbD (16 + i) = false := BitVec.getLsbD_of_ge _ _ (by omega)
    rw [h0]
    simp [c, hi, show i - 16 < 16 from by omega]
    congr 1; omega
set_option maxHeartbeats 1600000 in
set_option maxRecDepth 100000 in
theorem rev_bytes (X : BitVec 32) (w : World) :
    Calls Try.prog 91 #[.int .u32 X.toNat] w fun e w' => e = .returned (.int .u32 (((swp 8 16711935#32 X) >>> 16 ||| (swp 8 16711935#32 X) <<< 16).toNat : Nat)) ∧ w' = w := by
  have h0 : (0 : Int) ≤ (X.toNat : Int) := by omega
  have h1 : (X.toNat : Int) < 4294967296 := by have := X.isLt; omega
  have e1 := swp_num 8 16711935#32 X
  have e2 := shr_bv (swp 8 16711935#32 X) 16
  have e3 := shl_bv (swp 8 16711935#32 X) 16
  have e4 := or_bv (swp 8 16711935#32 X >>> 16) (swp 8 16711935#32 X <<< 16)
  rw [show ((2 ^ 8 : Nat) : Int) = 256 from rfl, show ((16711935#32).toNat : Int) = 16711935 from rfl] at e1
  rw [show ((2 ^ 16 : Nat) : Int) = 65536 from rfl] at e2 e3
  have hb : 0 ≤ ((swp 8 16711935#32 X).toNat : Int) ∧ ((swp 8 16711935#32 X).toNat : Int) < 4294967296 := by have := (swp 8 16711935#32 X).isLt; omega
  generalize ((swp 8 16711935#32 X).toNat : Int) = y at *
  generalize ((swp 8 16711935#32 X >>> 16).toNat : Int) = y1 at *
  generalize ((swp 8 16711935#32 X <<< 16).toNat : Int) = y2 at *
  generalize ((swp 8 16711935#32 X >>> 16 ||| swp 8 16711935#32 X <<< 16).toNat : Int) = y3 at *
  generalize (X.toNat : Int) = v at *
  obtain ⟨hb0, hb1⟩ := hb
  go_enter Try.func91, Try.ntmps91
  go_wp2_with fail
  go_ret
  exact ⟨rfl, rfl⟩
set_option maxHeartbeats 1600000 in
set_option maxRecDepth 100000 in
theorem rev_32 (X : BitVec 32) (w : World) :
    Calls Try.prog 90 #[.int .u32 X.toNat] w fun e w' => e = .returned (.int .u32 ((rev32 X).toNat : Nat)) ∧ w' = w := by
  have h0 : (0 : Int) ≤ (X.toNat : Int) := by omega
  have h1 : (X.toNat : Int) < 4294967296 := by have := X.isLt; omega
  have HR := Lib.hid (rev_bytes (swp 4 252645135#32 (swp 2 858993459#32 (swp 1 1431655765#32 X))) w)
  have e1 := swp_num 1 1431655765#32 X
  have e2 := swp_num 2 858993459#32 (swp 1 1431655765#32 X)
  have e4 := swp_num 4 252645135#32 (swp 2 858993459#32 (swp 1 1431655765#32 X))
  rw [show ((2 ^ 1 : Nat) : Int) = 2 from rfl, show ((1431655765#32).toNat : Int) = 1431655765 from rfl] at e1
  rw [show ((2 ^ 2 : Nat) : Int) = 4 from rfl, show ((858993459#32).toNat : Int) = 858993459 from rfl] at e2
  rw [show ((2 ^ 4 : Nat) : Int) = 16 from rfl, show ((252645135#32).toNat : Int) = 252645135 from rfl] at e4
  have hb1 : 0 ≤ ((swp 1 1431655765#32 X).toNat : Int) ∧ ((swp 1 1431655765#32 X).toNat : Int) < 4294967296 := by have := (swp 1 1431655765#32 X).isLt; omega
  have hb2 : 0 ≤ ((swp 2 858993459#32 (swp 1 1431655765#32 X)).toNat : Int) ∧ ((swp 2 858993459#32 (swp 1 1431655765#32 X)).toNat : Int) < 4294967296 := by have := (swp 2 858993459#32 (swp 1 1431655765#32 X)).isLt; omega
  have hr : rev32 X = (swp 8 16711935#32 (swp 4 252645135#32 (swp 2 858993459#32 (swp 1 1431655765#32 X)))) >>> 16 ||| (swp 8 16711935#32 (swp 4 252645135#32 (swp 2 858993459#32 (swp 1 1431655765#32 X)))) <<< 16 := rfl
  rw [← hr] at HR
  generalize rev32 X = R at *
  generalize ((swp 4 252645135#32 (swp 2 858993459#32 (swp 1 1431655765#32 X))).toNat : Int) = y4 at *
  generalize ((swp 2 858993459#32 (swp 1 1431655765#32 X)).toNat : Int) = y2 at *
  generalize ((swp 1 1431655765#32 X).toNat : Int) = y1 at *
  generalize (X.toNat : Int) = v at *
  clear hr
  obtain ⟨hb10, hb11⟩ := hb1
  obtain ⟨hb20, hb21⟩ := hb2
  go_enter Try.func90, Try.ntmps90
  go_wp2_with fail
  refine HR.out.mono ?_
  rintro e w1 ⟨rfl, hw⟩
  subst hw
  go_wp2_with fail
  go_ret
  exact ⟨rfl, rfl⟩
/-- The lowest n bits of a number the other way round. -/
def turnN (v n : Nat) : Nat := (numT (bitT v n).reverse).toNat
theorem turnN_num (v n : Nat) : (turnN v n : Int) = numT (bitT v n).reverse := by
  have := (numT_range (bin_rev (bin_bitT v n))).1
  unfold turnN; omega
theorem turnN_lt (v n : Nat) : turnN v n < 2 ^ n := by
  have := (numT_range (bin_rev (bin_bitT v n))).2
  rw [← turnN_num, List.length_reverse, bitT_length] at this
  exact_mod_cast this
theorem rev_turn {v n : Nat} (hv : v < 2 ^ n) (h1 : 1 ≤ n) (hn : n ≤ 32) : (rev32 (BitVec.ofNat 32 v)).toNat / 2 ^ (32 - n) = turnN v n := by
  have hb : ∀ (X : BitVec 32) (i : Nat), X.toNat / 2 ^ i % 2 = (X.getLsbD i).toNat := fun X i => by
    rw [BitVec.getLsbD, Nat.testBit_eq_decide_div_mod_eq]
    have : X.toNat / 2 ^ i % 2 < 2 := Nat.mod_lt _ (by decide)
    by_cases c : X.toNat / 2 ^ i % 2 = 1
    · simp [c]
    · simp [c]; omega
  have h32 : v < 2 ^ 32 := Nat.lt_of_lt_of_le hv (Nat.pow_le_pow_right (by decide) hn)
  have hr : (rev32 (BitVec.ofNat 32 v)).toNat / 2 ^ (32 - n) < 2 ^ n := by
    rw [Nat.div_lt_iff_lt_mul (Nat.pow_pos (by decide)), ← Nat.pow_add, show n + (32 - n) = 32 from by omega]
    exact (rev32 (BitVec.ofNat 32 v)).isLt
  generalize hR : (rev32 (BitVec.ofNat 32 v)).toNat / 2 ^ (32 - n) = r at *
  have hbits : bitT (r : Int) n = (bitT (v : Int) n).reverse := by
    apply List.ext_getElem?
    intro i
    by_cases hi : i < n
    · rw [bitT_at _ hi, List.getElem?_reverse (by rw [bitT_length]; exact hi), bitT_length, bitT_at _ (by omega)]
      have e1 : r / 2 ^ i % 2 = v / 2 ^ (n - 1 - i) % 2 := by
        rw [← hR, Nat.div_div_eq_div_mul, ← Nat.pow_add, hb, rev32_bit _ _ (by omega), show 31 - (32 - n + i) = n - 1 - i from by omega, ← hb, BitVec.toNat_ofNat, Nat.mod_eq_of_lt h32]
      have e2 : ((r / 2 ^ i % 2 : Nat) : Int) = ((v / 2 ^ (n - 1 - i) % 2 : Nat) : Int) := by rw [e1]
      congr 1
    · rw [List.getElem?_eq_none (by rw [bitT_length]; omega), List.getElem?_eq_none (by rw [List.length_reverse, bitT_length]; omega)]
  have h3 := numT_bitT (r : Int) (by omega) n
  rw [hbits, ← turnN_num] at h3
  have h4 : (turnN v n : Int) = ((r % 2 ^ n : Nat) : Int) := by rw [h3, Int.natCast_emod, Int.natCast_pow]; rfl
  rw [Nat.mod_eq_of_lt hr] at h4
  omega
set_option maxHeartbeats 1600000 in
set_option maxRecDepth 100000 in
theorem tab_turned (v n : Nat) (w : World) (hv : v < 2 ^ n) (hn : n ≤ 15) :
    Calls Try.prog 86 #[.int .u32 v, .int .i64 n] w fun e w' => e = .returned (.int .u32 (turnN v n)) ∧ w' = w := by
  by_cases h0 : n = 0
  · subst h0
    go_enter Try.func86, Try.ntmps86
    go_wp2_with fail
    go_ret
    exact ⟨rfl, rfl⟩
  · have h32 : v < 2 ^ 32 := Nat.lt_of_lt_of_le hv (Nat.pow_le_pow_right (by decide) (by omega))
    have hX : (BitVec.ofNat 32 v).toNat = v := by rw [BitVec.toNat_ofNat, Nat.mod_eq_of_lt h32]
    have HR := Lib.hid (rev_32 (BitVec.ofNat 32 v) w)
    rw [hX] at HR
    have ht := rev_turn hv (by omega) (by omega)
    have hlt := (rev32 (BitVec.ofNat 32 v)).isLt
    generalize (rev32 (BitVec.ofNat 32 v)).toNat = R at *
    have e0 : ((n : Int) == 0) = false := by rw [beq_eq_false_iff_ne]; omega
    have hd : (R : Int) / 2 ^ (32 - n) = ((turnN v n : Nat) : Int) := by rw [← ht, Int.natCast_ediv, Int.natCast_pow]; rfl
    have HD := Lib.hid hd
    clear ht hd hX
    go_enter Try.func86, Try.ntmps86
    go_wp2_with fail
    refine HR.out.mono ?_
    rintro e w1 ⟨rfl, hw⟩
    subst hw
    go_wp2_with fail
    go_ret
    exact ⟨by rw [← HD.out]; rfl, rfl⟩
end Go.Proofs.Yteknaaijlkenkaa
