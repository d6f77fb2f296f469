import Derived.Test.YteknaaijlkenkaaRef5
namespace Go.Proofs.Yteknaaijlkenkaa
set_option linter.unusedVariables false
set_option linter.unusedSimpArgs false
open Go.RowKit

def bit01 (v : Int) (i : Nat) : Int := v / 2 ^ i % 2
def bitL (v : Int) : Nat → List Int
  | 0 => []
  | n + 1 => bitL v n ++ [48 + bit01 v n]
def putL (v n : Int) : List Int := if n < 1 ∨ 32 < n then [] else bitL v n.toNat
theorem and_mask_u32 (x : Int) (j : Nat) (hj : j ≤ 31) : bits .and .u32 x ((2 ^ j - 1 : Nat) : Int) = x % ((2 ^ j : Nat) : Int) := by
  have hp : 2 ^ j ≤ 2 ^ 31 := Nat.pow_le_pow_right (by omega) hj
  have hp0 : 0 < 2 ^ j := Nat.pow_pos (by omega)
  have e1 : (BitVec.ofInt 32 ((2 ^ j - 1 : Nat) : Int)).toNat = 2 ^ j - 1 := by
    rw [BitVec.ofInt_natCast, BitVec.toNat_ofNat]; exact Nat.mod_eq_of_lt (by omega)
  have e2 : (((BitVec.ofInt 32 x).toNat : Nat) : Int) = x % 4294967296 := by
    rw [BitVec.toNat_ofInt]; omega
  show IntKind.u32.wrap ((BitVec.ofInt 32 x &&& BitVec.ofInt 32 ((2 ^ j - 1 : Nat) : Int)).toNat : Int) = _
  rw [BitVec.toNat_and, e1, Nat.and_two_pow_sub_one_eq_mod, IntKind.wrap_u32]
  have hd : (((2 ^ j : Nat) : Int)) ∣ 4294967296 := by
    have : (2 ^ j) ∣ 2 ^ 32 := Nat.pow_dvd_pow 2 (by omega)
    have h2 := Int.natCast_dvd_natCast.2 this
    exact h2
  have e3 : (((BitVec.ofInt 32 x).toNat % 2 ^ j : Nat) : Int) = x % ((2 ^ j : Nat) : Int) := by
    rw [Int.natCast_emod, e2, Int.emod_emod_of_dvd _ hd]
  have h1 := Int.emod_nonneg x (b := ((2 ^ j : Nat) : Int)) (by omega)
  have h2 := Int.emod_lt_of_pos x (b := ((2 ^ j : Nat) : Int)) (by omega)
  rw [e3]
  generalize x % ((2 ^ j : Nat) : Int) = y at *
  omega
theorem and_u32_1 (x : Int) : bits .and .u32 x 1 = x % 2 := and_mask_u32 x 1 (by omega)
theorem bitL_length (v : Int) : ∀ n, (bitL v n).length = n
  | 0 => rfl
  | n + 1 => by simp [bitL, bitL_length v n]
theorem bit01_cases (v : Int) (i : Nat) : bit01 v i = 0 ∨ bit01 v i = 1 := by unfold bit01; generalize v / 2 ^ i = x; omega
theorem strOfNums_append (a b : List Int) : strOfNums (a ++ b) = strOfNums a ++ strOfNums b := by
  apply ByteArray.ext
  simp [strOfNums]

structure PtRel5 (w : World) (v : Int) (n : Nat) (g : Nat) (v5 v6 : Value) (wr : World) : Prop where mk ::
  out_ : ∃ (k : Nat), k ≤ n ∧ n ≤ g + k ∧ v5 = .string (strOfNums (bitL v k)) ∧ v6 = .int .i64 (k : Int) ∧ wr = w

set_option maxHeartbeats 1600000 in
set_option maxRecDepth 100000 in
theorem ref_put5 (v n : Int) (w : World) (hv0 : 0 ≤ v) (hv1 : v < 4294967296) (hn : (Lit.int .i64 n).wf = true) :
    Calls Try.prog 30 #[.int .u32 v, .int .i64 n] w fun e w' => e = .returned (.string (strOfNums (putL v n))) ∧ w' = w := by
  by_cases h1 : n < 1
  · have e1 : decide (n < 1) = true := by simpa using h1
    have e : putL v n = [] := by unfold putL; rw [if_pos (.inl h1)]
    rw [e]
    go_enter Try.func30, Try.ntmps30
    go_wp2_with fail
    go_ret
    exact ⟨rfl, rfl⟩
  · have e1 : decide (n < 1) = false := by simp; omega
    by_cases h2 : 32 < n
    · have e2 : decide (32 < n) = true := by simpa using h2
      have e : putL v n = [] := by unfold putL; rw [if_pos (.inr h2)]
      rw [e]
      go_enter Try.func30, Try.ntmps30
      go_wp2_with fail
      go_ret
      exact ⟨rfl, rfl⟩
    · have e2 : decide (32 < n) = false := by simp; omega
      obtain ⟨m, rfl⟩ : ∃ m : Nat, n = m := ⟨n.toNat, by omega⟩
      have e : putL v m = bitL v m := by unfold putL; rw [if_neg (by omega), Int.toNat_natCast]
      rw [e]
      clear e
      have hm : m ≤ 32 := by omega
      go_enter Try.func30, Try.ntmps30
      go_wp2_with fail
      go_loopg [5, 6] m (PtRel5 w v m)
      case atStart => exact ⟨0, by omega, by omega, rfl, rfl, rfl⟩
      case round =>
        obtain ⟨k, hk, hg, rfl, rfl, rfl⟩ := hrel
        by_cases hlt : k < m
        · have hx0 : 0 ≤ v / 2 ^ k := Int.ediv_nonneg hv0 (Int.le_of_lt (Int.pow_pos (by decide)))
          have hx1 : v / 2 ^ k < 4294967296 := Int.lt_of_le_of_lt (Int.ediv_le_self _ hv0) hv1
          have ha := and_u32_1 (v / 2 ^ k)
          have hsz : (strOfNums (bitL v k)).size ≤ 32 := by rw [strOfNums_size, bitL_length]; omega
          have hst : strOfNums (bitL v (k + 1)) = strOfNums (bitL v k) ++ strOfNums [48 + bit01 v k] := by rw [bitL, strOfNums_append]
          rw [show v / 2 ^ k % 2 = bit01 v k from rfl] at ha
          have HST := Lib.hid hst
          clear hst
          generalize strOfNums (bitL v k) = S at *
          clear hx0 hx1
          rcases bit01_cases v k with hb | hb
          · rw [hb] at ha HST
            go_wp2_with fail
            go_roundg (gk - 1)
            case measure => omega
            case rel => exact ⟨k + 1, by omega, by omega, by rw [HST.out]; rfl, by go_num, rfl⟩
          · rw [hb] at ha HST
            go_wp2_with fail
            go_roundg (gk - 1)
            case measure => omega
            case rel => exact ⟨k + 1, by omega, by omega, by rw [HST.out]; rfl, by go_num, rfl⟩
        · have hkm : k = m := by omega
          subst hkm
          go_wp2_with fail
          go_ret
          exact ⟨rfl, rfl⟩

def codeL (v n : Int) : List Int := (putL v n).reverse
theorem strOfNums_one (xs : List Int) (i : Nat) (h : i < xs.length) : (strOfNums xs).extract i (i + 1) = strOfNums [xs.getD i 0] := by
  apply ByteArray.ext
  apply Array.ext'
  rw [ByteArray.data_extract, Array.toList_extract, strOfNums_data, strOfNums_data]
  rw [List.extract_eq_take_drop, show i + 1 - i = 1 from by omega, ← List.map_drop, ← List.map_take, List.drop_eq_getElem_cons h, List.take_succ_cons, List.take_zero]
  simp [List.getD_eq_getElem?_getD, h]
structure CdRel5 (w : World) (xs : List Int) (g : Nat) (v6 v7 : Value) (wr : World) : Prop where mk ::
  out_ : ∃ (k : Nat), k ≤ xs.length ∧ k ≤ g ∧ v6 = .string (strOfNums (xs.drop k).reverse) ∧ v7 = .int .i64 ((k : Int) - 1) ∧ wr = w

theorem putL_length (v n : Int) : (putL v n).length ≤ 32 := by
  unfold putL
  split
  · simp
  · rw [bitL_length]; omega
set_option maxHeartbeats 1600000 in
set_option maxRecDepth 100000 in
theorem ref_code5 (v n : Int) (w : World) (hv0 : 0 ≤ v) (hv1 : v < 4294967296) (hn : (Lit.int .i64 n).wf = true) :
    Calls Try.prog 29 #[.int .u32 v, .int .i64 n] w fun e w' => e = .returned (.string (strOfNums (codeL v n))) ∧ w' = w := by
  have HP := Lib.hid (ref_put5 v n w hv0 hv1 hn)
  have hl := putL_length v n
  unfold codeL
  generalize putL v n = xs at *
  go_enter Try.func29, Try.ntmps29
  go_wp2_with fail
  refine HP.out.mono ?_
  rintro e w1 ⟨rfl, rfl⟩
  have hss := strOfNums_size xs
  go_wp2_with fail
  go_loopg [6, 7] xs.length (CdRel5 w1 xs)
  case atStart => exact ⟨xs.length, by omega, by omega, by simp; rfl, rfl, rfl⟩
  case round =>
    obtain ⟨k, hk, hg, rfl, rfl, hw⟩ := hrel
    subst hw
    by_cases h0 : k = 0
    · subst h0
      go_wp2_with fail
      go_ret
      exact ⟨by simp, rfl⟩
    · obtain ⟨m, rfl⟩ : ∃ m, k = m + 1 := ⟨k - 1, by omega⟩
      have e0 : ((m + 1 : Nat) : Int) - 1 = m := by omega
      rw [e0]
      have hx := strOfNums_one xs m (by omega)
      have hsl := run_slice_string (P := Try.prog) wr 9 (strOfNums xs) .i64 .i64 (m : Int) ((m : Int) + 1) Try.underlying9 (by omega) (by omega) (by rw [hss]; omega)
      rw [Int.toNat_natCast, show ((m : Int) + 1).toNat = m + 1 from by omega, hx] at hsl
      clear hx
      have hst : strOfNums (xs.drop m).reverse = strOfNums (xs.drop (m + 1)).reverse ++ strOfNums [xs.getD m 0] := by
        rw [← strOfNums_append, List.drop_eq_getElem_cons (by omega : m < xs.length), List.reverse_cons]
        simp [List.getD_eq_getElem?_getD, show m < xs.length from by omega]
      have hsz : (strOfNums (xs.drop (m + 1)).reverse).size ≤ 32 := by rw [strOfNums_size]; simp; omega
      have hs1 : (strOfNums [xs.getD m 0]).size = 1 := by rw [strOfNums_size]; rfl
      have HST := Lib.hid hst
      clear hst
      generalize strOfNums (xs.drop (m + 1)).reverse = S at *
      generalize strOfNums [xs.getD m 0] = T at *
      go_wp2_with fail
      go_roundg (gk - 1)
      case measure => omega
      case rel => exact ⟨m, by omega, by omega, by rw [HST.out], rfl, rfl⟩
end Go.Proofs.Yteknaaijlkenkaa
