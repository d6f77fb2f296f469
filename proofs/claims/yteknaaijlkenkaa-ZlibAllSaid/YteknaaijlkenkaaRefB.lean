import Derived.Test.YteknaaijlkenkaaBitP
import Derived.Test.YteknaaijlkenkaaBas2
import Derived.Test.YteknaaijlkenkaaRows
namespace Go.Proofs.Yteknaaijlkenkaa
set_option linter.unusedVariables false
set_option linter.unusedSimpArgs false
open Go.RowKit

/-- Bits as a text of 0 and 1. -/
def txt (t : List Int) : ByteArray := strOfNums (t.map (48 + ·))
theorem strOfNums_app (a b : List Int) : strOfNums (a ++ b) = strOfNums a ++ strOfNums b := by
  apply ByteArray.ext
  simp [strOfNums]
theorem txt_append (a b : List Int) : txt (a ++ b) = txt a ++ txt b := by unfold txt; rw [List.map_append, strOfNums_app]
theorem txt_size (t : List Int) : (txt t).size = t.length := by unfold txt; rw [strOfNums_size, List.length_map]
theorem txt_nil : txt [] = ⟨#[]⟩ := rfl
theorem txt_data (t : List Int) : (txt t).data.toList = t.map (fun x => UInt8.ofNat (48 + x).toNat) := by
  unfold txt
  rw [strOfNums_data, List.map_map]
  rfl
theorem txt_extract (t : List Int) (i j : Nat) : (txt t).extract i j = txt ((t.drop i).take (j - i)) := by
  apply ByteArray.ext
  apply Array.ext'
  rw [ByteArray.data_extract, Array.toList_extract, txt_data, txt_data, List.extract_eq_take_drop, ← List.map_drop, ← List.map_take]
theorem and_u32_1' (x : Int) : bits .and .u32 x 1 = x % 2 := and_maskK .u32 (.inl rfl) x 1 (by decide)
theorem and_u8_1' (x : Int) : bits .and .u8 x 1 = x % 2 := and_maskK .u8 (.inr (.inr rfl)) x 1 (by decide)
theorem bit_cases (v : Int) (i : Nat) : v / 2 ^ i % 2 = 0 ∨ v / 2 ^ i % 2 = 1 := by generalize v / 2 ^ i = x; omega

structure PtRel (w : World) (v : Int) (n : Nat) (g : Nat) (v5 v6 : Value) (wr : World) : Prop where mk ::
  out_ : ∃ (k : Nat), k ≤ n ∧ n ≤ g + k ∧ v5 = .string (txt (bitT v k)) ∧ v6 = .int .i64 (k : Int) ∧ wr = w

set_option maxHeartbeats 1600000 in
set_option maxRecDepth 100000 in
theorem ref_put (v n : Int) (w : World) (hv0 : 0 ≤ v) (hv1 : v < 4294967296) :
    Calls Try.prog 30 #[.int .u32 v, .int .i64 n] w fun e w' => e = .returned (.string (txt (putT v n))) ∧ w' = w := by
  by_cases h1 : n < 1
  · have e1 : decide (n < 1) = true := by simpa using h1
    rw [putT_no v (.inl h1)]
    go_enter Try.func30, Try.ntmps30
    go_wp2_with fail
    go_ret
    exact ⟨rfl, rfl⟩
  · have e1 : decide (n < 1) = false := by simp; omega
    by_cases h2 : 32 < n
    · have e2 : decide (32 < n) = true := by simpa using h2
      rw [putT_no v (.inr h2)]
      go_enter Try.func30, Try.ntmps30
      go_wp2_with fail
      go_ret
      exact ⟨rfl, rfl⟩
    · have e2 : decide (32 < n) = false := by simp; omega
      obtain ⟨m, rfl⟩ : ∃ m : Nat, n = m := ⟨n.toNat, by omega⟩
      rw [putT_ok v (by omega) (by omega)]
      have hm : m ≤ 32 := by omega
      go_enter Try.func30, Try.ntmps30
      go_wp2_with fail
      go_loopg [5, 6] m (PtRel w v m)
      case atStart => exact ⟨0, by omega, by omega, rfl, rfl, rfl⟩
      case round =>
        obtain ⟨k, hk, hg, rfl, rfl, rfl⟩ := hrel
        by_cases hlt : k < m
        · have hx0 : 0 ≤ v / 2 ^ k := Int.ediv_nonneg hv0 (Int.le_of_lt (Int.pow_pos (by decide)))
          have hx1 : v / 2 ^ k < 4294967296 := Int.lt_of_le_of_lt (Int.ediv_le_self _ hv0) hv1
          have ha := and_u32_1' (v / 2 ^ k)
          have hsz : (txt (bitT v k)).size ≤ 32 := by rw [txt_size, bitT_length]; omega
          have hst : txt (bitT v (k + 1)) = txt (bitT v k) ++ txt [v / 2 ^ k % 2] := by rw [bitT, txt_append]
          have HST := Lib.hid hst
          clear hst
          generalize txt (bitT v k) = S at *
          clear hx0 hx1
          rcases bit_cases v k with hb | hb
          · rw [hb] at ha HST
            go_wp2_with fail
            go_roundg (gk - 1)
            case measure => omega
            case rel => exact ⟨k + 1, by omega, by omega, by rw [HST.out]; rfl, by go_num, rfl⟩
          · rw [hb] at ha HST
            go_wp2_with fail
            go_roundg (gk - 1)
            case measure => omega
            case rel => exact ⟨k + 1, by omega, by omega, by rw [HST.out]; rfl, by go_num, rfl⟩
        · have hkm : k = m := by omega
          subst hkm
          go_wp2_with fail
          go_ret
          exact ⟨rfl, rfl⟩

structure CdRel (w : World) (xs : List Int) (g : Nat) (v6 v7 : Value) (wr : World) : Prop where mk ::
  out_ : ∃ (k : Nat), k ≤ xs.length ∧ k ≤ g ∧ v6 = .string (txt (xs.drop k).reverse) ∧ v7 = .int .i64 ((k : Int) - 1) ∧ wr = w
set_option maxHeartbeats 1600000 in
set_option maxRecDepth 100000 in
theorem ref_code (v n : Int) (w : World) (hv0 : 0 ≤ v) (hv1 : v < 4294967296) :
    Calls Try.prog 29 #[.int .u32 v, .int .i64 n] w fun e w' => e = .returned (.string (txt (codeT v n))) ∧ w' = w := by
  have HP := Lib.hid (ref_put v n w hv0 hv1)
  have hl := putT_length v n
  unfold codeT
  generalize putT v n = xs at *
  go_enter Try.func29, Try.ntmps29
  go_wp2_with fail
  refine HP.out.mono ?_
  rintro e w1 ⟨rfl, rfl⟩
  have hss := txt_size xs
  go_wp2_with fail
  go_loopg [6, 7] xs.length (CdRel w1 xs)
  case atStart => exact ⟨xs.length, by omega, by omega, by simp; rfl, rfl, rfl⟩
  case round =>
    obtain ⟨k, hk, hg, rfl, rfl, hw⟩ := hrel
    subst hw
    by_cases h0 : k = 0
    · subst h0
      go_wp2_with fail
      go_ret
      exact ⟨by simp, rfl⟩
    · obtain ⟨m, rfl⟩ : ∃ m, k = m + 1 := ⟨k - 1, by omega⟩
      have e0 : ((m + 1 : Nat) : Int) - 1 = m := by omega
      rw [e0]
      have hx := txt_extract xs m (m + 1)
      have hd : (xs.drop m).take (m + 1 - m) = [xs.getD m 0] := by
        rw [show m + 1 - m = 1 from by omega, List.drop_eq_getElem_cons (by omega : m < xs.length), List.take_succ_cons, List.take_zero]
        simp [List.getD_eq_getElem?_getD, show m < xs.length from by omega]
      rw [hd] at hx
      have hsl := run_slice_string (P := Try.prog) wr 9 (txt xs) .i64 .i64 (m : Int) ((m : Int) + 1) Try.underlying9 (by omega) (by omega) (by rw [hss]; omega)
      rw [Int.toNat_natCast, show ((m : Int) + 1).toNat = m + 1 from by omega, hx] at hsl
      clear hx hd
      have hst : txt (xs.drop m).reverse = txt (xs.drop (m + 1)).reverse ++ txt [xs.getD m 0] := by
        rw [← txt_append, List.drop_eq_getElem_cons (by omega : m < xs.length), List.reverse_cons]
        simp [List.getD_eq_getElem?_getD, show m < xs.length from by omega]
      have hsz : (txt (xs.drop (m + 1)).reverse).size ≤ 32 := by rw [txt_size]; simp; omega
      have hs1 : (txt [xs.getD m 0]).size = 1 := by rw [txt_size]; rfl
      have HST := Lib.hid hst
      clear hst
      generalize txt (xs.drop (m + 1)).reverse = S at *
      generalize txt [xs.getD m 0] = T at *
      go_wp2_with fail
      go_roundg (gk - 1)
      case measure => omega
      case rel => exact ⟨m, by omega, by omega, by rw [HST.out], rfl, rfl⟩

end Go.Proofs.Yteknaaijlkenkaa
