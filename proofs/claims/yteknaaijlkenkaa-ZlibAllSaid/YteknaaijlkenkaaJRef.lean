import Derived.Test.YteknaaijlkenkaaJCan
namespace Go.Proofs.Yteknaaijlkenkaa
set_option linter.unusedVariables false
set_option linter.unusedSimpArgs false
open Go.RowKit

set_option maxHeartbeats 1600000 in
set_option maxRecDepth 100000 in
theorem ref_kraft (A : Option Addr) (c : Nat) (l : List Int) (w : World) (hr : RowOf w .i64 A c l) :
    Calls Try.prog 59 #[.slice A l.length c] w fun e w' => e = .returned (.int .i64 (kraft l)) ∧ w' = w := by
  have hm := hr.most
  have hcap := hr.cap
  by_cases h1 : 65536 < l.length
  · have h1' : decide ((65536 : Int) < l.length) = true := by simp; omega
    have hk : kraft l = -1 := by unfold kraft; rw [if_pos h1]
    rw [hk]
    go_enter Try.func59, Try.ntmps59
    go_wp2_with fail
    go_ret
    exact ⟨rfl, rfl⟩
  · have h1' : decide ((65536 : Int) < l.length) = false := by simp; omega
    have hk : kraft l = kraftGo l 0 := by unfold kraft; rw [if_neg h1]
    rw [hk]
    clear hk
    go_enter Try.func59, Try.ntmps59
    go_wp2_with fail
    go_loopg [3, 4] l.length (KrRel w l)
    case atStart => exact ⟨0, 0, by omega, by omega, rfl, rfl, rfl, by simp, by omega, by omega⟩
    case round =>
      obtain ⟨k, s, hk, hg, rfl, rfl, rfl, hE, hs0, hs1⟩ := hrel
      by_cases hlt : k < l.length
      · obtain ⟨x, hx⟩ : ∃ x, l[k]? = some x := ⟨_, List.getElem?_eq_getElem hlt⟩
        obtain ⟨ad, rfl, hc⟩ := hr.rd k x hx
        rw [drop_at hx, kraftGo] at hE
        have hwf := hr.wf x (List.mem_of_getElem? hx)
        clear hx
        by_cases hb : x < 0 ∨ 15 < x
        · rw [if_pos hb] at hE
          have HE := Lib.hid hE
          clear hE
          rcases hb with hb | hb
          · have e1 : decide (x < 0) = true := by simpa using hb
            go_wp2_with fail
            go_ret
            exact ⟨congrArg (fun q => Ending.returned (.int .i64 q)) HE.out, rfl⟩
          · have e1 : decide (x < 0) = false := by simp; omega
            have e2 : decide (15 < x) = true := by simpa using hb
            go_wp2_with fail
            go_ret
            exact ⟨congrArg (fun q => Ending.returned (.int .i64 q)) HE.out, rfl⟩
        · rw [if_neg hb] at hE
          have HE := Lib.hid hE
          clear hE
          obtain ⟨n, rfl⟩ : ∃ n : Nat, x = n := ⟨x.toNat, by omega⟩
          have hn : n ≤ 15 := by omega
          have e1 : decide ((n : Int) < 0) = false := by simp
          have e2 : decide ((15 : Int) < n) = false := by simp; omega
          by_cases h0 : n = 0
          · subst h0
            go_wp2_with fail
            go_roundg (gk - 1)
            case measure => omega
            case rel => exact ⟨k + 1, s, by omega, by omega, rfl, by go_num, rfl, by simpa [kr] using HE.out, hs0, by omega⟩
          · have e3 : decide (0 < n) = true := by simp; omega
            go_wp2_with fail
            go_roundg (gk - 1)
            case measure => omega
            case rel =>
              have hp := kr_pow hn h0
              have hq := kr_range n
              refine ⟨k + 1, _, by omega, by omega, ?_, by go_num, rfl, HE.out, by omega, by omega⟩
              rw [hp, IntWalk.wrap64_in _ (by omega)]
      · have hkl : k = l.length := by omega
        subst hkl
        rw [List.drop_length, kraftGo] at hE
        have HE := Lib.hid hE
        clear hE
        go_wp2_with fail
        go_ret
        exact ⟨congrArg (fun q => Ending.returned (.int .i64 q)) HE.out, rfl⟩

theorem kraftGo_ok : ∀ {l : List Int} {s : Int}, 0 ≤ s → 0 ≤ kraftGo l s → ∀ n ∈ l, 0 ≤ n ∧ n ≤ 15
  | [], _, _, _, n, hn => by simp at hn
  | x :: l, s, hs, h, n, hn => by
    rw [kraftGo] at h
    split at h
    · omega
    · rcases List.mem_cons.1 hn with e | hn
      · subst e; omega
      · have := kr_range x
        exact kraftGo_ok (by omega) h n hn
theorem kraftGo_zero : ∀ {l : List Int} {s : Int}, 0 ≤ s → (∀ n ∈ l, n = 0) → kraftGo l s = s
  | [], s, _, _ => rfl
  | x :: l, s, hs, h => by
    have := h x (by simp)
    subst this
    rw [kraftGo, if_neg (by omega), kraftGo_zero (by simp [kr]; omega) (fun n hn => h n (by simp [hn]))]
    simp [kr]
theorem someGo_zero : ∀ {l : List Int} {s : Nat} {d : Int}, (someGo l s d).1 = s → ∀ n ∈ l, n = 0
  | [], s, d, h, n, hn => by simp at hn
  | x :: l, s, d, h, n, hn => by
    rw [someGo] at h
    have hge : ∀ (l : List Int) (s : Nat) (d : Int), s ≤ (someGo l s d).1 := fun l => by
      induction l with
      | nil => intro s d; simp [someGo]
      | cons y l ih =>
        intro s d
        rw [someGo]
        split
        · have := ih (s + 1) y; omega
        · exact ih s d
    split at h
    · have := hge l (s + 1) x; omega
    · rename_i h0
      have h0 : x = 0 := by simpa using h0
      rcases List.mem_cons.1 hn with e | hn
      · omega
      · exact someGo_zero h n hn
/-- The reference's order of the kinds comes to the same. -/
theorem kind_ref {l : List Int} (hl : l.length ≤ 65536) : kind l = if kraft l < 0 ∨ 32768 < kraft l then 4 else if (someGo l 0 0).1 = 0 then 0 else if kraft l = 32768 then 1 else if (someGo l 0 0).1 = 1 ∧ (someGo l 0 0).2 = 1 then 2 else 3 := by
  unfold kind kindOf
  by_cases a : kraft l < 0 ∨ 32768 < kraft l
  · rw [if_pos a]
    by_cases b : (someGo l 0 0).1 = 0
    · have := kraftGo_zero (s := 0) (Int.le_refl _) (someGo_zero b)
      unfold kraft at a
      rw [if_neg (by omega), this] at a
      omega
    · rw [if_neg b, if_neg (by omega)]
      rw [if_pos a]
  · simp only [if_neg a]

structure KfRel (w : World) (l : List Int) (g : Nat) (v4 v5 v6 : Value) (wr : World) : Prop where mk ::
  out_ : ∃ (k s : Nat) (d : Int), k ≤ l.length ∧ l.length ≤ g + k ∧ v4 = .int .i64 (s : Int) ∧ v5 = .int .i64 d ∧ v6 = .int .i64 (k : Int) ∧ wr = w ∧ someGo (l.drop k) s d = someGo l 0 0 ∧ s ≤ k

set_option maxHeartbeats 1600000 in
set_option maxRecDepth 100000 in
theorem ref_kind (A : Option Addr) (c : Nat) (l : List Int) (w : World) (hr : RowOf w .i64 A c l) (hl : l.length ≤ 65536) :
    Calls Try.prog 54 #[.slice A l.length c] w fun e w' => e = .returned (.int .i64 (kind l)) ∧ w' = w := by
  have hm := hr.most
  have hcap := hr.cap
  have HK := Lib.hid (ref_kraft A c l w hr)
  have hkr := kraft_range l
  have HK2 := Lib.hid (kind_ref hl)
  have hgood : 0 ≤ kraft l → ∀ n ∈ l, 0 ≤ n ∧ n ≤ 15 := fun h => by
    unfold kraft at h
    rw [if_neg (by omega)] at h
    exact kraftGo_ok (Int.le_refl _) h
  have HGOOD := Lib.hid hgood
  clear hgood
  go_enter Try.func54, Try.ntmps54
  go_wp2_with fail
  refine HK.out.mono ?_
  rintro e w1 ⟨rfl, rfl⟩
  clear HK
  generalize kraft l = q at *
  by_cases hq : q < 0
  · have b0 : decide (0 ≤ q) = false := by simp; omega
    have b1 : decide (q < 0) = true := by simp; omega
    have hk := HK2.out
    rw [if_pos (.inl hq)] at hk
    have HKE := Lib.hid hk
    clear HK2 hk
    by_cases hz : 0 < l.length
    · have b2 : decide ((0 : Int) < l.length) = true := by simpa using hz
      go_wp2_with fail
      go_loopg [6] 0 (fun g v6 wx => v6 = .int .i64 0 ∧ w1 = wx)
      case atStart => exact ⟨rfl, rfl⟩
      case round =>
        obtain ⟨rfl, rfl⟩ := hrel
        go_wp2_with fail
        go_ret
        exact ⟨congrArg (fun q => Ending.returned (.int .i64 q)) HKE.out.symm, rfl⟩
    · have hz : l.length = 0 := by omega
      go_wp2_with fail
      go_loopg [6] 0 (fun g v6 wx => v6 = .int .i64 0 ∧ w1 = wx)
      case atStart => exact ⟨rfl, rfl⟩
      case round =>
        obtain ⟨rfl, rfl⟩ := hrel
        go_wp2_with fail
        go_ret
        exact ⟨congrArg (fun q => Ending.returned (.int .i64 q)) HKE.out.symm, rfl⟩
  · have b0 : decide (0 ≤ q) = true := by simp; omega
    have b1 : decide (q < 0) = false := by simp; omega
    go_wp2_with fail
    go_loopg [4, 5, 6] l.length (KfRel w1 l)
    case atStart => exact ⟨0, 0, 0, by omega, by omega, rfl, rfl, rfl, rfl, by simp, by omega⟩
    case round =>
      obtain ⟨k, s, d, hk, hg, rfl, rfl, rfl, rfl, hE, hs⟩ := hrel
      by_cases hlt : k < l.length
      · obtain ⟨x, hx⟩ : ∃ x, l[k]? = some x := ⟨_, List.getElem?_eq_getElem hlt⟩
        obtain ⟨ad, rfl, hc⟩ := hr.rd k x hx
        rw [drop_at hx, someGo] at hE
        have hwf := HGOOD.out (by omega) x (List.mem_of_getElem? hx)
        clear hx
        by_cases h0 : x = 0
        · subst h0
          rw [if_neg (by simp)] at hE
          have HE := Lib.hid hE
          clear hE
          go_wp2_with fail
          go_roundg (gk - 1)
          case measure => omega
          case rel => exact ⟨k + 1, s, d, by omega, by omega, rfl, rfl, by go_num, rfl, HE.out, by omega⟩
        · rw [if_pos h0] at hE
          have HE := Lib.hid hE
          clear hE
          have e1 : decide (0 < x) = true := by simp; omega
          go_wp2_with fail
          go_roundg (gk - 1)
          case measure => omega
          case rel => exact ⟨k + 1, s + 1, x, by omega, by omega, by go_num, rfl, by go_num, rfl, HE.out, by omega⟩
      · have hkl : k = l.length := by omega
        subst hkl
        rw [List.drop_length, someGo] at hE
        rw [← hE] at HK2
        clear hE
        have hke := HK2.out
        simp only at hke
        clear HK2
        by_cases a3 : 32768 < q
        · rw [if_pos (.inr a3)] at hke
          have HKE := Lib.hid hke
          have b4 : decide (32768 < q) = true := by simpa using a3
          clear hke
          go_wp2_with fail
          go_ret
          exact ⟨congrArg (fun q => Ending.returned (.int .i64 q)) HKE.out.symm, rfl⟩
        · rw [if_neg (by omega)] at hke
          have b4 : decide (32768 < q) = false := by simp; omega
          by_cases a1 : s = 0
          · rw [if_pos a1] at hke
            have HKE := Lib.hid hke
            have b5 : ((s : Int) == 0) = true := by simp [a1]
            clear hke a1
            go_wp2_with fail
            go_ret
            exact ⟨congrArg (fun q => Ending.returned (.int .i64 q)) HKE.out.symm, rfl⟩
          · rw [if_neg a1] at hke
            have b5 : ((s : Int) == 0) = false := by simp [a1]
            by_cases a2 : q = 32768
            · rw [if_pos a2] at hke
              have HKE := Lib.hid hke
              have b2 : (q == 32768) = true := by simp [a2]
              clear hke a2 a1
              go_wp2_with fail
              go_ret
              exact ⟨congrArg (fun q => Ending.returned (.int .i64 q)) HKE.out.symm, rfl⟩
            · rw [if_neg a2] at hke
              have b2 : (q == 32768) = false := by simp [a2]
              by_cases a4 : s = 1
              · have b6 : ((s : Int) == 1) = true := by simp [a4]
                by_cases a5 : d = 1
                · rw [if_pos ⟨a4, a5⟩] at hke
                  have HKE := Lib.hid hke
                  have b7 : (d == 1) = true := by simp [a5]
                  clear hke a1 a2 a4 a5
                  go_wp2_with fail
                  go_ret
                  exact ⟨congrArg (fun q => Ending.returned (.int .i64 q)) HKE.out.symm, rfl⟩
                · rw [if_neg (fun h => a5 h.2)] at hke
                  have HKE := Lib.hid hke
                  have b7 : (d == 1) = false := by simp [a5]
                  clear hke a1 a2 a4 a5
                  go_wp2_with fail
                  go_ret
                  exact ⟨congrArg (fun q => Ending.returned (.int .i64 q)) HKE.out.symm, rfl⟩
              · rw [if_neg (fun h => a4 h.1)] at hke
                have HKE := Lib.hid hke
                have b6 : ((s : Int) == 1) = false := by simp; omega
                clear hke a1 a2 a4
                go_wp2_with fail
                go_ret
                exact ⟨congrArg (fun q => Ending.returned (.int .i64 q)) HKE.out.symm, rfl⟩
end Go.Proofs.Yteknaaijlkenkaa
namespace Go.Proofs.Yteknaaijlkenkaa
open Go.RowKit

def bit01 (v : Int) (i : Nat) : Int := v / 2 ^ i % 2
def bitL (v : Int) : Nat → List Int
  | 0 => []
  | n + 1 => bitL v n ++ [48 + bit01 v n]
def putL (v n : Int) : List Int := if n < 1 ∨ 32 < n then [] else bitL v n.toNat
theorem and_mask_u32 (x : Int) (j : Nat) (hj : j ≤ 31) : bits .and .u32 x ((2 ^ j - 1 : Nat) : Int) = x % ((2 ^ j : Nat) : Int) := by
  have hp : 2 ^ j ≤ 2 ^ 31 := Nat.pow_le_pow_right (by omega) hj
  have hp0 : 0 < 2 ^ j := Nat.pow_pos (by omega)
  have e1 : (BitVec.ofInt 32 ((2 ^ j - 1 : Nat) : Int)).toNat = 2 ^ j - 1 := by
    rw [BitVec.ofInt_natCast, BitVec.toNat_ofNat]; exact Nat.mod_eq_of_lt (by omega)
  have e2 : (((BitVec.ofInt 32 x).toNat : Nat) : Int) = x % 4294967296 := by
    rw [BitVec.toNat_ofInt]; omega
  show IntKind.u32.wrap ((BitVec.ofInt 32 x &&& BitVec.ofInt 32 ((2 ^ j - 1 : Nat) : Int)).toNat : Int) = _
  rw [BitVec.toNat_and, e1, Nat.and_two_pow_sub_one_eq_mod, IntKind.wrap_u32]
  have hd : (((2 ^ j : Nat) : Int)) ∣ 4294967296 := by
    have : (2 ^ j) ∣ 2 ^ 32 := Nat.pow_dvd_pow 2 (by omega)
    have h2 := Int.natCast_dvd_natCast.2 this
    exact h2
  have e3 : (((BitVec.ofInt 32 x).toNat % 2 ^ j : Nat) : Int) = x % ((2 ^ j : Nat) : Int) := by
    rw [Int.natCast_emod, e2, Int.emod_emod_of_dvd _ hd]
  have h1 := Int.emod_nonneg x (b := ((2 ^ j : Nat) : Int)) (by omega)
  have h2 := Int.emod_lt_of_pos x (b := ((2 ^ j : Nat) : Int)) (by omega)
  rw [e3]
  generalize x % ((2 ^ j : Nat) : Int) = y at *
  omega
theorem and_u32_1 (x : Int) : bits .and .u32 x 1 = x % 2 := and_mask_u32 x 1 (by omega)
theorem bitL_length (v : Int) : ∀ n, (bitL v n).length = n
  | 0 => rfl
  | n + 1 => by simp [bitL, bitL_length v n]
theorem bit01_cases (v : Int) (i : Nat) : bit01 v i = 0 ∨ bit01 v i = 1 := by unfold bit01; generalize v / 2 ^ i = x; omega
theorem strOfNums_append (a b : List Int) : strOfNums (a ++ b) = strOfNums a ++ strOfNums b := by
  apply ByteArray.ext
  simp [strOfNums]

structure PtRel5 (w : World) (v : Int) (n : Nat) (g : Nat) (v5 v6 : Value) (wr : World) : Prop where mk ::
  out_ : ∃ (k : Nat), k ≤ n ∧ n ≤ g + k ∧ v5 = .string (strOfNums (bitL v k)) ∧ v6 = .int .i64 (k : Int) ∧ wr = w

set_option maxHeartbeats 1600000 in
set_option maxRecDepth 100000 in
theorem ref_put5 (v n : Int) (w : World) (hv0 : 0 ≤ v) (hv1 : v < 4294967296) (hn : (Lit.int .i64 n).wf = true) :
    Calls Try.prog 30 #[.int .u32 v, .int .i64 n] w fun e w' => e = .returned (.string (strOfNums (putL v n))) ∧ w' = w := by
  by_cases h1 : n < 1
  · have e1 : decide (n < 1) = true := by simpa using h1
    have e : putL v n = [] := by unfold putL; rw [if_pos (.inl h1)]
    rw [e]
    go_enter Try.func30, Try.ntmps30
    go_wp2_with fail
    go_ret
    exact ⟨rfl, rfl⟩
  · have e1 : decide (n < 1) = false := by simp; omega
    by_cases h2 : 32 < n
    · have e2 : decide (32 < n) = true := by simpa using h2
      have e : putL v n = [] := by unfold putL; rw [if_pos (.inr h2)]
      rw [e]
      go_enter Try.func30, Try.ntmps30
      go_wp2_with fail
      go_ret
      exact ⟨rfl, rfl⟩
    · have e2 : decide (32 < n) = false := by simp; omega
      obtain ⟨m, rfl⟩ : ∃ m : Nat, n = m := ⟨n.toNat, by omega⟩
      have e : putL v m = bitL v m := by unfold putL; rw [if_neg (by omega), Int.toNat_natCast]
      rw [e]
      clear e
      have hm : m ≤ 32 := by omega
      go_enter Try.func30, Try.ntmps30
      go_wp2_with fail
      go_loopg [5, 6] m (PtRel5 w v m)
      case atStart => exact ⟨0, by omega, by omega, rfl, rfl, rfl⟩
      case round =>
        obtain ⟨k, hk, hg, rfl, rfl, rfl⟩ := hrel
        by_cases hlt : k < m
        · have hx0 : 0 ≤ v / 2 ^ k := Int.ediv_nonneg hv0 (Int.le_of_lt (Int.pow_pos (by decide)))
          have hx1 : v / 2 ^ k < 4294967296 := Int.lt_of_le_of_lt (Int.ediv_le_self _ hv0) hv1
          have ha := and_u32_1 (v / 2 ^ k)
          have hsz : (strOfNums (bitL v k)).size ≤ 32 := by rw [strOfNums_size, bitL_length]; omega
          have hst : strOfNums (bitL v (k + 1)) = strOfNums (bitL v k) ++ strOfNums [48 + bit01 v k] := by rw [bitL, strOfNums_append]
          rw [show v / 2 ^ k % 2 = bit01 v k from rfl] at ha
          have HST := Lib.hid hst
          clear hst
          generalize strOfNums (bitL v k) = S at *
          clear hx0 hx1
          rcases bit01_cases v k with hb | hb
          · rw [hb] at ha HST
            go_wp2_with fail
            go_roundg (gk - 1)
            case measure => omega
            case rel => exact ⟨k + 1, by omega, by omega, by rw [HST.out]; rfl, by go_num, rfl⟩
          · rw [hb] at ha HST
            go_wp2_with fail
            go_roundg (gk - 1)
            case measure => omega
            case rel => exact ⟨k + 1, by omega, by omega, by rw [HST.out]; rfl, by go_num, rfl⟩
        · have hkm : k = m := by omega
          subst hkm
          go_wp2_with fail
          go_ret
          exact ⟨rfl, rfl⟩

def codeL (v n : Int) : List Int := (putL v n).reverse
theorem strOfNums_one (xs : List Int) (i : Nat) (h : i < xs.length) : (strOfNums xs).extract i (i + 1) = strOfNums [xs.getD i 0] := by
  apply ByteArray.ext
  apply Array.ext'
  rw [ByteArray.data_extract, Array.toList_extract, strOfNums_data, strOfNums_data]
  rw [List.extract_eq_take_drop, show i + 1 - i = 1 from by omega, ← List.map_drop, ← List.map_take, List.drop_eq_getElem_cons h, List.take_succ_cons, List.take_zero]
  simp [List.getD_eq_getElem?_getD, h]
structure CdRel5 (w : World) (xs : List Int) (g : Nat) (v6 v7 : Value) (wr : World) : Prop where mk ::
  out_ : ∃ (k : Nat), k ≤ xs.length ∧ k ≤ g ∧ v6 = .string (strOfNums (xs.drop k).reverse) ∧ v7 = .int .i64 ((k : Int) - 1) ∧ wr = w

theorem putL_length (v n : Int) : (putL v n).length ≤ 32 := by
  unfold putL
  split
  · simp
  · rw [bitL_length]; omega
set_option maxHeartbeats 1600000 in
set_option maxRecDepth 100000 in
theorem ref_code5 (v n : Int) (w : World) (hv0 : 0 ≤ v) (hv1 : v < 4294967296) (hn : (Lit.int .i64 n).wf = true) :
    Calls Try.prog 29 #[.int .u32 v, .int .i64 n] w fun e w' => e = .returned (.string (strOfNums (codeL v n))) ∧ w' = w := by
  have HP := Lib.hid (ref_put5 v n w hv0 hv1 hn)
  have hl := putL_length v n
  unfold codeL
  generalize putL v n = xs at *
  go_enter Try.func29, Try.ntmps29
  go_wp2_with fail
  refine HP.out.mono ?_
  rintro e w1 ⟨rfl, rfl⟩
  have hss := strOfNums_size xs
  go_wp2_with fail
  go_loopg [6, 7] xs.length (CdRel5 w1 xs)
  case atStart => exact ⟨xs.length, by omega, by omega, by simp; rfl, rfl, rfl⟩
  case round =>
    obtain ⟨k, hk, hg, rfl, rfl, hw⟩ := hrel
    subst hw
    by_cases h0 : k = 0
    · subst h0
      go_wp2_with fail
      go_ret
      exact ⟨by simp, rfl⟩
    · obtain ⟨m, rfl⟩ : ∃ m, k = m + 1 := ⟨k - 1, by omega⟩
      have e0 : ((m + 1 : Nat) : Int) - 1 = m := by omega
      rw [e0]
      have hx := strOfNums_one xs m (by omega)
      have hsl := run_slice_string (P := Try.prog) wr 9 (strOfNums xs) .i64 .i64 (m : Int) ((m : Int) + 1) Try.underlying9 (by omega) (by omega) (by rw [hss]; omega)
      rw [Int.toNat_natCast, show ((m : Int) + 1).toNat = m + 1 from by omega, hx] at hsl
      clear hx
      have hst : strOfNums (xs.drop m).reverse = strOfNums (xs.drop (m + 1)).reverse ++ strOfNums [xs.getD m 0] := by
        rw [← strOfNums_append, List.drop_eq_getElem_cons (by omega : m < xs.length), List.reverse_cons]
        simp [List.getD_eq_getElem?_getD, show m < xs.length from by omega]
      have hsz : (strOfNums (xs.drop (m + 1)).reverse).size ≤ 32 := by rw [strOfNums_size]; simp; omega
      have hs1 : (strOfNums [xs.getD m 0]).size = 1 := by rw [strOfNums_size]; rfl
      have HST := Lib.hid hst
      clear hst
      generalize strOfNums (xs.drop (m + 1)).reverse = S at *
      generalize strOfNums [xs.getD m 0] = T at *
      go_wp2_with fail
      go_roundg (gk - 1)
      case measure => omega
      case rel => exact ⟨m, by omega, by omega, by rw [HST.out], rfl, rfl⟩
end Go.Proofs.Yteknaaijlkenkaa
namespace Go.Proofs.Yteknaaijlkenkaa
open Go.RowKit

theorem adv_mod {x : Int} (h0 : 0 ≤ x) (h1 : x < 4294967296) : ∀ m, adv x m = (x + m) % 4294967296
  | 0 => by simp [adv]; omega
  | m + 1 => by rw [adv, adv_mod h0 h1 m]; omega
theorem nxt_range (l : List Int) (n : Nat) : 0 ≤ nxt l n ∧ nxt l n < 4294967296 := by
  unfold nxt
  split <;> omega
theorem nxt_shl (l : List Int) {n : Nat} (h : 1 ≤ n) : adv (nxt l n) (l.count (n : Int)) * 2 % 4294967296 = nxt l (n + 1) := by
  have := nxt_range l n
  rw [nxt_succ l h, adv_mod this.1 this.2, cnt, if_neg (by omega)]
theorem adv_range {x : Int} (h0 : 0 ≤ x) (h1 : x < 4294967296) (m : Nat) : 0 ≤ adv x m ∧ adv x m < 4294967296 := by
  rw [adv_mod h0 h1]; omega
def codeS (l : List Int) (j : Nat) : ByteArray := strOfNums (codeL (code l j) (l.getD j 0))
def strs (l : List Int) : List Value := (List.range l.length).map fun j => .string (if l.getD j 0 = 0 then ⟨#[]⟩ else codeS l j)
def rcF (l : List Int) (n i j : Nat) : Value := .string (if (1 ≤ l.getD j 0 ∧ l.getD j 0 < n) ∨ (l.getD j 0 = n ∧ j < i) then codeS l j else ⟨#[]⟩)
theorem Try.strinfo : (Try.prog.info? 9).map (fun i => (i.zero, i.size, i.bytes)) = some (some (.string ⟨#[]⟩), 1, 16) := by kernel_rfl

structure RcRel (w : World) (l : List Int) (o : Nat) (g : Nat) (v5 v6 : Value) (wr : World) : Prop where mk ::
  out_ : ∃ (n : Nat) (r : Int), 1 ≤ n ∧ n ≤ 16 ∧ 16 ≤ g + n ∧ v5 = .int .u32 r ∧ r * 2 % 4294967296 = nxt l n ∧ v6 = .int .i64 (n : Int) ∧ Blk wr o 9 (tab l.length (rcF l n 0)) ∧ Below w.heap.size w wr
structure RcRel2 (w : World) (l : List Int) (o n : Nat) (g : Nat) (v5 v7 : Value) (wr : World) : Prop where mk ::
  out_ : ∃ (i : Nat), i ≤ l.length ∧ l.length ≤ g + i ∧ v5 = .int .u32 (adv (nxt l n) ((l.take i).count (n : Int))) ∧ v7 = .int .i64 (i : Int) ∧ Blk wr o 9 (tab l.length (rcF l n i)) ∧ Below w.heap.size w wr

set_option maxHeartbeats 1600000 in
set_option maxRecDepth 100000 in
theorem ref_codes_ok (A : Option Addr) (c : Nat) (l : List Int) (w : World) (hr : RowOf w .i64 A c l) (hk0 : 0 ≤ kraft l) (hk1 : kind l ≠ 4) (hl : l.length ≤ 65536) (hd : ∀ n ∈ l, 0 ≤ n ∧ n ≤ 15) :
    Calls Try.prog 50 #[.slice A l.length c] w fun e w' =>
      ∃ v, e = .returned (.tuple #[v, .int .i64 0]) ∧ Own w' w.heap.size 9 v (strs l) ∧ Below w.heap.size w w' := by
  have hm := hr.most
  have hcap := hr.cap
  have HK := Lib.hid (ref_kraft A c l w hr)
  have HD := Lib.hid (ref_kind A c l w hr hl)
  have hkind : (kind l == 4) = false := by simpa using hk1
  have hmk := run_make1 (P := Try.prog) 76 9 (.string ⟨#[]⟩) 16 Try.underlying76 Try.strinfo rfl l.length l.length (Nat.le_refl _) (by omega) (by omega)
  go_enter Try.func50, Try.ntmps50
  go_wp2_with fail
  refine HK.out.mono ?_
  rintro e w1 ⟨rfl, rfl⟩
  have e1 : decide (kraft l < 0) = false := by simp; omega
  go_wp2_with fail
  refine HD.out.mono ?_
  rintro e w2 ⟨rfl, rfl⟩
  clear HK HD
  go_wp2_with fail
  have ho1 : Blk (w2.alloc (.cells (madeCells #[.string ⟨#[]⟩] l.length) 9)) w2.heap.size 9 (tab l.length (rcF l 1 0)) := by
    have := Blk.new w2 9 (madeCells #[.string ⟨#[]⟩] l.length)
    rw [show tab l.length (rcF l 1 0) = madeCells #[.string ⟨#[]⟩] l.length from (tab_congr (fun i _ => by
      unfold rcF
      rw [if_neg (by omega)])).trans (made_tab _ _).symm]
    exact this
  have hB1 : Below w2.heap.size w2 (w2.alloc (.cells (madeCells #[.string ⟨#[]⟩] l.length) 9)) := (Below.refl _ _).alloc (Nat.le_refl _) _
  clear hmk
  go_loopg [5, 6] 15 (RcRel w2 l w2.heap.size)
  case atStart => exact ⟨1, 0, by omega, by omega, by omega, rfl, rfl, rfl, ho1, hB1⟩
  case round =>
    clear ho1 hB1
    obtain ⟨n, r, hn1, hn16, hgn, rfl, hrn, rfl, ho, hB⟩ := hrel
    by_cases hlt : n < 16
    · have e2 : decide ((n : Int) ≤ 15) = true := by simp; omega
      go_wp2_with fail
      rw [hrn]
      clear hrn
      go_loopg [5, 7] l.length (RcRel2 w2 l w2.heap.size n)
      case atStart => exact ⟨0, by omega, by omega, by simp [adv], rfl, ho, hB⟩
      case round =>
        clear ho hB
        rename Nat => gq
        obtain ⟨i, hi, hgi, rfl, rfl, ho, hB⟩ := hrel
        by_cases hil : i < l.length
        · obtain ⟨x, hx⟩ : ∃ x, l[i]? = some x := ⟨_, List.getElem?_eq_getElem hil⟩
          obtain ⟨ad, rfl, hc⟩ := hr.rd i x hx
          have hc := (hB.cell (World.block_lt_of_cell? w2 _ hc)).trans hc
          have hg : l.getD i 0 = x := by rw [List.getD_eq_getElem?_getD, hx]; rfl
          have HC := Lib.hid (take_count hx (n : Int))
          have HG := Lib.hid hg
          have hcd : x = n → code l i = adv (nxt l n) ((l.take i).count (n : Int)) := fun e => by
            unfold code
            rw [hg, e, Int.toNat_natCast, if_neg (by omega)]
          have hnr := nxt_range l n
          have har := adv_range hnr.1 hnr.2 ((l.take i).count (n : Int))
          clear hx hg hnr
          generalize hav : adv (nxt l n) ((l.take i).count (n : Int)) = a at *
          have HAV := Lib.hid hav
          clear hav
          by_cases hxn : x = n
          · have hcd := hcd hxn
            subst hxn
            have e3 : ((n : Int) == n) = true := by simp
            have HCD := Lib.hid hcd
            clear hcd
            have c2 := ho.cell i
            rw [tab_get hil] at c2
            have f2 := ho.frozen i
            go_wp2_with fail
            refine (ref_code5 a n wr har.1 har.2 (WalkArith.wf_i64 (by omega))).mono ?_
            rintro e w5 ⟨rfl, hw⟩
            subst hw
            go_wp2_with fail
            go_roundg (gq - 1)
            case measure => omega
            case rel =>
              refine ⟨i + 1, by omega, by omega, ?_, by go_num, ?_, below_set hB (p := ⟨w2.heap.size, i, none⟩) (Nat.le_refl _) _⟩
              · first | rw [HC.out, if_pos rfl, adv, HAV.out] | rw [HC.out, if_pos trivial, adv, HAV.out]
              · have := ho.set_ i (.string (strOfNums (codeL a n)))
                rw [tab_set] at this
                rw [tab_congr (n := l.length) (g := fun j => if j = i then .string (strOfNums (codeL a n)) else rcF l n i j)]
                · exact this
                · intro j hj
                  by_cases e : j = i
                  · subst e
                    rw [if_pos rfl]
                    unfold rcF
                    rw [if_pos (.inr ⟨HG.out, by omega⟩), codeS, HCD.out, HG.out]
                    all_goals trivial
                  · rw [if_neg e]
                    unfold rcF
                    congr 2
                    exact propext ⟨fun h => by omega, fun h => by omega⟩
          · have e3 : (x == (n : Int)) = false := by simpa using hxn
            go_wp2_with fail
            go_roundg (gq - 1)
            case measure => omega
            case rel =>
              refine ⟨i + 1, by omega, by omega, ?_, by go_num, ?_, hB⟩
              · rw [HC.out, if_neg hxn, Nat.add_zero, HAV.out]
              · rw [tab_congr (n := l.length) (g := rcF l n i)]
                · exact ho
                · intro j hj
                  unfold rcF
                  by_cases e : j = i
                  · subst e
                    rw [HG.out]
                    simp [hxn]
                  · simp [show (j < i + 1) ↔ (j < i) from by omega]
        · have hil' : i = l.length := by omega
          subst hil'
          rw [List.take_length]
          go_wp2_with fail
          go_roundg (gk - 1)
          case measure => omega
          case rel =>
            refine ⟨n + 1, _, by omega, by omega, by omega, rfl, nxt_shl l hn1, by go_num, ?_, hB⟩
            rw [tab_congr (n := l.length) (g := rcF l n l.length)]
            · exact ho
            · intro j hj
              unfold rcF
              simp only [hj, and_true, Nat.not_lt_zero, and_false, or_false]
              congr 2
              exact propext ⟨fun h => by omega, fun h => by omega⟩
    · have hn : n = 16 := by omega
      subst hn
      go_wp2_with fail
      go_ret2
      refine ⟨_, rfl, ?_, hB⟩
      have hlen : (strs l).length = l.length := by simp [strs]
      refine ⟨by omega, .inr ⟨w2.heap.size, l.length, _, by rw [hlen]; rfl, Nat.le_refl _, ho, by omega, by simp [maxLen]; omega, by simp [tab], ?_⟩⟩
      apply List.ext_getElem
      · simp [tab, hlen]
      · intro i h1 h2
        have hi : i < l.length := by omega
        have hx := hd l[i] (List.getElem_mem hi)
        rw [List.getElem_take]
        simp only [tab, strs, List.getElem_map, List.getElem_range, Array.getElem_toList, Array.getElem_ofFn]
        unfold rcF
        have hg : l.getD i 0 = l[i] := by simp [List.getD_eq_getElem?_getD, hi]
        rw [hg]
        by_cases h0 : l[i] = 0
        · rw [if_pos h0, if_neg (by omega)]
        · rw [if_neg h0, if_pos (by omega)]
theorem ref_codes_neg (A : Option Addr) (c : Nat) (l : List Int) (w : World) (hr : RowOf w .i64 A c l) (hk0 : kraft l < 0) :
    Calls Try.prog 50 #[.slice A l.length c] w fun e w' => e = .returned (.tuple #[.slice none 0 0, .int .i64 7]) ∧ w' = w := by
  have hm := hr.most
  have hcap := hr.cap
  have HK := Lib.hid (ref_kraft A c l w hr)
  go_enter Try.func50, Try.ntmps50
  go_wp2_with fail
  refine HK.out.mono ?_
  rintro e w1 ⟨rfl, rfl⟩
  have e1 : decide (kraft l < 0) = true := by simp; omega
  go_wp2_with fail
  go_ret2
  exact ⟨rfl, rfl⟩
theorem ref_codes_over (A : Option Addr) (c : Nat) (l : List Int) (w : World) (hr : RowOf w .i64 A c l) (hl : l.length ≤ 65536) (hk0 : 0 ≤ kraft l) (hk1 : kind l = 4) :
    Calls Try.prog 50 #[.slice A l.length c] w fun e w' => e = .returned (.tuple #[.slice none 0 0, .int .i64 2]) ∧ w' = w := by
  have hm := hr.most
  have hcap := hr.cap
  have HK := Lib.hid (ref_kraft A c l w hr)
  have HD := Lib.hid (ref_kind A c l w hr hl)
  rw [hk1] at HD
  go_enter Try.func50, Try.ntmps50
  go_wp2_with fail
  refine HK.out.mono ?_
  rintro e w1 ⟨rfl, rfl⟩
  have e1 : decide (kraft l < 0) = false := by simp; omega
  go_wp2_with fail
  refine HD.out.mono ?_
  rintro e w2 ⟨rfl, rfl⟩
  go_wp2_with fail
  go_ret2
  exact ⟨rfl, rfl⟩
def strsOut (l : List Int) : List Value := if codesErr l = 0 then strs l else []
theorem ref_codes (A : Option Addr) (c : Nat) (l : List Int) (w : World) (hr : RowOf w .i64 A c l) (hl : l.length ≤ 65536) :
    Calls Try.prog 50 #[.slice A l.length c] w fun e w' =>
      ∃ v, e = .returned (.tuple #[v, .int .i64 (codesErr l)]) ∧ Own w' w.heap.size 9 v (strsOut l) ∧ Below w.heap.size w w' := by
  by_cases h0 : kraft l < 0
  · have e : codesErr l = 7 := by rw [codesErr, if_pos h0]
    have e2 : strsOut l = [] := by rw [strsOut, e]; rfl
    refine (ref_codes_neg A c l w hr h0).mono ?_
    rintro e w' ⟨rfl, rfl⟩
    rw [e, e2]
    exact ⟨_, rfl, Own.nil _ _ _, Below.refl _ _⟩
  · by_cases h1 : kind l = 4
    · have e : codesErr l = 2 := by rw [codesErr, if_neg h0, if_pos h1]
      have e2 : strsOut l = [] := by rw [strsOut, e]; rfl
      refine (ref_codes_over A c l w hr hl (by omega) h1).mono ?_
      rintro e w' ⟨rfl, rfl⟩
      rw [e, e2]
      exact ⟨_, rfl, Own.nil _ _ _, Below.refl _ _⟩
    · have e : codesErr l = 0 := by rw [codesErr, if_neg h0, if_neg h1]
      have e2 : strsOut l = strs l := by rw [strsOut, e]; rfl
      obtain ⟨g1, g2⟩ := kraft_good (l := l) (by omega)
      refine (ref_codes_ok A c l w hr (by omega) h1 g1 g2).mono ?_
      rintro e w' ⟨v, rfl, ho, hb⟩
      rw [e, e2]
      exact ⟨v, rfl, ho, hb⟩
end Go.Proofs.Yteknaaijlkenkaa
