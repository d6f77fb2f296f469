import Derived.Test.YteknaaijlkenkaaJTal
import Derived.Test.YteknaaijlkenkaaJRef
namespace Go.Proofs.Yteknaaijlkenkaa
set_option linter.unusedVariables false
set_option linter.unusedSimpArgs false
open Go.RowKit
attribute [local go_sem] max2i min2i max2t min2t

theorem tab_new_bad1 (A : Option Addr) (c : Nat) (l : List Int) (w : World) (hr : RowOf w .i64 A c l) (hE : codesErr l ≠ 0) (F : Int) :
    Calls Try.prog 77 #[.slice A l.length c, .int .i64 F] w fun e w' => e = .returned (.tuple #[.pointer none, .int .i64 (codesErr l)]) ∧ Below w.heap.size w w' := by
  have hm := hr.most
  have hcap := hr.cap
  have HC := Lib.hid (canon_codes A c l w hr)
  have e0 : (codesErr l != 0) = true := by simpa using hE
  generalize codesErr l = ce at *
  go_enter Try.func77, Try.ntmps77
  go_wp2_with fail
  refine HC.out.mono ?_
  rintro e w1 ⟨v1, rfl, ho1, hb1⟩
  go_wp2_with fail
  go_ret2
  exact ⟨rfl, hb1⟩
theorem tab_new_bad2 (A : Option Addr) (c : Nat) (l : List Int) (w : World) (hr : RowOf w .i64 A c l) (hE : codesErr l = 0) (F : Int) (hF : F < 1 ∨ 15 < F) :
    Calls Try.prog 77 #[.slice A l.length c, .int .i64 F] w fun e w' => e = .returned (.tuple #[.pointer none, .int .i64 1]) ∧ Below w.heap.size w w' := by
  have hm := hr.most
  have hcap := hr.cap
  have HC := Lib.hid (canon_codes A c l w hr)
  rw [hE] at HC
  clear hE
  by_cases h1 : F < 1
  · have e1 : decide (F < 1) = true := by simpa using h1
    go_enter Try.func77, Try.ntmps77
    go_wp2_with fail
    refine HC.out.mono ?_
    rintro e w1 ⟨v1, rfl, ho1, hb1⟩
    go_wp2_with fail
    go_ret2
    exact ⟨rfl, hb1⟩
  · have e1 : decide (F < 1) = false := by simp; omega
    have e2 : decide (15 < F) = true := by simp; omega
    go_enter Try.func77, Try.ntmps77
    go_wp2_with fail
    refine HC.out.mono ?_
    rintro e w1 ⟨v1, rfl, ho1, hb1⟩
    go_wp2_with fail
    go_ret2
    exact ⟨rfl, hb1⟩
theorem str_ne0 {s : ByteArray} (h : 0 < s.size) : s.toList.isEmpty = false := by
  rw [List.isEmpty_eq_false_iff]
  intro e
  rw [ByteArray.toList_eq] at e
  have h2 := congrArg List.length e
  rw [Array.length_toList] at h2
  have h3 : s.size = s.data.size := rfl
  rw [h3, h2] at h
  simp at h
theorem bitL_map (v : Int) : ∀ n, bitL v n = (bitT v n).map (48 + ·)
  | 0 => rfl
  | n + 1 => by rw [bitL, bitT, bitL_map v n, List.map_append]; rfl
theorem putL_txt (v n : Int) : strOfNums (putL v n) = txt (putT v n) := by
  unfold putL putT txt
  split
  · rfl
  · rw [bitL_map]
theorem codeS_txt (l : List Int) (j : Nat) : codeS l j = txt (cw l j) := by
  unfold codeS codeL cw codeT txt putL putT
  rw [List.map_reverse]
  congr 2
  split
  · rfl
  · rw [bitL_map]
/-- What the codes say of bits v, seen by the first k symbols. -/
def begK (l : List Int) (v n k : Nat) : Bool := (List.range k).any (fun j => decide (n < ln l j ∧ tc l j % 2 ^ n = v))
structure FdRel (w : World) (l : List Int) (v n : Nat) (g : Nat) (v7 v8 : Value) (wr : World) : Prop where mk ::
  out_ : ∃ (k : Nat), k ≤ l.length ∧ l.length ≤ g + k ∧ v8 = .int .i64 (k : Int) ∧ v7 = .bool (begK l v n k) ∧ (∀ j, j < k → ¬ (mt l j v ∧ ln l j ≤ n)) ∧ wr = w
theorem begK_succ (l : List Int) (v n k : Nat) : begK l v n (k + 1) = (begK l v n k || decide (n < ln l k ∧ tc l k % 2 ^ n = v)) := by
  unfold begK
  rw [List.range_succ, List.any_append]
  simp
section
variable {l : List Int}
theorem Good.numcw (h : Good l) {j : Nat} (h1 : 1 ≤ ln l j) {v n : Nat} (hn : ln l j ≤ n) : (bitT (v : Int) n).take (ln l j) = cw l j ↔ v % 2 ^ ln l j = tc l j := by
  have hb : (bitT (v : Int) n).take (ln l j) = bitT (v : Int) (ln l j) := by
    apply List.ext_getElem?
    intro i
    rw [List.getElem?_take]
    by_cases hi : i < ln l j
    · rw [if_pos hi, bitT_at _ (by omega), bitT_at _ hi]
    · rw [if_neg hi, List.getElem?_eq_none (by rw [bitT_length]; omega)]
  have hnum : numT (bitT (v : Int) (ln l j)) = ((v % 2 ^ ln l j : Nat) : Int) := by rw [numT_bitT _ (by omega), Int.natCast_emod, Int.natCast_pow]; rfl
  rw [hb]
  constructor
  · intro e
    rw [e, ← tc_num] at hnum
    omega
  · intro e
    refine numT_inj (a := []) (b := []) (bin_bitT _ _) (cw_bin l j) (by rw [bitT_length, h.cw_len h1]) ?_
    rw [hnum, ← tc_num, e]
theorem Good.begcw (h : Good l) {j : Nat} {v n : Nat} (hv : v < 2 ^ n) (hn : n < ln l j) : (cw l j).take n = bitT (v : Int) n ↔ tc l j % 2 ^ n = v := by
  have h1 := numT_take (cw l j) n (cw_bin l j)
  have e2 : numT (bitT (v : Int) n) = v := by
    rw [numT_bitT _ (by omega)]
    have e : ((v % 2 ^ n : Nat) : Int) = (v : Int) % 2 ^ n := by rw [Int.natCast_emod, Int.natCast_pow]; rfl
    rw [← e, Nat.mod_eq_of_lt hv]
  have e3 : ((tc l j % 2 ^ n : Nat) : Int) = (tc l j : Int) % 2 ^ n := by rw [Int.natCast_emod, Int.natCast_pow]; rfl
  rw [← tc_num, ← e3] at h1
  constructor
  · intro e
    rw [e, e2] at h1
    omega
  · intro e
    refine numT_inj (a := []) (b := []) (bin_take (cw_bin l j) _) (bin_bitT _ _) (by rw [List.length_take, bitT_length, h.cw_len (by omega)]; omega) ?_
    rw [h1, e2, e]
end
set_option maxHeartbeats 4000000 in
set_option maxRecDepth 100000 in
theorem ref_find {l : List Int} (hg : Good l) (A : Option Addr) (c base : Nat) (w : World) (ho : Own w base 9 (.slice A l.length c) (strs l)) (v n : Nat) (hv : v < 2 ^ n) (hn : n ≤ 15) (hl65 : l.length ≤ 65536) :
    Calls Try.prog 55 #[.slice A l.length c, .string (txt (bitT v n))] w fun e w' => e = .returned (.tuple #[.int .i64 (findN l v n).1, .int .i64 (findN l v n).2.1, .int .i64 (findN l v n).2.2]) ∧ w' = w := by
  obtain ⟨A3, c3, ev, hc3, hcm, hadr, hn3, hr3⟩ := ho.shape
  have hsl : (strs l).length = l.length := by simp [strs]
  rw [hsl] at ev hc3
  injection ev with e1 _ e3
  subst e1 e3
  simp only [maxLen] at hcm
  have hHs := txt_size (bitT (v : Int) n)
  rw [bitT_length] at hHs
  obtain ⟨a1, a2, a3, hres⟩ : ∃ a1 a2 a3, findN l v n = (a1, a2, a3) := ⟨_, _, _, rfl⟩
  rw [hres]
  have HRES := Lib.hid hres
  obtain ⟨H, hH⟩ : ∃ H, txt (bitT (v : Int) n) = H := ⟨_, rfl⟩
  rw [hH] at hHs ⊢
  have HH := Lib.hid hH
  have HHS := Lib.hid hHs
  have hHb : H.size ≤ 15 := by omega
  have HN3 := Lib.hid hn3
  have HR3 := Lib.hid hr3
  clear hres hH hHs hn3 hr3 hadr ho
  go_enter Try.func55, Try.ntmps55
  go_wp2_with fail
  go_loopg [7, 8] l.length (FdRel w l v n)
  case atStart => exact ⟨0, by omega, by omega, rfl, rfl, fun j hj => by omega, rfl⟩
  case round =>
    obtain ⟨k, hk, hgk, rfl, rfl, hA, hw⟩ := hrel
    subst hw
    have HA := Lib.hid hA
    clear hA
    by_cases hlt : k < l.length
    · have hs3 : (strs l)[k]? = some (.string (if l.getD k 0 = 0 then ⟨#[]⟩ else codeS l k)) := by
        simp only [strs, List.getElem?_map, List.getElem?_range hlt, Option.map_some]
      obtain ⟨ad, rfl⟩ : ∃ ad, A = some ad := by
        cases A with
        | none => rw [HN3.out rfl] at hs3; simp at hs3
        | some ad => exact ⟨ad, rfl⟩
      have q3 := HR3.out ad rfl k _ hs3
      have hbk := begK_succ l v n k
      obtain ⟨hl15, hgd⟩ := hg.at_ k
      rw [hgd, codeS_txt] at q3
      by_cases h0 : ln l k = 0
      · rw [if_pos (by omega)] at q3
        have hbk2 : begK l v n (k + 1) = begK l v n k := by rw [hbk]; simp [show ¬ n < ln l k from by omega]
        have HBK := Lib.hid hbk2
        have HNO := Lib.hid (show ¬ (mt l k v ∧ ln l k ≤ n) from fun hh => by have := hh.1.1; omega)
        clear hbk hbk2 hs3 hgd h0
        generalize begK l v n k = b at *
        go_wp2_with fail
        go_roundg (gk - 1)
        case measure => omega
        case rel => exact ⟨k + 1, by omega, by omega, by go_num, (by rw [HBK.out]), fun j hj => by
          by_cases e : j = k
          · subst e; exact HNO.out
          · exact HA.out j (by omega), rfl⟩
      · rw [if_neg (by omega)] at q3
        have hSs := txt_size (cw l k)
        rw [hg.cw_len (by omega)] at hSs
        have hnum := hg.numcw (j := k) (v := v) (n := n) (by omega)
        have hbeg := hg.begcw (j := k) (v := v) (n := n) hv
        have hx1 : ln l k ≤ n → v % 2 ^ ln l k = tc l k → H.extract 0 (txt (cw l k)).size = txt (cw l k) := fun h1 h2 => by
          rw [← HH.out, hSs, txt_extract, List.drop_zero, Nat.sub_zero, (hnum h1).2 h2]
        have hx2 : ln l k ≤ n → ¬ v % 2 ^ ln l k = tc l k → H.extract 0 (txt (cw l k)).size ≠ txt (cw l k) := fun h1 h2 e => by
          rw [← HH.out, hSs, txt_extract, List.drop_zero, Nat.sub_zero] at e
          exact h2 ((hnum h1).1 (txt_inj (bin_take (bin_bitT _ _) _) (cw_bin l k) e))
        have hx3 : n < ln l k → tc l k % 2 ^ n = v → (txt (cw l k)).extract 0 H.size = H := fun h1 h2 => by
          rw [HHS.out, txt_extract, List.drop_zero, Nat.sub_zero, (hbeg h1).2 h2, HH.out]
        have hx4 : n < ln l k → ¬ tc l k % 2 ^ n = v → (txt (cw l k)).extract 0 H.size ≠ H := fun h1 h2 e => by
          rw [HHS.out, txt_extract, List.drop_zero, Nat.sub_zero, ← HH.out] at e
          exact h2 ((hbeg h1).1 (txt_inj (bin_take (cw_bin l k) _) (bin_bitT _ _) e))
        have hSn : (txt (cw l k)).toList.isEmpty = false := str_ne0 (by omega)
        have hSb : (txt (cw l k)).size ≤ 15 := by omega
        by_cases hle : ln l k ≤ n
        · have hle2 : (txt (cw l k)).size ≤ H.size := by have := HHS.out; omega
          have d1 : decide (((txt (cw l k)).size : Int) ≤ H.size) = true := by have := HHS.out; simp; omega
          have d2 : decide ((txt (cw l k)).size ≤ H.size) = true := by have := HHS.out; simp; omega
          by_cases hm : v % 2 ^ ln l k = tc l k
          · have hx := hx1 hle hm
            have hfin : findN l v n = (k, ln l k, 0) := by unfold findN; rw [hg.hit ⟨by omega, hm⟩ hle]
            have HF := Lib.hid hfin
            have HSS := Lib.hid hSs
            clear hbk hs3 hgd h0 hnum hbeg hx1 hx2 hx3 hx4 hfin hSs hm
            generalize txt (cw l k) = S at *
            generalize begK l v n k = b at *
            go_wp2_with fail
            go_ret3
            have h8 := HRES.out
            rw [HF.out] at h8
            simp only [Prod.mk.injEq] at h8
            obtain ⟨rfl, rfl, rfl⟩ := h8
            exact ⟨by rw [← HSS.out]; rfl, rfl⟩
          · have hne := str_ne (hx2 hle hm)
            have d3 : decide ((H.size : Int) < (txt (cw l k)).size) = false := by have := HHS.out; simp; omega
            have d4 : decide (H.size < (txt (cw l k)).size) = false := by have := HHS.out; simp; omega
            have hbk2 : begK l v n (k + 1) = begK l v n k := by rw [hbk]; simp [show ¬ n < ln l k from by omega]
            have HBK := Lib.hid hbk2
            have HNO := Lib.hid (show ¬ (mt l k v ∧ ln l k ≤ n) from fun hh => hm hh.1.2)
            clear hbk hbk2 hs3 hgd h0 hnum hbeg hx1 hx2 hx3 hx4 hSs hm
            generalize txt (cw l k) = S at *
            cases hb : begK l v n k with
            | true =>
              rw [hb] at HBK
              clear hb
              go_wp2_with fail
              go_roundg (gk - 1)
              case measure => omega
              case rel => exact ⟨k + 1, by omega, by omega, by go_num, (by rw [HBK.out]), fun j hj => by
                by_cases e : j = k
                · subst e; exact HNO.out
                · exact HA.out j (by omega), rfl⟩
            | false =>
              rw [hb] at HBK
              clear hb
              go_wp2_with fail
              go_roundg (gk - 1)
              case measure => omega
              case rel => exact ⟨k + 1, by omega, by omega, by go_num, (by rw [HBK.out]), fun j hj => by
                by_cases e : j = k
                · subst e; exact HNO.out
                · exact HA.out j (by omega), rfl⟩
        · have hle3 : H.size ≤ (txt (cw l k)).size := by have := HHS.out; omega
          have d1 : decide (((txt (cw l k)).size : Int) ≤ H.size) = false := by have := HHS.out; simp; omega
          have d2 : decide ((txt (cw l k)).size ≤ H.size) = false := by have := HHS.out; simp; omega
          have d3 : decide ((H.size : Int) < (txt (cw l k)).size) = true := by have := HHS.out; simp; omega
          have d4 : decide (H.size < (txt (cw l k)).size) = true := by have := HHS.out; simp; omega
          have HNO := Lib.hid (show ¬ (mt l k v ∧ ln l k ≤ n) from fun hh => hle hh.2)
          by_cases hm : tc l k % 2 ^ n = v
          · have hx := hx3 (by omega) hm
            have hbk2 : begK l v n (k + 1) = true := by rw [hbk]; simp [show n < ln l k from by omega, hm]
            have HBK := Lib.hid hbk2
            clear hbk hbk2 hs3 hgd h0 hnum hbeg hx1 hx2 hx3 hx4 hSs hm
            generalize txt (cw l k) = S at *
            cases hb : begK l v n k with
            | true =>
              clear hb
              go_wp2_with fail
              go_roundg (gk - 1)
              case measure => omega
              case rel => exact ⟨k + 1, by omega, by omega, by go_num, (by rw [HBK.out]), fun j hj => by
                by_cases e : j = k
                · subst e; exact HNO.out
                · exact HA.out j (by omega), rfl⟩
            | false =>
              clear hb
              go_wp2_with fail
              go_roundg (gk - 1)
              case measure => omega
              case rel => exact ⟨k + 1, by omega, by omega, by go_num, (by rw [HBK.out]), fun j hj => by
                by_cases e : j = k
                · subst e; exact HNO.out
                · exact HA.out j (by omega), rfl⟩
          · have hne := str_ne (hx4 (by omega) hm)
            have hbk2 : begK l v n (k + 1) = begK l v n k := by rw [hbk]; simp [hm]
            have HBK := Lib.hid hbk2
            clear hbk hbk2 hs3 hgd h0 hnum hbeg hx1 hx2 hx3 hx4 hSs hm
            generalize txt (cw l k) = S at *
            cases hb : begK l v n k with
            | true =>
              rw [hb] at HBK
              clear hb
              go_wp2_with fail
              go_roundg (gk - 1)
              case measure => omega
              case rel => exact ⟨k + 1, by omega, by omega, by go_num, (by rw [HBK.out]), fun j hj => by
                by_cases e : j = k
                · subst e; exact HNO.out
                · exact HA.out j (by omega), rfl⟩
            | false =>
              rw [hb] at HBK
              clear hb
              go_wp2_with fail
              go_roundg (gk - 1)
              case measure => omega
              case rel => exact ⟨k + 1, by omega, by omega, by go_num, (by rw [HBK.out]), fun j hj => by
                by_cases e : j = k
                · subst e; exact HNO.out
                · exact HA.out j (by omega), rfl⟩
    · have hkl : k = l.length := by omega
      subst hkl
      have hnone : hitN l v n = none := by
        cases hh : hitN l v n with
        | none => rfl
        | some j =>
          have := hit_some hh
          exact absurd this (HA.out j (hg.lt this.1.1))
      have hfin : findN l v n = if begK l v n l.length then (0, 0, 5) else (0, 0, 2) := by unfold findN; rw [hnone]; rfl
      have HF := Lib.hid hfin
      clear hfin hnone
      cases hb : begK l v n l.length with
      | true =>
        rw [hb] at HF
        clear hb
        go_wp2_with fail
        go_ret3
        have h8 := HRES.out
        rw [HF.out] at h8
        simp only [if_true, Prod.mk.injEq] at h8
        obtain ⟨rfl, rfl, rfl⟩ := h8
        exact ⟨rfl, rfl⟩
      | false =>
        rw [hb] at HF
        clear hb
        go_wp2_with fail
        go_ret3
        have h8 := HRES.out
        rw [HF.out] at h8
        simp only [Bool.false_eq_true, if_false, Prod.mk.injEq] at h8
        obtain ⟨rfl, rfl, rfl⟩ := h8
        exact ⟨rfl, rfl⟩
end Go.Proofs.Yteknaaijlkenkaa
namespace Go.Proofs.Yteknaaijlkenkaa
open Go.RowKit
attribute [local go_sem] max2i min2i max2t min2t

/-- A table that finds the codes of l lies at p. -/
structure TOk (w : World) (base : Nat) (l : List Int) (p F : Nat) : Prop where
  ex : ∃ v P fr ct, TabAt w base p F v P fr ct ∧ TFin l F P fr ct
theorem TOk.below {w w' : World} {base p F : Nat} {l : List Int} (h : TOk w base l p F) (hb : Below w.heap.size w w') : TOk w' base l p F := by
  obtain ⟨v, P, fr, ct, h1, h2⟩ := h.ex
  exact ⟨v, P, fr, ct, h1.same (Same.of_below hb), h2⟩
theorem TOk.find {w : World} {base p F : Nat} {l : List Int} (h : TOk w base l p F) (v : Nat) (hv : v < 4294967296) (ni : Int) (n : Nat) (hni : min (max ni 0) 15 = n) :
    Calls Try.prog 82 #[.pointer (some ⟨p, 0, none⟩), .int .u32 v, .int .i64 ni] w fun e w' => e = .returned (.tuple #[.int .i64 (findN l (v % 2 ^ n) n).1, .int .i64 (findN l (v % 2 ^ n) n).2.1, .int .i64 (findN l (v % 2 ^ n) n).2.2]) ∧ Below w.heap.size w w' := by
  obtain ⟨vv, P, fr, ct, h1, h2⟩ := h.ex
  exact tab_find h1 h2 v hv ni n hni
theorem tab_find_nil (v ni : Int) (w : World) : Calls Try.prog 82 #[.pointer none, .int .u32 v, .int .i64 ni] w fun e w' => e = .returned (.tuple #[.int .i64 0, .int .i64 0, .int .i64 1]) ∧ w' = w := by
  go_enter Try.func82, Try.ntmps82
  go_wp2_with fail
  go_ret3
  exact ⟨rfl, rfl⟩
theorem tab_new {A : Option Addr} {c : Nat} {l : List Int} {w : World} (hr : RowOf w .i64 A c l) (hE : codesErr l = 0) (F : Nat) (hF1 : 1 ≤ F) (hF : F ≤ 15) :
    Calls Try.prog 77 #[.slice A l.length c, .int .i64 F] w fun e w' => ∃ p, e = .returned (.tuple #[.pointer (some ⟨p, 0, none⟩), .int .i64 0]) ∧ TOk w' w.heap.size l p F ∧ w.heap.size ≤ p ∧ Below w.heap.size w w' :=
  (tab_new_ok A c l w hr hE F hF1 hF).mono fun e w' ⟨p, v, P, fr, ct, he, h1, h2, h3, h4⟩ => ⟨p, he, ⟨v, P, fr, ct, h1, h2⟩, h3, h4⟩
end Go.Proofs.Yteknaaijlkenkaa
