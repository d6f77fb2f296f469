import Derived.Test.YtfmglcgdcdcpaaaPkRw
import Derived.Deep.RegionHeldLaw
namespace Go.Proofs.Ytfmglcgdcdcpaaa
set_option linter.unusedVariables false
set_option linter.unusedSimpArgs false
open Go.RowKit
attribute [local go_sem] max2i min2i max2t min2t

/-! ### stevedoreref5.Counts -/
theorem idx_take_len (cs : List Int) {i : Nat} (h : i < cs.length) : (idx (cs.take (i + 1))).length = (idx (cs.take i)).length + if 0 < cs.getD i 0 then 1 else 0 := by
  rw [take_snoc h, idx_snoc, List.length_append]
  by_cases c : 0 < cs.getD i 0
  · rw [if_pos c, if_pos c]; rfl
  · rw [if_neg c, if_neg c]; rfl
theorem wrap_two' {j : Nat} (h : j ≤ 40) : wrap64 ((2 : Int) ^ j) = ((2 ^ j : Nat) : Int) := by
  have h2m : 2 ^ j ≤ 2 ^ 40 := Nat.pow_le_pow_right (by decide) h
  have e : ((2 : Int) ^ j) = ((2 ^ j : Nat) : Int) := by rw [Int.natCast_pow]; rfl
  rw [e]
  generalize 2 ^ j = P at *
  exact IntWalk.wrap64_in _ (by omega)
structure CtRelP (w : World) (cs : List Int) (gk : Nat) (v6 v7 : Value) (wr : World) : Prop where mk ::
  out_ : ∃ i : Nat, i ≤ cs.length ∧ cs.length ≤ gk + i ∧ v7 = .int .i64 (i : Int) ∧ v6 = .int .i64 ((idx (cs.take i)).length : Nat) ∧ (∀ x ∈ cs.take i, 0 ≤ x ∧ x ≤ 1073741824) ∧ wr = w
def CtsPost (cs : List Int) (most : Int) (w : World) (e : Ending) (w' : World) : Prop := w' = w ∧ e = .returned (.tuple #[.int .i64 (if mayCs cs most then ((idx cs).length : Int) else 0), .bool (mayCs cs most && decide ((idx cs).length ≤ 2 ^ most.toNat))])
theorem cts_bad {cs : List Int} {most : Int} {w : World} (h : mayCs cs most = false) : CtsPost cs most w (.returned (.tuple #[.int .i64 0, .bool false])) w := ⟨rfl, by rw [h]; rfl⟩
theorem cts_good {cs : List Int} {m : Nat} {w : World} (h : mayCs cs m = true) : CtsPost cs m w (.returned (.tuple #[.int .i64 ((idx cs).length : Nat), .bool (decide ((idx cs).length ≤ 2 ^ m))])) w := ⟨rfl, by rw [h]; rfl⟩
set_option maxHeartbeats 4000000 in
set_option maxRecDepth 100000 in
theorem ref_counts {A : Option Addr} {c : Nat} {cs : List Int} (most : Int) (hm : (Lit.int .i64 most).wf = true) (w : World) (hr : RowOf w .i64 A c cs) :
    Calls Try.prog 12 #[.slice A cs.length c, .int .i64 most] w fun e w' => CtsPost cs most w e w' := by
  have hcap := hr.cap
  have hmost := hr.most
  by_cases h1 : most < 1
  · have d1 : decide (most < 1) = true := by simpa using h1
    have hM : mayCs cs most = false := by unfold mayCs; rw [decide_eq_false]; omega
    go_enter Try.func12, Try.ntmps12
    go_wp2_with fail
    go_ret2
    exact cts_bad hM
  have d1 : decide (most < 1) = false := by simpa using h1
  by_cases h2 : 15 < most
  · have d2 : decide (15 < most) = true := by simpa using h2
    have hM : mayCs cs most = false := by unfold mayCs; rw [decide_eq_false]; omega
    go_enter Try.func12, Try.ntmps12
    go_wp2_with fail
    go_ret2
    exact cts_bad hM
  have d2 : decide (15 < most) = false := by simpa using h2
  by_cases h3 : 400 < cs.length
  · have d3 : decide ((400 : Int) < cs.length) = true := by simp; omega
    have hM : mayCs cs most = false := by unfold mayCs; rw [decide_eq_false]; omega
    go_enter Try.func12, Try.ntmps12
    go_wp2_with fail
    go_ret2
    exact cts_bad hM
  have d3 : decide ((400 : Int) < cs.length) = false := by simp; omega
  obtain ⟨m, rfl⟩ : ∃ m : Nat, most = m := ⟨most.toNat, by omega⟩
  have hMM : mayCs cs m = decide (∀ x ∈ cs, 0 ≤ x ∧ x ≤ 1073741824) := by
    unfold mayCs
    refine decide_eq_decide.2 ⟨fun h => h.2.2.2, fun h => ⟨by omega, by omega, by omega, h⟩⟩
  have HMM := Lib.hid hMM
  clear hMM hm
  go_enter Try.func12, Try.ntmps12
  go_wp2_with fail
  go_loopg [6, 7] cs.length (CtRelP w cs)
  case atStart => exact ⟨⟨0, by omega, by omega, rfl, rfl, by simp, rfl⟩⟩
  case round =>
    obtain ⟨i, hi, hg, rfl, rfl, hok, hw⟩ := hrel.out_
    clear hrel
    subst hw
    by_cases hlt : i < cs.length
    · have e1 : decide (i < cs.length) = true := by simpa using hlt
      have hx : cs[i]? = some (cs.getD i 0) := by rw [List.getD_eq_getElem?_getD, List.getElem?_eq_getElem hlt]; rfl
      obtain ⟨ad, eA, hc⟩ := hr.rd _ _ hx
      have hsn := take_snoc hlt
      have hil := idx_take_len cs hlt
      have hil4 : (idx (cs.take i)).length ≤ 400 := by have := idx_len (cs.take i); rw [List.length_take] at this; omega
      have hbad : ¬ (0 ≤ cs.getD i 0 ∧ cs.getD i 0 ≤ 1073741824) → ¬ ∀ x ∈ cs, 0 ≤ x ∧ x ≤ 1073741824 := fun h k => h (k _ (List.mem_of_getElem? hx))
      have HSN := Lib.hid hsn
      have HBAD := Lib.hid hbad
      have HOK := Lib.hid hok
      have HIL := Lib.hid hil
      have hi2 : (i : Int) < (cs.length : Int) := by omega
      clear hx hsn hbad hok hil
      generalize cs.getD i 0 = x at *
      generalize (idx (cs.take i)).length = N at *
      by_cases hx0 : x < 0
      · have d4 : decide (x < 0) = true := by simpa using hx0
        have hM : mayCs cs m = false := by rw [HMM.out, decide_eq_false (HBAD.out (by omega))]
        rw [eA]
        go_wp2_with fail
        go_ret2
        exact cts_bad hM
      · have d4 : decide (x < 0) = false := by simpa using hx0
        by_cases hx1 : 1073741824 < x
        · have d5 : decide (1073741824 < x) = true := by simpa using hx1
          have hM : mayCs cs m = false := by rw [HMM.out, decide_eq_false (HBAD.out (by omega))]
          rw [eA]
          go_wp2_with fail
          go_ret2
          exact cts_bad hM
        · have d5 : decide (1073741824 < x) = false := by simpa using hx1
          have hok2 : ∀ y ∈ cs.take (i + 1), 0 ≤ y ∧ y ≤ 1073741824 := fun y hy => by
            rw [HSN.out] at hy
            rcases List.mem_append.1 hy with hy | hy
            · exact HOK.out y hy
            · rw [List.mem_singleton] at hy; subst hy; omega
          have HOK2 := Lib.hid hok2
          clear hok2
          by_cases hxp : 0 < x
          · have d6 : decide (0 < x) = true := by simpa using hxp
            rw [eA]
            go_wp2_with fail
            rw [← eA]
            go_roundg (gk - 1)
            case measure => omega
            case rel => exact ⟨⟨i + 1, by omega, by omega, by go_num, by rw [HIL.out, if_pos hxp]; go_num, HOK2.out, rfl⟩⟩
          · have d6 : decide (0 < x) = false := by simpa using hxp
            rw [eA]
            go_wp2_with fail
            rw [← eA]
            go_roundg (gk - 1)
            case measure => omega
            case rel => exact ⟨⟨i + 1, by omega, by omega, by go_num, by rw [HIL.out, if_neg (show ¬ 0 < x by omega), Nat.add_zero], HOK2.out, rfl⟩⟩
    · have e1 : decide (i < cs.length) = false := by simpa using hlt
      have hi' : i = cs.length := by omega
      subst hi'
      rw [List.take_length] at hok ⊢
      have hM : mayCs cs m = true := by rw [HMM.out, decide_eq_true hok]
      have hil := idx_len cs
      have h15 : m ≤ 15 := by omega
      have hdec : decide (((idx cs).length : Int) ≤ wrap64 (2 ^ m)) = decide ((idx cs).length ≤ 2 ^ m) := by
        rw [wrap_two' (by omega)]
        exact decide_eq_decide.2 (by omega)
      have HDEC := Lib.hid hdec
      clear hok hdec
      go_wp2_with fail
      go_ret2
      have hgd := cts_good (w := wr) hM
      rw [← HDEC.out] at hgd
      exact hgd
end Go.Proofs.Ytfmglcgdcdcpaaa
