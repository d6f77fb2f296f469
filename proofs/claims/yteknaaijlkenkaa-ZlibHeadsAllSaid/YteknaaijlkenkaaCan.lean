import Derived.Test.YteknaaijlkenkaaCanP
namespace Go.Proofs.Yteknaaijlkenkaa
set_option linter.unusedVariables false
set_option linter.unusedSimpArgs false
open Go.RowKit

structure KrRel (w : World) (l : List Int) (g : Nat) (v3 v11 : Value) (wr : World) : Prop where mk ::
  out_ : ∃ (k : Nat) (s : Int), k ≤ l.length ∧ l.length ≤ g + k ∧ v3 = .int .i64 s ∧ v11 = .int .i64 (k : Int) ∧ wr = w ∧ kraftGo (l.drop k) s = kraftGo l 0 ∧ 0 ≤ s ∧ s ≤ 16384 * k

theorem drop_at {α : Type} {l : List α} {k : Nat} {x : α} (h : l[k]? = some x) : l.drop k = x :: l.drop (k + 1) := by
  have hk := (List.getElem?_eq_some_iff.1 h).1
  rw [List.drop_eq_getElem_cons hk, (List.getElem?_eq_some_iff.1 h).2]

set_option maxHeartbeats 1600000 in
set_option maxRecDepth 100000 in
theorem can_kraft (A : Option Addr) (c : Nat) (l : List Int) (w : World) (hr : RowOf w .i64 A c l) :
    Calls Try.prog 89 #[.slice A l.length c] w fun e w' => e = .returned (.int .i64 (kraft l)) ∧ w' = w := by
  have hm := hr.most
  have hcap := hr.cap
  by_cases h1 : 65536 < l.length
  · have h1' : decide ((65536 : Int) < l.length) = true := by simp; omega
    have hk : kraft l = -1 := by unfold kraft; rw [if_pos h1]
    rw [hk]
    go_enter Try.func89, Try.ntmps89
    go_wp2_with fail
    go_ret
    exact ⟨rfl, rfl⟩
  · have h1' : decide ((65536 : Int) < l.length) = false := by simp; omega
    have hk : kraft l = kraftGo l 0 := by unfold kraft; rw [if_neg h1]
    rw [hk]
    clear hk
    go_enter Try.func89, Try.ntmps89
    go_wp2_with fail
    go_loopg [3, 11] l.length (KrRel w l)
    case atStart => exact ⟨0, 0, by omega, by omega, rfl, rfl, rfl, by simp, by omega, by omega⟩
    case round =>
      obtain ⟨k, s, hk, hg, rfl, rfl, rfl, hE, hs0, hs1⟩ := hrel
      by_cases hlt : k < l.length
      · obtain ⟨x, hx⟩ : ∃ x, l[k]? = some x := ⟨_, List.getElem?_eq_getElem hlt⟩
        obtain ⟨ad, rfl, hc⟩ := hr.rd k x hx
        rw [drop_at hx, kraftGo] at hE
        have hwf := hr.wf x (List.mem_of_getElem? hx)
        clear hx
        by_cases hb : x < 0 ∨ 15 < x
        · rw [if_pos hb] at hE
          have HE := Lib.hid hE
          clear hE
          rcases hb with hb | hb
          · have e1 : decide (x < 0) = true := by simpa using hb
            go_wp2_with fail
            go_ret
            exact ⟨congrArg (fun q => Ending.returned (.int .i64 q)) HE.out, rfl⟩
          · have e1 : decide (x < 0) = false := by simp; omega
            have e2 : decide (15 < x) = true := by simpa using hb
            go_wp2_with fail
            go_ret
            exact ⟨congrArg (fun q => Ending.returned (.int .i64 q)) HE.out, rfl⟩
        · rw [if_neg hb] at hE
          have HE := Lib.hid hE
          clear hE
          obtain ⟨n, rfl⟩ : ∃ n : Nat, x = n := ⟨x.toNat, by omega⟩
          have hn : n ≤ 15 := by omega
          have e1 : decide ((n : Int) < 0) = false := by simp
          have e2 : decide ((15 : Int) < n) = false := by simp; omega
          by_cases h0 : n = 0
          · subst h0
            go_wp2_with fail
            go_roundg (gk - 1)
            case measure => omega
            case rel => exact ⟨k + 1, s, by omega, by omega, rfl, by go_num, rfl, by simpa [kr] using HE.out, hs0, by omega⟩
          · have e3 : decide (0 < n) = true := by simp; omega
            go_wp2_with fail
            go_roundg (gk - 1)
            case measure => omega
            case rel =>
              have hp := kr_pow hn h0
              have hq := kr_range n
              refine ⟨k + 1, _, by omega, by omega, ?_, by go_num, rfl, HE.out, by omega, by omega⟩
              rw [hp, IntWalk.wrap64_in _ (by omega)]
      · have hkl : k = l.length := by omega
        subst hkl
        rw [List.drop_length, kraftGo] at hE
        have HE := Lib.hid hE
        clear hE
        go_wp2_with fail
        go_ret
        exact ⟨congrArg (fun q => Ending.returned (.int .i64 q)) HE.out, rfl⟩

structure KdRel (w : World) (l : List Int) (g : Nat) (v3 v4 v10 : Value) (wr : World) : Prop where mk ::
  out_ : ∃ (k s : Nat) (d : Int), k ≤ l.length ∧ l.length ≤ g + k ∧ v3 = .int .i64 (s : Int) ∧ v4 = .int .i64 d ∧ v10 = .int .i64 (k : Int) ∧ wr = w ∧ someGo (l.drop k) s d = someGo l 0 0 ∧ s ≤ k

set_option maxHeartbeats 1600000 in
set_option maxRecDepth 100000 in
theorem can_kind (A : Option Addr) (c : Nat) (l : List Int) (w : World) (hr : RowOf w .i64 A c l) :
    Calls Try.prog 87 #[.slice A l.length c] w fun e w' => e = .returned (.int .i64 (kind l)) ∧ w' = w := by
  have hm := hr.most
  have hcap := hr.cap
  have HK := Lib.hid (can_kraft A c l w hr)
  have hkr := kraft_range l
  have hk : kind l = kindOf (someGo l 0 0) (kraft l) := rfl
  have HK2 := Lib.hid hk
  clear hk
  go_enter Try.func87, Try.ntmps87
  go_wp2_with fail
  go_loopg [3, 4, 10] l.length (KdRel w l)
  case atStart => exact ⟨0, 0, 0, by omega, by omega, rfl, rfl, rfl, rfl, by simp, by omega⟩
  case round =>
    obtain ⟨k, s, d, hk, hg, rfl, rfl, rfl, rfl, hE, hs⟩ := hrel
    by_cases hlt : k < l.length
    · obtain ⟨x, hx⟩ : ∃ x, l[k]? = some x := ⟨_, List.getElem?_eq_getElem hlt⟩
      obtain ⟨ad, rfl, hc⟩ := hr.rd k x hx
      rw [drop_at hx, someGo] at hE
      have hwf := hr.wf x (List.mem_of_getElem? hx)
      clear hx
      by_cases h0 : x = 0
      · subst h0
        rw [if_neg (by simp)] at hE
        have HE := Lib.hid hE
        clear hE
        go_wp2_with fail
        go_roundg (gk - 1)
        case measure => omega
        case rel => exact ⟨k + 1, s, d, by omega, by omega, rfl, rfl, by go_num, rfl, HE.out, by omega⟩
      · rw [if_pos h0] at hE
        have HE := Lib.hid hE
        clear hE
        have e1 : (x != 0) = true := by simp [h0]
        go_wp2_with fail
        go_roundg (gk - 1)
        case measure => omega
        case rel => exact ⟨k + 1, s + 1, x, by omega, by omega, by go_num, rfl, by go_num, rfl, HE.out, by omega⟩
    · have hkl : k = l.length := by omega
      subst hkl
      rw [List.drop_length, someGo] at hE
      rw [← hE] at HK2
      clear hE
      go_wp2_with fail
      refine HK.out.mono ?_
      rintro e w1 ⟨rfl, rfl⟩
      generalize kraft l = q at *
      have hke := HK2.out
      unfold kindOf at hke
      simp only at hke
      by_cases a1 : s = 0
      · rw [if_pos a1] at hke
        have HKE := Lib.hid hke
        have b1 : ((s : Int) == 0) = true := by simp [a1]
        clear hke a1
        go_wp2_with fail
        go_ret
        exact ⟨congrArg (fun q => Ending.returned (.int .i64 q)) HKE.out.symm, rfl⟩
      · rw [if_neg a1] at hke
        have b1 : ((s : Int) == 0) = false := by simp [a1]
        by_cases a2 : q = 32768
        · rw [if_pos a2] at hke
          have HKE := Lib.hid hke
          have b2 : (q == 32768) = true := by simp [a2]
          clear hke a2 a1
          go_wp2_with fail
          go_ret
          exact ⟨congrArg (fun q => Ending.returned (.int .i64 q)) HKE.out.symm, rfl⟩
        · rw [if_neg a2] at hke
          have b2 : (q == 32768) = false := by simp [a2]
          by_cases a3 : q < 0 ∨ 32768 < q
          · rw [if_pos a3] at hke
            have HKE := Lib.hid hke
            clear hke a1
            rcases a3 with a3 | a3
            · have b3 : decide (q < 0) = true := by simpa using a3
              go_wp2_with fail
              go_ret
              exact ⟨congrArg (fun q => Ending.returned (.int .i64 q)) HKE.out.symm, rfl⟩
            · have b3 : decide (q < 0) = false := by simp; omega
              have b4 : decide (32768 < q) = true := by simpa using a3
              go_wp2_with fail
              go_ret
              exact ⟨congrArg (fun q => Ending.returned (.int .i64 q)) HKE.out.symm, rfl⟩
          · rw [if_neg a3] at hke
            have b3 : decide (q < 0) = false := by simp; omega
            have b4 : decide (32768 < q) = false := by simp; omega
            by_cases a4 : s = 1
            · have b5 : ((s : Int) == 1) = true := by simp [a4]
              by_cases a5 : d = 1
              · rw [if_pos ⟨a4, a5⟩] at hke
                have HKE := Lib.hid hke
                have b6 : (d == 1) = true := by simp [a5]
                clear hke a1 a2 a4 a5
                go_wp2_with fail
                go_ret
                exact ⟨congrArg (fun q => Ending.returned (.int .i64 q)) HKE.out.symm, rfl⟩
              · rw [if_neg (fun h => a5 h.2)] at hke
                have HKE := Lib.hid hke
                have b6 : (d == 1) = false := by simp [a5]
                clear hke a1 a2 a4 a5
                go_wp2_with fail
                go_ret
                exact ⟨congrArg (fun q => Ending.returned (.int .i64 q)) HKE.out.symm, rfl⟩
            · rw [if_neg (fun h => a4 h.1)] at hke
              have HKE := Lib.hid hke
              have b5 : ((s : Int) == 1) = false := by simp; omega
              clear hke a1 a2 a4
              go_wp2_with fail
              go_ret
              exact ⟨congrArg (fun q => Ending.returned (.int .i64 q)) HKE.out.symm, rfl⟩
end Go.Proofs.Yteknaaijlkenkaa
