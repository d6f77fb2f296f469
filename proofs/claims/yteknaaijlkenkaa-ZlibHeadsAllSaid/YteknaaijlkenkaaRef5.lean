import Derived.Test.YteknaaijlkenkaaCan
namespace Go.Proofs.Yteknaaijlkenkaa
set_option linter.unusedVariables false
set_option linter.unusedSimpArgs false
open Go.RowKit

set_option maxHeartbeats 1600000 in
set_option maxRecDepth 100000 in
theorem ref_kraft (A : Option Addr) (c : Nat) (l : List Int) (w : World) (hr : RowOf w .i64 A c l) :
    Calls Try.prog 59 #[.slice A l.length c] w fun e w' => e = .returned (.int .i64 (kraft l)) ∧ w' = w := by
  have hm := hr.most
  have hcap := hr.cap
  by_cases h1 : 65536 < l.length
  · have h1' : decide ((65536 : Int) < l.length) = true := by simp; omega
    have hk : kraft l = -1 := by unfold kraft; rw [if_pos h1]
    rw [hk]
    go_enter Try.func59, Try.ntmps59
    go_wp2_with fail
    go_ret
    exact ⟨rfl, rfl⟩
  · have h1' : decide ((65536 : Int) < l.length) = false := by simp; omega
    have hk : kraft l = kraftGo l 0 := by unfold kraft; rw [if_neg h1]
    rw [hk]
    clear hk
    go_enter Try.func59, Try.ntmps59
    go_wp2_with fail
    go_loopg [3, 4] l.length (KrRel w l)
    case atStart => exact ⟨0, 0, by omega, by omega, rfl, rfl, rfl, by simp, by omega, by omega⟩
    case round =>
      obtain ⟨k, s, hk, hg, rfl, rfl, rfl, hE, hs0, hs1⟩ := hrel
      by_cases hlt : k < l.length
      · obtain ⟨x, hx⟩ : ∃ x, l[k]? = some x := ⟨_, List.getElem?_eq_getElem hlt⟩
        obtain ⟨ad, rfl, hc⟩ := hr.rd k x hx
        rw [drop_at hx, kraftGo] at hE
        have hwf := hr.wf x (List.mem_of_getElem? hx)
        clear hx
        by_cases hb : x < 0 ∨ 15 < x
        · rw [if_pos hb] at hE
          have HE := Lib.hid hE
          clear hE
          rcases hb with hb | hb
          · have e1 : decide (x < 0) = true := by simpa using hb
            go_wp2_with fail
            go_ret
            exact ⟨congrArg (fun q => Ending.returned (.int .i64 q)) HE.out, rfl⟩
          · have e1 : decide (x < 0) = false := by simp; omega
            have e2 : decide (15 < x) = true := by simpa using hb
            go_wp2_with fail
            go_ret
            exact ⟨congrArg (fun q => Ending.returned (.int .i64 q)) HE.out, rfl⟩
        · rw [if_neg hb] at hE
          have HE := Lib.hid hE
          clear hE
          obtain ⟨n, rfl⟩ : ∃ n : Nat, x = n := ⟨x.toNat, by omega⟩
          have hn : n ≤ 15 := by omega
          have e1 : decide ((n : Int) < 0) = false := by simp
          have e2 : decide ((15 : Int) < n) = false := by simp; omega
          by_cases h0 : n = 0
          · subst h0
            go_wp2_with fail
            go_roundg (gk - 1)
            case measure => omega
            case rel => exact ⟨k + 1, s, by omega, by omega, rfl, by go_num, rfl, by simpa [kr] using HE.out, hs0, by omega⟩
          · have e3 : decide (0 < n) = true := by simp; omega
            go_wp2_with fail
            go_roundg (gk - 1)
            case measure => omega
            case rel =>
              have hp := kr_pow hn h0
              have hq := kr_range n
              refine ⟨k + 1, _, by omega, by omega, ?_, by go_num, rfl, HE.out, by omega, by omega⟩
              rw [hp, IntWalk.wrap64_in _ (by omega)]
      · have hkl : k = l.length := by omega
        subst hkl
        rw [List.drop_length, kraftGo] at hE
        have HE := Lib.hid hE
        clear hE
        go_wp2_with fail
        go_ret
        exact ⟨congrArg (fun q => Ending.returned (.int .i64 q)) HE.out, rfl⟩

theorem kraftGo_ok : ∀ {l : List Int} {s : Int}, 0 ≤ s → 0 ≤ kraftGo l s → ∀ n ∈ l, 0 ≤ n ∧ n ≤ 15
  | [], _, _, _, n, hn => by simp at hn
  | x :: l, s, hs, h, n, hn => by
    rw [kraftGo] at h
    split at h
    · omega
    · rcases List.mem_cons.1 hn with e | hn
      · subst e; omega
      · have := kr_range x
        exact kraftGo_ok (by omega) h n hn
theorem kraftGo_zero : ∀ {l : List Int} {s : Int}, 0 ≤ s → (∀ n ∈ l, n = 0) → kraftGo l s = s
  | [], s, _, _ => rfl
  | x :: l, s, hs, h => by
    have := h x (by simp)
    subst this
    rw [kraftGo, if_neg (by omega), kraftGo_zero (by simp [kr]; omega) (fun n hn => h n (by simp [hn]))]
    simp [kr]
theorem someGo_zero : ∀ {l : List Int} {s : Nat} {d : Int}, (someGo l s d).1 = s → ∀ n ∈ l, n = 0
  | [], s, d, h, n, hn => by simp at hn
  | x :: l, s, d, h, n, hn => by
    rw [someGo] at h
    have hge : ∀ (l : List Int) (s : Nat) (d : Int), s ≤ (someGo l s d).1 := fun l => by
      induction l with
      | nil => intro s d; simp [someGo]
      | cons y l ih =>
        intro s d
        rw [someGo]
        split
        · have := ih (s + 1) y; omega
        · exact ih s d
    split at h
    · have := hge l (s + 1) x; omega
    · rename_i h0
      have h0 : x = 0 := by simpa using h0
      rcases List.mem_cons.1 hn with e | hn
      · omega
      · exact someGo_zero h n hn
/-- The reference's order of the kinds comes to the same. -/
theorem kind_ref {l : List Int} (hl : l.length ≤ 65536) : kind l = if kraft l < 0 ∨ 32768 < kraft l then 4 else if (someGo l 0 0).1 = 0 then 0 else if kraft l = 32768 then 1 else if (someGo l 0 0).1 = 1 ∧ (someGo l 0 0).2 = 1 then 2 else 3 := by
  unfold kind kindOf
  by_cases a : kraft l < 0 ∨ 32768 < kraft l
  · rw [if_pos a]
    by_cases b : (someGo l 0 0).1 = 0
    · have := kraftGo_zero (s := 0) (Int.le_refl _) (someGo_zero b)
      unfold kraft at a
      rw [if_neg (by omega), this] at a
      omega
    · rw [if_neg b, if_neg (by omega)]
      rw [if_pos a]
  · simp only [if_neg a]

structure KfRel (w : World) (l : List Int) (g : Nat) (v4 v5 v6 : Value) (wr : World) : Prop where mk ::
  out_ : ∃ (k s : Nat) (d : Int), k ≤ l.length ∧ l.length ≤ g + k ∧ v4 = .int .i64 (s : Int) ∧ v5 = .int .i64 d ∧ v6 = .int .i64 (k : Int) ∧ wr = w ∧ someGo (l.drop k) s d = someGo l 0 0 ∧ s ≤ k

set_option maxHeartbeats 1600000 in
set_option maxRecDepth 100000 in
theorem ref_kind (A : Option Addr) (c : Nat) (l : List Int) (w : World) (hr : RowOf w .i64 A c l) (hl : l.length ≤ 65536) :
    Calls Try.prog 54 #[.slice A l.length c] w fun e w' => e = .returned (.int .i64 (kind l)) ∧ w' = w := by
  have hm := hr.most
  have hcap := hr.cap
  have HK := Lib.hid (ref_kraft A c l w hr)
  have hkr := kraft_range l
  have HK2 := Lib.hid (kind_ref hl)
  have hgood : 0 ≤ kraft l → ∀ n ∈ l, 0 ≤ n ∧ n ≤ 15 := fun h => by
    unfold kraft at h
    rw [if_neg (by omega)] at h
    exact kraftGo_ok (Int.le_refl _) h
  have HGOOD := Lib.hid hgood
  clear hgood
  go_enter Try.func54, Try.ntmps54
  go_wp2_with fail
  refine HK.out.mono ?_
  rintro e w1 ⟨rfl, rfl⟩
  clear HK
  generalize kraft l = q at *
  by_cases hq : q < 0
  · have b0 : decide (0 ≤ q) = false := by simp; omega
    have b1 : decide (q < 0) = true := by simp; omega
    have hk := HK2.out
    rw [if_pos (.inl hq)] at hk
    have HKE := Lib.hid hk
    clear HK2 hk
    by_cases hz : 0 < l.length
    · have b2 : decide ((0 : Int) < l.length) = true := by simpa using hz
      go_wp2_with fail
      go_loopg [6] 0 (fun g v6 wx => v6 = .int .i64 0 ∧ w1 = wx)
      case atStart => exact ⟨rfl, rfl⟩
      case round =>
        obtain ⟨rfl, rfl⟩ := hrel
        go_wp2_with fail
        go_ret
        exact ⟨congrArg (fun q => Ending.returned (.int .i64 q)) HKE.out.symm, rfl⟩
    · have hz : l.length = 0 := by omega
      go_wp2_with fail
      go_loopg [6] 0 (fun g v6 wx => v6 = .int .i64 0 ∧ w1 = wx)
      case atStart => exact ⟨rfl, rfl⟩
      case round =>
        obtain ⟨rfl, rfl⟩ := hrel
        go_wp2_with fail
        go_ret
        exact ⟨congrArg (fun q => Ending.returned (.int .i64 q)) HKE.out.symm, rfl⟩
  · have b0 : decide (0 ≤ q) = true := by simp; omega
    have b1 : decide (q < 0) = false := by simp; omega
    go_wp2_with fail
    go_loopg [4, 5, 6] l.length (KfRel w1 l)
    case atStart => exact ⟨0, 0, 0, by omega, by omega, rfl, rfl, rfl, rfl, by simp, by omega⟩
    case round =>
      obtain ⟨k, s, d, hk, hg, rfl, rfl, rfl, rfl, hE, hs⟩ := hrel
      by_cases hlt : k < l.length
      · obtain ⟨x, hx⟩ : ∃ x, l[k]? = some x := ⟨_, List.getElem?_eq_getElem hlt⟩
        obtain ⟨ad, rfl, hc⟩ := hr.rd k x hx
        rw [drop_at hx, someGo] at hE
        have hwf := HGOOD.out (by omega) x (List.mem_of_getElem? hx)
        clear hx
        by_cases h0 : x = 0
        · subst h0
          rw [if_neg (by simp)] at hE
          have HE := Lib.hid hE
          clear hE
          go_wp2_with fail
          go_roundg (gk - 1)
          case measure => omega
          case rel => exact ⟨k + 1, s, d, by omega, by omega, rfl, rfl, by go_num, rfl, HE.out, by omega⟩
        · rw [if_pos h0] at hE
          have HE := Lib.hid hE
          clear hE
          have e1 : decide (0 < x) = true := by simp; omega
          go_wp2_with fail
          go_roundg (gk - 1)
          case measure => omega
          case rel => exact ⟨k + 1, s + 1, x, by omega, by omega, by go_num, rfl, by go_num, rfl, HE.out, by omega⟩
      · have hkl : k = l.length := by omega
        subst hkl
        rw [List.drop_length, someGo] at hE
        rw [← hE] at HK2
        clear hE
        have hke := HK2.out
        simp only at hke
        clear HK2
        by_cases a3 : 32768 < q
        · rw [if_pos (.inr a3)] at hke
          have HKE := Lib.hid hke
          have b4 : decide (32768 < q) = true := by simpa using a3
          clear hke
          go_wp2_with fail
          go_ret
          exact ⟨congrArg (fun q => Ending.returned (.int .i64 q)) HKE.out.symm, rfl⟩
        · rw [if_neg (by omega)] at hke
          have b4 : decide (32768 < q) = false := by simp; omega
          by_cases a1 : s = 0
          · rw [if_pos a1] at hke
            have HKE := Lib.hid hke
            have b5 : ((s : Int) == 0) = true := by simp [a1]
            clear hke a1
            go_wp2_with fail
            go_ret
            exact ⟨congrArg (fun q => Ending.returned (.int .i64 q)) HKE.out.symm, rfl⟩
          · rw [if_neg a1] at hke
            have b5 : ((s : Int) == 0) = false := by simp [a1]
            by_cases a2 : q = 32768
            · rw [if_pos a2] at hke
              have HKE := Lib.hid hke
              have b2 : (q == 32768) = true := by simp [a2]
              clear hke a2 a1
              go_wp2_with fail
              go_ret
              exact ⟨congrArg (fun q => Ending.returned (.int .i64 q)) HKE.out.symm, rfl⟩
            · rw [if_neg a2] at hke
              have b2 : (q == 32768) = false := by simp [a2]
              by_cases a4 : s = 1
              · have b6 : ((s : Int) == 1) = true := by simp [a4]
                by_cases a5 : d = 1
                · rw [if_pos ⟨a4, a5⟩] at hke
                  have HKE := Lib.hid hke
                  have b7 : (d == 1) = true := by simp [a5]
                  clear hke a1 a2 a4 a5
                  go_wp2_with fail
                  go_ret
                  exact ⟨congrArg (fun q => Ending.returned (.int .i64 q)) HKE.out.symm, rfl⟩
                · rw [if_neg (fun h => a5 h.2)] at hke
                  have HKE := Lib.hid hke
                  have b7 : (d == 1) = false := by simp [a5]
                  clear hke a1 a2 a4 a5
                  go_wp2_with fail
                  go_ret
                  exact ⟨congrArg (fun q => Ending.returned (.int .i64 q)) HKE.out.symm, rfl⟩
              · rw [if_neg (fun h => a4 h.1)] at hke
                have HKE := Lib.hid hke
                have b6 : ((s : Int) == 1) = false := by simp; omega
                clear hke a1 a2 a4
                go_wp2_with fail
                go_ret
                exact ⟨congrArg (fun q => Ending.returned (.int .i64 q)) HKE.out.symm, rfl⟩
end Go.Proofs.Yteknaaijlkenkaa
