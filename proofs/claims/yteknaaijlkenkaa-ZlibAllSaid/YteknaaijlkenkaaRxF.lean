import Derived.Test.YteknaaijlkenkaaRxC
import Derived.Test.YteknaaijlkenkaaInfE
namespace Go.Proofs.Yteknaaijlkenkaa
set_option linter.unusedVariables false
set_option linter.unusedSimpArgs false
open Go.RowKit
attribute [local go_sem] max2i min2i max2t min2t

/-! ### the reference's inflate: the fixed codes -/
theorem strs_len (l : List Int) : (strs l).length = l.length := by simp [strs]
structure FiRel (w : World) (L : List Int) (lo g : Nat) (va vi : Value) (wr : World) : Prop where mk ::
  out_ : ∃ i : Nat, i ≤ L.length ∧ L.length ≤ g + i ∧ vi = .int .i64 (i : Int) ∧ Own wr lo 3 va (ints .i64 (L.take i)) ∧ Below w.heap.size w wr ∧ lo ≤ wr.heap.size
theorem FiRel.next {w wr w9 : World} {L : List Int} {lo g i g7 cap7 : Nat} {v : Value} {x : Int} (hx : L[i]? = some x) (hi : i < L.length) (hg : L.length ≤ g + 1 + i) (ho : Own wr lo 3 v (ints .i64 (L.take i))) (hlo : w.heap.size ≤ lo) (hB : Below w.heap.size w wr) (hl : lo ≤ wr.heap.size)
    (ho9 : Own w9 lo 3 (.slice (some ⟨g7, 0, none⟩) (i + 1) cap7) (ints .i64 (L.take i) ++ [.int .i64 x])) (hs9 : Same (fun k => v.ownBlock = some k) (wr.alloc (.cells #[.int .i64 x] 3)) w9) : FiRel w L lo g (.slice (some ⟨g7, 0, none⟩) (i + 1) cap7) (.int .i64 ((i : Int) + 1)) w9 := by
  have h8 := hB.alloc hB.size (.cells #[.int .i64 x] 3)
  refine ⟨⟨i + 1, by omega, by omega, by rw [Int.natCast_add]; rfl, ?_, hs9.below_of h8 (by have := hB.size; simp; omega) (fun k hk e => by have := ho.base_le k e; omega), Nat.le_trans hl (by have := hs9.size; simp at this; omega)⟩⟩
  have e : L.take (i + 1) = L.take i ++ [x] := by rw [List.take_add_one, hx]; rfl
  rw [e, ints_append]
  exact ho9
theorem fix_ok {l : List Int} (h : codesErr l = 0) : 0 ≤ kraft l ∧ kind l ≠ 4 := by
  have h0 : 0 ≤ kraft l := by unfold codesErr at h; split at h <;> omega
  refine ⟨h0, ?_⟩
  unfold codesErr at h; split at h; omega; split at h; omega; assumption
theorem Own.lw {w : World} {b b' : Nat} {e : TypeId} {v : Value} {xs : List Value} (h : Own w b e v xs) (hb : b' ≤ b) : Own w b' e v xs := by
  obtain ⟨h1, h2⟩ := h
  refine ⟨h1, ?_⟩
  rcases h2 with h2 | ⟨g, cap, cur, e1, e2, e3⟩
  · exact .inl h2
  · exact .inr ⟨g, cap, cur, e1, Nat.le_trans hb e2, e3⟩
set_option maxHeartbeats 4000000 in
set_option maxRecDepth 100000 in
theorem rx_fixed (w : World) :
    Calls Try.prog 40 #[] w fun e w' => ∃ (A1 : Option Addr) (c1 : Nat) (A2 : Option Addr) (c2 : Nat), e = .returned (.tuple #[.slice A1 288 c1, .slice A2 32 c2]) ∧ Own w' w.heap.size 9 (.slice A1 288 c1) (strs fixL) ∧ Own w' w.heap.size 9 (.slice A2 32 c2) (strs fixD) ∧ Below w.heap.size w w' := by
  go_enter Try.func40, Try.ntmps40
  go_wp2_with fail
  go_loopg [2, 4] 288 (FiRel w fixL w.heap.size)
  case atStart => exact ⟨⟨0, by omega, by rw [fixL_len]; omega, rfl, Own.nil _ _ _, Below.refl _ _, Nat.le_refl _⟩⟩
  case round =>
    obtain ⟨i, hi, hg, rfl, ho, hB, hl⟩ := hrel.out_
    have hfl := fixL_len
    rw [fixL_len] at hi hg
    clear hrel
    by_cases hlt : i < 288
    · have e1 : decide ((i : Int) < 288) = true := decide_eq_true (by omega)
      have hlen : (ints .i64 (fixL.take i)).length + 1 = i + 1 := by simp [ints, fixL_len]; omega
      by_cases h1 : i < 144
      · have e2 : decide ((144 : Int) ≤ i) = false := decide_eq_false (by omega)
        have e3 : decide ((256 : Int) ≤ i) = false := decide_eq_false (by omega)
        have hfx : fixL[i]? = some (8 : Int) := by rw [fixL_at i hlt]; exact congrArg some (if_pos (.inl h1))
        go_wp2_with (at_builtin; refine wpList_push w.heap.size rfl (.tmp 27) (.tmp 29) 97 3 (.int .i64 0) 8 rfl Try.underlying97 Try.intinf rfl _ _ (.int .i64 8) ⟨wr.heap.size, 0, none⟩ 1 (i + 1) hlen rfl rfl (by simp) rfl (ho.alloc _) (by simp; omega) (by omega) (by omega) ?_; intro g7 cap7 w9 ho9 hs9 hgb9 hgl9 hat9)
        go_roundg (gk - 1)
        case measure => omega
        case rel => exact FiRel.next hfx (by omega) (by omega) ho (Nat.le_refl _) hB hl ho9 hs9
      · have e2 : decide ((144 : Int) ≤ i) = true := decide_eq_true (by omega)
        by_cases h3 : i < 256
        · have e3 : decide ((i : Int) < 256) = true := decide_eq_true (by omega)
          have e4 : decide ((256 : Int) ≤ i) = false := decide_eq_false (by omega)
          have hfx : fixL[i]? = some (9 : Int) := by rw [fixL_at i hlt]; exact congrArg some ((if_neg (by omega)).trans (if_pos h3))
          go_wp2_with (at_builtin; refine wpList_push w.heap.size rfl (.tmp 27) (.tmp 29) 97 3 (.int .i64 0) 8 rfl Try.underlying97 Try.intinf rfl _ _ (.int .i64 9) ⟨wr.heap.size, 0, none⟩ 1 (i + 1) hlen rfl rfl (by simp) rfl (ho.alloc _) (by simp; omega) (by omega) (by omega) ?_; intro g7 cap7 w9 ho9 hs9 hgb9 hgl9 hat9)
          go_roundg (gk - 1)
          case measure => omega
          case rel => exact FiRel.next hfx (by omega) (by omega) ho (Nat.le_refl _) hB hl ho9 hs9
        · have e3 : decide ((i : Int) < 256) = false := decide_eq_false (by omega)
          have e4 : decide ((256 : Int) ≤ i) = true := decide_eq_true (by omega)
          by_cases h4 : i < 280
          · have e5 : decide ((i : Int) < 280) = true := decide_eq_true (by omega)
            have hfx : fixL[i]? = some (7 : Int) := by rw [fixL_at i hlt]; exact congrArg some ((if_neg (by omega)).trans (if_neg h3))
            go_wp2_with (at_builtin; refine wpList_push w.heap.size rfl (.tmp 27) (.tmp 29) 97 3 (.int .i64 0) 8 rfl Try.underlying97 Try.intinf rfl _ _ (.int .i64 7) ⟨wr.heap.size, 0, none⟩ 1 (i + 1) hlen rfl rfl (by simp) rfl (ho.alloc _) (by simp; omega) (by omega) (by omega) ?_; intro g7 cap7 w9 ho9 hs9 hgb9 hgl9 hat9)
            go_roundg (gk - 1)
            case measure => omega
            case rel => exact FiRel.next hfx (by omega) (by omega) ho (Nat.le_refl _) hB hl ho9 hs9
          · have e5 : decide ((i : Int) < 280) = false := decide_eq_false (by omega)
            have hfx : fixL[i]? = some (8 : Int) := by rw [fixL_at i hlt]; exact congrArg some (if_pos (.inr (by omega)))
            go_wp2_with (at_builtin; refine wpList_push w.heap.size rfl (.tmp 27) (.tmp 29) 97 3 (.int .i64 0) 8 rfl Try.underlying97 Try.intinf rfl _ _ (.int .i64 8) ⟨wr.heap.size, 0, none⟩ 1 (i + 1) hlen rfl rfl (by simp) rfl (ho.alloc _) (by simp; omega) (by omega) (by omega) ?_; intro g7 cap7 w9 ho9 hs9 hgb9 hgl9 hat9)
            go_roundg (gk - 1)
            case measure => omega
            case rel => exact FiRel.next hfx (by omega) (by omega) ho (Nat.le_refl _) hB hl ho9 hs9
    · have e1 : decide ((i : Int) < 288) = false := decide_eq_false (by omega)
      have hi2 : i = 288 := by omega
      subst hi2
      have hfull : fixL.take 288 = fixL := List.take_of_length_le (by rw [fixL_len]; omega)
      rw [hfull] at ho
      clear hfull hi hg hlt
      obtain ⟨wm, hwm⟩ : ∃ x, x = wr := ⟨_, rfl⟩
      rw [← hwm] at ho hB hl ⊢
      obtain ⟨lo, hlo⟩ : ∃ x, x = wm.heap.size := ⟨_, rfl⟩
      clear hwm
      go_wp2_with fail
      go_loopg [3, 6] 32 (FiRel wm fixD lo)
      case atStart => exact ⟨⟨0, by omega, by rw [fixD_len]; omega, rfl, Own.nil _ _ _, Below.refl _ _, by omega⟩⟩
      case round =>
        obtain ⟨i, hi, hg, rfl, ho2, hB2, hl2⟩ := hrel.out_
        have hdl := fixD_len
        rw [fixD_len] at hi hg
        clear hrel
        by_cases hlt : i < 32
        · have e1 : decide ((i : Int) < 32) = true := decide_eq_true (by omega)
          have hlen : (ints .i64 (fixD.take i)).length + 1 = i + 1 := by simp [ints, fixD_len]; omega
          have hfx : fixD[i]? = some (5 : Int) := by rw [fixD, List.getElem?_replicate, if_pos hlt]
          go_wp2_with (at_builtin; refine wpList_push lo rfl (.tmp 35) (.tmp 36) 97 3 (.int .i64 0) 8 rfl Try.underlying97 Try.intinf rfl _ _ (.int .i64 5) ⟨wr.heap.size, 0, none⟩ 1 (i + 1) hlen rfl rfl (by simp) rfl (ho2.alloc _) (by simp; omega) (by omega) (by omega) ?_; intro g7 cap7 w9 ho9 hs9 hgb9 hgl9 hat9)
          go_roundg (gk - 1)
          case measure => omega
          case rel => exact FiRel.next hfx (by omega) (by omega) ho2 (by omega) hB2 hl2 ho9 hs9
        · have e1 : decide ((i : Int) < 32) = false := decide_eq_false (by omega)
          have hi2 : i = 32 := by omega
          subst hi2
          have hfull : fixD.take 32 = fixD := List.take_of_length_le (by rw [fixD_len]; omega)
          rw [hfull] at ho2
          have ho1 := ho.kept (Same.of_below (S := fun _ => False) hB2) (fun _ _ c => c)
          obtain ⟨A5, c5, rfl, hr5, _⟩ := ho1.row (fun x hx => i64w (fixL_ok x hx))
          obtain ⟨A6, c6, rfl, hr6, _⟩ := ho2.row (fun x hx => i64w (fixD_ok x hx))
          have C1 := ref_codes_ok A5 c5 fixL wr hr5 (fix_ok fixL_code).1 (fix_ok fixL_code).2 (by rw [fixL_len]; omega) fixL_ok
          have C2 := fun (W : World) (hr : RowOf W .i64 A6 c6 fixD) => ref_codes_ok A6 c6 fixD W hr (fix_ok fixD_code).1 (fix_ok fixD_code).2 (by rw [fixD_len]; omega) fixD_ok
          rw [fixL_len] at C1
          rw [fixD_len] at C2
          rw [fixL_len, fixD_len]
          have C1 := Lib.hid C1
          have C2 := Lib.hid C2
          have hBt := hB.trans (hB2.mono hB.size)
          clear hfull hi hg hlt hfl hdl ho ho1 ho2 hr5
          go_upto_region 16 with (go_at_call 50; go_loud (refine C1.out.mono ?_); rintro e w5 ⟨v5, rfl, ho5, hB5⟩)
          have C2 := Lib.hid (C2.out _ (hr6.belo hB5))
          go_wp2_with (go_at_call 50; go_loud (refine C2.out.mono ?_); rintro e w6 ⟨v6, rfl, ho6, hB6⟩)
          go_ret2
          obtain ⟨A7, c7, e7, _⟩ := ho5.shape
          obtain ⟨A8, c8, e8, _⟩ := ho6.shape
          rw [strs_len, fixL_len] at e7
          rw [strs_len, fixD_len] at e8
          subst e7 e8
          have hB7 := hBt.trans (hB5.mono hBt.size)
          exact ⟨A7, c7, A8, c8, rfl, Own.lw (ho5.kept (Same.of_below (S := fun _ => False) hB6) (fun _ _ c => c)) hBt.size, Own.lw ho6 hB7.size, hB7.trans (hB6.mono hB7.size)⟩
end Go.Proofs.Yteknaaijlkenkaa
