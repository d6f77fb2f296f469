import Derived.Test.YtnnjpbghnfohaaaMapA
namespace Go.Proofs.Ytnnjpbghnfohaaa
set_option linter.unusedVariables false
set_option linter.unusedSimpArgs false
open Go.RowKit Go.MapKept

/-! ### slices.BinarySearch of ints -/
set_option maxHeartbeats 1600000 in
set_option maxRecDepth 100000 in
theorem nan_cmp (x : Int) (w : World) : Calls Try.prog 23 #[.int .i64 x] w fun e w' => e = .returned (.bool false) ∧ w' = w := by
  have e1 : (x == x) = true := by simp
  go_enter Try.func23, Try.ntmps23
  go_wp2_with fail
  go_ret
  simp
set_option maxHeartbeats 1600000 in
set_option maxRecDepth 100000 in
theorem nan_sl (x : Int) (w : World) : Calls Try.prog 22 #[.int .i64 x] w fun e w' => e = .returned (.bool false) ∧ w' = w := by
  have e1 : (x == x) = true := by simp
  go_enter Try.func22, Try.ntmps22
  go_wp2_with fail
  go_ret
  simp
set_option maxHeartbeats 1600000 in
set_option maxRecDepth 100000 in
theorem less_int (x y : Int) (w : World) : Calls Try.prog 21 #[.int .i64 x, .int .i64 y] w fun e w' => e = .returned (.bool (decide (x < y))) ∧ w' = w := by
  go_enter Try.func21, Try.ntmps21
  go_wp2_with (go_at_call 23; refine (nan_cmp _ _).mono ?_; rintro e w' ⟨rfl, rfl⟩)
  go_ret
  simp
structure BsRel (w : World) (n i : Nat) (gk : Nat) (s7 s8 : Value) (wr : World) : Prop where mk ::
  out_ : ∃ lo hi : Nat, lo ≤ i ∧ i ≤ hi ∧ hi ≤ n ∧ gk = hi - lo ∧ s7 = .int .i64 lo ∧ s8 = .int .i64 hi ∧ wr = w
set_option maxHeartbeats 1600000 in
set_option maxRecDepth 100000 in
theorem search_int {w : World} {A : Option Addr} {c : Nat} {xs : List Int} (h : RowOf w .i64 A c xs) (hl : xs.length ≤ 1000000) (i : Nat) (t : Int) (hi : i < xs.length) (hlt : ∀ j, j < i → xs.getD j 0 < t) (hge : ∀ j, i ≤ j → j < xs.length → ¬ xs.getD j 0 < t) :
    Calls Try.prog 18 #[.slice A xs.length c, .int .i64 t] w fun e w' => (∃ b, e = .returned (.tuple #[.int .i64 i, .bool b])) ∧ w' = w := by
  have ra : ∀ j, j < xs.length → ∃ b o, A = some ⟨b, o, none⟩ ∧ w.cell? ⟨b, o + j, none⟩ = some (.int .i64 (xs.getD j 0)) := fun j hj => by
    obtain ⟨b, o, rfl⟩ := h.addr3 (fun e => by rw [e] at hj; simp at hj)
    obtain ⟨ad, e, hc⟩ := h.rd.at_ hj
    injection e with e
    subst e
    rw [Addr.add_lit] at hc
    exact ⟨b, o, rfl, hc⟩
  obtain ⟨b, o, rfl, r0⟩ := ra i hi
  have ra : ∀ j, j < xs.length → w.cell? ⟨b, o + j, none⟩ = some (.int .i64 (xs.getD j 0)) := fun j hj => by
    obtain ⟨b', o', e, hc⟩ := ra j hj
    injection e with e
    injection e with e1 e2
    rw [e1, e2]
    exact hc
  have hmost := h.most
  have hcap := h.cap
  go_enter Try.func18, Try.ntmps18
  go_wp2_with fail
  go_loopg [7, 8] xs.length (BsRel w xs.length i)
  case atStart => exact ⟨0, xs.length, by omega, by omega, by omega, by omega, rfl, rfl, rfl⟩
  case round =>
    obtain ⟨lo, hh, h1, h2, h3, hg, rfl, rfl, rfl⟩ := hrel.out_
    clear hrel
    by_cases hlh : lo < hh
    · have e1 : decide (lo < hh) = true := by simp; omega
      obtain ⟨k, hk⟩ : ∃ k : Nat, (lo + hh) / 2 = k := ⟨_, rfl⟩
      have hk2 : ((lo : Int) + hh) / 2 = (k : Int) := by omega
      have hkl : k < xs.length := by omega
      have hk0 : lo ≤ k := by omega
      have hk1 : k < hh := by omega
      have r1 := ra k hkl
      by_cases hki : k < i
      · have d1 : decide (xs.getD k 0 < t) = true := by simpa using hlt k hki
        clear ra hlt hge r0
        generalize xs.getD k 0 = x1 at *
        go_wp2_with (go_at_call 21; refine (less_int _ _ _).mono ?_; rintro e w' ⟨rfl, rfl⟩)
        go_roundg (gk - (k + 1 - lo))
        case measure => omega
        case rel => exact ⟨⟨k + 1, hh, by omega, h2, h3, by omega, by go_num, rfl, rfl⟩⟩
      · have d1 : decide (xs.getD k 0 < t) = false := by simpa using hge k (by omega) hkl
        clear ra hlt hge r0
        generalize xs.getD k 0 = x1 at *
        go_wp2_with (go_at_call 21; refine (less_int _ _ _).mono ?_; rintro e w' ⟨rfl, rfl⟩)
        go_roundg (gk - (hh - k))
        case measure => omega
        case rel => exact ⟨⟨lo, k, h1, by omega, by omega, by omega, rfl, rfl, rfl⟩⟩
    · have e1 : decide (lo < hh) = false := by simp; omega
      have e : lo = i := by omega
      subst e
      have e2 : decide (lo < xs.length) = true := by simp; omega
      have l2 : (lo : Int) < xs.length := by omega
      clear ra hlt hge
      generalize xs.getD lo 0 = x1 at *
      by_cases hx : x1 = t
      · have d1 : (x1 == t) = true := by simpa using hx
        clear hx
        go_wp2_with (go_at_call 22; refine (nan_sl _ _).mono ?_; rintro e w' ⟨rfl, rfl⟩)
        go_ret2
        exact ⟨⟨_, rfl⟩, rfl⟩
      · have d1 : (x1 == t) = false := by simpa using hx
        clear hx
        go_wp2_with (go_at_call 22; refine (nan_sl _ _).mono ?_; rintro e w' ⟨rfl, rfl⟩)
        go_ret2
        exact ⟨⟨_, rfl⟩, rfl⟩
end Go.Proofs.Ytnnjpbghnfohaaa
