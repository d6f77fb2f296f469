import Derived.Test.YtfmglcgdcdcpaaaSoW
namespace Go.Proofs.Ytfmglcgdcdcpaaa
set_option linter.unusedVariables false
set_option linter.unusedSimpArgs false
open Go.RowKit
attribute [local go_sem] max2i min2i max2t min2t

structure SrRel (w : World) (B g n cap m : Nat) (a b k : Nat) (L0 : List Int) (gk : Nat) (v10 : Value) (wr : World) : Prop where mk ::
  out_ : ∃ (i : Nat) (L : List Int), i ≤ k ∧ k ≤ gk + i ∧ v10 = .int .i64 (i : Int) ∧ RowIn wr B g n cap m L ∧ Swr a b i L0 L ∧ Same (fun k => k = g) w wr
set_option maxHeartbeats 4000000 in
set_option maxRecDepth 100000 in
theorem swap_range {w : World} {B g n cap m : Nat} {L : List Int} (hr : RowIn w B g n cap m L) (a b k : Nat) (hab : a + k ≤ b) (hb : b + k ≤ n) (hn : n ≤ 100000) (F : Value) :
    Calls Try.prog 27 #[.slice (some ⟨g, 0, none⟩) n cap, .int .i64 a, .int .i64 b, .int .i64 k, F] w fun e w' => e = .returned (.tuple #[]) ∧ ∃ L', RowIn w' B g n cap m L' ∧ Swr a b k L L' ∧ Same (fun k => k = g) w w' := by
  have hBg := hr.ge
  have hcap := hr.cap_
  go_enter Try.func27, Try.ntmps27
  go_wp2_with fail
  go_loopg [10] k (SrRel w B g n cap m a b k L)
  case atStart => exact ⟨⟨0, L, by omega, by omega, rfl, hr, Swr.start _ _ _, Same.refl _⟩⟩
  case round =>
    obtain ⟨i, L1, hi1, hg1, rfl, hr1, hsw, hs1⟩ := hrel.out_
    clear hrel
    by_cases hik : i < k
    · have d1 : decide (i < k) = true := by simp; omega
      have hr3 := hr1.same (Same.refl _).drew
      obtain ⟨p, hp⟩ : ∃ p, a + i = p := ⟨_, rfl⟩
      obtain ⟨q, hq⟩ : ∃ q, b + i = q := ⟨_, rfl⟩
      have hpn : p < n := by omega
      have hqn : q < n := by omega
      have hpq : p ≠ q := by omega
      have ep : (a : Int) + i = p := by omega
      have eq : (b : Int) + i = q := by omega
      have hst := hsw.step (by omega) (by have := hsw.perm.length_eq; have := hr1.len; omega)
      rw [hp, hq] at hst
      have HST := Lib.hid hst
      have hr4 := hr3.swap hpn hqn
      have hs4 : Same (fun k => k = g) w ((wr.drew.setCell ⟨g, p, none⟩ (.int .i64 (at0 L1 q))).setCell ⟨g, q, none⟩ (.int .i64 (at0 L1 p))) := (hs1.drew.set_ (p := ⟨g, p, none⟩) (fun _ => rfl) _).set_ (p := ⟨g, q, none⟩) (fun _ => rfl) _
      have k0 := hr3.cell hpn
      have k1 := hr3.cell hqn
      have f0 := hr3.own.frozenI p
      have f1 := hr3.own.frozenI q
      have o5 := (hr1.own.set_ p (at0 L1 q)).drew
      have k2 := o5.cellI (i := q) (by rw [List.length_set, hr1.len]; exact hqn)
      have f2 := o5.frozenI q
      obtain ⟨x, ex⟩ : ∃ x, at0 L1 p = x := ⟨_, rfl⟩
      obtain ⟨y, ey⟩ : ∃ y, at0 L1 q = y := ⟨_, rfl⟩
      rw [ex, ey] at hr4 hs4
      rw [ex] at k0
      rw [ey] at k1 k2 f2
      generalize ((L1.set p y).getD q 0) = old at *
      clear o5 hst hsw hr1 hs1 hr3 hp hq ex ey
      go_upto_region 3 with fail
      go_region
      go_wp2_with fail
      go_roundg (gk - 1)
      case measure => omega
      case rel => exact ⟨⟨i + 1, swp L1 p q, by omega, by omega, by go_num, hr4, HST.out, hs4⟩⟩
    · have d1 : decide (i < k) = false := by simp; omega
      have e : i = k := by omega
      subst e
      go_wp2_with fail
      ((try simp only [Exit.inBlock, Exit.then]); first | refine bodyPost_end (results_none rfl _ _ _) rfl ?_ | refine bodyPost_ret (results_none rfl _ _ _) rfl ?_)
      exact ⟨rfl, L1, hr1, hsw, hs1⟩
structure RoRel (w : World) (B g n cap M : Nat) (a m b : Nat) (L0 : List Int) (gk : Nat) (v10 v11 : Value) (wr : World) : Prop where mk ::
  out_ : ∃ (i j : Nat) (L : List Int), 1 ≤ i ∧ 1 ≤ j ∧ i ≤ m - a ∧ j ≤ b - m ∧ i + j ≤ gk ∧ v10 = .int .i64 (i : Int) ∧ v11 = .int .i64 (j : Int) ∧ RowIn wr B g n cap M L ∧ L.Perm L0 ∧ (∀ p, rotF L (m - i) i j p = rotF L0 a (m - a) (b - m) p) ∧ Same (fun k => k = g) w wr
set_option maxHeartbeats 4000000 in
set_option maxRecDepth 100000 in
theorem rotate_run {w : World} {B g n cap M : Nat} {L : List Int} (hr : RowIn w B g n cap M L) (a m b : Nat) (ham : a < m) (hmb : m < b) (hb : b ≤ n) (hn : n ≤ 100000) (bx : Nat) :
    Calls Try.prog 26 #[.slice (some ⟨g, 0, none⟩) n cap, .int .i64 a, .int .i64 m, .int .i64 b, cmpV bx] w fun e w' => e = .returned (.tuple #[]) ∧ ∃ L', RowIn w' B g n cap M L' ∧ Rot a m b L L' ∧ Same (fun k => k = g) w w' := by
  unfold cmpV
  have hBg := hr.ge
  have hcap := hr.cap_
  have e1 : (m : Int) - a = ((m - a : Nat) : Int) := by omega
  have e2 : (b : Int) - m = ((b - m : Nat) : Int) := by omega
  obtain ⟨I, hI⟩ : ∃ I, m - a = I := ⟨_, rfl⟩
  obtain ⟨J, hJ⟩ : ∃ J, b - m = J := ⟨_, rfl⟩
  rw [hI] at e1
  rw [hJ] at e2
  go_enter Try.func26, Try.ntmps26
  go_wp2_with fail
  go_loopg [10, 11] (I + J) (RoRel w B g n cap M a m b L)
  case atStart => exact ⟨⟨I, J, L, by omega, by omega, by omega, by omega, by omega, rfl, rfl, hr, List.Perm.refl _, fun p => by rw [hI, hJ, show m - I = a from by omega], Same.refl _⟩⟩
  case round =>
    obtain ⟨i, j, L1, h1, h2, h3, h4, hg1, rfl, rfl, hr1, hpm, hro, hs1⟩ := hrel.out_
    clear hrel e1 e2
    have HRO := Lib.hid hro
    clear hro
    obtain ⟨u, hu⟩ : ∃ u, m - i = u := ⟨_, rfl⟩
    have eu : (m : Int) - i = u := by omega
    by_cases hij : i = j
    · subst hij
      have d1 : ((i : Int) == i) = true := by simp
      have d1' : (i == i) = true := by simp
      have CS := Lib.hid (fun F => swap_range hr1 u m i (by omega) (by omega) hn F)
      clear hr1
      go_wp2_with (go_at_call 27; refine (CS.out _).mono ?_; rintro e w2 ⟨rfl, L2, hr2, hsw, hs2⟩)
      ((try simp only [Exit.inBlock, Exit.then]); first | refine bodyPost_end (results_none rfl _ _ _) rfl ?_ | refine bodyPost_ret (results_none rfl _ _ _) rfl ?_)
      refine ⟨rfl, L2, hr2, ⟨hsw.perm.trans hpm, fun p => ?_⟩, hs1.then hs2⟩
      rw [← HRO.out p]
      rw [← hu] at hsw
      exact rot_even hsw (by omega) p
    · have d1 : ((i : Int) == j) = false := by rw [beq_eq_false_iff_ne]; omega
      have d1' : (i == j) = false := by rw [beq_eq_false_iff_ne]; omega
      by_cases hlt : j < i
      · have d2 : decide (j < i) = true := by simp; omega
        have CS := Lib.hid (fun F => swap_range hr1 u m j (by omega) (by omega) hn F)
        have ej : (i : Int) - j = ((i - j : Nat) : Int) := by omega
        clear hr1
        go_wp2_with (go_at_call 27; refine (CS.out _).mono ?_; rintro e w2 ⟨rfl, L2, hr2, hsw, hs2⟩)
        go_roundg (gk - j)
        case measure => omega
        case rel => exact ⟨⟨i - j, j, L2, by omega, by omega, by omega, by omega, by omega, by go_num, rfl, hr2, hsw.perm.trans hpm, fun p => by rw [← HRO.out p]; rw [← hu] at hsw; exact rot_left hsw (by omega) hlt p, hs1.then hs2⟩⟩
      · have d2 : decide (j < i) = false := by simp; omega
        obtain ⟨v, hv⟩ : ∃ v, m + j - i = v := ⟨_, rfl⟩
        have ev : (m : Int) + j - i = v := by omega
        have CS := Lib.hid (fun F => swap_range hr1 u v i (by omega) (by omega) hn F)
        have ej : (j : Int) - i = ((j - i : Nat) : Int) := by omega
        clear hr1
        go_wp2_with (go_at_call 27; refine (CS.out _).mono ?_; rintro e w2 ⟨rfl, L2, hr2, hsw, hs2⟩)
        go_roundg (gk - i)
        case measure => omega
        case rel => exact ⟨⟨i, j - i, L2, by omega, by omega, by omega, by omega, by omega, rfl, by go_num, hr2, hsw.perm.trans hpm, fun p => by rw [← HRO.out p]; rw [← hu, ← hv] at hsw; exact rot_right hsw (by omega) (by omega) p, hs1.then hs2⟩⟩
end Go.Proofs.Ytfmglcgdcdcpaaa
