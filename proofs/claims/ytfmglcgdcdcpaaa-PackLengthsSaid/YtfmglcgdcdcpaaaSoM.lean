import Derived.Test.YtfmglcgdcdcpaaaSoX
namespace Go.Proofs.Ytfmglcgdcdcpaaa
set_option linter.unusedVariables false
set_option linter.unusedSimpArgs false
open Go.RowKit
attribute [local go_sem] max2i min2i max2t min2t

structure SlL (w : World) (L : List Int) (key : Int → Int) (m b : Nat) (k0 : Int) (gk : Nat) (v10 v11 : Value) (v12 : Value) (wr : World) : Prop where mk ::
  out_ : ∃ i j : Nat, m ≤ i ∧ i ≤ j ∧ j ≤ b ∧ j ≤ gk + i ∧ v10 = .int .i64 (i : Int) ∧ v11 = .int .i64 (j : Int) ∧ (∀ p, m ≤ p → p < i → key (at0 L p) < k0) ∧ (∀ p, j ≤ p → p < b → k0 ≤ key (at0 L p)) ∧ Same (fun _ => False) w wr
structure SlR (w : World) (L : List Int) (key : Int → Int) (a m : Nat) (k0 : Int) (gk : Nat) (v14 v15 : Value) (v16 : Value) (wr : World) : Prop where mk ::
  out_ : ∃ i j : Nat, a ≤ i ∧ i ≤ j ∧ j ≤ m ∧ j ≤ gk + i ∧ v14 = .int .i64 (i : Int) ∧ v15 = .int .i64 (j : Int) ∧ (∀ p, a ≤ p → p < i → key (at0 L p) ≤ k0) ∧ (∀ p, j ≤ p → p < m → k0 < key (at0 L p)) ∧ Same (fun _ => False) w wr
structure SoPlRel (w : World) (B g n cap M : Nat) (key : Int → Int) (a b i : Nat) (L0 : List Int) (gk : Nat) (v13 : Value) (wr : World) : Prop where mk ::
  out_ : ∃ (k : Nat) (L : List Int), i ≤ gk + k + 1 ∧ v13 = .int .i64 (k : Int) ∧ RowIn wr B g n cap M L ∧ PutL key a b i L0 k L ∧ Same (fun k => k = g) w wr
structure SoPrRel (w : World) (B g n cap M : Nat) (key : Int → Int) (a m i : Nat) (L0 : List Int) (gk : Nat) (v17 : Value) (wr : World) : Prop where mk ::
  out_ : ∃ (k : Nat) (L : List Int), k ≤ gk + i ∧ v17 = .int .i64 (k : Int) ∧ RowIn wr B g n cap M L ∧ PutR key a m i L0 k L ∧ Same (fun k => k = g) w wr
def SymPost (w : World) (B g n cap : Nat) (cs : List Int) (a b : Nat) (L : List Int) (e : Ending) (w' : World) : Prop := e = .returned (.tuple #[]) ∧ ∃ L', RowIn w' B g n cap cs.length L' ∧ Shuf (keyc cs) a b L L' ∧ SortK (keyc cs) L' a b ∧ Same (fun k => k = g) w w'
set_option maxHeartbeats 4000000 in
set_option maxRecDepth 100000 in
theorem sym_left {w : World} {B bx : Nat} {A : Option Addr} {c : Nat} {cs : List Int} (hc : CmpOk w B bx A c cs) {g n cap : Nat} {L : List Int} (hr : RowIn w B g n cap cs.length L) (a b : Nat) (hab : a + 1 < b) (hb : b ≤ n) (hn : n ≤ 100000) (hso : SortK (keyc cs) L (a + 1) b) :
    Calls Try.prog 24 #[.slice (some ⟨g, 0, none⟩) n cap, .int .i64 a, .int .i64 ((a + 1 : Nat) : Int), .int .i64 b, cmpV bx] w fun e w' => SymPost w B g n cap cs a b L e w' := by
  unfold cmpV
  have hBg := hr.ge
  have hcap := hr.cap_
  obtain ⟨m, hm⟩ : ∃ m, a + 1 = m := ⟨_, rfl⟩
  rw [hm]
  have e1 : (m : Int) - a = 1 := by omega
  have HSO := Lib.hid hso
  clear hso
  go_enter Try.func24, Try.ntmps24
  go_wp2_with fail
  go_loopg [10, 11, 12] b (SlL w L (keyc cs) m b (keyc cs (at0 L a)))
  case atStart => exact ⟨⟨m, b, by omega, by omega, by omega, by omega, rfl, rfl, fun p h1 h2 => by omega, fun p h1 h2 => by omega, Same.refl _⟩⟩
  case round =>
    obtain ⟨i, j, h1, h2, h3, hg1, rfl, rfl, hlo, hhi, hs1⟩ := hrel.out_
    clear hrel
    have hr1 := hr.same hs1
    have hc1 := hc.kept hs1 (fun _ c => c.elim)
    by_cases hij : i < j
    · have d1 : decide (i < j) = true := by simp; omega
      obtain ⟨k, hk⟩ : ∃ k : Nat, (i + j) / 2 = k := ⟨_, rfl⟩
      have hk2 : ((i : Int) + j) / 2 = (k : Int) := by omega
      have hkn : k < n := by omega
      have hk0 : i ≤ k := by omega
      have hk1 : k < j := by omega
      have m0 := fun d : Ext (fun _ => False) wr => (hr1.same d.same).cell (p := k) (by omega)
      have m1 := fun d : Ext (fun _ => False) wr => (hr1.same d.same).cell (p := a) (by omega)
      obtain ⟨x, ex, hx⟩ := hr1.nat (p := k) (by omega)
      obtain ⟨y, ey, hy⟩ := hr1.nat (p := a) (by omega)
      have m2 := fun d : Ext (fun _ => False) wr => Lib.hid (ext_call (d := d) (cmp_calls (hc1.kept d.same (fun _ c => c.elim)) x y hx hy))
      rw [ex] at m0
      rw [ey] at m1
      have hk : keyc cs (at0 L k) - keyc cs (at0 L a) = cs.getD x 0 - cs.getD y 0 := by rw [ex, ey]; rfl
      obtain ⟨X, hX⟩ : ∃ X, cs.getD x 0 - cs.getD y 0 = X := ⟨_, rfl⟩
      rw [hX] at m2 hk
      have HK := Lib.hid hk
      clear hX hk ex ey
      have HLO := Lib.hid hlo
      have HHI := Lib.hid hhi
      have HS1 := Lib.hid hs1
      clear hk hlo hhi hs1 hr1 hc1
      by_cases hX0 : X < 0
      · have d3 : decide (X < 0) = true := by simpa using hX0
        go_upto_region 5 with fail
        refine wp_region_ext (fun _ => False) (by kernel_rfl) (by kernel_rfl) ?_
        repeat (go_big_quiet_step (exact (m2 _).out))
        refine wpQuiet_nil ?_
        rintro _ ⟨d, rfl⟩
        clear m0 m1 m2
        go_wp2_with fail
        go_roundg (gk - (k + 1 - i))
        case measure => omega
        case rel =>
          refine ⟨⟨k + 1, j, by omega, by omega, by omega, by omega, by go_num, rfl, fun p p1 p2 => ?_, HHI.out, HS1.out.then d.same⟩⟩
          have := HSO.out p k (by omega) (by omega) (by omega)
          have := HK.out
          omega
      · have d3 : decide (X < 0) = false := by simpa using hX0
        go_upto_region 5 with fail
        refine wp_region_ext (fun _ => False) (by kernel_rfl) (by kernel_rfl) ?_
        repeat (go_big_quiet_step (exact (m2 _).out))
        refine wpQuiet_nil ?_
        rintro _ ⟨d, rfl⟩
        clear m0 m1 m2
        go_wp2_with fail
        go_roundg (gk - (j - k))
        case measure => omega
        case rel =>
          refine ⟨⟨i, k, by omega, by omega, by omega, by omega, rfl, rfl, HLO.out, fun p p1 p2 => ?_, HS1.out.then d.same⟩⟩
          have := HSO.out k p (by omega) (by omega) (by omega)
          have := HK.out
          omega
    · have d1 : decide (i < j) = false := by simp; omega
      have e : i = j := by omega
      subst e
      have e2 : (i : Int) - 1 = ((i - 1 : Nat) : Int) := by omega
      obtain ⟨I, hI⟩ : ∃ I, i - 1 = I := ⟨_, rfl⟩
      rw [hI] at e2
      have hiI : i = I + 1 := by omega
      have hs1 := hs1.any (S := fun k => k = g)
      go_wp2_with fail
      go_loopg [13] I (SoPlRel w B g n cap cs.length (keyc cs) a b i L)
      case atStart => exact ⟨⟨a, L, by omega, rfl, hr1, PutL.start (by omega), hs1⟩⟩
      case round =>
        rename World => wi
        rename Nat => gq
        obtain ⟨k, L2, hg2, rfl, hr2, hpu, hs2⟩ := hrel.out_
        clear hrel hr1 hc1 hs1
        have hki := hpu.ki
        have hak := hpu.ak
        by_cases hkI : k < I
        · have d2 : decide (k < I) = true := by simp; omega
          obtain ⟨q, hq⟩ : ∃ q, k + 1 = q := ⟨_, rfl⟩
          have eq : (k : Int) + 1 = q := by omega
          have hkn : k < n := by omega
          have hqn : q < n := by omega
          have hpq : k ≠ q := by omega
          have hst := hpu.step (by have := hr2.len; omega) (by omega) (by omega) (fun p p1 p2 => hlo p (by omega) p2)
          rw [hq] at hst
          have HST := Lib.hid hst
          have hr3 := hr2.same (Same.refl _).drew
          have hr4 := hr3.swap hkn hqn
          have hs4 : Same (fun k => k = g) w ((wi.drew.setCell ⟨g, k, none⟩ (.int .i64 (at0 L2 q))).setCell ⟨g, q, none⟩ (.int .i64 (at0 L2 k))) := (hs2.drew.set_ (p := ⟨g, k, none⟩) (fun _ => rfl) _).set_ (p := ⟨g, q, none⟩) (fun _ => rfl) _
          have k0 := hr3.cell hkn
          have k1 := hr3.cell hqn
          have f0 := hr3.own.frozenI k
          have f1 := hr3.own.frozenI q
          have o5 := (hr2.own.set_ k (at0 L2 q)).drew
          have k2 := o5.cellI (i := q) (by rw [List.length_set, hr2.len]; exact hqn)
          have f2 := o5.frozenI q
          obtain ⟨x, ex⟩ : ∃ x, at0 L2 k = x := ⟨_, rfl⟩
          obtain ⟨y, ey⟩ : ∃ y, at0 L2 q = y := ⟨_, rfl⟩
          rw [ex, ey] at hr4 hs4
          rw [ex] at k0
          rw [ey] at k1 k2 f2
          have HLO := Lib.hid hlo
          have HHI := Lib.hid hhi
          generalize ((L2.set k y).getD q 0) = old at *
          clear o5 hst hpu hr2 hs2 hr3 hq ex ey hlo hhi hiI hI
          go_upto_region 11 with fail
          go_region
          go_wp2_with fail
          go_roundg (gq - 1)
          case measure => omega
          case rel => exact ⟨⟨q, swp L2 k q, by omega, by go_num, hr4, HST.out, hs4⟩⟩
        · have d2 : decide (k < I) = false := by simp; omega
          have hend := hpu.done (by omega) (by omega) HSO.out (fun p p1 p2 => hlo p (by omega) p2) hhi
          have hshf := hpu.shuf
          clear hpu hlo hhi
          go_wp2_with fail
          ((try simp only [Exit.inBlock, Exit.then]); first | refine bodyPost_end (results_none rfl _ _ _) rfl ?_ | refine bodyPost_ret (results_none rfl _ _ _) rfl ?_)
          exact ⟨rfl, L2, hr2, hshf, hend, hs2⟩
set_option maxHeartbeats 4000000 in
set_option maxRecDepth 100000 in
theorem sym_right {w : World} {B bx : Nat} {A : Option Addr} {c : Nat} {cs : List Int} (hc : CmpOk w B bx A c cs) {g n cap : Nat} {L : List Int} (hr : RowIn w B g n cap cs.length L) (a m : Nat) (ham : a + 1 < m) (hb : m + 1 ≤ n) (hn : n ≤ 100000) (hso : SortK (keyc cs) L a m) :
    Calls Try.prog 24 #[.slice (some ⟨g, 0, none⟩) n cap, .int .i64 a, .int .i64 m, .int .i64 ((m + 1 : Nat) : Int), cmpV bx] w fun e w' => SymPost w B g n cap cs a (m + 1) L e w' := by
  unfold cmpV
  have hBg := hr.ge
  have hcap := hr.cap_
  obtain ⟨b, hm⟩ : ∃ b, m + 1 = b := ⟨_, rfl⟩
  rw [hm]
  have e1 : (((m : Int) - a) == 1) = false := by rw [beq_eq_false_iff_ne]; omega
  have e2 : (b : Int) - m = 1 := by omega
  have HSO := Lib.hid hso
  clear hso
  go_enter Try.func24, Try.ntmps24
  go_wp2_with fail
  go_loopg [14, 15, 16] m (SlR w L (keyc cs) a m (keyc cs (at0 L m)))
  case atStart => exact ⟨⟨a, m, by omega, by omega, by omega, by omega, rfl, rfl, fun p h1 h2 => by omega, fun p h1 h2 => by omega, Same.refl _⟩⟩
  case round =>
    obtain ⟨i, j, h1, h2, h3, hg1, rfl, rfl, hlo, hhi, hs1⟩ := hrel.out_
    clear hrel
    have hr1 := hr.same hs1
    have hc1 := hc.kept hs1 (fun _ c => c.elim)
    by_cases hij : i < j
    · have d1 : decide (i < j) = true := by simp; omega
      obtain ⟨k, hk⟩ : ∃ k : Nat, (i + j) / 2 = k := ⟨_, rfl⟩
      have hk2 : ((i : Int) + j) / 2 = (k : Int) := by omega
      have hkn : k < n := by omega
      have hk0 : i ≤ k := by omega
      have hk1 : k < j := by omega
      have m0 := fun d : Ext (fun _ => False) wr => (hr1.same d.same).cell (p := m) (by omega)
      have m1 := fun d : Ext (fun _ => False) wr => (hr1.same d.same).cell (p := k) (by omega)
      obtain ⟨x, ex, hx⟩ := hr1.nat (p := m) (by omega)
      obtain ⟨y, ey, hy⟩ := hr1.nat (p := k) (by omega)
      have m2 := fun d : Ext (fun _ => False) wr => Lib.hid (ext_call (d := d) (cmp_calls (hc1.kept d.same (fun _ c => c.elim)) x y hx hy))
      rw [ex] at m0
      rw [ey] at m1
      have hk : keyc cs (at0 L m) - keyc cs (at0 L k) = cs.getD x 0 - cs.getD y 0 := by rw [ex, ey]; rfl
      obtain ⟨X, hX⟩ : ∃ X, cs.getD x 0 - cs.getD y 0 = X := ⟨_, rfl⟩
      rw [hX] at m2 hk
      have HK := Lib.hid hk
      clear hX hk ex ey
      have HLO := Lib.hid hlo
      have HHI := Lib.hid hhi
      have HS1 := Lib.hid hs1
      clear hk hlo hhi hs1 hr1 hc1
      by_cases hX0 : X < 0
      · have d3 : decide (X < 0) = true := by simpa using hX0
        go_upto_region 17 with fail
        refine wp_region_ext (fun _ => False) (by kernel_rfl) (by kernel_rfl) ?_
        repeat (go_big_quiet_step (exact (m2 _).out))
        refine wpQuiet_nil ?_
        rintro _ ⟨d, rfl⟩
        clear m0 m1 m2
        go_wp2_with fail
        go_roundg (gk - (j - k))
        case measure => omega
        case rel =>
          refine ⟨⟨i, k, by omega, by omega, by omega, by omega, rfl, rfl, HLO.out, fun p p1 p2 => ?_, HS1.out.then d.same⟩⟩
          have := HSO.out k p (by omega) (by omega) (by omega)
          have := HK.out
          omega
      · have d3 : decide (X < 0) = false := by simpa using hX0
        go_upto_region 17 with fail
        refine wp_region_ext (fun _ => False) (by kernel_rfl) (by kernel_rfl) ?_
        repeat (go_big_quiet_step (exact (m2 _).out))
        refine wpQuiet_nil ?_
        rintro _ ⟨d, rfl⟩
        clear m0 m1 m2
        go_wp2_with fail
        go_roundg (gk - (k + 1 - i))
        case measure => omega
        case rel =>
          refine ⟨⟨k + 1, j, by omega, by omega, by omega, by omega, by go_num, rfl, fun p p1 p2 => ?_, HHI.out, HS1.out.then d.same⟩⟩
          have := HSO.out p k (by omega) (by omega) (by omega)
          have := HK.out
          omega
    · have d1 : decide (i < j) = false := by simp; omega
      have e : i = j := by omega
      subst e
      have hs1 := hs1.any (S := fun k => k = g)
      go_wp2_with fail
      go_loopg [17] m (SoPrRel w B g n cap cs.length (keyc cs) a m i L)
      case atStart => exact ⟨⟨m, L, by omega, rfl, hr1, PutR.start (by omega), hs1⟩⟩
      case round =>
        rename World => wi
        rename Nat => gq
        obtain ⟨k, L2, hg2, rfl, hr2, hpu, hs2⟩ := hrel.out_
        clear hrel hr1 hc1 hs1
        have hik := hpu.ik
        have hkm := hpu.km
        by_cases hki : i < k
        · have d2 : decide (i < k) = true := by simp; omega
          obtain ⟨q, hq⟩ : ∃ q, k - 1 = q := ⟨_, rfl⟩
          have eq : (k : Int) - 1 = q := by omega
          have hkn : k < n := by omega
          have hqn : q < n := by omega
          have hpq : k ≠ q := by omega
          have hst := hpu.step (by have := hr2.len; omega) (by omega) (by omega) hhi
          rw [hq] at hst
          have HST := Lib.hid hst
          have hr3 := hr2.same (Same.refl _).drew
          have hr4 := hr3.swap hkn hqn
          have hs4 : Same (fun k => k = g) w ((wi.drew.setCell ⟨g, k, none⟩ (.int .i64 (at0 L2 q))).setCell ⟨g, q, none⟩ (.int .i64 (at0 L2 k))) := (hs2.drew.set_ (p := ⟨g, k, none⟩) (fun _ => rfl) _).set_ (p := ⟨g, q, none⟩) (fun _ => rfl) _
          have k0 := hr3.cell hkn
          have k1 := hr3.cell hqn
          have f0 := hr3.own.frozenI k
          have f1 := hr3.own.frozenI q
          have o5 := (hr2.own.set_ k (at0 L2 q)).drew
          have k2 := o5.cellI (i := q) (by rw [List.length_set, hr2.len]; exact hqn)
          have f2 := o5.frozenI q
          obtain ⟨x, ex⟩ : ∃ x, at0 L2 k = x := ⟨_, rfl⟩
          obtain ⟨y, ey⟩ : ∃ y, at0 L2 q = y := ⟨_, rfl⟩
          rw [ex, ey] at hr4 hs4
          rw [ex] at k0
          rw [ey] at k1 k2 f2
          have HLO := Lib.hid hlo
          have HHI := Lib.hid hhi
          generalize ((L2.set k y).getD q 0) = old at *
          clear o5 hst hpu hr2 hs2 hr3 hq ex ey hlo hhi
          go_upto_region 23 with fail
          go_region
          go_wp2_with fail
          go_roundg (gq - 1)
          case measure => omega
          case rel => exact ⟨⟨q, swp L2 k q, by omega, by go_num, hr4, HST.out, hs4⟩⟩
        · have d2 : decide (i < k) = false := by simp; omega
          have hend := hpu.done (by omega) (by omega) HSO.out hhi hlo
          have hshf := hpu.shuf
          rw [hm] at hend hshf
          clear hpu hlo hhi
          go_wp2_with fail
          ((try simp only [Exit.inBlock, Exit.then]); first | refine bodyPost_end (results_none rfl _ _ _) rfl ?_ | refine bodyPost_ret (results_none rfl _ _ _) rfl ?_)
          exact ⟨rfl, L2, hr2, hshf, hend, hs2⟩
end Go.Proofs.Ytfmglcgdcdcpaaa
