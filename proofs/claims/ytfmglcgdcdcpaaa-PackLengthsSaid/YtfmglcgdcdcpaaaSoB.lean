import Derived.Test.YtfmglcgdcdcpaaaSoM
import Derived.Deep.Cut
import Derived.Deep.DeepCutAuto
import Derived.Deep.CutBlock
namespace Go.Proofs.Ytfmglcgdcdcpaaa
set_option linter.unusedVariables false
set_option linter.unusedSimpArgs false
open Go.RowKit
attribute [local go_sem] max2i min2i max2t min2t

structure SymRel (w : World) (L : List Int) (key : Int → Int) (s0 r0 P : Nat) (gk : Nat) (v20 v21 v23 : Value) (wr : World) : Prop where mk ::
  out_ : ∃ s r : Nat, s0 ≤ s ∧ s ≤ r ∧ r ≤ r0 ∧ r ≤ gk + s ∧ v20 = .int .i64 (s : Int) ∧ v21 = .int .i64 (r : Int) ∧ (∀ c, s0 ≤ c → c < s → key (at0 L c) ≤ key (at0 L (P - c))) ∧ (∀ c, r ≤ c → c < r0 → key (at0 L (P - c)) < key (at0 L c)) ∧ Same (fun _ => False) w wr
structure RoMid (w : World) (B g n cap M : Nat) (s m e : Nat) (L : List Int) (wr : World) : Prop where mk ::
  out_ : ∃ L', RowIn wr B g n cap M L' ∧ (if s < m ∧ m < e then Rot s m e L L' else L' = L) ∧ Same (fun k => k = g) w wr
structure SoMid (w : World) (B g n cap M : Nat) (key : Int → Int) (a b : Nat) (L : List Int) (wr : World) : Prop where mk ::
  out_ : ∃ L', RowIn wr B g n cap M L' ∧ Shuf key a b L L' ∧ SortK key L' a b ∧ Same (fun k => k = g) w wr
def SymIH (B bx : Nat) (A : Option Addr) (c : Nat) (cs : List Int) (g n cap N : Nat) : Prop := ∀ (w : World) (L : List Int), CmpOk w B bx A c cs → RowIn w B g n cap cs.length L → ∀ a m b : Nat, b - a < N → a < m → m < b → b ≤ n → SortK (keyc cs) L a m → SortK (keyc cs) L m b →
    Calls Try.prog 24 #[.slice (some ⟨g, 0, none⟩) n cap, .int .i64 a, .int .i64 m, .int .i64 b, .func (.func 17) #[] #[.pointer (some ⟨bx, 0, none⟩)]] w fun e w' => SymPost w B g n cap cs a b L e w'
set_option maxHeartbeats 8000000 in
set_option maxRecDepth 100000 in
theorem sym_both {w : World} {B bx : Nat} {A : Option Addr} {c : Nat} {cs : List Int} (hc : CmpOk w B bx A c cs) {g n cap : Nat} {L : List Int} (hr : RowIn w B g n cap cs.length L) (a m b : Nat) (ham : a + 1 < m) (hmb : m + 1 < b) (hb : b ≤ n) (hn : n ≤ 100000) (hso : SortK (keyc cs) L a m) (hso2 : SortK (keyc cs) L m b)
    (ih : SymIH B bx A c cs g n cap (b - a)) :
    Calls Try.prog 24 #[.slice (some ⟨g, 0, none⟩) n cap, .int .i64 a, .int .i64 m, .int .i64 b, cmpV bx] w fun e w' => SymPost w B g n cap cs a b L e w' := by
  have hBg := hr.ge
  have hcap := hr.cap_
  have e1 : (((m : Int) - a) == 1) = false := by rw [beq_eq_false_iff_ne]; omega
  have e2 : (((b : Int) - m) == 1) = false := by rw [beq_eq_false_iff_ne]; omega
  have HSO := Lib.hid hso
  have HS2 := Lib.hid hso2
  clear hso hso2
  obtain ⟨mid, hmid⟩ : ∃ mid : Nat, (a + b) / 2 = mid := ⟨_, rfl⟩
  have em : ((a : Int) + b) / 2 = (mid : Int) := by omega
  obtain ⟨nn, hnn⟩ : ∃ nn : Nat, mid + m = nn := ⟨_, rfl⟩
  have en : (mid : Int) + m = (nn : Int) := by omega
  obtain ⟨P, hP⟩ : ∃ P : Nat, P + 1 = nn := ⟨nn - 1, by omega⟩
  have eP : (nn : Int) - 1 = (P : Int) := by omega
  have ham' : a ≤ mid ∧ mid ≤ b := by omega
  unfold cmpV
  go_enter Try.func24, Try.ntmps24
  go_upto_region 27 with fail
  go_upto_if 140 with fail
  go_cut [20, 21] (fun s20 s21 wx => s20 = .int .i64 ((if mid < m then nn - b else a : Nat) : Int) ∧ s21 = .int .i64 ((if mid < m then mid else m : Nat) : Int) ∧ wx = w)
  case first =>
    as_aux_lemma =>
      by_cases h : mid < m
      · have d1 : decide (mid < m) = true := by simpa using h
        have e3 : (nn : Int) - b = ((nn - b : Nat) : Int) := by omega
        go_wp2_with fail
        go_meet
        exact ⟨by rw [if_pos h], by rw [if_pos h], rfl⟩
      · have d1 : decide (mid < m) = false := by simpa using h
        go_wp2_with fail
        go_meet
        exact ⟨by rw [if_neg h], by rw [if_neg h], rfl⟩
  case rest =>
  obtain ⟨rfl, rfl, rfl⟩ := hcut
  obtain ⟨s0, hs0⟩ : ∃ s0, (if mid < m then nn - b else a) = s0 := ⟨_, rfl⟩
  obtain ⟨r0, hr0⟩ : ∃ r0, (if mid < m then mid else m) = r0 := ⟨_, rfl⟩
  rw [hs0, hr0]
  have hin : s0 ≤ r0 ∧ a ≤ s0 ∧ r0 ≤ m ∧ r0 ≤ mid ∧ nn ≤ b + s0 := by
    by_cases h : mid < m
    · rw [if_pos h] at hs0 hr0; omega
    · rw [if_neg h] at hs0 hr0; omega
  have HS0 := Lib.hid hs0
  have HR0 := Lib.hid hr0
  clear hs0 hr0
  go_wp2_with fail
  go_loopg [20, 21, 23] r0 (SymRel wc L (keyc cs) s0 r0 P)
  case atStart => exact ⟨⟨s0, r0, by omega, by omega, by omega, by omega, rfl, rfl, fun p h1 h2 => by omega, fun p h1 h2 => by omega, Same.refl _⟩⟩
  case round =>
    obtain ⟨s, r, h1, h2, h3, hg1, rfl, rfl, hlo, hhi, hs1⟩ := hrel.out_
    clear hrel
    have hr1 := hr.same hs1
    have hc1 := hc.kept hs1 (fun _ c => c.elim)
    by_cases hij : s < r
    · have d1 : decide (s < r) = true := by simp; omega
      obtain ⟨k, hk⟩ : ∃ k : Nat, (s + r) / 2 = k := ⟨_, rfl⟩
      have hk2 : ((s : Int) + r) / 2 = (k : Int) := by omega
      have hk0 : s ≤ k := by omega
      have hk1 : k < r := by omega
      have hkn : k < n := by omega
      obtain ⟨q, hq⟩ : ∃ q, P - k = q := ⟨_, rfl⟩
      have hq2 : (P : Int) - k = (q : Int) := by omega
      have hqn : q < n := by omega
      have m0 := fun d : Ext (fun _ => False) wr => (hr1.same d.same).cell (p := q) (by omega)
      have m1 := fun d : Ext (fun _ => False) wr => (hr1.same d.same).cell (p := k) (by omega)
      obtain ⟨x, ex, hx⟩ := hr1.nat (p := q) (by omega)
      obtain ⟨y, ey, hy⟩ := hr1.nat (p := k) (by omega)
      have m2 := fun d : Ext (fun _ => False) wr => Lib.hid (ext_call (d := d) (cmp_calls (hc1.kept d.same (fun _ c => c.elim)) x y hx hy))
      rw [ex] at m0
      rw [ey] at m1
      have hk : keyc cs (at0 L q) - keyc cs (at0 L k) = cs.getD x 0 - cs.getD y 0 := by rw [ex, ey]; rfl
      obtain ⟨X, hX⟩ : ∃ X, cs.getD x 0 - cs.getD y 0 = X := ⟨_, rfl⟩
      rw [hX] at m2 hk
      have HK := Lib.hid hk
      clear hX hk ex ey
      have HLO := Lib.hid hlo
      have HHI := Lib.hid hhi
      have HS1 := Lib.hid hs1
      clear hk hlo hhi hs1 hr1 hc1
      by_cases hX0 : X < 0
      · have d3 : decide (X < 0) = true := by simpa using hX0
        go_upto_region 35 with fail
        refine wp_region_ext (fun _ => False) (by kernel_rfl) (by kernel_rfl) ?_
        repeat (go_big_quiet_step (exact (m2 _).out))
        refine wpQuiet_nil ?_
        rintro _ ⟨d, rfl⟩
        clear m0 m1 m2
        go_wp2_with fail
        go_roundg (gk - (r - k))
        case measure => omega
        case rel =>
          refine ⟨⟨s, k, by omega, by omega, by omega, by omega, rfl, rfl, HLO.out, fun p p1 p2 => ?_, HS1.out.then d.same⟩⟩
          have := HSO.out k p (by omega) (by omega) (by omega)
          have := HS2.out (P - p) q (by omega) (by omega) (by omega)
          have := HK.out
          omega
      · have d3 : decide (X < 0) = false := by simpa using hX0
        go_upto_region 35 with fail
        refine wp_region_ext (fun _ => False) (by kernel_rfl) (by kernel_rfl) ?_
        repeat (go_big_quiet_step (exact (m2 _).out))
        refine wpQuiet_nil ?_
        rintro _ ⟨d, rfl⟩
        clear m0 m1 m2
        go_wp2_with fail
        go_roundg (gk - (k + 1 - s))
        case measure => omega
        case rel =>
          refine ⟨⟨k + 1, r, by omega, by omega, by omega, by omega, by go_num, rfl, fun p p1 p2 => ?_, HHI.out, HS1.out.then d.same⟩⟩
          have := HSO.out p k (by omega) (by omega) (by omega)
          have := HS2.out q (P - p) (by omega) (by omega) (by omega)
          have := HK.out
          omega
    · have d1 : decide (s < r) = false := by simp; omega
      have e : s = r := by omega
      subst e
      obtain ⟨e, he⟩ : ∃ e : Nat, nn - s = e := ⟨_, rfl⟩
      have ee : (nn : Int) - s = (e : Int) := by omega
      have hall := fun L' (h : if s < m ∧ m < e then Rot s m e L L' else L' = L) => half_of (key := keyc cs) (L := L) (L' := L') (a := a) (m := m) (b := b) (s := s) (by have := hr.len; omega) (by omega) (by omega) HSO.out HS2.out s0 r0 mid hmid.symm (by rw [hnn]; exact HS0.out.symm) HR0.out.symm h1 h3 (fun c c1 c2 => by rw [hnn, ← hP, Nat.add_sub_cancel]; exact hlo c c1 c2) (fun c c1 c2 => by rw [hnn, ← hP, Nat.add_sub_cancel]; exact hhi c c1 c2) (by rw [hnn, he]; exact h)
      rw [hnn, he] at hall
      have HALL := Lib.hid hall
      have hse : s ≤ mid ∧ s ≤ m ∧ a ≤ s ∧ e ≤ b ∧ m ≤ e ∧ mid ≤ e := by omega
      have hs1 := hs1.any (S := fun k => k = g)
      clear hall hlo hhi h1 h3 hr hc
      go_upto_region 39 with fail
      go_cut [185] (fun s185 wx => s185 = .bool (decide (s < m ∧ m < e)) ∧ wx = wr)
      case first =>
        as_aux_lemma =>
          by_cases c1 : s < m
          · have d2 : decide (s < m) = true := by simpa using c1
            by_cases c2 : m < e
            · have d3 : decide (m < e) = true := by simpa using c2
              go_wp2_with fail
              go_meet
              exact ⟨by rw [decide_eq_true (p := s < m ∧ m < e) ⟨c1, c2⟩], rfl⟩
            · have d3 : decide (m < e) = false := by simpa using c2
              go_wp2_with fail
              go_meet
              exact ⟨by rw [decide_eq_false (p := s < m ∧ m < e) (fun c => c2 c.2)], rfl⟩
          · have d2 : decide (s < m) = false := by simpa using c1
            go_wp2_with fail
            go_meet
            exact ⟨by rw [decide_eq_false (p := s < m ∧ m < e) (fun c => c1 c.1)], rfl⟩
      case rest =>
      obtain ⟨rfl, rfl⟩ := hcut
      go_upto_if 185 with fail
      go_cut [] (fun wx => RoMid wc B g n cap cs.length s m e L wx)
      case first =>
        as_aux_lemma =>
          by_cases hd : s < m ∧ m < e
          · have d2 : decide (s < m ∧ m < e) = true := decide_eq_true hd
            have CR := Lib.hid (rotate_run hr1 s m e hd.1 hd.2 (by omega) hn bx)
            unfold cmpV at CR
            rw [d2]
            go_wp2_with (go_at_call 26; refine CR.out.mono ?_; rintro e9 w9 ⟨rfl, L9, hr9, hro9, hs9⟩)
            go_meet
            exact ⟨⟨L9, hr9, by rw [if_pos hd]; exact hro9, hs9⟩⟩
          · have d2 : decide (s < m ∧ m < e) = false := decide_eq_false hd
            rw [d2]
            go_wp2_with fail
            go_meet
            exact ⟨⟨L, hr1, by rw [if_neg hd], Same.refl _⟩⟩
      case rest =>
      rename World => wd
      obtain ⟨L1, hr2, hro, hs2⟩ := hcut.out_
      have hH := HALL.out L1 hro
      have hc2 := hc1.kept hs2 (fun k h => by rw [h]; exact hBg)
      have hs12 := hs1.then hs2
      have hlt : mid < b ∧ a < mid := by omega
      clear hr1 hc1 hs1 hs2 hcut hro HALL
      go_upto_region 41 with fail
      go_cut [199] (fun s199 wx => s199 = .bool (decide (a < s ∧ s < mid)) ∧ wd = wx)
      case first =>
        as_aux_lemma =>
          by_cases c1 : a < s
          · have d2 : decide (a < s) = true := by simpa using c1
            by_cases c2 : s < mid
            · have d3 : decide (s < mid) = true := by simpa using c2
              go_wp2_with fail
              go_meet
              exact ⟨by rw [decide_eq_true (p := a < s ∧ s < mid) ⟨c1, c2⟩], rfl⟩
            · have d3 : decide (s < mid) = false := by simpa using c2
              go_wp2_with fail
              go_meet
              exact ⟨by rw [decide_eq_false (p := a < s ∧ s < mid) (fun c => c2 c.2)], rfl⟩
          · have d2 : decide (a < s) = false := by simpa using c1
            go_wp2_with fail
            go_meet
            exact ⟨by rw [decide_eq_false (p := a < s ∧ s < mid) (fun c => c1 c.1)], rfl⟩
      case rest =>
      obtain ⟨rfl, hw⟩ := hcut
      subst hw
      go_upto_if 199 with fail
      go_cut [] (fun wx => SoMid wd B g n cap cs.length (keyc cs) a mid L1 wx)
      case first =>
        as_aux_lemma =>
          by_cases hd : a < s ∧ s < mid
          · have d2 : decide (a < s ∧ s < mid) = true := decide_eq_true hd
            have CR := Lib.hid (ih _ _ hc2 hr2 a s mid (by omega) hd.1 hd.2 (by omega) hH.l1 hH.l2)
            rw [d2]
            go_wp2_with (go_at_call 24; refine CR.out.mono ?_; rintro e9 w9 ⟨rfl, L9, hr9, hsh9, hso9, hs9⟩)
            go_meet
            exact ⟨⟨L9, hr9, hsh9, hso9, hs9⟩⟩
          · have d2 : decide (a < s ∧ s < mid) = false := decide_eq_false hd
            rw [d2]
            go_wp2_with fail
            go_meet
            refine ⟨⟨L1, hr2, Shuf.refl _ _ _ _, ?_, Same.refl _⟩⟩
            by_cases h9 : a < s
            · have := hH.l1; rwa [show s = mid from by omega] at this
            · have := hH.l2; rwa [show s = a from by omega] at this
      case rest =>
      rename World => we
      obtain ⟨L2, hr3, hsh3, hso3, hs3⟩ := hcut.out_
      have hc3 := hc2.kept hs3 (fun k h => by rw [h]; exact hBg)
      have hs13 := hs12.then hs3
      clear hr2 hc2 hs12 hs3 hcut
      go_upto_region 43 with fail
      go_cut [213] (fun s213 wx => s213 = .bool (decide (mid < e ∧ e < b)) ∧ we = wx)
      case first =>
        as_aux_lemma =>
          by_cases c1 : mid < e
          · have d2 : decide (mid < e) = true := by simpa using c1
            by_cases c2 : e < b
            · have d3 : decide (e < b) = true := by simpa using c2
              go_wp2_with fail
              go_meet
              exact ⟨by rw [decide_eq_true (p := mid < e ∧ e < b) ⟨c1, c2⟩], rfl⟩
            · have d3 : decide (e < b) = false := by simpa using c2
              go_wp2_with fail
              go_meet
              exact ⟨by rw [decide_eq_false (p := mid < e ∧ e < b) (fun c => c2 c.2)], rfl⟩
          · have d2 : decide (mid < e) = false := by simpa using c1
            go_wp2_with fail
            go_meet
            exact ⟨by rw [decide_eq_false (p := mid < e ∧ e < b) (fun c => c1 c.1)], rfl⟩
      case rest =>
      obtain ⟨rfl, hw⟩ := hcut
      subst hw
      have r1 := hsh3.sort_out hH.r1 (.inr (Nat.le_refl _))
      have r2 := hsh3.sort_out hH.r2 (.inr (by omega))
      by_cases hd : mid < e ∧ e < b
      · have d2 : decide (mid < e ∧ e < b) = true := decide_eq_true hd
        have CR := Lib.hid (ih _ _ hc3 hr3 mid e b (by omega) hd.1 hd.2 (by omega) r1 r2)
        rw [d2]
        go_wp2_with (go_at_call 24; refine CR.out.mono ?_; rintro e9 w9 ⟨rfl, L9, hr9, hsh9, hso9, hs9⟩)
        ((try simp only [Exit.inBlock, Exit.then]); first | refine bodyPost_end (results_none rfl _ _ _) rfl ?_ | refine bodyPost_ret (results_none rfl _ _ _) rfl ?_)
        obtain ⟨q1, q2⟩ := hH.done (by omega) hsh3 hso3 hsh9 hso9
        exact ⟨rfl, L9, hr9, q1, q2, hs13.then hs9⟩
      · have d2 : decide (mid < e ∧ e < b) = false := decide_eq_false hd
        rw [d2]
        have hso4 : SortK (keyc cs) L2 mid b := by
          by_cases h9 : mid < e
          · have := r1; rwa [show e = b from by omega] at this
          · have := r2; rwa [show e = mid from by omega] at this
        go_wp2_with fail
        ((try simp only [Exit.inBlock, Exit.then]); first | refine bodyPost_end (results_none rfl _ _ _) rfl ?_ | refine bodyPost_ret (results_none rfl _ _ _) rfl ?_)
        obtain ⟨q1, q2⟩ := hH.done (by omega) hsh3 hso3 (Shuf.refl _ _ _ _) hso4
        exact ⟨rfl, L2, hr3, q1, q2, hs13⟩
end Go.Proofs.Ytfmglcgdcdcpaaa
