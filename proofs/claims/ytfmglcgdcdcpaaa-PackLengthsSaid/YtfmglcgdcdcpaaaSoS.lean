import Derived.Test.YtfmglcgdcdcpaaaSoB
namespace Go.Proofs.Ytfmglcgdcdcpaaa
set_option linter.unusedVariables false
set_option linter.unusedSimpArgs false
open Go.RowKit
attribute [local go_sem] max2i min2i max2t min2t

theorem sym_merge {B bx : Nat} {A : Option Addr} {c : Nat} {cs : List Int} {g n cap : Nat} (hn : n ≤ 100000) : ∀ N : Nat, SymIH B bx A c cs g n cap N
  | 0 => fun w L hc hr a m b hN ham hmb hb h1 h2 => by omega
  | N + 1 => fun w L hc hr a m b hN ham hmb hb h1 h2 => by
    by_cases c1 : a + 1 = m
    · subst c1
      exact sym_left hc hr a b hmb hb hn h2
    · by_cases c2 : m + 1 = b
      · subst c2
        exact sym_right hc hr a m (by omega) hb hn h1
      · exact sym_both hc hr a m b (by omega) (by omega) hb hn h1 h2 (fun w' L' hc' hr' a' m' b' hlt => sym_merge hn N w' L' hc' hr' a' m' b' (by omega))
/-- Each block of s is sorted. -/
def Blks (key : Int → Int) (L : List Int) (s n : Nat) : Prop := ∀ x, x % s = 0 → SortK key L x (min (x + s) n)
theorem mod_gap {d x a : Nat} (hx : x % d = 0) (ha : a % d = 0) (h : x < a) : x + d ≤ a := by
  have e1 := Nat.div_add_mod x d
  have e2 := Nat.div_add_mod a d
  rw [hx, Nat.add_zero] at e1
  rw [ha, Nat.add_zero] at e2
  have h1 : x / d < a / d := by
    rcases Nat.lt_or_ge (x / d) (a / d) with c | c
    · exact c
    · have := Nat.mul_le_mul_left d c
      omega
  have := Nat.mul_le_mul_left d (show x / d + 1 ≤ a / d from h1)
  rw [Nat.mul_add, Nat.mul_one] at this
  omega
theorem mod_half {s x : Nat} (h : x % (2 * s) = 0) : x % s = 0 := by
  have := Nat.mod_mul_left_mod x 2 s
  rw [h, Nat.zero_mod] at this
  exact this.symm
structure St1 (w : World) (B bx : Nat) (A : Option Addr) (c : Nat) (cs : List Int) (g n cap : Nat) (L0 : List Int) (gk : Nat) (v7 v8 : Value) (wr : World) : Prop where mk ::
  out_ : ∃ (a : Nat) (L : List Int), a ≤ n ∧ n ≤ gk + a ∧ a % 20 = 0 ∧ v7 = .int .i64 (a : Int) ∧ v8 = .int .i64 ((a : Int) + 20) ∧ RowIn wr B g n cap cs.length L ∧ CmpOk wr B bx A c cs ∧ Shuf (keyc cs) 0 n L0 L ∧ (∀ x, x % 20 = 0 → x + 20 ≤ a → SortK (keyc cs) L x (x + 20)) ∧ Same (fun k => k = g) w wr
structure St2 (w : World) (B bx : Nat) (A : Option Addr) (c : Nat) (cs : List Int) (g n cap : Nat) (L0 : List Int) (gk : Nat) (v6 v7 v8 v9 : Value) (wr : World) : Prop where mk ::
  out_ : ∃ (s : Nat) (L : List Int), 20 ≤ s ∧ s ≤ 400000 ∧ 2 * n + 20 ≤ gk + s ∧ v6 = .int .i64 (s : Int) ∧ RowIn wr B g n cap cs.length L ∧ CmpOk wr B bx A c cs ∧ Shuf (keyc cs) 0 n L0 L ∧ Blks (keyc cs) L s n ∧ Same (fun k => k = g) w wr
structure St3 (w : World) (B bx : Nat) (A : Option Addr) (c : Nat) (cs : List Int) (g n cap : Nat) (s : Nat) (L0 : List Int) (gk : Nat) (v7 v8 : Value) (wr : World) : Prop where mk ::
  out_ : ∃ (a : Nat) (L : List Int), a ≤ n ∧ n ≤ gk + a ∧ a % (2 * s) = 0 ∧ v7 = .int .i64 (a : Int) ∧ v8 = .int .i64 ((a : Int) + 2 * s) ∧ RowIn wr B g n cap cs.length L ∧ CmpOk wr B bx A c cs ∧ Shuf (keyc cs) 0 n L0 L ∧ (∀ x, x % (2 * s) = 0 → x + 2 * s ≤ a → SortK (keyc cs) L x (x + 2 * s)) ∧ (∀ x, a ≤ x → x % s = 0 → SortK (keyc cs) L x (min (x + s) n)) ∧ Same (fun k => k = g) w wr
set_option maxHeartbeats 8000000 in
set_option maxRecDepth 100000 in
theorem stable_run {w : World} {B bx : Nat} {A : Option Addr} {c : Nat} {cs : List Int} (hc : CmpOk w B bx A c cs) {g n cap : Nat} {L : List Int} (hr : RowIn w B g n cap cs.length L) (hn : n ≤ 100000) :
    Calls Try.prog 21 #[.slice (some ⟨g, 0, none⟩) n cap, .int .i64 n, cmpV bx] w fun e w' => SymPost w B g n cap cs 0 n L e w' := by
  have hBg := hr.ge
  have hcap := hr.cap_
  unfold cmpV
  go_enter Try.func21, Try.ntmps21
  go_wp2_with fail
  go_loopg [7, 8] n (St1 w B bx A c cs g n cap L)
  case atStart => exact ⟨⟨0, L, by omega, by omega, rfl, rfl, rfl, hr, hc, Shuf.refl _ _ _ _, fun x h1 h2 => by omega, Same.refl _⟩⟩
  case round =>
    rename World => wo
    obtain ⟨a, L1, ha, hg1, ha20, rfl, rfl, hr1, hc1, hsh, hbl, hs1⟩ := hrel.out_
    clear hrel hr hc
    by_cases hle : a + 20 ≤ n
    · have d1 : decide ((a : Int) + 20 ≤ n) = true := by simp; omega
      have e1 : (a : Int) + 20 = ((a + 20 : Nat) : Int) := by omega
      have CI := ins_sort hc1 hr1 a (a + 20) (by omega) hle hn
      unfold cmpV at CI
      rw [← e1] at CI
      have CI := Lib.hid CI
      have HBL := Lib.hid hbl
      clear e1 hbl
      go_wp2_with (go_at_call 23; refine CI.out.mono ?_; rintro e2 w2 ⟨rfl, L2, hr2, hsh2, hso2, hs2⟩)
      go_roundg (gk - 20)
      case measure => omega
      case rel =>
        refine ⟨⟨a + 20, L2, hle, by omega, by omega, by go_num, by go_num, hr2, hc1.kept hs2 (fun k h => by rw [h]; exact hBg), hsh.trans (hsh2.mono (by omega) hle), fun x x1 x2 => ?_, hs1.then hs2⟩⟩
        by_cases hx : x + 20 ≤ a
        · exact hsh2.sort_out (HBL.out x x1 hx) (.inl hx)
        · rw [show x = a from by omega]; exact hso2
    · have d1 : decide ((a : Int) + 20 ≤ n) = false := by simp; omega
      have CI := ins_sort hc1 hr1 a n ha (Nat.le_refl _) hn
      unfold cmpV at CI
      have CI := Lib.hid CI
      have HBL := Lib.hid hbl
      clear hbl
      go_wp2_with (go_at_call 23; refine CI.out.mono ?_; rintro e2 w2 ⟨rfl, L2, hr2, hsh2, hso2, hs2⟩)
      have hc2 := hc1.kept hs2 (fun k h => by rw [h]; exact hBg)
      have hsh3 := hsh.trans (hsh2.mono (Nat.zero_le _) (Nat.le_refl _))
      have hb3 : Blks (keyc cs) L2 20 n := fun x x1 => by
        by_cases hx : x + 20 ≤ a
        · rw [Nat.min_eq_left (by omega)]; exact hsh2.sort_out (HBL.out x x1 hx) (.inl hx)
        · by_cases hx2 : x = a
          · rw [hx2, Nat.min_eq_right (by omega)]; exact hso2
          · intro p q p1 p2 p3
            exfalso
            omega
      have hs12 := hs1.then hs2
      clear hr1 hc1 hsh hs1 CI HBL hsh2 hso2 hs2
      go_loopg [6, 7, 8, 9] (2 * n) (St2 w B bx A c cs g n cap L)
      case atStart => exact ⟨⟨20, L2, by omega, by omega, by omega, rfl, hr2, hc2, hsh3, hb3, hs12⟩⟩
      case round =>
        rename World => wp
        rename Nat => gp
        obtain ⟨s, L3, hs20, hs4, hg3, rfl, hr3, hc3, hsh4, hb4, hs13⟩ := hrel.out_
        clear hrel hr2 hc2 hsh3 hb3 hs12
        by_cases hsn : s < n
        · have d2 : decide (s < n) = true := by simpa using hsn
          go_wp2_with fail
          go_loopg [7, 8] n (St3 w B bx A c cs g n cap s L)
          case atStart => exact ⟨⟨0, L3, by omega, by omega, Nat.zero_mod _, rfl, by go_num, hr3, hc3, hsh4, fun x x1 x2 => by omega, fun x _ x1 => hb4 x x1, hs13⟩⟩
          case round =>
            rename World => wq
            rename Nat => gq
            obtain ⟨a', L4, ha', hg4, ham, rfl, rfl, hr4, hc4, hsh5, hb5, hb6, hs14⟩ := hrel.out_
            clear hrel hr3 hc3 hsh4 hb4 hs13
            have ham2 := mod_half ham
            by_cases hle2 : a' + 2 * s ≤ n
            · have d3 : decide ((a' : Int) + 2 * s ≤ n) = true := by simp; omega
              have q1 := hb6 a' (Nat.le_refl _) ham2
              have q2 := hb6 (a' + s) (by omega) (by rw [Nat.add_mod_right]; exact ham2)
              rw [Nat.min_eq_left (by omega)] at q1
              rw [Nat.min_eq_left (by omega), show a' + s + s = a' + 2 * s from by omega] at q2
              have CI := sym_merge hn (a' + 2 * s - a' + 1) _ _ hc4 hr4 a' (a' + s) (a' + 2 * s) (by omega) (by omega) (by omega) hle2 q1 q2
              have e1 : ((a' + 2 * s : Nat) : Int) = (a' : Int) + 2 * s := by omega
              have e2 : ((a' + s : Nat) : Int) = (a' : Int) + s := by omega
              rw [e1, e2] at CI
              have CI := Lib.hid CI
              have HB5 := Lib.hid hb5
              have HB6 := Lib.hid hb6
              clear e1 e2 hb5 hb6 q1 q2
              go_wp2_with (go_at_call 24; refine CI.out.mono ?_; rintro e2 w5 ⟨rfl, L5, hr5, hsh6, hso6, hs5⟩)
              go_roundg (gq - 2 * s)
              case measure => omega
              case rel =>
                refine ⟨⟨a' + 2 * s, L5, hle2, by omega, by rw [Nat.add_mod_right]; exact ham, by go_num, by go_num, hr5, hc4.kept hs5 (fun k h => by rw [h]; exact hBg), hsh5.trans (hsh6.mono (Nat.zero_le _) hle2), fun x x1 x2 => ?_, fun x x1 x2 => ?_, hs14.then hs5⟩⟩
                · by_cases hx : x < a'
                  · have := mod_gap x1 ham hx
                    exact hsh6.sort_out (HB5.out x x1 this) (.inl this)
                  · rw [show x = a' from by omega]; exact hso6
                · exact hsh6.sort_out (HB6.out x (by omega) x2) (.inr x1)
            · have d3 : decide ((a' : Int) + 2 * s ≤ n) = false := by simp; omega
              by_cases hm : a' + s < n
              · have d4 : decide ((a' : Int) + s < n) = true := by simp; omega
                have q1 := hb6 a' (Nat.le_refl _) ham2
                have q2 := hb6 (a' + s) (by omega) (by rw [Nat.add_mod_right]; exact ham2)
                rw [Nat.min_eq_left (by omega)] at q1
                rw [Nat.min_eq_right (by omega)] at q2
                have CI := sym_merge hn (n - a' + 1) _ _ hc4 hr4 a' (a' + s) n (by omega) (by omega) (by omega) (Nat.le_refl _) q1 q2
                have e2 : ((a' + s : Nat) : Int) = (a' : Int) + s := by omega
                rw [e2] at CI
                have CI := Lib.hid CI
                have HB5 := Lib.hid hb5
                clear e2 hb5 hb6 q1 q2
                go_wp2_with (go_at_call 24; refine CI.out.mono ?_; rintro e2 w5 ⟨rfl, L5, hr5, hsh6, hso6, hs5⟩)
                go_roundg (gp - s)
                case measure => omega
                case rel =>
                  refine ⟨⟨2 * s, L5, by omega, by omega, by omega, by go_num, hr5, hc4.kept hs5 (fun k h => by rw [h]; exact hBg), hsh5.trans (hsh6.mono (Nat.zero_le _) (Nat.le_refl _)), fun x x1 => ?_, hs14.then hs5⟩⟩
                  by_cases hx : x < a'
                  · have := mod_gap x1 ham hx
                    rw [Nat.min_eq_left (by omega)]
                    exact hsh6.sort_out (HB5.out x x1 this) (.inl this)
                  · by_cases hx2 : x = a'
                    · rw [hx2, Nat.min_eq_right (by omega)]; exact hso6
                    · have := mod_gap ham x1 (by omega)
                      intro p q p1 p2 p3
                      exfalso
                      omega
              · have d4 : decide ((a' : Int) + s < n) = false := by simp; omega
                have q1 := hb6 a' (Nat.le_refl _) ham2
                rw [Nat.min_eq_right (by omega)] at q1
                have HB5 := Lib.hid hb5
                have Q1 := Lib.hid q1
                clear hb5 hb6 q1
                go_wp2_with fail
                go_roundg (gp - s)
                case measure => omega
                case rel =>
                  refine ⟨⟨2 * s, L4, by omega, by omega, by omega, by go_num, hr4, hc4, hsh5, fun x x1 => ?_, hs14⟩⟩
                  by_cases hx : x < a'
                  · have := mod_gap x1 ham hx
                    rw [Nat.min_eq_left (by omega)]
                    exact HB5.out x x1 this
                  · by_cases hx2 : x = a'
                    · rw [hx2, Nat.min_eq_right (by omega)]; exact Q1.out
                    · have := mod_gap ham x1 (by omega)
                      intro p q p1 p2 p3
                      exfalso
                      omega
        · have d2 : decide (s < n) = false := by simpa using hsn
          have q := hb4 0 (Nat.zero_mod _)
          rw [Nat.zero_add, Nat.min_eq_right (by omega)] at q
          clear hb4
          go_wp2_with fail
          ((try simp only [Exit.inBlock, Exit.then]); first | refine bodyPost_end (results_none rfl _ _ _) rfl ?_ | refine bodyPost_ret (results_none rfl _ _ _) rfl ?_)
          exact ⟨rfl, L3, hr3, hsh4, q, hs13⟩
set_option maxHeartbeats 1600000 in
set_option maxRecDepth 100000 in
theorem sort_stable {w : World} {B bx : Nat} {A : Option Addr} {c : Nat} {cs : List Int} (hc : CmpOk w B bx A c cs) {g n cap : Nat} {L : List Int} (hr : RowIn w B g n cap cs.length L) (hn : n ≤ 100000) :
    Calls Try.prog 16 #[.slice (some ⟨g, 0, none⟩) n cap, cmpV bx] w fun e w' => SymPost w B g n cap cs 0 n L e w' := by
  have CS := stable_run hc hr hn
  unfold cmpV at *
  have CS := Lib.hid CS
  have hcap := hr.cap_
  clear hc hr
  go_enter Try.func16, Try.ntmps16
  go_wp2_with (go_at_call 21; refine CS.out.mono ?_; rintro e2 w5 ⟨rfl, h5⟩)
  ((try simp only [Exit.inBlock, Exit.then]); first | refine bodyPost_end (results_none rfl _ _ _) rfl ?_ | refine bodyPost_ret (results_none rfl _ _ _) rfl ?_)
  exact ⟨rfl, h5⟩
end Go.Proofs.Ytfmglcgdcdcpaaa
