import Derived.Test.YthiandempeabmaaEffP
namespace Go.Proofs.Ythiandempeabmaa
set_option linter.unusedVariables false
set_option linter.unusedSimpArgs false
open Ieee

/-! ### sums, rounded -/
theorem log_lo {m : Nat} (h : m ≠ 0) : twoP m.log2 ≤ m := by rw [twoP_def]; exact Nat.log2_self_le h
theorem log_hi (m : Nat) : m < twoP (m.log2 + 1) := by rw [twoP_def]; exact Nat.lt_log2_self
theorem even_near (n d : Nat) (h : d ≤ n.log2 + 2) : n / twoP d ≤ Toward.even.cut false n d ∧ Toward.even.cut false n d ≤ (n + twoP d - 1) / twoP d ∧ (d = 0 → Toward.even.cut false n d = n) := by
  have hp := twoP_pos d
  have hg : 1 <<< min d (n.log2 + 2) = twoP d := by rw [Nat.min_eq_left h, Nat.shiftLeft_eq, Nat.one_mul, twoP_def]
  have hn := Nat.div_add_mod n (twoP d)
  have hr := Nat.mod_lt n hp
  unfold Toward.cut
  simp only [hg]
  generalize hq : n / twoP d = q at *
  generalize hm : n % twoP d = r at *
  have hz : ∀ b : Bool, b.toNat ≤ 1 := fun b => by cases b <;> simp
  refine ⟨Nat.le_add_right _ _, ?_, fun h0 => ?_⟩
  · rw [Nat.le_div_iff_mul_le hp]
    by_cases hr0 : r = 0
    · subst hr0
      have e : (decide (twoP d < 2 * 0) || twoP d == 2 * 0 && q % 2 == 1) = false := by
        rw [Bool.or_eq_false_iff]
        refine ⟨by simp, ?_⟩
        have : (twoP d == 2 * 0) = false := by rw [beq_eq_false_iff_ne]; omega
        rw [this]; rfl
      rw [e]
      show (q + 0) * twoP d ≤ _
      rw [Nat.add_zero, Nat.mul_comm]; omega
    · have h1 := hz (decide (twoP d < 2 * r) || twoP d == 2 * r && q % 2 == 1)
      have h2 : (q + (decide (twoP d < 2 * r) || twoP d == 2 * r && q % 2 == 1).toNat) * twoP d ≤ (q + 1) * twoP d := Nat.mul_le_mul_right _ (by omega)
      have h3 : (q + 1) * twoP d = twoP d * q + twoP d := by rw [Nat.add_mul, Nat.one_mul, Nat.mul_comm]
      rw [h3] at h2
      omega
  · subst h0
    have h1 : twoP 0 = 1 := twoP_def 0
    rw [h1] at hr hn ⊢
    have hr0 : r = 0 := by omega
    subst hr0
    simp at hn ⊢
    omega
/-- A rung and what it stands for. -/
theorem rung_rank (e kept : Nat) (he : e ≤ 1500) (hk : kept ≤ twoP 53) (hs : kept < twoP 52 → e = 0) : nanB (e * twoP 52 + kept) = false ∧ rankB (e * twoP 52 + kept) = ((kept * twoP e : Nat) : Int) := by
  have p52 : twoP 52 = 4503599627370496 := twoP_def 52
  have p53 : twoP 53 = 9007199254740992 := twoP_def 53
  rw [p52] at hs ⊢
  rw [p53] at hk
  unfold nanB rankB Format.read
  have e0 : double.signWeight = 9223372036854775808 := by decide
  have e1 : double.binade = 4503599627370496 := by decide
  have e2 : double.infRung = 9218868437227405312 := by decide
  have e3 : double.leastPlace = -1074 := by decide
  simp only [e0, e1, e2, e3]
  have hR : e * 4503599627370496 + kept < 9218868437227405312 := by omega
  have h1 : (e * 4503599627370496 + kept) / 9223372036854775808 = 0 := Nat.div_eq_of_lt (by omega)
  have h2 : (e * 4503599627370496 + kept) % 9223372036854775808 = e * 4503599627370496 + kept := Nat.mod_eq_of_lt (by omega)
  rw [h1, h2]
  have hsg : ((0 % 2 : Nat) == 1) = false := by decide
  rw [hsg]
  by_cases hlo : e * 4503599627370496 + kept < 4503599627370496
  · rw [if_pos hlo]
    have he0 : e = 0 := hs (by omega)
    subst he0
    refine ⟨rfl, ?_⟩
    show ((scaleN _ _ : Nat) : Int) = _
    unfold scaleN
    rw [show ((-1074 : Int) + 1074).toNat = 0 from by decide, Nat.zero_mul, Nat.zero_add]
  · rw [if_neg hlo, if_pos hR]
    have hk2 : 4503599627370496 ≤ kept := by
      by_cases hk3 : kept < 4503599627370496
      · have := hs hk3; omega
      · omega
    refine ⟨rfl, ?_⟩
    show ((scaleN _ _ : Nat) : Int) = _
    congr 1
    unfold scaleN
    by_cases hk4 : kept < 9007199254740992
    · have q1 : (e * 4503599627370496 + kept) / 4503599627370496 = e + 1 := by omega
      have q2 : (e * 4503599627370496 + kept) % 4503599627370496 = kept - 4503599627370496 := by omega
      rw [q1, q2, show ((-1074 : Int) + ((e + 1 - 1 : Nat) : Int) + 1074).toNat = e from by omega, show 4503599627370496 + (kept - 4503599627370496) = kept from by omega]
    · have hke : kept = 9007199254740992 := by omega
      subst hke
      have q1 : (e * 4503599627370496 + 9007199254740992) / 4503599627370496 = e + 2 := by omega
      have q2 : (e * 4503599627370496 + 9007199254740992) % 4503599627370496 = 0 := by omega
      rw [q1, q2, show ((-1074 : Int) + ((e + 2 - 1 : Nat) : Int) + 1074).toNat = e + 1 from by omega, twoP_add, show twoP 1 = 2 from twoP_def 1]
      omega
set_option maxHeartbeats 1000000 in
theorem near_rung {m : Nat} {p : Int} (hm : m ≠ 0) (hp : -1074 ≤ p) (hb : scaleN m p < 32 * unitN) :
    ∃ e kept, e ≤ 1074 ∧ double.nearest false m p = e * twoP 52 + kept ∧ kept ≤ twoP 53 ∧ (kept < twoP 52 → e = 0) ∧ scaleN m p / twoP e ≤ kept ∧ kept ≤ (scaleN m p + twoP e - 1) / twoP e := by
  have hlo := log_lo hm
  have hhi := log_hi m
  have hle : p + m.log2 < 5 := by
    by_cases hc : p + m.log2 < 5
    · exact hc
    · exfalso
      have h1 : twoP m.log2 * twoP (p + 1074).toNat ≤ scaleN m p := Nat.mul_le_mul_right _ hlo
      rw [← twoP_add] at h1
      have h2 : twoP (5 + 1074) ≤ twoP (m.log2 + (p + 1074).toNat) := twoP_le (by omega)
      rw [twoP_add, show twoP 5 = 32 from twoP_def 5] at h2
      unfold unitN at hb
      omega
  have h52 : double.fractionBits = 52 := rfl
  have hlp : double.leastPlace = -1074 := by decide
  have hbin : double.binade = twoP 52 := (twoP_def 52).symm
  have hinf : double.infRung = 2047 * twoP 52 := by rw [twoP_def]; decide
  unfold Format.nearest
  rw [if_neg hm]
  simp only [h52, hlp, hbin, hinf]
  obtain ⟨last, hlast⟩ : ∃ last : Int, last = max (p + m.log2 - (52 : Nat)) (-1074) := ⟨_, rfl⟩
  rw [← hlast]
  obtain ⟨e, he⟩ : ∃ e : Nat, e = (last - -1074).toNat := ⟨_, rfl⟩
  rw [← he]
  have hel : (last + 1074).toNat = e := by omega
  have hword : ∀ r, double.word false r = r := fun r => rfl
  rw [hword]
  have p53 : twoP 53 = 2 * twoP 52 := by rw [show 53 = 1 + 52 from rfl, twoP_add, show twoP 1 = 2 from twoP_def 1]
  have hp52 := twoP_pos 52
  by_cases hc : last ≤ p
  · obtain ⟨a, ha⟩ : ∃ a : Nat, a = (p - last).toNat := ⟨_, rfl⟩
    have hd : (last - p).toNat = 0 := by omega
    rw [hd, ← ha]
    have hk := (even_near (m <<< a) 0 (by omega)).2.2 rfl
    rw [hk, Nat.shiftLeft_eq, ← twoP_def]
    have hV : scaleN m p = m * twoP a * twoP e := by
      unfold scaleN
      rw [Nat.mul_assoc, ← twoP_add]
      congr 2; omega
    have hkle : m * twoP a < twoP 53 := by
      have h1 : m * twoP a < twoP (m.log2 + 1) * twoP a := Nat.mul_lt_mul_of_pos_right hhi (twoP_pos _)
      rw [← twoP_add] at h1
      exact Nat.lt_of_lt_of_le h1 (twoP_le (by omega))
    have hsub : m * twoP a < twoP 52 → e = 0 := fun h => by
      by_cases h0 : last = -1074
      · omega
      · exfalso
        have h1 : twoP m.log2 * twoP a ≤ m * twoP a := Nat.mul_le_mul_right _ hlo
        rw [← twoP_add] at h1
        have h2 : twoP 52 ≤ twoP (m.log2 + a) := twoP_le (by omega)
        omega
    have he2 : e ≤ 1074 := by omega
    have hmin : min (e * twoP 52 + m * twoP a) (2047 * twoP 52) = e * twoP 52 + m * twoP a := Nat.min_eq_left (by
      have : e * twoP 52 ≤ 1074 * twoP 52 := Nat.mul_le_mul_right _ he2
      omega)
    rw [hmin]
    refine ⟨e, m * twoP a, he2, rfl, Nat.le_of_lt hkle, hsub, ?_, ?_⟩
    · rw [hV, Nat.mul_div_cancel _ (twoP_pos _)]; exact Nat.le_refl _
    · rw [hV, Nat.le_div_iff_mul_le (twoP_pos _)]; have := twoP_pos e; omega
  · have ha : (p - last).toNat = 0 := by omega
    obtain ⟨d, hd⟩ : ∃ d : Nat, d = (last - p).toNat := ⟨_, rfl⟩
    rw [ha, ← hd, Nat.shiftLeft_zero]
    have hdl : d + 52 = m.log2 := by omega
    obtain ⟨k1, k2, _⟩ := even_near m d (by omega)
    have hV : scaleN m p = m * twoP (p + 1074).toNat := rfl
    have hG : twoP e = twoP d * twoP (p + 1074).toNat := by rw [← twoP_add]; congr 1; omega
    have hpd := twoP_pos d
    have hpp := twoP_pos (p + 1074).toNat
    have hlow : twoP 52 ≤ m / twoP d := by
      rw [Nat.le_div_iff_mul_le hpd, ← twoP_add, show 52 + d = m.log2 from by omega]; exact hlo
    have hup : m / twoP d < twoP 53 := by
      rw [Nat.div_lt_iff_lt_mul hpd, ← twoP_add, show 53 + d = m.log2 + 1 from by omega]; exact hhi
    have hup2 : (m + twoP d - 1) / twoP d ≤ m / twoP d + 1 := by
      have : (m + twoP d - 1) / twoP d ≤ (m + twoP d) / twoP d := Nat.div_le_div_right (by omega)
      rw [Nat.add_div_right _ hpd] at this
      exact this
    generalize Toward.even.cut false m d = kept at *
    have he2 : e ≤ 1074 := by omega
    have hmin : min (e * twoP 52 + kept) (2047 * twoP 52) = e * twoP 52 + kept := Nat.min_eq_left (by
      have : e * twoP 52 ≤ 1074 * twoP 52 := Nat.mul_le_mul_right _ he2
      omega)
    rw [hmin]
    refine ⟨e, kept, he2, rfl, Nat.le_trans k2 (Nat.le_trans hup2 hup), fun h => absurd (Nat.le_trans hlow k1) (Nat.not_le.2 h), ?_, ?_⟩
    · rw [hV, hG, Nat.mul_div_mul_right _ _ hpp]; exact k1
    · refine Nat.le_trans k2 ?_
      rw [Nat.le_div_iff_mul_le (twoP_pos _), hG, ← Nat.mul_assoc]
      have h1 : (m + twoP d - 1) / twoP d * twoP d ≤ m + twoP d - 1 := Nat.div_mul_le_self _ _
      have h2 : (m + twoP d - 1) / twoP d * twoP d * twoP (p + 1074).toNat ≤ (m + twoP d - 1) * twoP (p + 1074).toNat := Nat.mul_le_mul_right _ h1
      rw [Nat.sub_mul, Nat.add_mul, Nat.one_mul] at h2
      rw [hV]
      omega
theorem near_rank {m : Nat} {p : Int} (hm : m ≠ 0) (hp : -1074 ≤ p) (hb : scaleN m p < 32 * unitN) :
    ∃ e kept, e ≤ 1074 ∧ nanB (double.nearest false m p) = false ∧ rankB (double.nearest false m p) = ((kept * twoP e : Nat) : Int) ∧ scaleN m p / twoP e ≤ kept ∧ kept ≤ (scaleN m p + twoP e - 1) / twoP e := by
  obtain ⟨e, kept, he, h1, h2, h3, h4, h5⟩ := near_rung hm hp hb
  obtain ⟨r1, r2⟩ := rung_rank e kept (by omega) h2 h3
  rw [h1]
  exact ⟨e, kept, he, r1, r2, h4, h5⟩
theorem round_ok {m : Nat} {p : Int} (hp : -1074 ≤ p) (s : Bool) (hs : s = false ∨ m = 0) (hb : scaleN m p < 32 * unitN) :
    nanB (double.nearest s m p) = false ∧ 0 ≤ rankB (double.nearest s m p) ∧ ∀ j : Nat, (j * unitN ≤ scaleN m p → ((j * unitN : Nat) : Int) ≤ rankB (double.nearest s m p)) ∧ (scaleN m p ≤ j * unitN → rankB (double.nearest s m p) ≤ ((j * unitN : Nat) : Int)) := by
  have hu := unit_pos
  by_cases hm : m = 0
  · subst hm
    have h0 : double.read (double.nearest s 0 p) = .number s 0 (-1074) := by
      rw [show double.nearest s 0 p = double.word s 0 from rfl]
      cases s <;> decide +kernel
    have h1 : scaleN 0 p = 0 := by unfold scaleN; simp
    have h2 : rankB (double.nearest s 0 p) = 0 := by
      unfold rankB
      rw [h0]
      show (if s then -(scaleN 0 (-1074) : Int) else scaleN 0 (-1074)) = 0
      unfold scaleN
      cases s <;> simp
    rw [h1, h2]
    refine ⟨by unfold nanB; rw [h0]; rfl, by omega, fun j => ⟨fun h => by omega, fun h => by omega⟩⟩
  · have hs : s = false := by rcases hs with h | h; exact h; exact absurd h hm
    subst hs
    obtain ⟨e, kept, he, h1, h2, h3, h4⟩ := near_rank hm hp hb
    rw [h2]
    have hU : unitN = twoP (1074 - e) * twoP e := by unfold unitN; rw [← twoP_add]; congr 1; omega
    have hpe := twoP_pos e
    refine ⟨h1, by omega, fun j => ⟨fun h => ?_, fun h => ?_⟩⟩
    · have : j * twoP (1074 - e) ≤ kept := Nat.le_trans ((Nat.le_div_iff_mul_le hpe).2 (by rw [Nat.mul_assoc, ← hU]; exact h)) h3
      have h5 := Nat.mul_le_mul_right (twoP e) this
      rw [Nat.mul_assoc, ← hU] at h5
      omega
    · have h6 : (scaleN m p + twoP e - 1) / twoP e ≤ j * twoP (1074 - e) := by
        have h8 : (scaleN m p + twoP e - 1) / twoP e < j * twoP (1074 - e) + 1 := by
          rw [Nat.div_lt_iff_lt_mul hpe, Nat.add_mul, Nat.one_mul, Nat.mul_assoc, ← hU]
          omega
        omega
      have h5 := Nat.mul_le_mul_right (twoP e) (Nat.le_trans h4 h6)
      rw [Nat.mul_assoc, ← hU] at h5
      omega
theorem sum_data {a b : Datum} (ha : okD a) (hb : okD b) (na : a.isNaN = false) (nb : b.isNaN = false) (a0 : 0 ≤ rankD a) (b0 : 0 ≤ rankD b) (ab : rankD a + rankD b < 32 * unitN) (hbig : 32 * unitN < bigN) :
    ∃ s m p, a.sum b = some (.number s m p) ∧ -1074 ≤ p ∧ (scaleN m p : Int) = rankD a + rankD b ∧ (s = false ∨ m = 0) := by
  match a, b, ha, hb, na, nb with
  | .nan _ _, _, _, _, h, _ => simp [Datum.isNaN] at h
  | .number .., .nan _ _, _, _, _, h => simp [Datum.isNaN] at h
  | .infinity _, .nan _ _, _, _, _, h => simp [Datum.isNaN] at h
  | .infinity true, _, _, _, _, _ => exact absurd (show (0 : Int) ≤ -(bigN : Int) from a0) (by omega)
  | .infinity false, _, _, _, _, _ => 
    have : rankD (.infinity false) = (bigN : Int) := rfl
    omega
  | .number .., .infinity true, _, _, _, _ => exact absurd (show (0 : Int) ≤ -(bigN : Int) from b0) (by omega)
  | .number .., .infinity false, _, _, _, _ => 
    have : rankD (.infinity false) = (bigN : Int) := rfl
    omega
  | .number s m i, .number t n j, ha, hb, _, _ =>
    have h1 := ha.1
    have h2 := hb.1
    have e1 := signed_scale (s := s) (m := m) (i := i) (base := min i j) (by omega) (by omega)
    have e2 := signed_scale (s := t) (m := n) (i := j) (base := min i j) (by omega) (by omega)
    rw [e1] at a0
    rw [e2] at b0
    rw [e1, e2, ← Int.add_mul] at ab ⊢
    have hp := twoP_pos (min i j + 1074).toNat
    have hT : 0 ≤ signed s m (i - min i j).toNat + signed t n (j - min i j).toNat := by
      by_cases hc : 0 ≤ signed s m (i - min i j).toNat + signed t n (j - min i j).toNat
      · exact hc
      · exfalso
        have : (signed s m (i - min i j).toNat + signed t n (j - min i j).toNat) * ((twoP (min i j + 1074).toNat : Nat) : Int) < 0 := Int.mul_neg_of_neg_of_pos (by omega) (by omega)
        rw [Int.add_mul] at this
        omega
    refine ⟨_, _, _, rfl, by omega, ?_, ?_⟩
    · unfold scaleN
      rw [Int.natCast_mul, Int.natAbs_of_nonneg hT]
    · by_cases h0 : signed s m (i - min i j).toNat + signed t n (j - min i j).toNat = 0
      · right; rw [h0]; rfl
      · left; rw [if_neg h0]; simp; omega
theorem big_32 : 32 * unitN < bigN := by
  have h := twoP_le (a := 6 + 1074) (b := 2200) (by decide)
  rw [twoP_add, show twoP 6 = 64 from twoP_def 6] at h
  have := twoP_pos 1074
  unfold unitN bigN
  omega
theorem add_ok {x y : Nat} (hx : nanB x = false) (hy : nanB y = false) (x0 : 0 ≤ rankB x) (y0 : 0 ≤ rankB y) (h : rankB x + rankB y < 32 * unitN) :
    ∃ r, FloatKind.f64.format.add x y = some r ∧ nanB r = false ∧ 0 ≤ rankB r ∧ ∀ j : Nat, (((j * unitN : Nat) : Int) ≤ rankB x + rankB y → ((j * unitN : Nat) : Int) ≤ rankB r) ∧ (rankB x + rankB y ≤ ((j * unitN : Nat) : Int) → rankB r ≤ ((j * unitN : Nat) : Int)) := by
  obtain ⟨s, m, p, e, hp, hv, hs⟩ := sum_data (read_ok x) (read_ok y) hx hy x0 y0 h big_32
  obtain ⟨r1, r2, r3⟩ := round_ok hp s hs (by unfold rankB at h; omega)
  refine ⟨double.nearest s m p, ?_, r1, r2, fun j => ?_⟩
  · show ((double.read x).sum (double.read y)).map double.write = _
    rw [e]; rfl
  · have := r3 j
    have hv' : (scaleN m p : Int) = rankB x + rankB y := hv
    rw [← hv']
    exact ⟨fun h => this.1 (by omega), fun h => this.2 (by omega)⟩
theorem rank_zero : nanB 0 = false ∧ rankB 0 = 0 := by
  have e : double.read 0 = .number false 0 (-1074) := by decide +kernel
  refine ⟨by unfold nanB; rw [e]; rfl, ?_⟩
  unfold rankB
  rw [e]
  show ((scaleN 0 _ : Nat) : Int) = 0
  unfold scaleN
  simp
theorem rank_int (k : Nat) (h : k ≤ 10) : nanB (floatOfInt .f64 (k : Int)) = false ∧ rankB (floatOfInt .f64 (k : Int)) = ((k * unitN : Nat) : Int) := by
  match k, h with
  | 0, _ =>
    have e : floatOfInt .f64 ((0 : Nat) : Int) = 0 := by decide +kernel
    rw [e, Nat.zero_mul]
    exact rank_zero
  | 1, _ => exact rank_of (k := 1) (e := 52) (by decide) (by rw [twoP_def]; decide +kernel)
  | 2, _ => exact rank_of (k := 2) (e := 51) (by decide) (by rw [twoP_def]; decide +kernel)
  | 3, _ => exact rank_of (k := 3) (e := 51) (by decide) (by rw [twoP_def]; decide +kernel)
  | 4, _ => exact rank_of (k := 4) (e := 50) (by decide) (by rw [twoP_def]; decide +kernel)
  | 5, _ => exact rank_of (k := 5) (e := 50) (by decide) (by rw [twoP_def]; decide +kernel)
  | 6, _ => exact rank_of (k := 6) (e := 50) (by decide) (by rw [twoP_def]; decide +kernel)
  | 7, _ => exact rank_of (k := 7) (e := 50) (by decide) (by rw [twoP_def]; decide +kernel)
  | 8, _ => exact rank_of (k := 8) (e := 49) (by decide) (by rw [twoP_def]; decide +kernel)
  | 9, _ => exact rank_of (k := 9) (e := 49) (by decide) (by rw [twoP_def]; decide +kernel)
  | 10, _ => exact rank_of (k := 10) (e := 49) (by decide) (by rw [twoP_def]; decide +kernel)
  | k + 11, h => omega
theorem read_neg (x : Nat) : double.read (x ^^^ 2 ^ 63) = (double.read x).opposite := by
  have e0 : double.signWeight = 2 ^ 63 := by decide
  have h1 : (x ^^^ 2 ^ 63) % 2 ^ 63 = x % 2 ^ 63 := by rw [Nat.xor_mod_two_pow]; simp
  have h2 : ((x ^^^ 2 ^ 63) / 2 ^ 63 % 2 == 1) = !(x / 2 ^ 63 % 2 == 1) := by
    have h3 : (x ^^^ 2 ^ 63).testBit 63 = !(x.testBit 63) := by rw [Nat.testBit_xor, Nat.testBit_two_pow_self]; simp
    rw [Nat.testBit_eq_decide_div_mod_eq, Nat.testBit_eq_decide_div_mod_eq] at h3
    have key : ∀ n : Nat, (n == 1) = decide (n = 1) := fun n => by by_cases h : n = 1 <;> simp [h]
    rw [key, key]
    exact h3
  unfold Format.read
  rw [e0]
  simp only [h1, h2]
  generalize x % 2 ^ 63 = r
  generalize (x / 2 ^ 63 % 2 == 1) = s
  by_cases a : r < double.binade
  · rw [if_pos a, if_pos a]; rfl
  · rw [if_neg a, if_neg a]
    by_cases b : r < double.infRung
    · rw [if_pos b, if_pos b]; rfl
    · rw [if_neg b, if_neg b]
      by_cases c : r = double.infRung
      · rw [if_pos c, if_pos c]; rfl
      · rw [if_neg c, if_neg c]; rfl
theorem neg_rank (x : Nat) (hx : nanB x = false) : nanB (Op.negFloat .f64 x) = false ∧ rankB (Op.negFloat .f64 x) = - rankB x := by
  have hn : Op.negFloat .f64 x = x ^^^ 2 ^ 63 := rfl
  rw [hn]
  unfold nanB rankB at *
  rw [read_neg]
  generalize double.read x = d at *
  match d, hx with
  | .nan _ _, h => simp [Datum.isNaN] at h
  | .infinity s, _ =>
    refine ⟨rfl, ?_⟩
    show (if !s then -(bigN : Int) else bigN) = -(if s then -(bigN : Int) else bigN)
    cases s <;> simp
  | .number s m p, _ =>
    refine ⟨rfl, ?_⟩
    show (if !s then -(scaleN m p : Int) else scaleN m p) = -(if s then -(scaleN m p : Int) else scaleN m p)
    cases s <;> simp
theorem sub_self {x : Nat} (hx : nanB x = false) (hb : -(bigN : Int) < rankB x) (hb2 : rankB x < bigN) : FloatKind.f64.format.sub x x = some 0 := by
  show ((double.read x).sum (double.read x).opposite).map double.write = some 0
  unfold nanB rankB at *
  generalize double.read x = d at *
  match d, hx with
  | .nan _ _, h => simp [Datum.isNaN] at h
  | .infinity true, _ => exact absurd (show -(bigN : Int) < -(bigN : Int) from hb) (by omega)
  | .infinity false, _ => exact absurd (show (bigN : Int) < bigN from hb2) (by omega)
  | .number s m i, _ =>
    have e : signed s m (i - min i i).toNat + signed (!s) m (i - min i i).toNat = 0 := by
      unfold signed; cases s <;> simp <;> omega
    have e2 : (Datum.number s m i).sum (Datum.number s m i).opposite = some (.number false 0 i) := by
      show some (Datum.number (if signed s m (i - min i i).toNat + signed (!s) m (i - min i i).toNat = 0 then s && !s else _) _ _) = _
      rw [e, if_pos rfl, Int.min_self]
      cases s <;> rfl
    rw [e2]
    rfl
end Go.Proofs.Ythiandempeabmaa
