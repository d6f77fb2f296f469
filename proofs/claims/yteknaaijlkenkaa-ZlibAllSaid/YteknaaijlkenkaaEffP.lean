import Derived.Test.YteknaaijlkenkaaBase
import Derived.WalkLawsBesides
namespace Go.Proofs.Yteknaaijlkenkaa
set_option linter.unusedVariables false
set_option linter.unusedSimpArgs false
open Ieee

/-! ### floats of 64 bits as numbers: how many parts of 2^-1074 -/
def twoP (e : Nat) : Nat := 2 ^ e
theorem twoP_add (a b : Nat) : twoP (a + b) = twoP a * twoP b := Nat.pow_add ..
theorem twoP_pos (e : Nat) : 0 < twoP e := Nat.pow_pos (by decide)
theorem twoP_le {a b : Nat} (h : a ≤ b) : twoP a ≤ twoP b := Nat.pow_le_pow_right (by decide) h
theorem twoP_def (e : Nat) : twoP e = 2 ^ e := rfl
theorem twoP_4 : twoP 4 = 16 := rfl
attribute [irreducible] twoP
def unitN : Nat := twoP 1074
def bigN : Nat := twoP 2200
theorem unit_pos : 0 < unitN := twoP_pos _
theorem nine_two {a b : Nat} (h : a + 4 ≤ b) : 9 * twoP a < twoP b := by
  have h1 := twoP_le h
  rw [twoP_add] at h1
  have h2 := twoP_pos a
  rw [twoP_4] at h1
  omega
theorem unit_big : 9 * unitN < bigN := by unfold unitN bigN; exact nine_two (by decide)
def scaleN (m : Nat) (p : Int) : Nat := m * twoP (p + 1074).toNat
def rankD : Datum → Int
  | .number s m p => if s then -(scaleN m p : Int) else scaleN m p
  | .infinity s => if s then -(bigN : Int) else bigN
  | .nan _ _ => 6 * unitN
/-- A datum as a word of 64 bits has it. -/
def okD : Datum → Prop
  | .number _ m p => -1074 ≤ p ∧ scaleN m p < bigN
  | _ => True
theorem compare_mul (a b : Int) {c : Int} (h : 0 < c) : compare (a * c) (b * c) = compare a b := by
  simp only [compare, compareOfLessAndEq]
  by_cases h1 : a < b
  · rw [if_pos h1, if_pos (Int.mul_lt_mul_of_pos_right h1 h)]
  · by_cases h2 : a = b
    · subst h2; simp
    · rw [if_neg h1, if_neg h2, if_neg, if_neg]
      · intro e; exact h2 (Int.eq_of_mul_eq_mul_right (by omega) e)
      · have : b < a := by omega
        have := Int.mul_lt_mul_of_pos_right this h
        omega
theorem cmp_lt {a b : Int} (h : a < b) : compare a b = .lt := by simp only [compare, compareOfLessAndEq]; rw [if_pos h]
theorem cmp_gt {a b : Int} (h : b < a) : compare a b = .gt := by simp only [compare, compareOfLessAndEq]; rw [if_neg (by omega), if_neg (by omega)]
theorem cmp_eq (a : Int) : compare a a = .eq := by simp [compare, compareOfLessAndEq]
theorem scale_base {m : Nat} {i base : Int} (h1 : -1074 ≤ base) (h2 : base ≤ i) : scaleN m i = (m <<< (i - base).toNat) * twoP (base + 1074).toNat := by
  unfold scaleN
  simp only [twoP_def]
  rw [Nat.shiftLeft_eq, Nat.mul_assoc, ← Nat.pow_add]
  congr 2
  omega
theorem signed_scale {s : Bool} {m : Nat} {i base : Int} (h1 : -1074 ≤ base) (h2 : base ≤ i) : rankD (.number s m i) = signed s m (i - base).toNat * ((twoP (base + 1074).toNat : Nat) : Int) := by
  show (if s then -(scaleN m i : Int) else scaleN m i) = _
  unfold signed
  rw [scale_base h1 h2, Int.natCast_mul]
  cases s
  · simp
  · simp [Int.neg_mul]
theorem order_rank : ∀ {a b : Datum}, okD a → okD b → a.isNaN = false → b.isNaN = false → a.order b = some (compare (rankD a) (rankD b))
  | .nan _ _, _, _, _, h, _ => by simp [Datum.isNaN] at h
  | .number .., .nan _ _, _, _, _, h => by simp [Datum.isNaN] at h
  | .infinity _, .nan _ _, _, _, _, h => by simp [Datum.isNaN] at h
  | .infinity s, .infinity t, _, _, _, _ => by
    have := unit_big
    show some (compare t.toNat s.toNat) = some (compare (if s then -(bigN : Int) else bigN) (if t then -(bigN : Int) else bigN))
    congr 1
    have h0 := unit_pos
    cases s <;> cases t
    · exact (cmp_eq _).symm
    · exact (cmp_gt (show -(bigN : Int) < bigN by omega)).symm
    · exact (cmp_lt (show -(bigN : Int) < bigN by omega)).symm
    · exact (cmp_eq _).symm
  | .infinity s, .number t n j, _, hb, _, _ => by
    have hb := hb.2
    show some (if s then Ordering.lt else .gt) = some (compare (if s then -(bigN : Int) else bigN) (if t then -(scaleN n j : Int) else scaleN n j))
    congr 1
    cases s <;> cases t
    · exact (cmp_gt (show (scaleN n j : Int) < bigN by omega)).symm
    · exact (cmp_gt (show -(scaleN n j : Int) < bigN by omega)).symm
    · exact (cmp_lt (show -(bigN : Int) < scaleN n j by omega)).symm
    · exact (cmp_lt (show -(bigN : Int) < -(scaleN n j : Int) by omega)).symm
  | .number t n j, .infinity s, ha, _, _, _ => by
    have ha := ha.2
    show some (if s then Ordering.gt else .lt) = some (compare (if t then -(scaleN n j : Int) else scaleN n j) (if s then -(bigN : Int) else bigN))
    congr 1
    cases s <;> cases t
    · exact (cmp_lt (show (scaleN n j : Int) < bigN by omega)).symm
    · exact (cmp_lt (show -(scaleN n j : Int) < bigN by omega)).symm
    · exact (cmp_gt (show -(bigN : Int) < scaleN n j by omega)).symm
    · exact (cmp_gt (show -(bigN : Int) < -(scaleN n j : Int) by omega)).symm
  | .number s m i, .number t n j, ha, hb, _, _ => by
    have h1 := ha.1
    have h2 := hb.1
    rw [signed_scale (base := min i j) (by omega) (by omega), signed_scale (s := t) (base := min i j) (by omega) (by omega), compare_mul _ _ (by have := twoP_pos (min i j + 1074).toNat; omega)]
    rfl
theorem read_ok (x : Nat) : okD (double.read x) := by
  unfold Format.read
  have e1 : double.binade = 2 ^ 52 := rfl
  have e2 : double.infRung = 2047 * 2 ^ 52 := by decide
  have e3 : double.leastPlace = -1074 := by decide
  have hbig : ∀ {m : Nat} {p : Int}, m < 2 ^ 53 → p ≤ 971 → scaleN m p < bigN := fun {m p} hm hp => by
    unfold scaleN bigN
    have h1 : m * twoP (p + 1074).toNat < twoP 53 * twoP (p + 1074).toNat := Nat.mul_lt_mul_of_pos_right (by rw [twoP_def]; exact hm) (twoP_pos _)
    rw [← twoP_add] at h1
    exact Nat.lt_of_lt_of_le h1 (twoP_le (by omega))
  simp only [e1, e2, e3]
  generalize x % double.signWeight = r
  generalize (x / double.signWeight % 2 == 1) = s
  split
  · rename_i h
    exact ⟨by omega, hbig (by omega) (by omega)⟩
  · split
    · rename_i h1 h2
      have hq : r / 2 ^ 52 < 2047 := by rw [Nat.div_lt_iff_lt_mul (by decide)]; exact h2
      have hm : r % 2 ^ 52 < 2 ^ 52 := Nat.mod_lt _ (by decide)
      refine ⟨by omega, hbig (by omega) (by omega)⟩
    · split <;> trivial
def nanB (x : Nat) : Bool := (double.read x).isNaN
def rankB (x : Nat) : Int := rankD (double.read x)
theorem order_bits {x y : Nat} (hx : nanB x = false) (hy : nanB y = false) : FloatKind.f64.format.order x y = some (compare (rankB x) (rankB y)) := order_rank (read_ok x) (read_ok y) hx hy
theorem order_nan {x : Nat} (hx : nanB x = true) : FloatKind.f64.format.order x x = none := by
  unfold nanB Datum.isNaN at hx
  show (double.read x).order (double.read x) = none
  generalize double.read x = d at *
  cases d <;> simp at hx ⊢
  rfl
theorem rank_one : nanB 4607182418800017408 = false ∧ rankB 4607182418800017408 = unitN := by
  have e : double.read 4607182418800017408 = .number false (2 ^ 52) (-52) := by decide +kernel
  refine ⟨by unfold nanB; rw [e]; rfl, ?_⟩
  unfold rankB
  rw [e]
  show ((2 ^ 52 * twoP (((-52 : Int) + 1074).toNat) : Nat) : Int) = _
  rw [← twoP_def, ← twoP_add]; rfl
theorem scale_whole (k e : Nat) (he : e ≤ 1074) : scaleN (k * twoP e) (-(e : Int)) = k * unitN := by
  unfold scaleN unitN
  rw [Nat.mul_assoc, ← twoP_add]
  congr 2
  omega
theorem rank_of {x : Nat} {k e : Nat} (he : e ≤ 1074) (h : double.read x = .number false (k * twoP e) (-(e : Int))) : nanB x = false ∧ rankB x = ((k * unitN : Nat) : Int) := by
  refine ⟨by unfold nanB; rw [h]; rfl, ?_⟩
  unfold rankB
  rw [h]
  show ((scaleN _ _ : Nat) : Int) = _
  rw [scale_whole k e he]
theorem rank_nine : nanB 4621256167635550208 = false ∧ rankB 4621256167635550208 = ((9 * unitN : Nat) : Int) := rank_of (k := 9) (e := 49) (by decide) (by rw [twoP_def]; decide +kernel)
theorem rank_six : nanB 4618441417868443648 = false ∧ rankB 4618441417868443648 = ((6 * unitN : Nat) : Int) := rank_of (k := 6) (e := 50) (by decide) (by rw [twoP_def]; decide +kernel)
theorem rank_nan {x : Nat} (h : nanB x = true) : rankB x = ((6 * unitN : Nat) : Int) := by
  unfold nanB Datum.isNaN at h
  unfold rankB
  generalize double.read x = d at *
  cases d <;> simp at h ⊢
  rfl

/-- The level. -/
def levR (r : Int) : Nat := if r < unitN then 0 else if 9 * (unitN : Int) ≤ r then 9 else (r / unitN).toNat
theorem levR_lt (r : Int) : levR r < 10 := by
  have hu := unit_pos
  unfold levR
  split
  · omega
  · split
    · omega
    · rename_i h1 h2
      have : r / unitN < 9 := Int.ediv_lt_of_lt_mul (by omega) (by omega)
      omega
theorem levR_mono {r s : Int} (h : r ≤ s) : levR r ≤ levR s := by
  have hu := unit_pos
  have hl := levR_lt r
  unfold levR at *
  by_cases a1 : r < unitN
  · rw [if_pos a1]; omega
  · rw [if_neg a1] at *
    rw [if_neg (show ¬ s < unitN by omega)]
    by_cases a2 : 9 * (unitN : Int) ≤ r
    · rw [if_pos a2, if_pos (by omega)]; omega
    · rw [if_neg a2] at *
      by_cases a3 : 9 * (unitN : Int) ≤ s
      · rw [if_pos a3]; omega
      · rw [if_neg a3]
        have := Int.ediv_le_ediv (a := r) (b := s) (c := unitN) (by omega) h
        omega
theorem cut_more (way : Toward) (hw : way = .down ∨ way = .zero) (n drop : Nat) : way.cut false n drop = n / 2 ^ drop := by
  have key : n / (1 <<< min drop (n.log2 + 2)) = n / 2 ^ drop := by
    rw [Nat.shiftLeft_eq, Nat.one_mul]
    by_cases h : drop ≤ n.log2 + 2
    · rw [Nat.min_eq_left h]
    · rw [Nat.min_eq_right (by omega)]
      have hn : n < 2 ^ (n.log2 + 1) := Nat.lt_log2_self
      have h1 : 2 ^ (n.log2 + 1) ≤ 2 ^ (n.log2 + 2) := Nat.pow_le_pow_right (by decide) (by omega)
      have h2 : 2 ^ (n.log2 + 2) ≤ 2 ^ drop := Nat.pow_le_pow_right (by decide) (by omega)
      rw [Nat.div_eq_of_lt (by omega), Nat.div_eq_of_lt (by omega)]
  unfold Toward.cut
  rcases hw with rfl | rfl <;> simp [key]
theorem cut_scale (way : Toward) (hw : way = .down ∨ way = .zero) (m : Nat) (p : Int) (h : -1074 ≤ p) : way.cut false (m <<< p.toNat) (-p).toNat = scaleN m p / unitN := by
  rw [cut_more way hw, Nat.shiftLeft_eq]
  unfold scaleN unitN
  by_cases hp : 0 ≤ p
  · rw [show (-p).toNat = 0 from by omega, Nat.pow_zero, Nat.div_one, show (p + 1074).toNat = p.toNat + 1074 from by omega, twoP_add, ← Nat.mul_assoc, Nat.mul_div_cancel _ (twoP_pos _), twoP_def]
  · rw [show p.toNat = 0 from by omega, Nat.pow_zero, Nat.mul_one]
    have e : twoP 1074 = twoP (-p).toNat * twoP (p + 1074).toNat := by rw [← twoP_add]; congr 1; omega
    rw [e, Nat.mul_div_mul_right _ _ (twoP_pos _), twoP_def]
/-- Between 1 and 9: a number without a sign, whose whole part is the level. -/
theorem between {x : Nat} (hn : nanB x = false) (h1 : ¬ rankB x < unitN) (h9 : ¬ 9 * (unitN : Int) ≤ rankB x) :
    ∃ m p k, double.read x = .number false m p ∧ k = levR (rankB x) ∧ 1 ≤ k ∧ k ≤ 8 ∧ (∀ way, way = .down ∨ way = .zero → (double.read x).integral way = .number false k 0) := by
  have hu := unit_pos
  have hb := unit_big
  have hok := read_ok x
  unfold rankB nanB at *
  generalize double.read x = d at *
  match d, hn, hok with
  | .nan _ _, hn, _ => simp [Datum.isNaN] at hn
  | .infinity s, _, _ =>
    cases s
    · exact absurd (show 9 * (unitN : Int) ≤ (bigN : Int) from by omega) h9
    · exact absurd (show (-(bigN : Int)) < unitN from by omega) h1
  | .number true m p, _, _ => exact absurd (show (-(scaleN m p : Int)) < unitN from by omega) h1
  | .number false m p, _, hok =>
    have hr : rankD (.number false m p) = (scaleN m p : Int) := rfl
    rw [hr] at h1 h9 ⊢
    have hk : levR (scaleN m p) = scaleN m p / unitN := by
      unfold levR
      rw [if_neg h1, if_neg h9]
      rw [← Int.natCast_ediv, Int.toNat_natCast]
    have l1 : 1 ≤ scaleN m p / unitN := by rw [Nat.le_div_iff_mul_le hu]; omega
    have l8 : scaleN m p / unitN < 9 := by rw [Nat.div_lt_iff_lt_mul hu]; omega
    refine ⟨m, p, scaleN m p / unitN, rfl, hk.symm, l1, by omega, fun way hw => ?_⟩
    show Datum.number false (way.cut false (m <<< p.toNat) (-p).toNat) 0 = _
    rw [cut_scale way hw m p hok.1]
theorem whole_bits (k : Nat) (h1 : 1 ≤ k) (h8 : k ≤ 8) : floatToIntVal .f64 (FloatKind.f64.encode (.number false k 0)) .i64 = some (k : Int) := by
  match k, h1, h8 with
  | 1, _, _ => decide +kernel
  | 2, _, _ => decide +kernel
  | 3, _, _ => decide +kernel
  | 4, _, _ => decide +kernel
  | 5, _, _ => decide +kernel
  | 6, _, _ => decide +kernel
  | 7, _, _ => decide +kernel
  | 8, _, _ => decide +kernel
/-- A NaN out of the tape. -/
theorem nan_cut (x y t : Nat) : nanB ((Question.nanBits .f64 x y).cut t) = true := by
  show (double.read ((t % 2) * 2 ^ 63 + 0x7ff0000000000000 + 1 + (t / 2) % (2 ^ 52 - 1))).isNaN = true
  have h1 : t % 2 < 2 := Nat.mod_lt _ (by decide)
  have h2 : (t / 2) % (2 ^ 52 - 1) < 2 ^ 52 - 1 := Nat.mod_lt _ (by decide)
  generalize t % 2 = a at *
  generalize (t / 2) % (2 ^ 52 - 1) = b at *
  unfold Format.read
  have e0 : double.signWeight = 2 ^ 63 := by decide
  have e1 : double.binade = 2 ^ 52 := rfl
  have e2 : double.infRung = 2047 * 2 ^ 52 := by decide
  simp only [e0, e1, e2]
  have hr : (a * 2 ^ 63 + 0x7ff0000000000000 + 1 + b) % 2 ^ 63 = 0x7ff0000000000000 + 1 + b := by omega
  rw [hr, if_neg (by omega), if_neg (by omega), if_neg (by omega)]
  rfl
end Go.Proofs.Yteknaaijlkenkaa
