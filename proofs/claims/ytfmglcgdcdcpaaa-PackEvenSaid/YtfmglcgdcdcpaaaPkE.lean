import Derived.Test.YtfmglcgdcdcpaaaPkQ
namespace Go.Proofs.Ytfmglcgdcdcpaaa
set_option linter.unusedVariables false
set_option linter.unusedSimpArgs false

/-! ### counts that are alike (PackEven) -/
theorem two_pow_ge : ∀ x : Nat, x + 1 ≤ 2 ^ x ∧ (2 ≤ x → x + 1 < 2 ^ x)
  | 0 => by simp
  | 1 => by simp
  | x + 2 => by
    have h := (two_pow_ge (x + 1)).1
    rw [Nat.pow_succ]
    exact ⟨by omega, fun _ => by omega⟩
/-- 2^(15-l) lies above the line through h - 1 and h, and meets it there alone. -/
theorem line_le {h l : Nat} (hh : h ≤ 15) (hl : l ≤ 15) : (2 : Int) ^ (15 - h) * (1 + (h : Int) - l) ≤ ((2 ^ (15 - l) : Nat) : Int) ∧ ((2 : Int) ^ (15 - h) * (1 + (h : Int) - l) = ((2 ^ (15 - l) : Nat) : Int) → l = h ∨ l + 1 = h) := by
  have hp : (0 : Int) < 2 ^ (15 - h) := Int.pow_pos (by decide)
  have hl0 : (0 : Int) < ((2 ^ (15 - l) : Nat) : Int) := by have : 0 < 2 ^ (15 - l) := Nat.pow_pos (by decide); omega
  rcases Nat.lt_or_ge h l with hlt | hge
  · have h1 : (1 + (h : Int) - l) ≤ 0 := by omega
    have h2 : (2 : Int) ^ (15 - h) * (1 + (h : Int) - l) ≤ 0 := Int.mul_nonpos_of_nonneg_of_nonpos (by omega) h1
    exact ⟨by omega, fun e => by omega⟩
  · obtain ⟨x, rfl⟩ : ∃ x, h = l + x := ⟨h - l, by omega⟩
    have e : ((2 ^ (15 - l) : Nat) : Int) = 2 ^ (15 - (l + x)) * ((2 ^ x : Nat) : Int) := by
      rw [show 15 - l = (15 - (l + x)) + x from by omega, Nat.pow_add, Int.natCast_mul, Int.natCast_pow, Int.natCast_pow]; rfl
    have e2 : (1 + ((l + x : Nat) : Int) - l) = (x : Int) + 1 := by omega
    rw [e, e2]
    have hx := two_pow_ge x
    refine ⟨Int.mul_le_mul_of_nonneg_left (by omega) (by omega), fun q => ?_⟩
    have q2 : (x : Int) + 1 = ((2 ^ x : Nat) : Int) := Int.eq_of_mul_eq_mul_left (by omega) q
    rcases Nat.lt_or_ge x 2 with c | c
    · omega
    · have := hx.2 c
      omega
theorem sum_line {h : Nat} (hh : h ≤ 15) : ∀ l : List Int, (∀ x ∈ l, 1 ≤ x ∧ x ≤ 15) → (2 : Int) ^ (15 - h) * ((1 + (h : Int)) * l.length - l.sum) ≤ (l.map kr).sum ∧ ((2 : Int) ^ (15 - h) * ((1 + (h : Int)) * l.length - l.sum) = (l.map kr).sum → ∀ x ∈ l, x = h ∨ x + 1 = h)
  | [], _ => by simp
  | y :: l, hl => by
    obtain ⟨i1, i2⟩ := sum_line hh l (fun x hx => hl x (by simp [hx]))
    obtain ⟨y1, y2⟩ := hl y (by simp)
    obtain ⟨z, rfl⟩ : ∃ z : Nat, y = z := ⟨y.toNat, by omega⟩
    obtain ⟨j1, j2⟩ := line_le (h := h) (l := z) hh (by omega)
    rw [List.map_cons, List.sum_cons, List.sum_cons, List.length_cons, kr_two (by omega) (by omega)]
    have e : (2 : Int) ^ (15 - h) * ((1 + (h : Int)) * ((l.length + 1 : Nat) : Int) - ((z : Int) + l.sum)) = 2 ^ (15 - h) * (1 + (h : Int) - z) + 2 ^ (15 - h) * ((1 + (h : Int)) * l.length - l.sum) := by
      rw [← Int.mul_add]
      congr 1
      rw [Int.natCast_add, Int.mul_add]
      omega
    rw [e]
    refine ⟨by omega, fun q x hx => ?_⟩
    rcases List.mem_cons.1 hx with rfl | hx
    · have := j2 (by omega); omega
    · exact i2 (by omega) x hx
theorem sum_rep (a : Int) : ∀ n : Nat, (List.replicate n a).sum = (n : Int) * a
  | 0 => by simp
  | n + 1 => by rw [List.replicate_succ, List.sum_cons, sum_rep a n, Int.natCast_add, Int.add_mul]; omega
theorem idx_all0 {cs : List Int} (h : ∀ x ∈ cs, 0 < x) : idx cs = List.range cs.length := by
  unfold idx
  refine List.filter_eq_self.2 (fun i hi => ?_)
  rw [List.mem_range] at hi
  have := h (cs.getD i 0) (by rw [List.getD_eq_getElem?_getD, List.getElem?_eq_getElem hi]; exact List.getElem_mem hi)
  simpa using this
theorem kr_sum_srt {cs l : List Int} {ss : List Nat} (h : Srt cs ss) (hp : ∀ x ∈ cs, 0 < x) (hl : l.length = cs.length) : (ss.map (fun i => kr (l.getD i 0))).sum = (l.map kr).sum := by
  have hpm := h.perm
  rw [idx_all0 hp, ← hl] at hpm
  rw [sum_perm _ hpm]
  congr 1
  apply List.ext_getElem
  · simp
  · intro i h1 h2
    simp only [List.getElem_map, List.getElem_range]
    rw [List.getD_eq_getElem?_getD, List.getElem?_eq_getElem (by simpa using h2)]; rfl
theorem costL_rep (C : Int) : ∀ (k : Nat) (l : List Int), l.length = k → costL (List.replicate k C) l = C * l.sum
  | 0, l, h => by
    have : l = [] := List.eq_nil_of_length_eq_zero h
    subst this; simp [costL]
  | k + 1, [], h => by simp at h
  | k + 1, x :: l, h => by
    rw [List.replicate_succ, costL, costL_rep C k l (by simpa using h), List.sum_cons, Int.mul_add]
theorem sum_all {h : Int} : ∀ l : List Int, (∀ x ∈ l, x ≤ h) → l.sum ≤ h * l.length ∧ (l.sum = h * l.length → ∀ x ∈ l, x = h)
  | [], _ => by simp
  | y :: l, hl => by
    obtain ⟨i1, i2⟩ := sum_all l (fun x hx => hl x (by simp [hx]))
    have := hl y (by simp)
    rw [List.sum_cons, List.length_cons, Int.natCast_add, Int.mul_add]
    refine ⟨by omega, fun q x hx => ?_⟩
    rcases List.mem_cons.1 hx with rfl | hx
    · omega
    · exact i2 (by omega) x hx
theorem sum_same {h : Int} : ∀ l : List Int, (∀ x ∈ l, x = h) → (l.map kr).sum = kr h * l.length
  | [], _ => by simp
  | y :: l, hl => by
    rw [List.map_cons, List.sum_cons, sum_same l (fun x hx => hl x (by simp [hx])), hl y (by simp), List.length_cons, Int.natCast_add, Int.mul_add]; omega
/-- Lengths of k like counts: the least number of bits, or one less; of a power of two all the same. -/
theorem even_lens {C : Int} {k h : Nat} (hC : 0 < C) (hk2 : 2 ≤ k) (hk : k ≤ 300) (hh : k ≤ 2 ^ h) (hh' : 2 ^ h < 2 * k) {ss : List Nat} (hs : Srt (List.replicate k C) ss) :
    (∀ x ∈ outL (List.replicate k C) ss 15, x = h ∨ x + 1 = h) ∧ (∃ x ∈ outL (List.replicate k C) ss 15, x = (h : Int)) ∧ (k = 2 ^ h → ∀ x ∈ outL (List.replicate k C) ss 15, x = h) := by
  have hpos : ∀ x ∈ List.replicate k C, 0 < x := fun x hx => by rw [List.eq_of_mem_replicate hx]; exact hC
  have hcl : (List.replicate k C).length = k := by simp
  have hsl : ss.length = k := by rw [hs.perm.length_eq, idx_all0 hpos, List.length_range, hcl]
  have h15 : k ≤ 2 ^ 15 := by omega
  have hok := hs.out_ok (most := 15) (by decide) (by omega) (by rw [hsl]; exact h15)
  have hkr := hs.out_kraft (most := 15) (by decide) (by decide) (by omega) (by rw [hsl]; exact h15)
  have hrng : ∀ x ∈ outL (List.replicate k C) ss 15, 1 ≤ x ∧ x ≤ 15 := fun x hx => by
    obtain ⟨i, hi, e⟩ := List.getElem_of_mem hx
    have hi' : i < (List.replicate k C).length := by rw [← hok.len]; exact hi
    have e2 : (outL (List.replicate k C) ss 15).getD i 0 = x := by rw [List.getD_eq_getElem?_getD, List.getElem?_eq_getElem hi]; exact e
    have := hok.some_ i hi' (hpos _ (by rw [List.getD_eq_getElem?_getD, List.getElem?_eq_getElem hi']; exact List.getElem_mem hi'))
    omega
  have hol := hok.len
  rw [hcl] at hol
  have hh9 : h ≤ 9 := by
    rcases Nat.lt_or_ge 9 h with c | c
    · have : 2 ^ 10 ≤ 2 ^ h := Nat.pow_le_pow_right (by decide) c
      omega
    · exact c
  have hh1 : 1 ≤ h := by
    rcases Nat.eq_zero_or_pos h with c | c
    · subst c; simp at hh; omega
    · exact c
  obtain ⟨P, hP⟩ : ∃ P, 2 ^ h = P := ⟨_, rfl⟩
  have hlb : ∃ lb : List Int, lb.length = k ∧ (∀ x ∈ lb, 1 ≤ x ∧ x ≤ 15) ∧ (lb.map kr).sum = 32768 ∧ lb.sum = (1 + (h : Int)) * k - P := by
    refine ⟨List.replicate (P - k) ((h : Int) - 1) ++ List.replicate (2 * k - P) (h : Int), ?_, fun x hx => ?_, ?_, ?_⟩
    · rw [List.length_append, List.length_replicate, List.length_replicate]; omega
    · rcases List.mem_append.1 hx with hx | hx
      · obtain ⟨c1, rfl⟩ := List.mem_replicate.1 hx
        have : h ≠ 1 := fun e => by subst e; simp at hP; omega
        omega
      · obtain ⟨c1, rfl⟩ := List.mem_replicate.1 hx
        omega
    · rw [List.map_append, List.sum_append, List.map_replicate, List.map_replicate, sum_rep, sum_rep]
      rcases (by omega : h = 1 ∨ h = 2 ∨ h = 3 ∨ h = 4 ∨ h = 5 ∨ h = 6 ∨ h = 7 ∨ h = 8 ∨ h = 9) with rfl | rfl | rfl | rfl | rfl | rfl | rfl | rfl | rfl <;> simp [kr] at hP ⊢ <;> omega
    · rw [List.sum_append, sum_rep, sum_rep]
      rcases (by omega : h = 1 ∨ h = 2 ∨ h = 3 ∨ h = 4 ∨ h = 5 ∨ h = 6 ∨ h = 7 ∨ h = 8 ∨ h = 9) with rfl | rfl | rfl | rfl | rfl | rfl | rfl | rfl | rfl <;> simp at hP ⊢ <;> omega
  obtain ⟨lb, b1, b2, b3, b4⟩ := hlb
  have hle := hs.least (most := 15) (by decide) (by decide) (by omega) (by rw [hsl]; exact h15) (l := lb) (by rw [b1, hcl]) (fun i hi _ => by
    rw [List.getD_eq_getElem?_getD, List.getElem?_eq_getElem (by omega)]
    exact b2 _ (List.getElem_mem _)) (by rw [kr_sum_srt hs hpos (by rw [b1, hcl]), b3]; decide) (fun i hi => by
    have := hpos ((List.replicate k C).getD i 0) (by rw [List.getD_eq_getElem?_getD, List.getElem?_eq_getElem hi]; exact List.getElem_mem hi)
    omega)
  rw [costL_rep C k _ hol, costL_rep C k _ b1] at hle
  have hsum : (outL (List.replicate k C) ss 15).sum ≤ lb.sum := Int.le_of_mul_le_mul_left hle hC
  obtain ⟨s1, s2⟩ := sum_line (h := h) (by omega) _ hrng
  rw [hkr, hol] at s1 s2
  generalize outL (List.replicate k C) ss 15 = O at *
  have hfin : ∀ x ∈ O, x = h ∨ x + 1 = h := by
    apply s2
    rw [b4] at hsum
    rcases (by omega : h = 1 ∨ h = 2 ∨ h = 3 ∨ h = 4 ∨ h = 5 ∨ h = 6 ∨ h = 7 ∨ h = 8 ∨ h = 9) with rfl | rfl | rfl | rfl | rfl | rfl | rfl | rfl | rfl <;> simp at hP s1 hsum ⊢ <;> omega
  have hsE : O.sum = (1 + (h : Int)) * k - P := by
    rw [b4] at hsum
    rcases (by omega : h = 1 ∨ h = 2 ∨ h = 3 ∨ h = 4 ∨ h = 5 ∨ h = 6 ∨ h = 7 ∨ h = 8 ∨ h = 9) with rfl | rfl | rfl | rfl | rfl | rfl | rfl | rfl | rfl <;> simp at hP s1 hsum ⊢ <;> omega
  refine ⟨hfin, ?_, fun e => ?_⟩
  · rcases Classical.em (∃ x ∈ O, x = (h : Int)) with c | c
    · exact c
    · exfalso
      have := sum_same (h := (h : Int) - 1) O (fun x hx => by
        rcases hfin x hx with q | q
        · exact absurd ⟨x, hx, q⟩ c
        · omega)
      rw [hkr, hol] at this
      rw [hP] at hh'
      rcases (by omega : h = 1 ∨ h = 2 ∨ h = 3 ∨ h = 4 ∨ h = 5 ∨ h = 6 ∨ h = 7 ∨ h = 8 ∨ h = 9) with rfl | rfl | rfl | rfl | rfl | rfl | rfl | rfl | rfl <;> simp [kr] at hP this <;> omega
  · refine (sum_all (h := (h : Int)) O (fun x hx => by rcases hfin x hx with q | q <;> omega)).2 ?_
    rw [hsE, hol]
    rw [hP] at e
    subst e
    rw [Int.add_mul, Int.one_mul]; omega
end Go.Proofs.Ytfmglcgdcdcpaaa
