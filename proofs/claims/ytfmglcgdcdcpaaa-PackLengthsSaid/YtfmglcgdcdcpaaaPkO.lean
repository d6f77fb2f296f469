import Derived.Test.YtfmglcgdcdcpaaaPkP
namespace Go.Proofs.Ytfmglcgdcdcpaaa
set_option linter.unusedVariables false
set_option linter.unusedSimpArgs false

/-! ### no other lengths cost less -/
theorem sub_min {s t : List Bn} (hs : Sd s) (h : t.Sublist s) : wsum (s.take t.length) ≤ wsum t := by
  induction h with
  | slnil => simp [wsum_nil]
  | cons x h ih =>
    rename_i t s
    have h1 := ih (List.pairwise_cons.1 hs).2
    have hl := h.length_le
    cases hn : t.length with
    | zero =>
      have : t = [] := List.eq_nil_of_length_eq_zero hn
      subst this; simp [wsum_nil]
    | succ m =>
      rw [hn] at h1 hl
      rw [List.take_succ_cons, wsum_cons]
      rw [List.take_succ_eq_append_getElem (by omega), wsum_append, wsum_cons, wsum_nil] at h1
      have := (List.pairwise_cons.1 hs).1 _ (List.getElem_mem (show m < s.length by omega))
      omega
  | cons_cons x h ih =>
    rename_i t s
    have h1 := ih (List.pairwise_cons.1 hs).2
    rw [List.length_cons, List.take_succ_cons, wsum_cons, wsum_cons]
    omega
def isum (f : Nat → Int) : Nat → Int
  | 0 => 0
  | n + 1 => isum f n + f n
theorem isum_congr {f g : Nat → Int} : ∀ n, (∀ r, r < n → f r = g r) → isum f n = isum g n
  | 0, _ => rfl
  | n + 1, h => by rw [isum, isum, isum_congr n (fun r hr => h r (by omega)), h n (by omega)]
theorem wsum_take_le {l : List Bn} (h : ∀ x ∈ l, 0 ≤ x.w) {m n : Nat} (hmn : m ≤ n) : wsum (l.take m) ≤ wsum (l.take n) := by
  have e : l.take n = l.take m ++ (l.take n).drop m := by
    have := (List.take_append_drop m (l.take n)).symm
    rwa [List.take_take, Nat.min_eq_left hmn] at this
  rw [e, wsum_append]
  have := wsum_nonneg (l := (l.take n).drop m) (fun x hx => h x (List.mem_of_mem_take (List.mem_of_mem_drop hx)))
  omega
/-- Whatever symbols of each level are taken: the first ones of the last level cost no more. -/
theorem lev_min (s : List Bn) (hs : Sd s) (h0 : ∀ x ∈ s, 0 ≤ x.w) (X : Nat → List Bn) (hX : ∀ j, (X j).Sublist s) : ∀ k,
    nsum (fun j => (X j).length * 2 ^ j) (k + 1) / 2 ^ k ≤ (lev s k).length ∧ wsum ((lev s k).take (nsum (fun j => (X j).length * 2 ^ j) (k + 1) / 2 ^ k)) ≤ isum (fun j => wsum (X j)) (k + 1)
  | 0 => by
    rw [nsum, nsum, isum, isum, lev]
    simp only [Nat.pow_zero, Nat.mul_one, Nat.zero_add, Int.zero_add, Nat.div_one]
    exact ⟨(hX 0).length_le, sub_min hs (hX 0)⟩
  | k + 1 => by
    obtain ⟨i1, i2⟩ := lev_min s hs h0 X hX k
    generalize hV : nsum (fun j => (X j).length * 2 ^ j) (k + 1) = V at *
    have e : nsum (fun j => (X j).length * 2 ^ j) (k + 1 + 1) / 2 ^ (k + 1) = (X (k + 1)).length + V / 2 ^ k / 2 := by
      rw [nsum, hV, Nat.add_mul_div_right _ _ (Nat.pow_pos (by decide)), Nat.pow_succ, ← Nat.div_div_eq_div_mul]
      omega
    rw [e]
    have hx := hX (k + 1)
    have hxl := hx.length_le
    have hpl := prs_len (lev s k)
    have hj : V / 2 ^ k / 2 ≤ (prs (lev s k)).length := by rw [hpl]; omega
    refine ⟨by rw [lev_len]; omega, ?_⟩
    have m1 := mrg_min s (prs (lev s k)) (X (k + 1)).length (V / 2 ^ k / 2) hs (prs_sd (lev_sd hs k)) hxl hj
    have m2 := sub_min hs hx
    have m3 := prs_sum (lev s k) (V / 2 ^ k / 2) hj
    have m4 := wsum_take_le (lev_nn h0 k) (m := 2 * (V / 2 ^ k / 2)) (n := V / 2 ^ k) (by omega)
    rw [isum, lev]
    omega
theorem nsum_above (c : Nat) : ∀ L, c ≤ L → nsum (fun j => if c ≤ j then 2 ^ j else 0) L + 2 ^ c = 2 ^ L
  | 0, h => by
    have : c = 0 := by omega
    subst this; rfl
  | L + 1, h => by
    by_cases hc : c = L + 1
    · subst hc
      rw [nsum_congr (g := fun _ => 0) _ (fun r hr => if_neg (by omega)), nsum_const]; omega
    · rw [nsum, if_pos (by omega), Nat.pow_succ]
      have := nsum_above c L (by omega)
      omega
theorem levels_count (f : Bn → Nat) (L : Nat) : ∀ s : List Bn, (∀ x ∈ s, f x ≤ L) →
    nsum (fun j => (s.filter (fun x => decide (L ≤ j + f x))).length * 2 ^ j) L + (s.map (fun x => 2 ^ (L - f x))).sum = s.length * 2 ^ L
  | [], _ => by rw [nsum_congr (g := fun _ => 0) _ (fun r _ => by simp), nsum_const]; simp
  | x :: s, h => by
    have ih := levels_count f L s (fun y hy => h y (by simp [hy]))
    have hx := h x (by simp)
    have e : nsum (fun j => ((x :: s).filter (fun x => decide (L ≤ j + f x))).length * 2 ^ j) L = nsum (fun j => (if L - f x ≤ j then 2 ^ j else 0) + (s.filter (fun x => decide (L ≤ j + f x))).length * 2 ^ j) L := by
      refine nsum_congr L (fun j _ => ?_)
      by_cases hj : L ≤ j + f x
      · rw [List.filter_cons_of_pos (by simpa using hj), if_pos (by omega), List.length_cons, Nat.add_mul]; omega
      · rw [List.filter_cons_of_neg (by simpa using hj), if_neg (by omega), Nat.zero_add]
    rw [e, nsum_add]
    have h2 := nsum_above (L - f x) L (by omega)
    rw [List.map_cons, List.sum_cons, List.length_cons, Nat.add_mul, Nat.one_mul]
    omega
theorem isum_add (f g : Nat → Int) : ∀ n, isum (fun r => f r + g r) n = isum f n + isum g n
  | 0 => rfl
  | n + 1 => by rw [isum, isum, isum, isum_add f g n]; omega
theorem isum_zero : ∀ n, isum (fun _ => 0) n = 0
  | 0 => rfl
  | n + 1 => by rw [isum, isum_zero n]; rfl
theorem isum_above (w : Int) (c : Nat) : ∀ L, c ≤ L → isum (fun j => if c ≤ j then w else 0) L = w * ((L - c : Nat) : Int)
  | 0, h => by
    have : c = 0 := by omega
    subst this; simp [isum]
  | L + 1, h => by
    by_cases hc : c = L + 1
    · subst hc
      rw [isum_congr (g := fun _ => 0) _ (fun r hr => if_neg (by omega)), isum_zero]; simp
    · rw [isum, if_pos (by omega), isum_above w c L (by omega), show L + 1 - c = (L - c) + 1 from by omega, Int.natCast_add, Int.mul_add]
      simp
theorem levels_cost (f : Bn → Nat) (L : Nat) : ∀ s : List Bn, (∀ x ∈ s, f x ≤ L) →
    isum (fun j => wsum (s.filter (fun x => decide (L ≤ j + f x)))) L = (s.map (fun x => x.w * (f x : Int))).sum
  | [], _ => by rw [isum_congr (g := fun _ => 0) _ (fun r _ => by simp [wsum_nil]), isum_zero]; simp
  | x :: s, h => by
    have ih := levels_cost f L s (fun y hy => h y (by simp [hy]))
    have hx := h x (by simp)
    have e : isum (fun j => wsum ((x :: s).filter (fun x => decide (L ≤ j + f x)))) L = isum (fun j => (if L - f x ≤ j then x.w else 0) + wsum (s.filter (fun x => decide (L ≤ j + f x)))) L := by
      refine isum_congr L (fun j _ => ?_)
      by_cases hj : L ≤ j + f x
      · rw [List.filter_cons_of_pos (by simpa using hj), if_pos (by omega), wsum_cons]
      · rw [List.filter_cons_of_neg (by simpa using hj), if_neg (by omega), Int.zero_add]
    rw [e, isum_add, isum_above _ _ _ (by omega), ih, List.map_cons, List.sum_cons, show L - (L - f x) = f x from by omega]
/-- No other lengths (of at most k + 1 bits, that make a code) cost less than the first 2 n - 2 of the last level. -/
theorem lev_least (s : List Bn) (hs : Sd s) (h0 : ∀ x ∈ s, 0 ≤ x.w) (f : Bn → Nat) (k : Nat) (hf : ∀ x ∈ s, f x ≤ k + 1) (hK : (s.map (fun x => 2 ^ (k + 1 - f x))).sum ≤ 2 ^ (k + 1)) :
    wsum ((lev s k).take (2 * s.length - 2)) ≤ (s.map (fun x => x.w * (f x : Int))).sum := by
  obtain ⟨h1, h2⟩ := lev_min s hs h0 (fun j => s.filter (fun x => decide (k + 1 ≤ j + f x))) (fun j => List.filter_sublist) k
  rw [levels_cost f (k + 1) s hf] at h2
  refine Int.le_trans (wsum_take_le (lev_nn h0 k) ?_) h2
  have h3 := levels_count f (k + 1) s hf
  rw [Nat.le_div_iff_mul_le (Nat.pow_pos (by decide))]
  generalize nsum (fun j => (s.filter (fun x => decide (k + 1 ≤ j + f x))).length * 2 ^ j) (k + 1) = V at *
  generalize (s.map (fun x => 2 ^ (k + 1 - f x))).sum = K at *
  rw [Nat.pow_succ] at *
  generalize 2 ^ k = P at *
  rcases Nat.eq_zero_or_pos s.length with hz | hz
  · rw [hz]; simp
  · obtain ⟨m, hm⟩ : ∃ m, s.length = m + 1 := ⟨s.length - 1, by omega⟩
    rw [hm] at h3 ⊢
    have e1 : (2 * (m + 1) - 2) * P = m * P * 2 := by rw [show 2 * (m + 1) - 2 = m * 2 from by omega, Nat.mul_assoc, Nat.mul_assoc, Nat.mul_comm 2 P]
    have e2 : (m + 1) * (P * 2) = m * P * 2 + P * 2 := by rw [Nat.add_mul, Nat.one_mul, Nat.mul_assoc]
    omega
end Go.Proofs.Ytfmglcgdcdcpaaa
