import Derived.Test.YtfmglcgdcdcpaaaPkK
namespace Go.Proofs.Ytfmglcgdcdcpaaa
set_option linter.unusedVariables false
set_option linter.unusedSimpArgs false

/-! ### the least cost, plainly: rows of weights -/
def rowB (s : List Bn) : Nat → List Bn
  | 0 => []
  | n + 1 => mrg s (prs (rowB s n))
theorem rowB_lev (s : List Bn) : ∀ k, rowB s (k + 1) = lev s k
  | 0 => by
    rw [rowB, rowB, show prs [] = [] from rfl, mrg_nil]; rfl
  | k + 1 => by rw [rowB, rowB_lev s k]; rfl
theorem rowB_len (s : List Bn) (n : Nat) : (rowB s n).length ≤ 2 * s.length := by
  cases n with
  | zero => rw [rowB]; simp
  | succ k => rw [rowB_lev]; exact lev_most s k
theorem rowB_rng {s : List Bn} (h : ∀ x ∈ s, 0 ≤ x.w ∧ x.w ≤ 1073741824) : ∀ n, ∀ x ∈ rowB s n, 0 ≤ x.w ∧ x.w ≤ ((2 ^ n : Nat) : Int) * 1073741824
  | 0 => fun x hx => by rw [rowB] at hx; simp at hx
  | n + 1 => fun x hx => by
    rw [rowB] at hx
    have hp : 0 < 2 ^ n := Nat.two_pow_pos n
    rcases mrg_mem.1 hx with hx | hx
    · have := h x hx
      rw [Nat.pow_succ]
      generalize 2 ^ n = P at *
      omega
    · obtain ⟨u, v, hu, hv, e⟩ := prs_mem hx
      have h1 := rowB_rng h n u hu
      have h2 := rowB_rng h n v hv
      rw [Nat.pow_succ]
      generalize 2 ^ n = P at *
      omega
theorem rowB_rng15 {s : List Bn} (h : ∀ x ∈ s, 0 ≤ x.w ∧ x.w ≤ 1073741824) {n : Nat} (hn : n ≤ 15) : ∀ x ∈ rowB s n, 0 ≤ x.w ∧ x.w ≤ 35184372088832 := fun x hx => by
  have h1 := rowB_rng h n x hx
  have hp : 2 ^ n ≤ 2 ^ 15 := Nat.pow_le_pow_right (by decide) hn
  generalize 2 ^ n = P at *
  omega
def posL (cs : List Int) : List Int := cs.filter (fun x => decide (0 < x))
theorem posL_idx (cs : List Int) : (idx cs).map (fun i => cs.getD i 0) = posL cs := by
  have e : (List.range cs.length).map (fun i => cs.getD i 0) = cs := by
    apply List.ext_getElem (by simp)
    intro i h1 h2
    rw [List.getElem_map, List.getElem_range, List.getD_eq_getElem?_getD, List.getElem?_eq_getElem h2]; rfl
  have h := List.filter_map (f := fun i => cs.getD i 0) (p := fun x => decide (0 < x)) (l := List.range cs.length)
  rw [e] at h
  exact h.symm
theorem posL_snoc (cs : List Int) (x : Int) : posL (cs ++ [x]) = posL cs ++ if 0 < x then [x] else [] := by
  unfold posL
  rw [List.filter_append]
  by_cases h : 0 < x
  · rw [if_pos h]; simp [h]
  · rw [if_neg h]; simp [h]
theorem leaf_w {cs : List Int} {ss : List Nat} (h : Srt cs ss) {L : List Int} (hp : L.Perm (posL cs)) (hs : SortK id L 0 L.length) : L = (sngl cs ss).map Bn.w := by
  have e : (sngl cs ss).map Bn.w = ss.map (fun i => cs.getD i 0) := by unfold sngl; rw [List.map_map]; rfl
  rw [e]
  have hq : (ss.map (fun i => cs.getD i 0)).Perm (posL cs) := by rw [← posL_idx]; exact h.perm.map _
  refine List.Perm.eq_of_pairwise (le := (· ≤ ·)) (fun a b _ _ h1 h2 => Int.le_antisymm h1 h2) ?_ ?_ (hp.trans hq.symm)
  · rw [List.pairwise_iff_getElem]
    intro i j hi hj hij
    have := hs i j (by omega) (by omega) hj
    unfold at0 at this
    rw [List.getD_eq_getElem?_getD, List.getD_eq_getElem?_getD, List.getElem?_eq_getElem hi, List.getElem?_eq_getElem hj] at this
    exact this
  · rw [List.pairwise_map]; exact h.sorted
theorem at0_snoc {L : List Int} {x : Int} {p : Nat} (h : p < L.length) : at0 (L ++ [x]) p = at0 L p := by
  unfold at0; rw [List.getD_eq_getElem?_getD, List.getD_eq_getElem?_getD, List.getElem?_append_left h]
theorem sortK_snoc {L : List Int} {x : Int} (h : SortK id L 0 L.length) : SortK id (L ++ [x]) 0 L.length := fun p q h1 h2 h3 => by
  rw [at0_snoc (by omega), at0_snoc h3]; exact h p q h1 h2 h3
theorem swp_flip {L : List Int} {i j : Nat} (hi : i < L.length) (hj : j < L.length) : swp L i j = swp L j i := by
  refine at0_ext (by rw [swp_len, swp_len]) (fun p _ => ?_)
  rw [swp_at hi hj, swp_at hj hi]
  by_cases h1 : p = i
  · by_cases h2 : p = j
    · rw [if_pos h2, if_pos h1, ← h1, ← h2]
    · rw [if_neg h2, if_pos h1, if_pos h1]
  · by_cases h2 : p = j
    · rw [if_pos h2, if_neg h1, if_pos h2]
    · rw [if_neg h2, if_neg h1, if_neg h1, if_neg h2]
theorem wsum_snoc {l : List Bn} {i : Nat} (h : i < l.length) : wsum (l.take (i + 1)) = wsum (l.take i) + l[i].w := by
  rw [List.take_succ_eq_append_getElem h, wsum_append, wsum_cons, wsum_nil, Int.add_zero]
theorem wsum_rng {l : List Bn} (h : ∀ x ∈ l, 0 ≤ x.w ∧ x.w ≤ 35184372088832) : ∀ i : Nat, i ≤ l.length → 0 ≤ wsum (l.take i) ∧ wsum (l.take i) ≤ (i : Int) * 35184372088832
  | 0, _ => by rw [List.take_zero, wsum_nil]; simp
  | i + 1, hi => by
    have h1 := wsum_rng h i (by omega)
    have h2 := h l[i] (List.getElem_mem _)
    rw [wsum_snoc (by omega)]
    omega
theorem sngl_rng {cs : List Int} {ss : List Nat} (h : Srt cs ss) (hr : ∀ x ∈ cs, 0 ≤ x ∧ x ≤ 1073741824) : ∀ x ∈ sngl cs ss, 0 ≤ x.w ∧ x.w ≤ 1073741824 := fun x hx => by
  obtain ⟨i, hi, rfl⟩ := List.mem_map.1 hx
  have := (h.mem.1 hi).1
  exact hr _ (by rw [List.getD_eq_getElem?_getD, List.getElem?_eq_getElem this]; exact List.getElem_mem this)
theorem drop2 {l : List Bn} {i : Nat} (h : i + 1 < l.length) : l.drop i = l[i] :: l[i + 1] :: l.drop (i + 2) := by
  rw [List.drop_eq_getElem_cons (by omega), List.drop_eq_getElem_cons (by omega)]
theorem map_w_at {l : List Bn} {i : Nat} (h : i < l.length) : (l.map Bn.w)[i]? = some l[i].w := by
  rw [List.getElem?_map, List.getElem?_eq_getElem h]; rfl
end Go.Proofs.Ytfmglcgdcdcpaaa
