import Derived.Test.YtfmglcgdcdcpaaaPkO
namespace Go.Proofs.Ytfmglcgdcdcpaaa
set_option linter.unusedVariables false
set_option linter.unusedSimpArgs false

/-! ### the lengths of counts -/
def idx (cs : List Int) : List Nat := (List.range cs.length).filter (fun i => decide (0 < cs.getD i 0))
def sngl (cs : List Int) (ss : List Nat) : List Bn := ss.map (fun i => ⟨cs.getD i 0, [(i : Int)]⟩)
def taken (cs : List Int) (ss : List Nat) (most : Nat) : List Int := ((lev (sngl cs ss) (most - 1)).take (2 * ss.length - 2)).flatMap Bn.has
def outL (cs : List Int) (ss : List Nat) (most : Nat) : List Int := (List.range cs.length).map (fun i : Nat => (((taken cs ss most).count (i : Int) : Nat) : Int))
/-- ss are the symbols with a count, the least ones first. -/
structure Srt (cs : List Int) (ss : List Nat) : Prop where
  perm : ss.Perm (idx cs)
  sorted : ss.Pairwise (fun i j => cs.getD i 0 ≤ cs.getD j 0)
theorem idx_nodup (cs : List Int) : (idx cs).Nodup := List.nodup_range.filter _
theorem idx_mem {cs : List Int} {i : Nat} : i ∈ idx cs ↔ i < cs.length ∧ 0 < cs.getD i 0 := by unfold idx; simp
section
variable {cs : List Int} {ss : List Nat}
theorem Srt.nodup (h : Srt cs ss) : ss.Nodup := h.perm.nodup_iff.2 (idx_nodup cs)
theorem Srt.mem (h : Srt cs ss) {i : Nat} : i ∈ ss ↔ i < cs.length ∧ 0 < cs.getD i 0 := by rw [h.perm.mem_iff, idx_mem]
theorem Srt.sd (h : Srt cs ss) : Sd (sngl cs ss) := by unfold Sd sngl; rw [List.pairwise_map]; exact h.sorted
theorem Srt.nn (h : Srt cs ss) : ∀ x ∈ sngl cs ss, 0 ≤ x.w := fun x hx => by
  obtain ⟨i, hi, rfl⟩ := List.mem_map.1 hx
  have := (h.mem.1 hi).2
  simp only; omega
theorem sngl_len (cs : List Int) (ss : List Nat) : (sngl cs ss).length = ss.length := by simp [sngl]
end
theorem count_take {ss : List Nat} (h : ss.Nodup) : ∀ {r : Nat} (hr : r < ss.length) (a : Nat), ((ss.take a).map (fun i : Nat => (i : Int))).count ((ss[r] : Nat) : Int) = if r < a then 1 else 0 := by
  induction ss with
  | nil => intro r hr; simp at hr
  | cons x ss ih =>
    intro r hr a
    obtain ⟨h1, h2⟩ := List.nodup_cons.1 h
    cases a with
    | zero => simp
    | succ a =>
      rw [List.take_succ_cons, List.map_cons, List.count_cons]
      cases r with
      | zero =>
        have : ((ss.take a).map (fun i : Nat => (i : Int))).count (x : Int) = 0 := by
          rw [List.count_eq_zero]
          intro hm
          obtain ⟨i, hi, e⟩ := List.mem_map.1 hm
          have e : i = x := by omega
          subst e
          exact h1 (List.mem_of_mem_take hi)
        rw [List.getElem_cons_zero, this]; simp
      | succ r =>
        have hr' : r < ss.length := by simpa using hr
        have hne : (x : Int) ≠ ((ss[r] : Nat) : Int) := fun e => by
          have e : x = ss[r] := by omega
          exact h1 (e ▸ List.getElem_mem hr')
        have := ih h2 hr' a
        rw [List.getElem_cons_succ, this]
        have hb : ((x : Int) == ((ss[r] : Nat) : Int)) = false := by rw [beq_eq_false_iff_ne]; exact hne
        rw [hb]
        by_cases h3 : r < a <;> simp [h3]
theorem count_as {ss : List Nat} (h : ss.Nodup) {r : Nat} (hr : r < ss.length) : ∀ qs : List Nat, (qs.flatMap fun a => (ss.take a).map (fun i : Nat => (i : Int))).count ((ss[r] : Nat) : Int) = cnr qs r
  | [] => rfl
  | a :: qs => by
    rw [List.flatMap_cons, List.count_append, count_take h hr, count_as h hr qs]
    unfold cnr
    by_cases h3 : r < a
    · rw [if_pos h3, List.countP_cons_of_pos (by simpa using h3)]; omega
    · rw [if_neg h3, List.countP_cons_of_neg (by simpa using h3)]; omega
theorem sngl_take (cs : List Int) (ss : List Nat) (a : Nat) : ((sngl cs ss).take a).flatMap Bn.has = (ss.take a).map (fun i : Nat => (i : Int)) := by
  unfold sngl
  rw [← List.map_take]
  generalize ss.take a = l
  induction l with
  | nil => rfl
  | cons x l ih => rw [List.map_cons, List.flatMap_cons, ih]; rfl
/-- What the lengths are by the levels. -/
theorem taken_as {cs : List Int} {ss : List Nat} (h : Srt cs ss) {most : Nat} (h1 : 1 ≤ most) (h2 : 2 ≤ ss.length) (hn : ss.length ≤ 2 ^ most) :
    ∃ qs : List Nat, qs.length = most ∧ nsum (fun r => 2 ^ (most - cnr qs r)) ss.length = 2 ^ most ∧ (∀ r (hr : r < ss.length), (taken cs ss most).count ((ss[r] : Nat) : Int) = cnr qs r ∧ 1 ≤ cnr qs r ∧ cnr qs r ≤ most) ∧ ∀ x ∈ taken cs ss most, ∃ i ∈ ss, x = ((i : Nat) : Int) := by
  obtain ⟨k, rfl⟩ : ∃ k, most = k + 1 := ⟨most - 1, by omega⟩
  have hroom := lev_room (sngl cs ss) k 2 (by rw [sngl_len]; rw [Nat.pow_succ] at hn; omega)
  rw [sngl_len] at hroom
  obtain ⟨qs, a1, a2, a3, a4, a5, _⟩ := lev_as (sngl cs ss) h.sd h.nn k (2 * ss.length - 2) (by omega)
  rw [sngl_len] at a2
  have hw := wid_whole h2 a1 a2 a3 a4
  have hp : (taken cs ss (k + 1)).Perm (qs.flatMap fun a => (ss.take a).map (fun i : Nat => (i : Int))) := by
    have e : (fun a => ((sngl cs ss).take a).flatMap Bn.has) = fun a => (ss.take a).map (fun i : Nat => (i : Int)) := funext fun a => sngl_take cs ss a
    rw [e] at a5
    exact a5
  refine ⟨qs, a1, hw, fun r hr => ⟨?_, cnr_pos h2 hw hr, by have := cnr_le qs r; omega⟩, fun x hx => ?_⟩
  · rw [hp.count_eq, count_as h.nodup hr]
  · obtain ⟨a, _, hx⟩ := List.mem_flatMap.1 (hp.mem_iff.1 hx)
    obtain ⟨i, hi, e⟩ := List.mem_map.1 hx
    exact ⟨i, List.mem_of_mem_take hi, e.symm⟩
/-! ### sums over all symbols -/
theorem sum_perm {α : Type} (g : α → Int) {a b : List α} (h : a.Perm b) : (a.map g).sum = (b.map g).sum := by
  induction h with
  | nil => rfl
  | cons x _ ih => rw [List.map_cons, List.map_cons, List.sum_cons, List.sum_cons, ih]
  | swap x y l => simp only [List.map_cons, List.sum_cons]; omega
  | trans _ _ ih1 ih2 => rw [ih1, ih2]
theorem sum_filter {α : Type} (g : α → Int) (p : α → Bool) : ∀ l : List α, (∀ x ∈ l, p x = false → g x = 0) → (l.map g).sum = ((l.filter p).map g).sum
  | [], _ => rfl
  | x :: l, h => by
    have ih := sum_filter g p l (fun y hy => h y (by simp [hy]))
    rw [List.map_cons, List.sum_cons, ih]
    cases hp : p x with
    | true => rw [List.filter_cons_of_pos hp, List.map_cons, List.sum_cons]
    | false => rw [List.filter_cons_of_neg (by simp [hp]), h x (by simp) hp]; omega
theorem sum_idx (g : Nat → Int) : ∀ ss : List Nat, (ss.map g).sum = isum (fun r => g (ss.getD r 0)) ss.length := by
  intro ss
  have : ∀ l : List Nat, (l.map g).sum = isum (fun r => g (l.reverse.getD r 0)) l.length := by
    intro l
    induction l with
    | nil => rfl
    | cons x l ih =>
      rw [List.map_cons, List.sum_cons, ih, List.length_cons, isum, List.reverse_cons]
      have e : isum (fun r => g ((l.reverse ++ [x]).getD r 0)) l.length = isum (fun r => g (l.reverse.getD r 0)) l.length := isum_congr _ (fun r hr => by
        rw [List.getD_eq_getElem?_getD, List.getD_eq_getElem?_getD, List.getElem?_append_left (by simpa using hr)])
      have e2 : (l.reverse ++ [x]).getD l.length 0 = x := by
        rw [List.getD_eq_getElem?_getD, List.getElem?_append_right (by simp)]; simp
      rw [e, e2]; omega
  have h := this ss.reverse
  rw [List.reverse_reverse, List.length_reverse, List.map_reverse, List.sum_reverse] at h
  exact h
theorem isum_nat (f : Nat → Nat) : ∀ n, isum (fun r => (f r : Int)) n = (nsum f n : Nat)
  | 0 => rfl
  | n + 1 => by rw [isum, nsum, isum_nat f n]; omega
theorem nsum_mul (c : Nat) (f : Nat → Nat) : ∀ n, nsum (fun r => c * f r) n = c * nsum f n
  | 0 => by rw [nsum, nsum, Nat.mul_zero]
  | n + 1 => by rw [nsum, nsum, nsum_mul c f n, Nat.mul_add]
section
variable {cs : List Int} {ss : List Nat}
/-- A sum over all symbols of what is nought where there is no count. -/
theorem Srt.sum_all (h : Srt cs ss) (g : Nat → Int) (hg : ∀ i, i < cs.length → ¬ 0 < cs.getD i 0 → g i = 0) : ((List.range cs.length).map g).sum = (ss.map g).sum := by
  rw [sum_filter g (fun i => decide (0 < cs.getD i 0)) _ (fun i hi hp => hg i (by simpa using hi) (by simpa using hp))]
  exact (sum_perm g h.perm).symm
theorem out_len (cs : List Int) (ss : List Nat) (most : Nat) : (outL cs ss most).length = cs.length := by simp [outL]
theorem out_at {most i : Nat} (hi : i < cs.length) : (outL cs ss most).getD i 0 = (((taken cs ss most).count (i : Int) : Nat) : Int) := by
  unfold outL
  rw [List.getD_eq_getElem?_getD, List.getElem?_map, List.getElem?_range hi]; rfl
structure OutOk (cs : List Int) (most : Nat) (l : List Int) : Prop where
  len : l.length = cs.length
  some_ : ∀ i, i < cs.length → 0 < cs.getD i 0 → 1 ≤ l.getD i 0 ∧ l.getD i 0 ≤ most
  none_ : ∀ i, i < cs.length → ¬ 0 < cs.getD i 0 → l.getD i 0 = 0
theorem Srt.out_ok (h : Srt cs ss) {most : Nat} (h1 : 1 ≤ most) (h2 : 2 ≤ ss.length) (hn : ss.length ≤ 2 ^ most) : OutOk cs most (outL cs ss most) := by
  obtain ⟨qs, a1, a2, a3, a4⟩ := taken_as h h1 h2 hn
  refine ⟨out_len _ _ _, fun i hi hp => ?_, fun i hi hp => ?_⟩
  · rw [out_at hi]
    obtain ⟨r, hr, e⟩ := List.getElem_of_mem (h.mem.2 ⟨hi, hp⟩)
    obtain ⟨b1, b2, b3⟩ := a3 r hr
    rw [e] at b1
    rw [b1]; omega
  · rw [out_at hi]
    have : (taken cs ss most).count (i : Int) = 0 := by
      rw [List.count_eq_zero]
      intro hm
      obtain ⟨j, hj, e⟩ := a4 _ hm
      have e : i = j := by omega
      subst e
      exact hp (h.mem.1 hj).2
    rw [this]; rfl
theorem kr_two {c : Nat} (h1 : 1 ≤ c) (h : c ≤ 15) : kr (c : Int) = ((2 ^ (15 - c) : Nat) : Int) := by
  unfold kr
  rw [if_pos (by omega), show (15 - (c : Int)).toNat = 15 - c from by omega]
theorem Srt.out_kraft (h : Srt cs ss) {most : Nat} (h1 : 1 ≤ most) (h15 : most ≤ 15) (h2 : 2 ≤ ss.length) (hn : ss.length ≤ 2 ^ most) : ((outL cs ss most).map kr).sum = 32768 := by
  obtain ⟨qs, a1, a2, a3, a4⟩ := taken_as h h1 h2 hn
  have hok := h.out_ok h1 h2 hn
  have e0 : (outL cs ss most).map kr = (List.range cs.length).map (fun i => kr ((outL cs ss most).getD i 0)) := by
    apply List.ext_getElem
    · simp [out_len]
    · intro i hi _
      simp only [List.getElem_map, List.getElem_range]
      rw [List.getD_eq_getElem?_getD, List.getElem?_eq_getElem (by simpa using hi)]; rfl
  rw [e0, h.sum_all _ (fun i hi hp => by rw [hok.none_ i hi hp]; rfl), sum_idx]
  have e1 : isum (fun r => kr ((outL cs ss most).getD (ss.getD r 0) 0)) ss.length = isum (fun r => ((2 ^ (15 - most) * 2 ^ (most - cnr qs r) : Nat) : Int)) ss.length := by
    refine isum_congr _ (fun r hr => ?_)
    obtain ⟨b1, b2, b3⟩ := a3 r hr
    have hm : ss[r] < cs.length := (h.mem.1 (List.getElem_mem hr)).1
    have e2 : ss.getD r 0 = ss[r] := by rw [List.getD_eq_getElem?_getD, List.getElem?_eq_getElem hr]; rfl
    rw [e2, out_at hm, b1, kr_two b2 (by omega), ← Nat.pow_add, show 15 - most + (most - cnr qs r) = 15 - cnr qs r from by omega]
  rw [e1, isum_nat, nsum_mul, a2, ← Nat.pow_add, show 15 - most + most = 15 from by omega]
  rfl
theorem Srt.out_whole (h : Srt cs ss) {most : Nat} (h1 : 1 ≤ most) (h15 : most ≤ 15) (h2 : 2 ≤ ss.length) (hn : ss.length ≤ 2 ^ most) (hl : cs.length ≤ 400) : kind (outL cs ss most) = 1 := by
  have hok := h.out_ok h1 h2 hn
  have hk : okL (outL cs ss most) := fun x hx => by
    obtain ⟨i, hi, e⟩ := List.getElem_of_mem hx
    have hi' : i < cs.length := by rw [← hok.len]; exact hi
    have e2 : (outL cs ss most).getD i 0 = x := by rw [List.getD_eq_getElem?_getD, List.getElem?_eq_getElem hi]; exact e
    by_cases hp : 0 < cs.getD i 0
    · have := hok.some_ i hi' hp; omega
    · have := hok.none_ i hi' hp; omega
  have h3 := h.out_kraft h1 h15 h2 hn
  rw [← kraft_ok hk (by rw [out_len]; omega)] at h3
  rcases kinds hk (by rw [out_len]; omega) with q | q | q | q | q <;> omega
/-! ### what they cost -/
def costL : List Int → List Int → Int
  | c :: cs, l :: ls => c * l + costL cs ls
  | _, _ => 0
theorem cost_range : ∀ (cs ls : List Int), ls.length = cs.length → costL cs ls = ((List.range cs.length).map (fun i => cs.getD i 0 * ls.getD i 0)).sum
  | [], _, _ => by simp [costL]
  | c :: cs, [], h => by simp at h
  | c :: cs, l :: ls, h => by
    rw [costL, cost_range cs ls (by simpa using h), List.length_cons, List.range_succ_eq_map, List.map_cons, List.sum_cons, List.map_map]
    congr 1
theorem has_count (cs : List Int) (ss : List Nat) : ∀ (k : Nat), ∀ x ∈ lev (sngl cs ss) k, x.w = (x.has.map (fun i => cs.getD i.toNat 0)).sum
  | 0, x, hx => by
    obtain ⟨i, _, rfl⟩ := List.mem_map.1 hx
    simp
  | k + 1, x, hx => by
    rcases mrg_mem.1 hx with hx | hx
    · obtain ⟨i, _, rfl⟩ := List.mem_map.1 hx
      simp
    · obtain ⟨j, hj, e⟩ := List.getElem_of_mem hx
      obtain ⟨u, v, hu, hv, e2⟩ := prs_at _ j x (by rw [List.getElem?_eq_getElem hj, e])
      have h1 := has_count cs ss k u (List.mem_of_getElem? hu)
      have h2 := has_count cs ss k v (List.mem_of_getElem? hv)
      subst e2
      simp only [List.map_append, List.sum_append]
      omega
theorem wsum_has (cs : List Int) : ∀ l : List Bn, (∀ x ∈ l, x.w = (x.has.map (fun i => cs.getD i.toNat 0)).sum) → wsum l = ((l.flatMap Bn.has).map (fun i => cs.getD i.toNat 0)).sum
  | [], _ => by simp [wsum_nil]
  | x :: l, h => by
    rw [wsum_cons, h x (by simp), wsum_has cs l (fun y hy => h y (by simp [hy])), List.flatMap_cons, List.map_append, List.sum_append]
theorem sum_counts (cs : List Int) : ∀ t : List Int, (∀ x ∈ t, ∃ i : Nat, i < cs.length ∧ x = (i : Int)) → (t.map (fun i => cs.getD i.toNat 0)).sum = ((List.range cs.length).map (fun i => cs.getD i 0 * ((t.count ((i : Nat) : Int) : Nat) : Int))).sum
  | [], _ => by
    have : ∀ l : List Nat, (l.map (fun i => cs.getD i 0 * ((([] : List Int).count ((i : Nat) : Int) : Nat) : Int))).sum = 0 := fun l => by
      induction l with
      | nil => rfl
      | cons x l ih => rw [List.map_cons, List.sum_cons, ih]; simp
    rw [this]; rfl
  | x :: t, h => by
    obtain ⟨i, hi, rfl⟩ := h x (by simp)
    rw [List.map_cons, List.sum_cons, sum_counts cs t (fun y hy => h y (by simp [hy]))]
    have key : ∀ n, ((List.range n).map (fun j => cs.getD j 0 * (((((i : Nat) : Int) :: t).count ((j : Nat) : Int) : Nat) : Int))).sum = ((List.range n).map (fun j => cs.getD j 0 * ((t.count ((j : Nat) : Int) : Nat) : Int))).sum + if i < n then cs.getD i 0 else 0 := fun n => by
      induction n with
      | zero => simp
      | succ n ih =>
        rw [List.range_succ, List.map_append, List.sum_append, ih, List.map_append, List.sum_append]
        simp only [List.map_cons, List.map_nil, List.sum_cons, List.sum_nil, Int.add_zero]
        rw [List.count_cons]
        by_cases e : i = n
        · subst e
          rw [if_neg (Nat.lt_irrefl i), if_pos (show i < i + 1 by omega), if_pos (show (((i : Nat) : Int) == ((i : Nat) : Int)) = true by simp), Int.natCast_add, Int.mul_add]
          simp; omega
        · rw [if_neg (show ¬ (((i : Nat) : Int) == ((n : Nat) : Int)) = true by rw [beq_iff_eq]; omega), Nat.add_zero]
          by_cases h3 : i < n
          · rw [if_pos h3, if_pos (by omega)]; omega
          · rw [if_neg h3, if_neg (by omega)]; omega
    rw [key, if_pos hi]
    simp only [Int.toNat_natCast]
    omega
/-- They cost what the first 2 n - 2 of the last level weigh. -/
theorem Srt.out_cost (h : Srt cs ss) {most : Nat} (h1 : 1 ≤ most) (h2 : 2 ≤ ss.length) (hn : ss.length ≤ 2 ^ most) : costL cs (outL cs ss most) = wsum ((lev (sngl cs ss) (most - 1)).take (2 * ss.length - 2)) := by
  obtain ⟨qs, a1, a2, a3, a4⟩ := taken_as h h1 h2 hn
  rw [cost_range _ _ (out_len _ _ _), wsum_has cs _ (fun x hx => has_count cs ss _ x (List.mem_of_mem_take hx))]
  show _ = ((taken cs ss most).map (fun i => cs.getD i.toNat 0)).sum
  rw [sum_counts cs _ (fun x hx => by obtain ⟨i, hi, e⟩ := a4 x hx; exact ⟨i, (h.mem.1 hi).1, e⟩)]
  congr 1
  refine List.map_congr_left (fun i hi => ?_)
  rw [out_at (by simpa using hi)]
/-- No other lengths cost less. -/
theorem Srt.least (h : Srt cs ss) {most : Nat} (h1 : 1 ≤ most) (h15 : most ≤ 15) (h2 : 2 ≤ ss.length) (hn : ss.length ≤ 2 ^ most) {l : List Int} (hl : l.length = cs.length) (hl1 : ∀ i, i < cs.length → 0 < cs.getD i 0 → 1 ≤ l.getD i 0 ∧ l.getD i 0 ≤ most)
    (hk : (ss.map (fun i => kr (l.getD i 0))).sum ≤ 32768) (hz : ∀ i, i < cs.length → 0 ≤ cs.getD i 0) : costL cs (outL cs ss most) ≤ costL cs l := by
  rw [h.out_cost h1 h2 hn, cost_range _ _ hl, h.sum_all _ (fun i hi hp => by rw [show cs.getD i 0 = 0 from by have := hz i hi; omega]; simp)]
  have hs := lev_least (sngl cs ss) h.sd h.nn (fun x => (l.getD (x.has.headD 0).toNat 0).toNat) (most - 1) (fun x hx => by
    obtain ⟨i, hi, rfl⟩ := List.mem_map.1 hx
    obtain ⟨q1, q2⟩ := h.mem.1 hi
    have := (hl1 i q1 q2).2
    simp only [List.headD_cons, Int.toNat_natCast]
    omega) ?_
  · rw [sngl_len] at hs
    refine Int.le_trans hs (Int.le_of_eq ?_)
    unfold sngl
    rw [List.map_map]
    congr 1
    refine List.map_congr_left (fun i hi => ?_)
    obtain ⟨q1, q2⟩ := h.mem.1 hi
    have := (hl1 i q1 q2).1
    simp only [Function.comp, List.headD_cons, Int.toNat_natCast]
    rw [show (((l.getD i 0).toNat : Nat) : Int) = l.getD i 0 from by omega]
  · have hm : most - 1 + 1 = most := by omega
    rw [hm]
    have e : ∀ t : List Nat, (∀ i ∈ t, i ∈ ss) → (((2 ^ (15 - most) * ((sngl cs t).map (fun x => 2 ^ (most - (l.getD (x.has.headD 0).toNat 0).toNat))).sum : Nat)) : Int) = (t.map (fun i => kr (l.getD i 0))).sum := fun t => by
      induction t with
      | nil => intro _; simp [sngl]
      | cons i t ih =>
        intro ht
        obtain ⟨q1, q2⟩ := h.mem.1 (ht i (by simp))
        obtain ⟨q3, q4⟩ := hl1 i q1 q2
        have ih := ih (fun j hj => ht j (by simp [hj]))
        obtain ⟨c, hc⟩ : ∃ c : Nat, l.getD i 0 = c := ⟨(l.getD i 0).toNat, by omega⟩
        have e1 : sngl cs (i :: t) = ⟨cs.getD i 0, [(i : Int)]⟩ :: sngl cs t := rfl
        rw [e1, List.map_cons, List.sum_cons, Nat.mul_add, Int.natCast_add, ih, List.map_cons, List.sum_cons]
        congr 1
        simp only [List.headD_cons, Int.toNat_natCast]
        rw [hc, Int.toNat_natCast, kr_two (by omega) (by omega), ← Nat.pow_add, show 15 - most + (most - c) = 15 - c from by omega]
    have e2 := e ss (fun i hi => hi)
    rw [← e2] at hk
    have e3 : (2 : Nat) ^ (15 - most) * 2 ^ most = 32768 := by rw [← Nat.pow_add, show 15 - most + most = 15 from by omega]
    have hp : 0 < 2 ^ (15 - most) := Nat.pow_pos (by decide)
    refine Nat.le_of_mul_le_mul_left (c := 2 ^ (15 - most)) ?_ hp
    rw [e3]
    omega
end
end Go.Proofs.Ytfmglcgdcdcpaaa
