import Derived.Test.YtfmglcgdcdcpaaaJCan
namespace Go.Proofs.Ytfmglcgdcdcpaaa
set_option linter.unusedVariables false
set_option linter.unusedSimpArgs false

/-! ### lengths from counts, plainly: packages that are merged -/
/-- A symbol, or several that were put together. -/
structure Bn where
  w : Int
  has : List Int
def mrgGo (x : Bn) (f : List Bn → List Bn) (xa : List Bn) : List Bn → List Bn
  | [] => xa
  | y :: b => if y.w < x.w then y :: mrgGo x f xa b else x :: f (y :: b)
def mrg : List Bn → List Bn → List Bn
  | [], b => b
  | x :: a, b => mrgGo x (mrg a) (x :: a) b
theorem mrg_nil (a : List Bn) : mrg a [] = a := by cases a <;> rfl
theorem mrg_cons (x y : Bn) (a b : List Bn) : mrg (x :: a) (y :: b) = if y.w < x.w then y :: mrg (x :: a) b else x :: mrg a (y :: b) := rfl
def prs : List Bn → List Bn
  | x :: y :: r => ⟨x.w + y.w, x.has ++ y.has⟩ :: prs r
  | _ => []
def lev (s : List Bn) : Nat → List Bn
  | 0 => s
  | k + 1 => mrg s (prs (lev s k))
def Sd (l : List Bn) : Prop := l.Pairwise (fun x y => x.w ≤ y.w)
theorem mrg_perm : ∀ a b : List Bn, (mrg a b).Perm (a ++ b)
  | [], b => by rw [mrg]; exact List.Perm.refl _
  | x :: a, [] => by rw [mrg_nil, List.append_nil]
  | x :: a, y :: b => by
    rw [mrg_cons]
    split
    · exact ((mrg_perm (x :: a) b).cons y).trans List.perm_middle.symm
    · exact (mrg_perm a (y :: b)).cons x
termination_by a b => a.length + b.length
theorem mrg_len (a b : List Bn) : (mrg a b).length = a.length + b.length := by rw [(mrg_perm a b).length_eq, List.length_append]
theorem mrg_mem {a b : List Bn} {z : Bn} : z ∈ mrg a b ↔ z ∈ a ∨ z ∈ b := by rw [(mrg_perm a b).mem_iff, List.mem_append]
theorem mrg_sd : ∀ a b : List Bn, Sd a → Sd b → Sd (mrg a b)
  | [], b, _, hb => hb
  | x :: a, [], ha, _ => by rw [mrg_nil]; exact ha
  | x :: a, y :: b, ha, hb => by
    obtain ⟨ha1, ha2⟩ := List.pairwise_cons.1 ha
    obtain ⟨hb1, hb2⟩ := List.pairwise_cons.1 hb
    rw [mrg_cons]
    split
    · rename_i h
      refine List.pairwise_cons.2 ⟨fun z hz => ?_, mrg_sd (x :: a) b ha hb2⟩
      rcases mrg_mem.1 hz with hz | hz
      · rcases List.mem_cons.1 hz with rfl | hz
        · omega
        · have := ha1 z hz; omega
      · exact hb1 z hz
    · rename_i h
      refine List.pairwise_cons.2 ⟨fun z hz => ?_, mrg_sd a (y :: b) ha2 hb⟩
      rcases mrg_mem.1 hz with hz | hz
      · exact ha1 z hz
      · rcases List.mem_cons.1 hz with rfl | hz
        · omega
        · have := hb1 z hz; omega
termination_by a b => a.length + b.length
theorem prs_mem : ∀ {l : List Bn} {z : Bn}, z ∈ prs l → ∃ u v, u ∈ l ∧ v ∈ l ∧ z.w = u.w + v.w
  | [], z, h => by simp [prs] at h
  | [x], z, h => by simp [prs] at h
  | x :: y :: r, z, h => by
    rw [prs] at h
    rcases List.mem_cons.1 h with rfl | h
    · exact ⟨x, y, by simp, by simp, rfl⟩
    · obtain ⟨u, v, hu, hv, e⟩ := prs_mem h
      exact ⟨u, v, by simp [hu], by simp [hv], e⟩
theorem prs_sd : ∀ {l : List Bn}, Sd l → Sd (prs l)
  | [], _ => by simp [prs, Sd]
  | [x], _ => by simp [prs, Sd]
  | x :: y :: r, h => by
    obtain ⟨h1, h2⟩ := List.pairwise_cons.1 h
    obtain ⟨h3, h4⟩ := List.pairwise_cons.1 h2
    rw [prs]
    refine List.pairwise_cons.2 ⟨fun z hz => ?_, prs_sd h4⟩
    obtain ⟨u, v, hu, hv, e⟩ := prs_mem hz
    have := h1 u (by simp [hu])
    have := h3 v hv
    rw [e]; simp only; omega
theorem prs_len : ∀ l : List Bn, (prs l).length = l.length / 2
  | [] => rfl
  | [x] => by simp [prs]
  | x :: y :: r => by rw [prs, List.length_cons, prs_len r, List.length_cons, List.length_cons]; omega
theorem prs_at : ∀ (l : List Bn) (j : Nat) (z : Bn), (prs l)[j]? = some z → ∃ u v, l[2 * j]? = some u ∧ l[2 * j + 1]? = some v ∧ z = ⟨u.w + v.w, u.has ++ v.has⟩
  | [], j, z, h => by simp [prs] at h
  | [x], j, z, h => by simp [prs] at h
  | x :: y :: r, j, z, h => by
    rw [prs] at h
    cases j with
    | zero => simp at h; exact ⟨x, y, rfl, rfl, h.symm⟩
    | succ j =>
      rw [List.getElem?_cons_succ] at h
      obtain ⟨u, v, hu, hv, e⟩ := prs_at r j z h
      exact ⟨u, v, by rw [show 2 * (j + 1) = 2 * j + 1 + 1 from by omega]; simpa using hu, by rw [show 2 * (j + 1) + 1 = 2 * j + 1 + 1 + 1 from by omega]; simpa using hv, e⟩
theorem prs_has : ∀ (l : List Bn) (j : Nat), j ≤ (prs l).length → ((prs l).take j).flatMap Bn.has = (l.take (2 * j)).flatMap Bn.has
  | _, 0, _ => by simp
  | [], j + 1, h => by simp [prs] at h
  | [x], j + 1, h => by simp [prs] at h
  | x :: y :: r, j + 1, h => by
    have := prs_has r j (by simpa [prs] using h)
    rw [prs, List.take_succ_cons, List.flatMap_cons, this, show 2 * (j + 1) = 2 * j + 1 + 1 from by omega, List.take_succ_cons, List.take_succ_cons, List.flatMap_cons, List.flatMap_cons, List.append_assoc]
def wsum (l : List Bn) : Int := (l.map Bn.w).sum
theorem wsum_cons (x : Bn) (l : List Bn) : wsum (x :: l) = x.w + wsum l := by simp [wsum]
theorem wsum_nil : wsum [] = 0 := rfl
theorem wsum_append (a b : List Bn) : wsum (a ++ b) = wsum a + wsum b := by simp [wsum]
theorem wsum_perm {a b : List Bn} (h : a.Perm b) : wsum a = wsum b := by
  induction h with
  | nil => rfl
  | cons x _ ih => rw [wsum_cons, wsum_cons, ih]
  | swap x y l => simp only [wsum_cons]; omega
  | trans _ _ ih1 ih2 => rw [ih1, ih2]
theorem wsum_nonneg : ∀ {l : List Bn}, (∀ x ∈ l, 0 ≤ x.w) → 0 ≤ wsum l
  | [], _ => Int.le_refl _
  | x :: l, h => by
    have := h x (by simp)
    have := wsum_nonneg (l := l) (fun y hy => h y (by simp [hy]))
    rw [wsum_cons]; omega
theorem prs_sum : ∀ (l : List Bn) (j : Nat), j ≤ (prs l).length → wsum ((prs l).take j) = wsum (l.take (2 * j))
  | _, 0, _ => by simp
  | [], j + 1, h => by simp [prs] at h
  | [x], j + 1, h => by simp [prs] at h
  | x :: y :: r, j + 1, h => by
    have := prs_sum r j (by simpa [prs] using h)
    rw [prs, List.take_succ_cons, wsum_cons, this, show 2 * (j + 1) = 2 * j + 1 + 1 from by omega, List.take_succ_cons, List.take_succ_cons, wsum_cons, wsum_cons]
    simp only; omega
theorem Sd.le {l : List Bn} (h : Sd l) {i j : Nat} {x y : Bn} (hi : l[i]? = some x) (hj : l[j]? = some y) (hij : i ≤ j) : x.w ≤ y.w := by
  obtain ⟨a, rfl⟩ := List.getElem?_eq_some_iff.1 hi
  obtain ⟨b, rfl⟩ := List.getElem?_eq_some_iff.1 hj
  rcases Nat.lt_or_ge i j with h1 | h1
  · exact (List.pairwise_iff_getElem.1 h) i j a b h1
  · have : i = j := by omega
    subst this; exact Int.le_refl _
/-- The first m of two lists that were merged are the first ones of each. -/
theorem mrg_take : ∀ (a b : List Bn) (m : Nat), Sd a → m ≤ a.length + b.length → ∃ i j, i ≤ a.length ∧ j ≤ b.length ∧ i + j = m ∧ ((mrg a b).take m).Perm (a.take i ++ b.take j) ∧ ∀ x y, a[i]? = some x → 0 < j → b[j - 1]? = some y → y.w < x.w
  | [], b, m, _, h => ⟨0, m, by simp, by simpa using h, by omega, by rw [mrg]; exact List.Perm.refl _, by simp⟩
  | x :: a, [], m, _, h => ⟨m, 0, by simpa using h, by simp, by omega, by rw [mrg_nil]; simp, by simp⟩
  | x :: a, y :: b, 0, _, _ => ⟨0, 0, by simp, by simp, rfl, by simp, by simp⟩
  | x :: a, y :: b, m + 1, ha, h => by
    rw [mrg_cons]
    split
    · rename_i hlt
      obtain ⟨i, j, h1, h2, h3, h4, h5⟩ := mrg_take (x :: a) b m ha (by simp at h ⊢; omega)
      refine ⟨i, j + 1, h1, by simpa using h2, by omega, ?_, fun x' y' hx' _ hy' => ?_⟩
      · rw [List.take_succ_cons, List.take_succ_cons]
        exact (h4.cons y).trans List.perm_middle.symm
      · rw [Nat.add_sub_cancel] at hy'
        cases j with
        | zero =>
          simp at hy'
          subst hy'
          have := ha.le (i := 0) (j := i) (x := x) rfl hx' (by omega)
          omega
        | succ j =>
          rw [List.getElem?_cons_succ] at hy'
          exact h5 x' y' hx' (by omega) hy'
    · rename_i hlt
      obtain ⟨i, j, h1, h2, h3, h4, h5⟩ := mrg_take a (y :: b) m (List.pairwise_cons.1 ha).2 (by simp at h ⊢; omega)
      refine ⟨i + 1, j, by simpa using h1, h2, by omega, ?_, fun x' y' hx' hj hy' => ?_⟩
      · rw [List.take_succ_cons, List.take_succ_cons]
        exact h4.cons x
      · rw [List.getElem?_cons_succ] at hx'
        exact h5 x' y' hx' hj hy'
termination_by a b => a.length + b.length
/-- .. and cost no more than any so many of each. -/
theorem mrg_min : ∀ (a b : List Bn) (i j : Nat), Sd a → Sd b → i ≤ a.length → j ≤ b.length → wsum ((mrg a b).take (i + j)) ≤ wsum (a.take i) + wsum (b.take j)
  | [], b, i, j, _, _, hi, hj => by
    have : i = 0 := by simpa using hi
    subst this
    rw [mrg, Nat.zero_add]; simp [wsum_nil]
  | x :: a, [], i, j, _, _, hi, hj => by
    have : j = 0 := by simpa using hj
    subst this
    rw [mrg_nil]; simp [wsum_nil]
  | x :: a, y :: b, i, j, ha, hb, hi, hj => by
    obtain ⟨ha1, ha2⟩ := List.pairwise_cons.1 ha
    obtain ⟨hb1, hb2⟩ := List.pairwise_cons.1 hb
    rw [mrg_cons]
    split
    · rename_i hlt
      cases j with
      | succ j =>
        have := mrg_min (x :: a) b i j ha hb2 hi (by simpa using hj)
        rw [show i + (j + 1) = i + j + 1 from rfl, List.take_succ_cons, List.take_succ_cons, wsum_cons, wsum_cons]
        omega
      | zero =>
        cases i with
        | zero => simp [wsum_nil]
        | succ i =>
          have := mrg_min (x :: a) b i 0 ha hb2 (by omega) (by simp)
          rw [Nat.add_zero] at this
          rw [show i + 1 + 0 = i + 0 + 1 from rfl, List.take_succ_cons, wsum_cons]
          have hi' : i < (x :: a).length := by omega
          rw [List.take_succ_eq_append_getElem hi', wsum_append, wsum_cons, wsum_nil]
          have hle := ha.le (i := 0) (j := i) (x := x) rfl (List.getElem?_eq_getElem hi') (by omega)
          simp only [List.take_zero, wsum_nil] at *
          omega
    · rename_i hlt
      cases i with
      | succ i =>
        have := mrg_min a (y :: b) i j ha2 hb (by simpa using hi) hj
        rw [show i + 1 + j = i + j + 1 from by omega, List.take_succ_cons, List.take_succ_cons, wsum_cons, wsum_cons]
        omega
      | zero =>
        cases j with
        | zero => simp [wsum_nil]
        | succ j =>
          have := mrg_min a (y :: b) 0 j ha2 hb (by simp) (by omega)
          rw [show 0 + (j + 1) = 0 + j + 1 from rfl, List.take_succ_cons, wsum_cons]
          have hj' : j < (y :: b).length := by omega
          rw [List.take_succ_eq_append_getElem hj', wsum_append, wsum_cons, wsum_nil]
          have hle := hb.le (i := 0) (j := j) (x := y) rfl (List.getElem?_eq_getElem hj') (by omega)
          simp only [List.take_zero, wsum_nil] at *
          omega
termination_by a b => a.length + b.length
theorem lev_sd {s : List Bn} (h : Sd s) : ∀ k, Sd (lev s k)
  | 0 => h
  | k + 1 => mrg_sd _ _ h (prs_sd (lev_sd h k))
theorem lev_nn {s : List Bn} (h : ∀ x ∈ s, 0 ≤ x.w) : ∀ k, ∀ x ∈ lev s k, 0 ≤ x.w
  | 0 => h
  | k + 1 => fun x hx => by
    rcases mrg_mem.1 hx with hx | hx
    · exact h x hx
    · obtain ⟨u, v, hu, hv, e⟩ := prs_mem hx
      have := lev_nn h k u hu
      have := lev_nn h k v hv
      omega
theorem lev_len (s : List Bn) (k : Nat) : (lev s (k + 1)).length = s.length + (lev s k).length / 2 := by rw [lev, mrg_len, prs_len]
theorem lev_most (s : List Bn) : ∀ k, (lev s k).length ≤ 2 * s.length
  | 0 => by rw [lev]; omega
  | k + 1 => by have := lev_most s k; rw [lev_len]; omega
theorem lev_room (s : List Bn) : ∀ k n, s.length ≤ n * 2 ^ k → 2 * s.length ≤ (lev s k).length + n
  | 0, n, h => by rw [lev]; rw [Nat.pow_zero, Nat.mul_one] at h; omega
  | k + 1, n, h => by
    rw [lev_len]
    have := lev_room s k (2 * n) (by rw [Nat.pow_succ] at h; rw [Nat.mul_comm 2 n, Nat.mul_assoc, Nat.mul_comm 2]; exact h)
    omega
/-! ### the widths -/
def wid : List Nat → Nat
  | [] => 0
  | a :: r => a * 2 ^ r.length + wid r
theorem take_mem_le {α : Type} {l : List α} {m n : Nat} (h : m ≤ n) {x : α} (hx : x ∈ l.take m) : x ∈ l.take n := by
  have : l.take m = (l.take n).take m := by rw [List.take_take, Nat.min_eq_left h]
  rw [this] at hx
  exact List.mem_of_mem_take hx
theorem wid_zero : ∀ {qs : List Nat}, wid qs = 0 → qs.headD 0 = 0
  | [], _ => rfl
  | a :: r, h => by
    rw [wid] at h
    have : 0 < 2 ^ r.length := Nat.pow_pos (by decide)
    have : a * 2 ^ r.length = 0 := by omega
    rcases Nat.mul_eq_zero.1 this with h | h
    · exact h
    · omega
/-- What is taken of the last level: so many of the symbols of each level, no fewer of a higher one. -/
theorem lev_as (s : List Bn) (hs : Sd s) (h0 : ∀ x ∈ s, 0 ≤ x.w) : ∀ k m, m ≤ (lev s k).length → ∃ qs : List Nat, qs.length = k + 1 ∧ (∀ a ∈ qs, a ≤ s.length) ∧ qs.Pairwise (fun x y => y ≤ x) ∧ wid qs = m * 2 ^ k ∧
    (((lev s k).take m).flatMap Bn.has).Perm (qs.flatMap fun a => (s.take a).flatMap Bn.has) ∧ ∀ x ∈ s.take (qs.headD 0), x ∈ (lev s k).take m
  | 0, m, h => ⟨[m], rfl, by simpa [lev] using h, by simp, by simp [wid], by simp [lev], by simp [lev]⟩
  | k + 1, m, h => by
    have h' : m ≤ s.length + (prs (lev s k)).length := by rw [prs_len, ← lev_len]; exact h
    obtain ⟨i, j, hi, hj, hm, hp, hl⟩ := mrg_take s (prs (lev s k)) m hs h'
    have hj2 : 2 * j ≤ (lev s k).length := by rw [prs_len] at hj; omega
    obtain ⟨qs, a1, a2, a3, a4, a5, a6⟩ := lev_as s hs h0 k (2 * j) hj2
    have hhead : qs.headD 0 ≤ i := by
      rcases Nat.lt_or_ge i (qs.headD 0) with hlt | hge
      · exfalso
        have hhn : qs.headD 0 ≤ s.length := by
          cases qs with
          | nil => simp at a1
          | cons a r => exact a2 a (by simp)
        have hil : i < s.length := by omega
        have hx : s[i]? = some s[i] := List.getElem?_eq_getElem hil
        have hxm : s[i] ∈ s.take (qs.headD 0) := List.mem_take_iff_getElem.2 ⟨i, by omega, rfl⟩
        have hxl := a6 _ hxm
        obtain ⟨t, ht, et⟩ := List.mem_take_iff_getElem.1 hxl
        have hj0 : 0 < j := by omega
        obtain ⟨y, hy⟩ : ∃ y, (prs (lev s k))[j - 1]? = some y := ⟨_, List.getElem?_eq_getElem (by omega)⟩
        have h1 := hl _ y hx hj0 hy
        obtain ⟨u, v, hu, hv, rfl⟩ := prs_at _ _ _ hy
        have h2 := (lev_sd hs k).le (i := t) (j := 2 * (j - 1) + 1) (x := s[i]) (y := v) (by rw [← et]; exact List.getElem?_eq_getElem (by omega)) hv (by omega)
        have h3 := lev_nn h0 k u (List.mem_of_getElem? hu)
        simp only at h1
        omega
      · exact hge
    refine ⟨i :: qs, by simp [a1], ?_, ?_, ?_, ?_, ?_⟩
    · intro a ha
      rcases List.mem_cons.1 ha with rfl | ha
      · exact hi
      · exact a2 a ha
    · refine List.pairwise_cons.2 ⟨fun a ha => ?_, a3⟩
      cases qs with
      | nil => simp at ha
      | cons b r =>
        rcases List.mem_cons.1 ha with rfl | ha
        · exact hhead
        · have := (List.pairwise_cons.1 a3).1 a ha
          simp at hhead
          omega
    · rw [wid, a4, a1, ← hm, Nat.add_mul, Nat.pow_succ]
      congr 1
      rw [Nat.mul_comm 2 j, Nat.mul_assoc, Nat.mul_comm 2]
    · refine (hp.flatMap_right Bn.has).trans ?_
      rw [List.flatMap_append, List.flatMap_cons]
      refine List.Perm.append_left _ ?_
      rw [prs_has _ _ hj]
      exact a5
    · intro x hx
      exact hp.mem_iff.2 (List.mem_append_left _ hx)
/-! ### how often each symbol was taken -/
def nsum (f : Nat → Nat) : Nat → Nat
  | 0 => 0
  | n + 1 => nsum f n + f n
theorem nsum_congr {f g : Nat → Nat} : ∀ n, (∀ r, r < n → f r = g r) → nsum f n = nsum g n
  | 0, _ => rfl
  | n + 1, h => by rw [nsum, nsum, nsum_congr n (fun r hr => h r (by omega)), h n (by omega)]
theorem nsum_add (f g : Nat → Nat) : ∀ n, nsum (fun r => f r + g r) n = nsum f n + nsum g n
  | 0 => rfl
  | n + 1 => by rw [nsum, nsum, nsum, nsum_add f g n]; omega
theorem nsum_const (c : Nat) : ∀ n, nsum (fun _ => c) n = n * c
  | 0 => by rw [nsum, Nat.zero_mul]
  | n + 1 => by rw [nsum, nsum_const c n, Nat.add_mul, Nat.one_mul]
theorem nsum_below (c a : Nat) : ∀ n, nsum (fun r => if r < a then c else 0) n = min a n * c
  | 0 => by simp [nsum]
  | n + 1 => by
    rw [nsum, nsum_below c a n]
    by_cases h : n < a
    · rw [if_pos h, show min a (n + 1) = min a n + 1 from by omega, Nat.add_mul, Nat.one_mul]
    · rw [if_neg h, show min a (n + 1) = min a n from by omega, Nat.add_zero]
def cnr (qs : List Nat) (r : Nat) : Nat := qs.countP (fun a => decide (r < a))
theorem cnr_le (qs : List Nat) (r : Nat) : cnr qs r ≤ qs.length := List.countP_le_length
/-- The rows of bits that begin with no code are qs many qs the widths are too few. -/
theorem wid_sum (n : Nat) : ∀ qs : List Nat, (∀ a ∈ qs, a ≤ n) → qs.Pairwise (fun x y => y ≤ x) → nsum (fun r => 2 ^ (qs.length - cnr qs r)) n + wid qs = n * 2 ^ qs.length
  | [], _, _ => by rw [wid]; simp [cnr, nsum_const]
  | a :: qs, hn, hp => by
    have ih := wid_sum n qs (fun x hx => hn x (by simp [hx])) (List.pairwise_cons.1 hp).2
    have hz : ∀ r, ¬ r < a → cnr qs r = 0 := fun r hr => by
      unfold cnr
      rw [List.countP_eq_zero]
      intro b hb
      have := (List.pairwise_cons.1 hp).1 b hb
      simp; omega
    have e : nsum (fun r => 2 ^ ((a :: qs).length - cnr (a :: qs) r) + if r < a then 2 ^ qs.length else 0) n = nsum (fun r => 2 ^ (qs.length - cnr qs r) + 2 ^ qs.length) n := by
      refine nsum_congr n (fun r _ => ?_)
      have hc := cnr_le qs r
      by_cases h : r < a
      · have e1 : cnr (a :: qs) r = cnr qs r + 1 := by unfold cnr; rw [List.countP_cons_of_pos (by simpa using h)]
        rw [if_pos h, e1, List.length_cons, show qs.length + 1 - (cnr qs r + 1) = qs.length - cnr qs r from by omega]
      · have e1 : cnr (a :: qs) r = cnr qs r := by unfold cnr; rw [List.countP_cons_of_neg (by simpa using h)]
        rw [if_neg h, e1, hz r h, List.length_cons, Nat.sub_zero, Nat.sub_zero, Nat.pow_succ]; omega
    rw [nsum_add, nsum_add, nsum_below, nsum_const, Nat.min_eq_left (hn a (by simp))] at e
    rw [wid, List.length_cons, Nat.pow_succ, ← Nat.mul_assoc]
    rw [List.length_cons] at e
    generalize n * 2 ^ qs.length = X at *
    generalize a * 2 ^ qs.length = Y at *
    omega
/-- Of m = 2 n - 2 taken: the code is whole, each symbol has a length. -/
theorem wid_whole {qs : List Nat} {n k : Nat} (h2 : 2 ≤ n) (hl : qs.length = k + 1) (hn : ∀ a ∈ qs, a ≤ n) (hp : qs.Pairwise (fun x y => y ≤ x)) (hw : wid qs = (2 * n - 2) * 2 ^ k) :
    nsum (fun r => 2 ^ (k + 1 - cnr qs r)) n = 2 ^ (k + 1) := by
  have h := wid_sum n qs hn hp
  rw [hl, hw] at h
  have hk : (2 * n - 2) * 2 ^ k + 2 ^ (k + 1) = n * 2 ^ (k + 1) := by
    rw [Nat.pow_succ, Nat.mul_comm (2 ^ k) 2, ← Nat.mul_assoc n, ← Nat.add_mul]
    congr 1; omega
  omega
theorem nsum_pos {f : Nat → Nat} (hf : ∀ r, 0 < f r) : ∀ {n r : Nat}, r < n → f r ≤ nsum f n ∧ (2 ≤ n → f r < nsum f n)
  | 0, r, h => by omega
  | n + 1, r, h => by
    rw [nsum]
    by_cases hr : r = n
    · subst hr
      refine ⟨by omega, fun h2 => ?_⟩
      have := (nsum_pos hf (n := r) (r := 0) (by omega)).1
      have := hf 0
      omega
    · have := (nsum_pos hf (n := n) (r := r) (by omega)).1
      have := hf n
      exact ⟨by omega, fun _ => by omega⟩
theorem cnr_pos {qs : List Nat} {n k : Nat} (h2 : 2 ≤ n) (h : nsum (fun r => 2 ^ (k + 1 - cnr qs r)) n = 2 ^ (k + 1)) {r : Nat} (hr : r < n) : 1 ≤ cnr qs r := by
  rcases Nat.eq_zero_or_pos (cnr qs r) with h0 | h0
  · exfalso
    have := (nsum_pos (f := fun r => 2 ^ (k + 1 - cnr qs r)) (fun r => Nat.pow_pos (by decide)) hr).2 h2
    simp only [h0, Nat.sub_zero] at this
    omega
  · exact h0
end Go.Proofs.Ytfmglcgdcdcpaaa
