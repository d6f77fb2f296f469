import Derived.Test.YtfmglcgdcdcpaaaBase
namespace Go.Proofs.Ytfmglcgdcdcpaaa
set_option linter.unusedVariables false
set_option linter.unusedSimpArgs false

/-! ### a stable sort in place, plainly -/
def at0 (L : List Int) (p : Nat) : Int := L.getD p 0
theorem at0_ext {L M : List Int} (hl : L.length = M.length) (h : ∀ p, p < L.length → at0 L p = at0 M p) : L = M := by
  apply List.ext_getElem hl
  intro i h1 h2
  have := h i h1
  unfold at0 at this
  rw [List.getD_eq_getElem?_getD, List.getD_eq_getElem?_getD, List.getElem?_eq_getElem h1, List.getElem?_eq_getElem h2] at this
  exact this
theorem at0_set {L : List Int} {i : Nat} (hi : i < L.length) (k : Nat) (x : Int) : at0 (L.set i x) k = if k = i then x else at0 L k := by
  unfold at0
  rw [List.getD_eq_getElem?_getD, List.getElem?_set, List.getD_eq_getElem?_getD]
  by_cases h : i = k
  · subst h
    rw [if_pos rfl, if_pos hi, if_pos rfl]; rfl
  · rw [if_neg h, if_neg (fun e => h e.symm)]
def swp (L : List Int) (i j : Nat) : List Int := (L.set i (at0 L j)).set j (at0 L i)
section
variable {L : List Int} {i j : Nat}
theorem swp_len : (swp L i j).length = L.length := by simp [swp]
theorem swp_at (hi : i < L.length) (hj : j < L.length) (k : Nat) : at0 (swp L i j) k = if k = j then at0 L i else if k = i then at0 L j else at0 L k := by
  unfold swp
  rw [at0_set (by simpa using hj), at0_set hi]
theorem swp_perm (hi : i < L.length) (hj : j < L.length) : (swp L i j).Perm L := by
  unfold swp at0
  rw [List.getD_eq_getElem?_getD, List.getD_eq_getElem?_getD, List.getElem?_eq_getElem hi, List.getElem?_eq_getElem hj]
  exact List.set_set_perm hi hj
end
section
variable (key : Int → Int)
def SortK (L : List Int) (a b : Nat) : Prop := ∀ p q, a ≤ p → p ≤ q → q < b → key (at0 L p) ≤ key (at0 L q)
def Stab (L : List Int) : Prop := ∀ p q, p < q → q < L.length → key (at0 L p) = key (at0 L q) → at0 L p < at0 L q
structure Shuf (a b : Nat) (L L' : List Int) : Prop where
  perm : L'.Perm L
  out : ∀ p, p < a ∨ b ≤ p → at0 L' p = at0 L p
  in_ : ∀ p, a ≤ p → p < b → ∃ q, a ≤ q ∧ q < b ∧ at0 L' p = at0 L q
  stab : Stab key L → Stab key L'
end
section
variable {key : Int → Int} {a b : Nat} {L L' L'' : List Int}
theorem Shuf.refl (key : Int → Int) (a b : Nat) (L : List Int) : Shuf key a b L L := ⟨List.Perm.refl _, fun _ _ => rfl, fun p h1 h2 => ⟨p, h1, h2, rfl⟩, fun h => h⟩
theorem Shuf.trans (h : Shuf key a b L L') (k : Shuf key a b L' L'') : Shuf key a b L L'' :=
  ⟨k.perm.trans h.perm, fun p hp => (k.out p hp).trans (h.out p hp), fun p h1 h2 => by
    obtain ⟨q, q1, q2, e⟩ := k.in_ p h1 h2
    obtain ⟨r, r1, r2, e2⟩ := h.in_ q q1 q2
    exact ⟨r, r1, r2, e.trans e2⟩, fun hs => k.stab (h.stab hs)⟩
theorem Shuf.mono {a' b' : Nat} (h : Shuf key a b L L') (ha : a' ≤ a) (hb : b ≤ b') : Shuf key a' b' L L' :=
  ⟨h.perm, fun p hp => h.out p (by omega), fun p h1 h2 => by
    by_cases hp : a ≤ p ∧ p < b
    · obtain ⟨q, q1, q2, e⟩ := h.in_ p hp.1 hp.2
      exact ⟨q, by omega, by omega, e⟩
    · exact ⟨p, h1, h2, h.out p (by omega)⟩, h.stab⟩
theorem Shuf.len (h : Shuf key a b L L') : L'.length = L.length := h.perm.length_eq
/-- What is sorted elsewhere stays so. -/
theorem Shuf.sort_out (h : Shuf key a b L L') {c d : Nat} (hs : SortK key L c d) (ho : d ≤ a ∨ b ≤ c) : SortK key L' c d := fun p q h1 h2 h3 => by
  rw [h.out p (by omega), h.out q (by omega)]; exact hs p q h1 h2 h3
/-- Two that stand side by side, the greater one ahead, change places. -/
theorem swp_shuf {i j lo : Nat} (hlo : lo + 1 < L.length) (hij : (i = lo ∧ j = lo + 1) ∨ (i = lo + 1 ∧ j = lo)) (ha : a ≤ lo) (hb : lo + 1 < b) (hk : key (at0 L (lo + 1)) < key (at0 L lo)) : Shuf key a b L (swp L i j) := by
  have hi : i < L.length := by omega
  have hj : j < L.length := by omega
  have hat : ∀ k, at0 (swp L i j) k = if k = lo then at0 L (lo + 1) else if k = lo + 1 then at0 L lo else at0 L k := fun k => by
    rw [swp_at hi hj]
    rcases hij with ⟨rfl, rfl⟩ | ⟨rfl, rfl⟩
    · by_cases h1 : k = i + 1
      · subst h1; rw [if_pos rfl, if_neg (by omega), if_pos rfl]
      · rw [if_neg h1]
        by_cases h2 : k = i
        · rw [if_pos h2, if_pos h2]
        · rw [if_neg h2, if_neg h2, if_neg h1]
    · rfl
  refine ⟨swp_perm hi hj, fun p hp => by rw [hat, if_neg (by omega), if_neg (by omega)], fun p h1 h2 => ?_, fun hs p q hpq hq hk2 => ?_⟩
  · by_cases e1 : p = lo
    · exact ⟨lo + 1, by omega, by omega, by rw [hat, if_pos e1]⟩
    · by_cases e2 : p = lo + 1
      · exact ⟨lo, by omega, by omega, by rw [hat, if_neg e1, if_pos e2]⟩
      · exact ⟨p, h1, h2, by rw [hat, if_neg e1, if_neg e2]⟩
  · rw [swp_len] at hq
    rw [hat, hat] at hk2 ⊢
    by_cases p1 : p = lo
    · rw [if_pos p1] at hk2 ⊢
      by_cases q1 : q = lo + 1
      · rw [if_neg (by omega), if_pos q1] at hk2 ⊢
        omega
      · rw [if_neg (by omega), if_neg q1] at hk2 ⊢
        exact hs _ _ (by omega) hq hk2
    · rw [if_neg p1] at hk2 ⊢
      by_cases p2 : p = lo + 1
      · rw [if_pos p2, if_neg (by omega), if_neg (by omega)] at hk2 ⊢
        exact hs _ _ (by omega) hq hk2
      · rw [if_neg p2] at hk2 ⊢
        by_cases q1 : q = lo
        · rw [if_pos q1] at hk2 ⊢
          exact hs _ _ (by omega) hlo hk2
        · rw [if_neg q1] at hk2 ⊢
          by_cases q2 : q = lo + 1
          · rw [if_pos q2] at hk2 ⊢
            exact hs _ _ (by omega) (by omega) hk2
          · rw [if_neg q2] at hk2 ⊢
            exact hs _ _ hpq hq hk2
end
/-! ### insertion -/
structure Ins (key : Int → Int) (a i : Nat) (L0 : List Int) (j : Nat) (L : List Int) : Prop where
  shuf : Shuf key a (i + 1) L0 L
  oth : ∀ p q, a ≤ p → p ≤ q → q ≤ i → p ≠ j → q ≠ j → key (at0 L p) ≤ key (at0 L q)
  be : ∀ q, j < q → q ≤ i → key (at0 L j) ≤ key (at0 L q)
  aj : a ≤ j
  ji : j ≤ i
section
variable {key : Int → Int} {a i j : Nat} {L0 L : List Int}
theorem Ins.start (h : SortK key L a i) (hi : a ≤ i) : Ins key a i L i L := ⟨Shuf.refl _ _ _ _, fun p q h1 h2 h3 h4 h5 => h p q h1 h2 (by omega), fun q h1 h2 => by omega, hi, Nat.le_refl _⟩
theorem Ins.step (h : Ins key a i L0 j L) (hl : i < L.length) (ha : a < j) (hk : key (at0 L j) < key (at0 L (j - 1))) : Ins key a i L0 (j - 1) (swp L j (j - 1)) := by
  have hji := h.ji
  have hat := fun k => swp_at (L := L) (i := j) (j := j - 1) (by omega) (by omega) k
  refine ⟨h.shuf.trans (swp_shuf (lo := j - 1) (by omega) (.inr ⟨by omega, rfl⟩) (by omega) (by omega) (by rw [show j - 1 + 1 = j from by omega]; exact hk)), fun p q h1 h2 h3 h4 h5 => ?_, fun q h1 h2 => ?_, by omega, by omega⟩
  · rw [hat, hat, if_neg h4, if_neg h5]
    by_cases p1 : p = j
    · rw [if_pos p1]
      by_cases q1 : q = j
      · rw [if_pos q1]; exact Int.le_refl _
      · rw [if_neg q1]; exact h.oth _ _ (by omega) (by omega) h3 (by omega) q1
    · rw [if_neg p1]
      by_cases q1 : q = j
      · rw [if_pos q1]; exact h.oth _ _ h1 (by omega) (by omega) p1 (by omega)
      · rw [if_neg q1]; exact h.oth _ _ h1 h2 h3 p1 q1
  · rw [hat, hat, if_pos rfl, if_neg (by omega)]
    by_cases q1 : q = j
    · rw [if_pos q1]; omega
    · rw [if_neg q1]; exact h.be q (by omega) h2
theorem Ins.done (h : Ins key a i L0 j L) (hd : j = a ∨ ¬ key (at0 L j) < key (at0 L (j - 1))) : SortK key L a (i + 1) := fun p q h1 h2 h3 => by
  have hji := h.ji
  have haj := h.aj
  by_cases p1 : p = j
  · by_cases q1 : q = j
    · rw [p1, q1]; exact Int.le_refl _
    · rw [p1]; exact h.be q (by omega) (by omega)
  · by_cases q1 : q = j
    · rcases hd with hd | hd
      · omega
      · have := h.oth p (j - 1) h1 (by omega) (by omega) p1 (by omega)
        rw [q1]; omega
    · exact h.oth p q h1 h2 (by omega) p1 q1
end
/-! ### one put among others -/
structure PutL (key : Int → Int) (a b i : Nat) (L0 : List Int) (k : Nat) (L : List Int) : Prop where
  shuf : Shuf key a b L0 L
  me : at0 L k = at0 L0 a
  lo : ∀ p, a ≤ p → p < k → at0 L p = at0 L0 (p + 1)
  hi : ∀ p, k < p → at0 L p = at0 L0 p
  ak : a ≤ k
  ki : k < i
structure PutR (key : Int → Int) (a m i : Nat) (L0 : List Int) (k : Nat) (L : List Int) : Prop where
  shuf : Shuf key a (m + 1) L0 L
  me : at0 L k = at0 L0 m
  lo : ∀ p, p < k → at0 L p = at0 L0 p
  hi : ∀ p, k < p → p ≤ m → at0 L p = at0 L0 (p - 1)
  ik : i ≤ k
  km : k ≤ m
section
variable {key : Int → Int} {a b m i k : Nat} {L0 L : List Int}
theorem PutL.start (hi : a < i) : PutL key a b i L a L := ⟨Shuf.refl _ _ _ _, rfl, fun p h1 h2 => by omega, fun _ _ => rfl, Nat.le_refl _, hi⟩
theorem PutL.step (h : PutL key a b i L0 k L) (hl : b ≤ L.length) (hib : i ≤ b) (hk : k + 1 < i) (hs : ∀ p, a < p → p < i → key (at0 L0 p) < key (at0 L0 a)) : PutL key a b i L0 (k + 1) (swp L k (k + 1)) := by
  have hak := h.ak
  have hat := fun q => swp_at (L := L) (i := k) (j := k + 1) (by omega) (by omega) q
  refine ⟨h.shuf.trans (swp_shuf (lo := k) (by omega) (.inl ⟨rfl, rfl⟩) hak (by omega) (by rw [h.me, h.hi _ (by omega)]; exact hs _ (by omega) hk)), ?_, fun p h1 h2 => ?_, fun p h1 => ?_, by omega, hk⟩
  · rw [hat, if_pos rfl, h.me]
  · rw [hat, if_neg (by omega)]
    by_cases e : p = k
    · rw [if_pos e, h.hi _ (by omega), e]
    · rw [if_neg e, h.lo p h1 (by omega)]
  · rw [hat, if_neg (by omega), if_neg (by omega), h.hi p (by omega)]
theorem PutL.done (h : PutL key a b i L0 k L) (hk : k + 1 = i) (hib : i ≤ b) (hso : SortK key L0 (a + 1) b) (hs : ∀ p, a < p → p < i → key (at0 L0 p) < key (at0 L0 a)) (hg : ∀ p, i ≤ p → p < b → key (at0 L0 a) ≤ key (at0 L0 p)) : SortK key L a b := by
  have hak := h.ak
  have e : ∀ p, a ≤ p → p < b → at0 L p = if p < k then at0 L0 (p + 1) else if p = k then at0 L0 a else at0 L0 p := fun p h1 h2 => by
    by_cases c1 : p < k
    · rw [if_pos c1, h.lo p h1 c1]
    · by_cases c2 : p = k
      · rw [if_neg c1, if_pos c2, c2, h.me]
      · rw [if_neg c1, if_neg c2, h.hi p (by omega)]
  intro p q h1 h2 h3
  rw [e p h1 (by omega), e q (by omega) h3]
  by_cases p1 : p < k
  · rw [if_pos p1]
    by_cases q1 : q < k
    · rw [if_pos q1]; exact hso _ _ (by omega) (by omega) (by omega)
    · rw [if_neg q1]
      by_cases q2 : q = k
      · rw [if_pos q2]; have := hs (p + 1) (by omega) (by omega); omega
      · rw [if_neg q2]; exact hso _ _ (by omega) (by omega) (by omega)
  · rw [if_neg p1, if_neg (show ¬ q < k by omega)]
    by_cases p2 : p = k
    · rw [if_pos p2]
      by_cases q2 : q = k
      · rw [if_pos q2]; exact Int.le_refl _
      · rw [if_neg q2]; exact hg q (by omega) h3
    · rw [if_neg p2, if_neg (by omega)]; exact hso _ _ (by omega) h2 h3
theorem PutR.start (him : i ≤ m) : PutR key a m i L m L := ⟨Shuf.refl _ _ _ _, rfl, fun _ _ => rfl, fun p h1 h2 => by omega, him, Nat.le_refl _⟩
theorem PutR.step (h : PutR key a m i L0 k L) (hl : m < L.length) (hai : a ≤ i) (hk : i < k) (hs : ∀ p, i ≤ p → p < m → key (at0 L0 m) < key (at0 L0 p)) : PutR key a m i L0 (k - 1) (swp L k (k - 1)) := by
  have hkm := h.km
  have hat := fun q => swp_at (L := L) (i := k) (j := k - 1) (by omega) (by omega) q
  refine ⟨h.shuf.trans (swp_shuf (lo := k - 1) (by omega) (.inr ⟨by omega, rfl⟩) (by omega) (by omega) (by rw [show k - 1 + 1 = k from by omega, h.me, h.lo _ (by omega)]; exact hs _ (by omega) (by omega))), ?_, fun p h1 => ?_, fun p h1 h2 => ?_, by omega, by omega⟩
  · rw [hat, if_pos rfl, h.me]
  · rw [hat, if_neg (by omega), if_neg (by omega), h.lo p (by omega)]
  · rw [hat, if_neg (by omega)]
    by_cases e : p = k
    · rw [if_pos e, h.lo _ (by omega), e]
    · rw [if_neg e, h.hi p (by omega) h2]
theorem PutR.done (h : PutR key a m i L0 k L) (hk : k = i) (hai : a ≤ i) (hso : SortK key L0 a m) (hs : ∀ p, i ≤ p → p < m → key (at0 L0 m) < key (at0 L0 p)) (hg : ∀ p, a ≤ p → p < i → key (at0 L0 p) ≤ key (at0 L0 m)) : SortK key L a (m + 1) := by
  have hkm := h.km
  have e : ∀ p, a ≤ p → p ≤ m → at0 L p = if p < k then at0 L0 p else if p = k then at0 L0 m else at0 L0 (p - 1) := fun p h1 h2 => by
    by_cases c1 : p < k
    · rw [if_pos c1, h.lo p c1]
    · by_cases c2 : p = k
      · rw [if_neg c1, if_pos c2, c2, h.me]
      · rw [if_neg c1, if_neg c2, h.hi p (by omega) h2]
  intro p q h1 h2 h3
  rw [e p h1 (by omega), e q (by omega) (by omega)]
  by_cases p1 : p < k
  · rw [if_pos p1]
    by_cases q1 : q < k
    · rw [if_pos q1]; exact hso _ _ (by omega) (by omega) (by omega)
    · rw [if_neg q1]
      by_cases q2 : q = k
      · rw [if_pos q2]; exact hg p h1 (by omega)
      · rw [if_neg q2]; exact hso _ _ (by omega) (by omega) (by omega)
  · rw [if_neg p1, if_neg (show ¬ q < k by omega)]
    by_cases p2 : p = k
    · rw [if_pos p2]
      by_cases q2 : q = k
      · rw [if_pos q2]; exact Int.le_refl _
      · rw [if_neg q2]; have := hs (q - 1) (by omega) (by omega); omega
    · rw [if_neg p2, if_neg (by omega)]; exact hso _ _ (by omega) (by omega) (by omega)
end
/-! ### two blocks change places -/
def rotF (L : List Int) (a i j : Nat) (p : Nat) : Int := if a ≤ p ∧ p < a + j then at0 L (p + i) else if a + j ≤ p ∧ p < a + j + i then at0 L (p - j) else at0 L p
structure Swr (a b n : Nat) (L L' : List Int) : Prop where
  perm : L'.Perm L
  at_ : ∀ p, at0 L' p = if a ≤ p ∧ p < a + n then at0 L (p - a + b) else if b ≤ p ∧ p < b + n then at0 L (p - b + a) else at0 L p
theorem Swr.start (a b : Nat) (L : List Int) : Swr a b 0 L L := ⟨List.Perm.refl _, fun p => by rw [if_neg (by omega), if_neg (by omega)]⟩
theorem Swr.step {a b n : Nat} {L L' : List Int} (h : Swr a b n L L') (hab : a + n < b) (hl : b + n < L.length) : Swr a b (n + 1) L (swp L' (a + n) (b + n)) := by
  have hl' := h.perm.length_eq
  refine ⟨(swp_perm (by omega) (by omega)).trans h.perm, fun p => ?_⟩
  rw [swp_at (by omega) (by omega)]
  by_cases p1 : p = b + n
  · rw [if_pos p1, h.at_, if_neg (by omega), if_neg (by omega), if_neg (by omega), if_pos (by omega), show p - b + a = a + n from by omega]
  · rw [if_neg p1]
    by_cases p2 : p = a + n
    · rw [if_pos p2, h.at_, if_neg (by omega), if_neg (by omega), if_pos (by omega), show p - a + b = b + n from by omega]
    · rw [if_neg p2, h.at_]
      by_cases c1 : a ≤ p ∧ p < a + n
      · rw [if_pos c1, if_pos (by omega)]
      · by_cases c2 : b ≤ p ∧ p < b + n
        · rw [if_neg c1, if_pos c2, if_neg (by omega), if_pos (by omega)]
        · rw [if_neg c1, if_neg c2, if_neg (by omega), if_neg (by omega)]
/-- A round of the turning: the greater block ahead. -/
theorem rot_left {m i j : Nat} {L L' : List Int} (h : Swr (m - i) m j L L') (him : i ≤ m) (hij : j < i) (p : Nat) : rotF L' (m - (i - j)) (i - j) j p = rotF L (m - i) i j p := by
  unfold rotF
  by_cases c0 : m - i ≤ p ∧ p < m - i + j
  · rw [if_pos c0, if_neg (by omega), if_neg (by omega), h.at_, if_pos c0, show p - (m - i) + m = p + i from by omega]
  · rw [if_neg c0]
    by_cases c1 : m - (i - j) ≤ p ∧ p < m - (i - j) + j
    · rw [if_pos c1, if_pos (by omega), h.at_, if_neg (by omega), if_pos (by omega), show p + (i - j) - m + (m - i) = p - j from by omega]
    · rw [if_neg c1]
      by_cases c2 : m - (i - j) + j ≤ p ∧ p < m - (i - j) + j + (i - j)
      · rw [if_pos c2, if_pos (by omega), h.at_, if_neg (by omega), if_neg (by omega)]
      · rw [if_neg c2, if_neg (by omega), h.at_, if_neg c0, if_neg (by omega)]
/-- .. behind. -/
theorem rot_right {m i j : Nat} {L L' : List Int} (h : Swr (m - i) (m + j - i) i L L') (him : i ≤ m) (hij : i < j) (p : Nat) : rotF L' (m - i) i (j - i) p = rotF L (m - i) i j p := by
  unfold rotF
  by_cases c0 : m - i ≤ p ∧ p < m - i + (j - i)
  · rw [if_pos c0, if_pos (by omega), h.at_, if_neg (by omega), if_neg (by omega)]
  · rw [if_neg c0]
    by_cases c1 : m - i + (j - i) ≤ p ∧ p < m - i + (j - i) + i
    · rw [if_pos c1, if_pos (by omega), h.at_, if_pos (by omega), show p - (j - i) - (m - i) + (m + j - i) = p + i from by omega]
    · rw [if_neg c1]
      by_cases c2 : m + j - i ≤ p ∧ p < m + j - i + i
      · rw [if_neg (by omega), if_pos (by omega), h.at_, if_neg (by omega), if_pos c2, show p - (m + j - i) + (m - i) = p - j from by omega]
      · rw [if_neg (by omega), if_neg (by omega), h.at_, if_neg (by omega), if_neg c2]
theorem rot_even {m i : Nat} {L L' : List Int} (h : Swr (m - i) m i L L') (him : i ≤ m) (p : Nat) : at0 L' p = rotF L (m - i) i i p := by
  unfold rotF
  rw [h.at_]
  by_cases c0 : m - i ≤ p ∧ p < m - i + i
  · rw [if_pos c0, if_pos c0, show p - (m - i) + m = p + i from by omega]
  · rw [if_neg c0, if_neg c0]
    by_cases c1 : m ≤ p ∧ p < m + i
    · rw [if_pos c1, if_pos (by omega), show p - m + (m - i) = p - i from by omega]
    · rw [if_neg c1, if_neg (by omega)]
/-- The blocks [a, m) and [m, b) have changed places. -/
structure Rot (a m b : Nat) (L L' : List Int) : Prop where
  perm : L'.Perm L
  at_ : ∀ p, at0 L' p = rotF L a (m - a) (b - m) p
theorem Rot.shuf {key : Int → Int} {a m b : Nat} {L L' : List Int} (h : Rot a m b L L') (h1 : a ≤ m) (h2 : m ≤ b) (hb : b ≤ L.length) (hk : ∀ p q, a ≤ p → p < m → m ≤ q → q < b → key (at0 L q) < key (at0 L p)) : Shuf key a b L L' := by
  refine ⟨h.perm, fun p hp => by rw [h.at_, rotF, if_neg (by omega), if_neg (by omega)], fun p p1 p2 => ?_, fun hs p q hpq hq hkk => ?_⟩
  · rw [h.at_, rotF]
    by_cases c : p < a + (b - m)
    · exact ⟨p + (m - a), by omega, by omega, by rw [if_pos (by omega)]⟩
    · exact ⟨p - (b - m), by omega, by omega, by rw [if_neg (by omega), if_pos (by omega)]⟩
  · rw [h.perm.length_eq] at hq
    rw [h.at_, h.at_, rotF, rotF] at hkk ⊢
    by_cases p0 : a ≤ p ∧ p < a + (b - m)
    · rw [if_pos p0] at hkk ⊢
      by_cases q0 : a ≤ q ∧ q < a + (b - m)
      · rw [if_pos q0] at hkk ⊢; exact hs _ _ (by omega) (by omega) hkk
      · rw [if_neg q0] at hkk ⊢
        by_cases q1 : a + (b - m) ≤ q ∧ q < a + (b - m) + (m - a)
        · rw [if_pos q1] at hkk ⊢
          have := hk (q - (b - m)) (p + (m - a)) (by omega) (by omega) (by omega) (by omega)
          omega
        · rw [if_neg q1] at hkk ⊢; exact hs _ _ (by omega) hq hkk
    · rw [if_neg p0] at hkk ⊢
      by_cases p1 : a + (b - m) ≤ p ∧ p < a + (b - m) + (m - a)
      · rw [if_pos p1, if_neg (by omega)] at hkk ⊢
        by_cases q1 : a + (b - m) ≤ q ∧ q < a + (b - m) + (m - a)
        · rw [if_pos q1] at hkk ⊢; exact hs _ _ (by omega) (by omega) hkk
        · rw [if_neg q1] at hkk ⊢; exact hs _ _ (by omega) hq hkk
      · rw [if_neg p1] at hkk ⊢
        by_cases q0 : a ≤ q ∧ q < a + (b - m)
        · rw [if_pos q0] at hkk ⊢; exact hs _ _ (by omega) (by omega) hkk
        · rw [if_neg q0] at hkk ⊢
          by_cases q1 : a + (b - m) ≤ q ∧ q < a + (b - m) + (m - a)
          · rw [if_pos q1] at hkk ⊢; exact hs _ _ (by omega) (by omega) hkk
          · rw [if_neg q1] at hkk ⊢; exact hs _ _ hpq hq hkk
/-! ### two sorted blocks made one -/
/-- The middle of [a, b) parts the lesser from the greater ones; each side is two sorted parts. -/
structure Half (key : Int → Int) (a s mid e b : Nat) (L L' : List Int) : Prop where
  shuf : Shuf key a b L L'
  cross : ∀ p q, a ≤ p → p < mid → mid ≤ q → q < b → key (at0 L' p) ≤ key (at0 L' q)
  l1 : SortK key L' a s
  l2 : SortK key L' s mid
  r1 : SortK key L' mid e
  r2 : SortK key L' e b
theorem half_of {key : Int → Int} {a m b s : Nat} {L L' : List Int} (hb : b ≤ L.length) (ha : a < m) (hm : m < b) (h1 : SortK key L a m) (h2 : SortK key L m b)
    (s0 r0 mid : Nat) (hmid : mid = (a + b) / 2) (hs0 : s0 = if mid < m then mid + m - b else a) (hr0 : r0 = if mid < m then mid else m) (hs : s0 ≤ s) (hr : s ≤ r0)
    (hlo : ∀ c, s0 ≤ c → c < s → key (at0 L c) ≤ key (at0 L (mid + m - 1 - c))) (hhi : ∀ c, s ≤ c → c < r0 → key (at0 L (mid + m - 1 - c)) < key (at0 L c))
    (hrot : if s < m ∧ m < mid + m - s then Rot s m (mid + m - s) L L' else L' = L) : Half key a s mid (mid + m - s) b L L' := by
  have hsm : s ≤ mid ∧ s ≤ m ∧ a ≤ s ∧ mid + m - s ≤ b ∧ m ≤ mid + m - s ∧ mid ≤ mid + m - s := by
    by_cases c : mid < m
    · rw [if_pos c] at hs0 hr0; omega
    · rw [if_neg c] at hs0 hr0; omega
  obtain ⟨k1, k2, k3, k4, k5, k6⟩ := hsm
  have hat : ∀ p, at0 L' p = rotF L s (m - s) (mid - s) p := fun p => by
    by_cases c : s < m ∧ m < mid + m - s
    · rw [if_pos c] at hrot
      rw [hrot.at_, show mid + m - s - m = mid - s from by omega]
    · rw [if_neg c] at hrot
      rw [hrot, rotF]
      by_cases d : s = m
      · subst d
        by_cases e : s ≤ p ∧ p < s + (mid - s)
        · rw [if_pos e, Nat.sub_self, Nat.add_zero]
        · rw [if_neg e, if_neg (by omega)]
      · have d2 : mid = s := by omega
        rw [if_neg (by omega)]
        by_cases e : s + (mid - s) ≤ p ∧ p < s + (mid - s) + (m - s)
        · rw [if_pos e, d2, Nat.sub_self, Nat.sub_zero]
        · rw [if_neg e]
  -- what was behind the cut and goes ahead of it is less
  have kuv : ∀ p q, s ≤ p → p < m → m ≤ q → q < mid + m - s → key (at0 L q) < key (at0 L p) := fun p q p1 p2 q1 q2 => by
    rcases Nat.lt_or_ge s r0 with c | c
    · have e1 := hhi s (Nat.le_refl _) c
      have e2 := h2 q (mid + m - 1 - s) q1 (by omega) (by omega)
      have e3 := h1 s p k3 p1 p2
      omega
    · exfalso
      by_cases d : mid < m
      · rw [if_pos d] at hr0; omega
      · rw [if_neg d] at hr0; omega
  have klr : ∀ p q, a ≤ p → p < s → mid + m - s ≤ q → q < b → key (at0 L p) ≤ key (at0 L q) := fun p q p1 p2 q1 q2 => by
    rcases Nat.lt_or_ge s0 s with c | c
    · have e1 := hlo (s - 1) (by omega) (by omega)
      rw [show mid + m - 1 - (s - 1) = mid + m - s from by omega] at e1
      have e2 := h2 (mid + m - s) q k5 q1 q2
      have e3 := h1 p (s - 1) p1 (by omega) (by omega)
      omega
    · exfalso
      by_cases d : mid < m
      · rw [if_pos d] at hs0; omega
      · rw [if_neg d] at hs0; omega
  -- where the four parts stand
  have w1 : ∀ p, p < s → at0 L' p = at0 L p := fun p hp => by rw [hat, rotF, if_neg (by omega), if_neg (by omega)]
  have w2 : ∀ p, s ≤ p → p < mid → at0 L' p = at0 L (p + (m - s)) := fun p p1 p2 => by rw [hat, rotF, if_pos (by omega)]
  have w3 : ∀ p, mid ≤ p → p < mid + m - s → at0 L' p = at0 L (p - (mid - s)) := fun p p1 p2 => by rw [hat, rotF, if_neg (by omega), if_pos (by omega)]
  have w4 : ∀ p, mid + m - s ≤ p → at0 L' p = at0 L p := fun p hp => by rw [hat, rotF, if_neg (by omega), if_neg (by omega)]
  refine ⟨?_, fun p q p1 p2 q1 q2 => ?_, fun p q p1 p2 p3 => ?_, fun p q p1 p2 p3 => ?_, fun p q p1 p2 p3 => ?_, fun p q p1 p2 p3 => ?_⟩
  · by_cases c : s < m ∧ m < mid + m - s
    · rw [if_pos c] at hrot
      exact (hrot.shuf (by omega) (by omega) (by omega) kuv).mono k3 k4
    · rw [if_neg c] at hrot
      rw [hrot]; exact Shuf.refl _ _ _ _
  · by_cases c1 : p < s
    · rw [w1 p c1]
      by_cases c2 : q < mid + m - s
      · rw [w3 q q1 c2]; exact h1 _ _ p1 (by omega) (by omega)
      · rw [w4 q (by omega)]; exact klr p q p1 c1 (by omega) q2
    · rw [w2 p (by omega) p2]
      by_cases c2 : q < mid + m - s
      · rw [w3 q q1 c2]
        have := kuv (q - (mid - s)) (p + (m - s)) (by omega) (by omega) (by omega) (by omega)
        omega
      · rw [w4 q (by omega)]; exact h2 _ _ (by omega) (by omega) q2
  · rw [w1 p (by omega), w1 q (by omega)]; exact h1 p q p1 p2 (by omega)
  · rw [w2 p (by omega) (by omega), w2 q (by omega) (by omega)]; exact h2 _ _ (by omega) (by omega) (by omega)
  · rw [w3 p (by omega) (by omega), w3 q (by omega) (by omega)]; exact h1 _ _ (by omega) (by omega) (by omega)
  · rw [w4 p (by omega), w4 q (by omega)]; exact h2 _ _ (by omega) p2 p3
/-- Both sides sorted: all is. -/
theorem Half.done {key : Int → Int} {a s mid e b : Nat} {L L1 L2 L3 : List Int} (h : Half key a s mid e b L L1) (hab : a ≤ mid ∧ mid ≤ b) (h1 : Shuf key a mid L1 L2) (s1 : SortK key L2 a mid) (h2 : Shuf key mid b L2 L3) (s2 : SortK key L3 mid b) : Shuf key a b L L3 ∧ SortK key L3 a b := by
  refine ⟨h.shuf.trans ((h1.mono (Nat.le_refl _) hab.2).trans (h2.mono hab.1 (Nat.le_refl _))), fun p q p1 p2 p3 => ?_⟩
  by_cases c1 : q < mid
  · rw [h2.out p (by omega), h2.out q (by omega)]; exact s1 p q p1 p2 c1
  · by_cases c2 : p < mid
    · rw [h2.out p (by omega)]
      obtain ⟨p', p4, p5, e1⟩ := h1.in_ p p1 c2
      obtain ⟨q', q4, q5, e2⟩ := h2.in_ q (by omega) p3
      rw [e1, e2, h1.out q' (by omega)]
      exact h.cross p' q' p4 p5 q4 q5
    · exact s2 p q (by omega) p2 p3
/-- Sorted, of like ones the lesser ahead: there is one such row alone. -/
theorem sort_one {key : Int → Int} {L M : List Int} (hp : L.Perm M) (h1 : SortK key L 0 L.length) (h2 : Stab key L) (h3 : SortK key M 0 M.length) (h4 : Stab key M) : L = M := by
  have pw : ∀ {N : List Int}, SortK key N 0 N.length → Stab key N → N.Pairwise (fun x y => key x < key y ∨ (key x = key y ∧ x < y)) := fun {N} s1 s2 => by
    refine List.pairwise_iff_getElem.2 (fun i j hi hj hij => ?_)
    have e : ∀ k (hk : k < N.length), at0 N k = N[k] := fun k hk => by unfold at0; rw [List.getD_eq_getElem?_getD, List.getElem?_eq_getElem hk]; rfl
    have a1 := s1 i j (by omega) (by omega) hj
    have a2 := s2 i j hij hj
    rw [e i hi, e j hj] at a1 a2
    rcases Int.lt_or_le (key N[i]) (key N[j]) with c | c
    · exact .inl c
    · have : key N[i] = key N[j] := by omega
      exact .inr ⟨this, a2 this⟩
  refine hp.eq_of_pairwise (le := fun x y => key x < key y ∨ (key x = key y ∧ x < y)) (fun x y _ _ c d => ?_) (pw h1 h2) (pw h3 h4)
  exfalso
  rcases c with c | c <;> rcases d with d | d <;> omega
end Go.Proofs.Ytfmglcgdcdcpaaa
