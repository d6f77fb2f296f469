import Derived.Test.YteknaaijlkenkaaBase
namespace Go.Proofs.Yteknaaijlkenkaa
set_option linter.unusedVariables false
set_option linter.unusedSimpArgs false

/-! ### bits as lists of 0 and 1; bytes out of them -/
/-- A list of 0 and 1. -/
def bin (t : List Int) : Prop := ∀ x ∈ t, x = 0 ∨ x = 1
theorem bin_nil : bin [] := fun x h => by simp at h
theorem bin_append {a b : List Int} (ha : bin a) (hb : bin b) : bin (a ++ b) := fun x hx => by
  rcases List.mem_append.1 hx with h | h
  · exact ha x h
  · exact hb x h
theorem bin_one {x : Int} (h : x = 0 ∨ x = 1) : bin [x] := fun y hy => by simp at hy; subst hy; exact h
theorem bin_rep (n : Nat) : bin (List.replicate n 0) := fun x hx => .inl (List.eq_of_mem_replicate hx)
theorem bin_rev {a : List Int} (ha : bin a) : bin a.reverse := fun x hx => ha x (by simpa using hx)
theorem bin_take {a : List Int} (ha : bin a) (n : Nat) : bin (a.take n) := fun x hx => ha x (List.mem_of_mem_take hx)
theorem bin_drop {a : List Int} (ha : bin a) (n : Nat) : bin (a.drop n) := fun x hx => ha x (List.mem_of_mem_drop hx)
theorem bin_getD {t : List Int} (h : bin t) (i : Nat) : t.getD i 0 = 0 ∨ t.getD i 0 = 1 := by
  rw [List.getD_eq_getElem?_getD]
  by_cases hi : i < t.length
  · rw [List.getElem?_eq_getElem hi]; exact h _ (List.getElem_mem hi)
  · rw [List.getElem?_eq_none (by omega)]; exact .inl rfl
theorem getD_snoc (t : List Int) (x : Int) (i : Nat) : (t ++ [x]).getD i 0 = t.getD i 0 + if i = t.length then x else 0 := by
  rw [List.getD_eq_getElem?_getD, List.getD_eq_getElem?_getD]
  by_cases h : i < t.length
  · rw [List.getElem?_append_left h, if_neg (by omega), Int.add_zero]
  · rw [List.getElem?_append_right (by omega), List.getElem?_eq_none (by omega : t.length ≤ i)]
    by_cases e : i = t.length
    · subst e; simp
    · rw [if_neg e, List.getElem?_eq_none (by simp; omega)]; rfl
theorem getD_past (t : List Int) {i : Nat} (h : t.length ≤ i) : t.getD i 0 = 0 := by
  rw [List.getD_eq_getElem?_getD, List.getElem?_eq_none h]; rfl

def byteAt (t : List Int) (k : Nat) : Int := t.getD (8 * k) 0 + t.getD (8 * k + 1) 0 * 2 + t.getD (8 * k + 2) 0 * 4 + t.getD (8 * k + 3) 0 * 8 + t.getD (8 * k + 4) 0 * 16 + t.getD (8 * k + 5) 0 * 32 + t.getD (8 * k + 6) 0 * 64 + t.getD (8 * k + 7) 0 * 128
theorem byteAt_range {t : List Int} (h : bin t) (k : Nat) : 0 ≤ byteAt t k ∧ byteAt t k < 256 := by
  unfold byteAt
  have h0 := bin_getD h (8 * k); have h1 := bin_getD h (8 * k + 1); have h2 := bin_getD h (8 * k + 2); have h3 := bin_getD h (8 * k + 3)
  have h4 := bin_getD h (8 * k + 4); have h5 := bin_getD h (8 * k + 5); have h6 := bin_getD h (8 * k + 6); have h7 := bin_getD h (8 * k + 7)
  omega
theorem byteAt_past (t : List Int) {k : Nat} (h : t.length ≤ 8 * k) : byteAt t k = 0 := by
  unfold byteAt
  rw [getD_past t (by omega), getD_past t (by omega), getD_past t (by omega), getD_past t (by omega), getD_past t (by omega), getD_past t (by omega), getD_past t (by omega), getD_past t (by omega)]
  rfl
theorem byteAt_snoc (t : List Int) (x : Int) (k : Nat) : byteAt (t ++ [x]) k = byteAt t k + if k = t.length / 8 then x * 2 ^ (t.length % 8) else 0 := by
  unfold byteAt
  simp only [getD_snoc]
  by_cases hk : k = t.length / 8
  · rw [if_pos hk]
    have hr : t.length % 8 < 8 := Nat.mod_lt _ (by decide)
    have hq : t.length = 8 * k + t.length % 8 := by omega
    generalize t.length % 8 = r at *
    match r, hr with
    | 0, _ => rw [if_pos (by omega), if_neg (by omega), if_neg (by omega), if_neg (by omega), if_neg (by omega), if_neg (by omega), if_neg (by omega), if_neg (by omega)]; omega
    | 1, _ => rw [if_neg (by omega), if_pos (by omega), if_neg (by omega), if_neg (by omega), if_neg (by omega), if_neg (by omega), if_neg (by omega), if_neg (by omega)]; omega
    | 2, _ => rw [if_neg (by omega), if_neg (by omega), if_pos (by omega), if_neg (by omega), if_neg (by omega), if_neg (by omega), if_neg (by omega), if_neg (by omega)]; omega
    | 3, _ => rw [if_neg (by omega), if_neg (by omega), if_neg (by omega), if_pos (by omega), if_neg (by omega), if_neg (by omega), if_neg (by omega), if_neg (by omega)]; omega
    | 4, _ => rw [if_neg (by omega), if_neg (by omega), if_neg (by omega), if_neg (by omega), if_pos (by omega), if_neg (by omega), if_neg (by omega), if_neg (by omega)]; omega
    | 5, _ => rw [if_neg (by omega), if_neg (by omega), if_neg (by omega), if_neg (by omega), if_neg (by omega), if_pos (by omega), if_neg (by omega), if_neg (by omega)]; omega
    | 6, _ => rw [if_neg (by omega), if_neg (by omega), if_neg (by omega), if_neg (by omega), if_neg (by omega), if_neg (by omega), if_pos (by omega), if_neg (by omega)]; omega
    | 7, _ => rw [if_neg (by omega), if_neg (by omega), if_neg (by omega), if_neg (by omega), if_neg (by omega), if_neg (by omega), if_neg (by omega), if_pos (by omega)]; omega
    | r + 8, h => omega
  · rw [if_neg hk]
    have e : ∀ j, j < 8 → ¬ 8 * k + j = t.length := fun j hj h => hk (by omega)
    rw [if_neg (show ¬ 8 * k = t.length from e 0 (by omega)), if_neg (e 1 (by omega)), if_neg (e 2 (by omega)), if_neg (e 3 (by omega)), if_neg (e 4 (by omega)), if_neg (e 5 (by omega)), if_neg (e 6 (by omega)), if_neg (e 7 (by omega))]
    omega
/-- The last byte holds no more than the bits that are there. -/
theorem byteAt_last {t : List Int} (h : bin t) : byteAt t (t.length / 8) < 2 ^ (t.length % 8) := by
  have hr : t.length % 8 < 8 := Nat.mod_lt _ (by decide)
  generalize hk : t.length / 8 = k
  have hq : t.length = 8 * k + t.length % 8 := by omega
  unfold byteAt
  have h0 := bin_getD h (8 * k); have h1 := bin_getD h (8 * k + 1); have h2 := bin_getD h (8 * k + 2); have h3 := bin_getD h (8 * k + 3)
  have h4 := bin_getD h (8 * k + 4); have h5 := bin_getD h (8 * k + 5); have h6 := bin_getD h (8 * k + 6)
  have p : ∀ j, t.length % 8 ≤ j → t.getD (8 * k + j) 0 = 0 := fun j hj => getD_past t (by omega)
  generalize t.length % 8 = r at *
  have p7 := p 7 (by omega)
  match r, hr with
  | 0, _ => have p0 := p 0 (by omega); have p1 := p 1 (by omega); have p2 := p 2 (by omega); have p3 := p 3 (by omega); have p4 := p 4 (by omega); have p5 := p 5 (by omega); have p6 := p 6 (by omega); simp only [Nat.add_zero] at p0; omega
  | 1, _ => have p1 := p 1 (by omega); have p2 := p 2 (by omega); have p3 := p 3 (by omega); have p4 := p 4 (by omega); have p5 := p 5 (by omega); have p6 := p 6 (by omega); omega
  | 2, _ => have p2 := p 2 (by omega); have p3 := p 3 (by omega); have p4 := p 4 (by omega); have p5 := p 5 (by omega); have p6 := p 6 (by omega); omega
  | 3, _ => have p3 := p 3 (by omega); have p4 := p 4 (by omega); have p5 := p 5 (by omega); have p6 := p 6 (by omega); omega
  | 4, _ => have p4 := p 4 (by omega); have p5 := p 5 (by omega); have p6 := p 6 (by omega); omega
  | 5, _ => have p5 := p 5 (by omega); have p6 := p 6 (by omega); omega
  | 6, _ => have p6 := p 6 (by omega); omega
  | 7, _ => omega
  | r + 8, h => omega

/-- So many bytes of the bits. -/
def packN (t : List Int) (m : Nat) : List Int := (List.range m).map (byteAt t)
def packB (t : List Int) : List Int := packN t ((t.length + 7) / 8)
theorem packN_length (t : List Int) (m : Nat) : (packN t m).length = m := by simp [packN]
theorem packB_length (t : List Int) : (packB t).length = (t.length + 7) / 8 := packN_length _ _
theorem packN_at (t : List Int) {m k : Nat} (h : k < m) : (packN t m)[k]? = some (byteAt t k) := by simp [packN, h]
theorem packN_getD (t : List Int) {m k : Nat} (h : k < m) : (packN t m).getD k 0 = byteAt t k := by rw [List.getD_eq_getElem?_getD, packN_at t h]; rfl
theorem packN_nil (m : Nat) : packN [] m = List.replicate m 0 := by
  apply List.ext_getElem?
  intro i
  by_cases h : i < m
  · rw [packN_at _ h, byteAt_past _ (by simp)]; simp [h]
  · rw [List.getElem?_eq_none (by rw [packN_length]; omega), List.getElem?_eq_none (by simp; omega)]
theorem packN_snoc (t : List Int) (x : Int) {m : Nat} (h : t.length / 8 < m) : packN (t ++ [x]) m = (packN t m).set (t.length / 8) (byteAt t (t.length / 8) + x * 2 ^ (t.length % 8)) := by
  apply List.ext_getElem?
  intro i
  by_cases hi : i < m
  · rw [packN_at _ hi, byteAt_snoc, List.getElem?_set]
    by_cases e : i = t.length / 8
    · rw [if_pos e, if_pos e.symm, if_pos (by rw [packN_length]; omega), e]
    · rw [if_neg e, if_neg (fun h => e h.symm), packN_at _ hi, Int.add_zero]
  · rw [List.getElem?_eq_none (by rw [packN_length]; omega), List.getElem?_eq_none (by rw [List.length_set, packN_length]; omega)]
theorem packN_more (t : List Int) {m : Nat} (h : t.length ≤ 8 * m) : packN t (m + 1) = packN t m ++ [0] := by
  unfold packN
  rw [List.range_succ, List.map_append, List.map_cons, List.map_nil, byteAt_past t h]
/-- One bit more. -/
theorem packB_snoc_new (t : List Int) (x : Int) (h : t.length % 8 = 0) : packB (t ++ [x]) = (packB t ++ [0]).set (t.length / 8) (byteAt t (t.length / 8) + x * 2 ^ (t.length % 8)) := by
  have e : ((t ++ [x]).length + 7) / 8 = (t.length + 7) / 8 + 1 := by simp; omega
  unfold packB
  rw [e, packN_snoc _ _ (by omega), packN_more _ (by omega)]
theorem packB_snoc_old (t : List Int) (x : Int) (h : ¬ t.length % 8 = 0) : packB (t ++ [x]) = (packB t).set (t.length / 8) (byteAt t (t.length / 8) + x * 2 ^ (t.length % 8)) := by
  have e : ((t ++ [x]).length + 7) / 8 = (t.length + 7) / 8 := by simp; omega
  unfold packB
  rw [e, packN_snoc _ _ (by omega)]
theorem packN_u8 {t : List Int} (h : bin t) (m : Nat) : ∀ x ∈ packN t m, 0 ≤ x ∧ x < 256 := fun x hx => by
  obtain ⟨k, _, rfl⟩ := List.mem_map.1 hx
  exact byteAt_range h k

/-- Filled up to a byte's end. -/
def alignT (t : List Int) : List Int := t ++ List.replicate ((8 - t.length % 8) % 8) 0
theorem alignT_length (t : List Int) : (alignT t).length = (t.length + 7) / 8 * 8 := by simp [alignT]; omega
theorem getD_zeros (t : List Int) (n i : Nat) : (t ++ List.replicate n 0).getD i 0 = t.getD i 0 := by
  rw [List.getD_eq_getElem?_getD, List.getD_eq_getElem?_getD]
  by_cases h : i < t.length
  · rw [List.getElem?_append_left h]
  · rw [List.getElem?_append_right (by omega), List.getElem?_eq_none (by omega : t.length ≤ i)]
    rw [List.getElem?_replicate]; split <;> rfl
theorem byteAt_zeros (t : List Int) (n k : Nat) : byteAt (t ++ List.replicate n 0) k = byteAt t k := by unfold byteAt; simp only [getD_zeros]
theorem packB_align (t : List Int) : packB (alignT t) = packB t := by
  unfold packB packN
  rw [show (alignT t).length = (t.length + 7) / 8 * 8 from alignT_length t, show ((t.length + 7) / 8 * 8 + 7) / 8 = (t.length + 7) / 8 from by omega]
  exact List.map_congr_left fun k _ => byteAt_zeros t _ k
theorem bin_align {t : List Int} (h : bin t) : bin (alignT t) := bin_append h (bin_rep _)
theorem alignT_of {t : List Int} (h : t.length % 8 = 0) : alignT t = t := by unfold alignT; rw [h]; simp

/-- A byte's bits, the lowest first. -/
def of8 (x : Int) : List Int := [x % 2, x / 2 % 2, x / 4 % 2, x / 8 % 2, x / 16 % 2, x / 32 % 2, x / 64 % 2, x / 128 % 2]
def ofB (b : List Int) : List Int := b.flatMap of8
theorem of8_length (x : Int) : (of8 x).length = 8 := rfl
theorem ofB_length (b : List Int) : (ofB b).length = 8 * b.length := by
  induction b with
  | nil => rfl
  | cons x b ih =>
    show (of8 x ++ ofB b).length = _
    rw [List.length_append, ih, of8_length, List.length_cons]; omega
theorem bin_of8 (x : Int) : bin (of8 x) := fun y hy => by
  simp only [of8, List.mem_cons, List.not_mem_nil, or_false] at hy
  omega
theorem bin_ofB (b : List Int) : bin (ofB b) := fun y hy => by
  obtain ⟨x, _, h⟩ := List.mem_flatMap.1 hy
  exact bin_of8 x y h
theorem ofB_append (a b : List Int) : ofB (a ++ b) = ofB a ++ ofB b := List.flatMap_append
theorem of8_at (x : Int) {j : Nat} (h : j < 8) : (of8 x)[j]? = some (x / 2 ^ j % 2) := by
  match j, h with
  | 0, _ => simp [of8]
  | 1, _ => rfl
  | 2, _ => rfl
  | 3, _ => rfl
  | 4, _ => rfl
  | 5, _ => rfl
  | 6, _ => rfl
  | 7, _ => rfl
  | j + 8, h => omega
theorem ofB_at : ∀ (b : List Int) (i : Nat) {x : Int}, b[i / 8]? = some x → (ofB b)[i]? = some (x / 2 ^ (i % 8) % 2)
  | [], i, x, h => by simp at h
  | y :: b, i, x, h => by
    show (of8 y ++ ofB b)[i]? = _
    by_cases hi : i < 8
    · rw [show i / 8 = 0 from by omega] at h
      simp at h; subst h
      rw [List.getElem?_append_left (by rw [of8_length]; exact hi), of8_at _ hi, Nat.mod_eq_of_lt hi]
    · rw [List.getElem?_append_right (by rw [of8_length]; omega), of8_length]
      rw [show i / 8 = (i - 8) / 8 + 1 from by omega, List.getElem?_cons_succ] at h
      rw [ofB_at b (i - 8) h, show (i - 8) % 8 = i % 8 from by omega]
theorem byte_bits {x : Int} (h0 : 0 ≤ x) (h1 : x < 256) : x % 2 + x / 2 % 2 * 2 + x / 4 % 2 * 4 + x / 8 % 2 * 8 + x / 16 % 2 * 16 + x / 32 % 2 * 32 + x / 64 % 2 * 64 + x / 128 % 2 * 128 = x := by omega
theorem byteAt_ofB {b : List Int} {k : Nat} {x : Int} (h : b[k]? = some x) (h0 : 0 ≤ x) (h1 : x < 256) : byteAt (ofB b) k = x := by
  have g : ∀ j, j < 8 → (ofB b).getD (8 * k + j) 0 = x / 2 ^ j % 2 := fun j hj => by
    rw [List.getD_eq_getElem?_getD, ofB_at b (8 * k + j) (x := x) (by rw [show (8 * k + j) / 8 = k from by omega]; exact h), show (8 * k + j) % 8 = j from by omega]; rfl
  unfold byteAt
  rw [show (ofB b).getD (8 * k) 0 = x % 2 from by have := g 0 (by omega); simpa using this, g 1 (by omega), g 2 (by omega), g 3 (by omega), g 4 (by omega), g 5 (by omega), g 6 (by omega), g 7 (by omega)]
  simpa using byte_bits h0 h1
theorem packB_ofB {b : List Int} (h : ∀ x ∈ b, 0 ≤ x ∧ x < 256) : packB (ofB b) = b := by
  apply List.ext_getElem?
  intro i
  unfold packB
  rw [ofB_length]
  by_cases hi : i < b.length
  · have hx := h _ (List.getElem_mem hi)
    rw [packN_at _ (by omega), byteAt_ofB (List.getElem?_eq_getElem hi) hx.1 hx.2, List.getElem?_eq_getElem hi]
  · rw [List.getElem?_eq_none (by rw [packN_length]; omega), List.getElem?_eq_none (by omega)]
theorem byteAt_left {t s : List Int} {k : Nat} (h : 8 * k + 8 ≤ t.length) : byteAt (t ++ s) k = byteAt t k := by
  have g : ∀ i, i < t.length → (t ++ s).getD i 0 = t.getD i 0 := fun i hi => by rw [List.getD_eq_getElem?_getD, List.getD_eq_getElem?_getD, List.getElem?_append_left hi]
  unfold byteAt
  rw [g _ (by omega), g _ (by omega), g _ (by omega), g _ (by omega), g _ (by omega), g _ (by omega), g _ (by omega), g _ (by omega)]
theorem byteAt_right {t s : List Int} {m k : Nat} (h : t.length = 8 * m) : byteAt (t ++ s) (m + k) = byteAt s k := by
  have g : ∀ j, (t ++ s).getD (8 * (m + k) + j) 0 = s.getD (8 * k + j) 0 := fun j => by
    rw [List.getD_eq_getElem?_getD, List.getD_eq_getElem?_getD, List.getElem?_append_right (by omega)]
    congr 2; omega
  unfold byteAt
  rw [g 1, g 2, g 3, g 4, g 5, g 6, g 7, show (t ++ s).getD (8 * (m + k)) 0 = s.getD (8 * k) 0 from g 0]
/-- Whole bytes ahead stay as they are. -/
theorem packB_append {t : List Int} (s : List Int) (h : t.length % 8 = 0) : packB (t ++ s) = packB t ++ packB s := by
  obtain ⟨m, hm⟩ : ∃ m, t.length = 8 * m := ⟨t.length / 8, by omega⟩
  apply List.ext_getElem?
  intro i
  by_cases hi : i < m
  · rw [List.getElem?_append_left (by rw [packB_length]; omega)]
    unfold packB
    rw [packN_at _ (by simp; omega), packN_at _ (by omega), byteAt_left (by omega)]
  · rw [List.getElem?_append_right (by rw [packB_length]; omega), packB_length, hm, show (8 * m + 7) / 8 = m from by omega]
    unfold packB
    by_cases hj : i - m < (s.length + 7) / 8
    · rw [packN_at _ (by simp; omega), packN_at _ hj]
      have := byteAt_right (s := s) (k := i - m) hm
      rw [show m + (i - m) = i from by omega] at this
      rw [this]
    · rw [List.getElem?_eq_none (by rw [packN_length]; simp; omega), List.getElem?_eq_none (by rw [packN_length]; omega)]
theorem packB_raw {t b : List Int} (hb : ∀ x ∈ b, 0 ≤ x ∧ x < 256) : packB (alignT t ++ ofB b) = packB t ++ b := by
  rw [packB_append _ (by rw [alignT_length]; omega), packB_align, packB_ofB hb]
theorem bit_range {t : List Int} (h : bin t) (i : Nat) : 0 ≤ t.getD i 0 ∧ t.getD i 0 ≤ 1 := by have := bin_getD h i; omega
theorem bits8 (a b c d e f g h : Int) (ha : 0 ≤ a ∧ a ≤ 1) (hb : 0 ≤ b ∧ b ≤ 1) (hc : 0 ≤ c ∧ c ≤ 1) (hd : 0 ≤ d ∧ d ≤ 1) (he : 0 ≤ e ∧ e ≤ 1) (hf : 0 ≤ f ∧ f ≤ 1) (hg : 0 ≤ g ∧ g ≤ 1) (hh : 0 ≤ h ∧ h ≤ 1) (x : Int)
    (hx : x = a + b * 2 + c * 4 + d * 8 + e * 16 + f * 32 + g * 64 + h * 128) :
    x / 1 % 2 = a ∧ x / 2 % 2 = b ∧ x / 4 % 2 = c ∧ x / 8 % 2 = d ∧ x / 16 % 2 = e ∧ x / 32 % 2 = f ∧ x / 64 % 2 = g ∧ x / 128 % 2 = h := by
  refine ⟨?_, ?_, ?_, ?_, ?_, ?_, ?_, ?_⟩ <;> omega
theorem byteAt_bit {t : List Int} (h : bin t) (k : Nat) {r : Nat} (hr : r < 8) : byteAt t k / 2 ^ r % 2 = t.getD (8 * k + r) 0 := by
  obtain ⟨e0, e1, e2, e3, e4, e5, e6, e7⟩ := bits8 _ _ _ _ _ _ _ _ (bit_range h (8 * k)) (bit_range h (8 * k + 1)) (bit_range h (8 * k + 2)) (bit_range h (8 * k + 3)) (bit_range h (8 * k + 4)) (bit_range h (8 * k + 5)) (bit_range h (8 * k + 6)) (bit_range h (8 * k + 7)) (byteAt t k) rfl
  match r, hr with
  | 0, _ => exact e0
  | 1, _ => exact e1
  | 2, _ => exact e2
  | 3, _ => exact e3
  | 4, _ => exact e4
  | 5, _ => exact e5
  | 6, _ => exact e6
  | 7, _ => exact e7
  | r + 8, h => omega
/-- The bits of the bytes are the bits, filled up. -/
theorem ofB_packB {t : List Int} (h : bin t) : ofB (packB t) = alignT t := by
  apply List.ext_getElem?
  intro i
  by_cases hi : i < (t.length + 7) / 8 * 8
  · rw [ofB_at (packB t) i (x := byteAt t (i / 8)) (packN_at _ (by omega))]
    have hg : (alignT t)[i]? = some (t.getD i 0) := by
      have := getD_zeros t ((8 - t.length % 8) % 8) i
      rw [List.getD_eq_getElem?_getD, List.getElem?_eq_getElem (by have := alignT_length t; unfold alignT at this; omega)] at this
      rw [← this]
      exact List.getElem?_eq_getElem _
    rw [hg]
    congr 1
    have hr : i % 8 < 8 := Nat.mod_lt _ (by decide)
    have hq : i = 8 * (i / 8) + i % 8 := by omega
    have gi : t.getD i 0 = t.getD (8 * (i / 8) + i % 8) 0 := by rw [← hq]
    rw [gi]
    generalize i / 8 = k at *
    generalize i % 8 = r at *
    exact byteAt_bit h k hr
  · rw [List.getElem?_eq_none (by rw [ofB_length, packB_length]; omega), List.getElem?_eq_none (by rw [alignT_length]; omega)]

/-! ### the operators on bits -/
theorem and_maskK (k : IntKind) (hk : k = .u32 ∨ k = .u64 ∨ k = .u8) (x : Int) (j : Nat) (hj : j ≤ k.bits) : bits .and k x ((2 ^ j - 1 : Nat) : Int) = x % ((2 ^ j : Nat) : Int) := by
  have hp : 2 ^ j ≤ 2 ^ k.bits := Nat.pow_le_pow_right (by decide) hj
  have hp0 : 0 < 2 ^ j := Nat.pow_pos (by omega)
  have e1 : (BitVec.ofInt k.bits ((2 ^ j - 1 : Nat) : Int)).toNat = 2 ^ j - 1 := by
    rw [BitVec.ofInt_natCast, BitVec.toNat_ofNat]; exact Nat.mod_eq_of_lt (by omega)
  have hd : (((2 ^ j : Nat) : Int)) ∣ ((2 ^ k.bits : Nat) : Int) := Int.natCast_dvd_natCast.2 (Nat.pow_dvd_pow 2 (by omega))
  have e2 : (((BitVec.ofInt k.bits x).toNat : Nat) : Int) = x % ((2 ^ k.bits : Nat) : Int) := by
    rw [BitVec.toNat_ofInt]; exact Int.toNat_of_nonneg (Int.emod_nonneg _ (by omega))
  show k.wrap ((BitVec.ofInt k.bits x &&& BitVec.ofInt k.bits ((2 ^ j - 1 : Nat) : Int)).toNat : Int) = _
  rw [BitVec.toNat_and, e1, Nat.and_two_pow_sub_one_eq_mod]
  have e3 : (((BitVec.ofInt k.bits x).toNat % 2 ^ j : Nat) : Int) = x % ((2 ^ j : Nat) : Int) := by
    rw [Int.natCast_emod, e2, Int.emod_emod_of_dvd _ hd]
  have h1 := Int.emod_nonneg x (b := ((2 ^ j : Nat) : Int)) (by omega)
  have h2 := Int.emod_lt_of_pos x (b := ((2 ^ j : Nat) : Int)) (by omega)
  rw [e3]
  generalize x % ((2 ^ j : Nat) : Int) = y at *
  have h3 : ((2 ^ j : Nat) : Int) ≤ ((2 ^ k.bits : Nat) : Int) := Int.ofNat_le.2 hp
  rcases hk with rfl | rfl | rfl
  · rw [IntKind.wrap_u32]; simp only [IntKind.bits] at h3; omega
  · rw [IntKind.wrap_u64]; simp only [IntKind.bits] at h3; omega
  · rw [IntKind.wrap_u8]; simp only [IntKind.bits] at h3; omega
/-- x & 2^j - 1, x | y where y has no digit of x. -/
theorem or_addK (k : IntKind) (hk : k = .u32 ∨ k = .u64 ∨ k = .u8) (a b r : Nat) (ha : a < 2 ^ r) (hb : a + b * 2 ^ r < 2 ^ k.bits) : bits .or k (a : Int) ((b : Int) * 2 ^ r) = (a : Int) + b * 2 ^ r := by
  have hp0 : 0 < 2 ^ r := Nat.pow_pos (by omega)
  have ec : ((b : Int) * 2 ^ r) = ((b * 2 ^ r : Nat) : Int) := by rw [Int.natCast_mul, Int.natCast_pow]; rfl
  have hb2 : b * 2 ^ r < 2 ^ k.bits := by omega
  have ha2 : a < 2 ^ k.bits := by omega
  have e1 : (BitVec.ofInt k.bits (a : Int)).toNat = a := by
    rw [BitVec.ofInt_natCast, BitVec.toNat_ofNat]; exact Nat.mod_eq_of_lt ha2
  have e2 : (BitVec.ofInt k.bits ((b * 2 ^ r : Nat) : Int)).toNat = b * 2 ^ r := by
    rw [BitVec.ofInt_natCast, BitVec.toNat_ofNat]; exact Nat.mod_eq_of_lt hb2
  rw [ec]
  show k.wrap ((BitVec.ofInt k.bits (a : Int) ||| BitVec.ofInt k.bits ((b * 2 ^ r : Nat) : Int)).toNat : Int) = _
  rw [BitVec.toNat_or, e1, e2, Nat.or_comm, Nat.mul_comm, ← Nat.two_pow_add_eq_or_of_lt ha, Nat.mul_comm]
  generalize b * 2 ^ r = y at *
  rcases hk with rfl | rfl | rfl
  · rw [IntKind.wrap_u32]; simp only [IntKind.bits] at hb; omega
  · rw [IntKind.wrap_u64]; simp only [IntKind.bits] at hb; omega
  · rw [IntKind.wrap_u8]; simp only [IntKind.bits] at hb; omega

/-- The lowest n bits of a number, the lowest first. -/
def bitT (v : Int) : Nat → List Int
  | 0 => []
  | n + 1 => bitT v n ++ [v / 2 ^ n % 2]
def putT (v n : Int) : List Int := if n < 1 ∨ 32 < n then [] else bitT v n.toNat
def codeT (v n : Int) : List Int := (putT v n).reverse
theorem bitT_length (v : Int) : ∀ n, (bitT v n).length = n
  | 0 => rfl
  | n + 1 => by simp [bitT, bitT_length v n]
theorem bin_bitT (v : Int) : ∀ n, bin (bitT v n)
  | 0 => bin_nil
  | n + 1 => bin_append (bin_bitT v n) (bin_one (by generalize v / 2 ^ n = x; omega))
theorem bitT_at (v : Int) : ∀ {n i : Nat}, i < n → (bitT v n)[i]? = some (v / 2 ^ i % 2)
  | 0, i, h => by omega
  | n + 1, i, h => by
    rw [bitT]
    by_cases e : i = n
    · subst e; rw [List.getElem?_append_right (by rw [bitT_length]; omega), bitT_length]; simp
    · rw [List.getElem?_append_left (by rw [bitT_length]; omega)]; exact bitT_at v (by omega)
theorem putT_length (v n : Int) : (putT v n).length ≤ 32 := by
  unfold putT
  split
  · simp
  · rw [bitT_length]; omega
theorem putT_ok (v : Int) {n : Nat} (h1 : 1 ≤ n) (h2 : n ≤ 32) : putT v n = bitT v n := by
  unfold putT; rw [if_neg (by omega), Int.toNat_natCast]
theorem putT_no (v : Int) {n : Int} (h : n < 1 ∨ 32 < n) : putT v n = [] := by unfold putT; rw [if_pos h]
theorem codeT_length (v n : Int) : (codeT v n).length ≤ 32 := by unfold codeT; rw [List.length_reverse]; exact putT_length v n
theorem bin_putT (v n : Int) : bin (putT v n) := by
  unfold putT
  split
  · exact bin_nil
  · exact bin_bitT v _
/-- Bits as a number, the first one the lowest. -/
def numT : List Int → Int
  | [] => 0
  | x :: t => x + 2 * numT t
theorem numT_range : ∀ {t : List Int}, bin t → 0 ≤ numT t ∧ numT t < 2 ^ t.length
  | [], _ => by simp [numT]
  | x :: t, h => by
    have hx := h x (by simp)
    have ih := numT_range (t := t) (fun y hy => h y (by simp [hy]))
    rw [numT, List.length_cons, Int.pow_succ]
    generalize (2 : Int) ^ t.length = p at *
    omega
theorem numT_snoc : ∀ (t : List Int) (x : Int), numT (t ++ [x]) = numT t + x * 2 ^ t.length
  | [], x => by simp [numT]
  | y :: t, x => by
    rw [List.cons_append, numT, numT_snoc t x, numT, List.length_cons, Int.pow_succ, Int.mul_add, Int.add_assoc]
    congr 2
    rw [Int.mul_comm 2, Int.mul_assoc]
theorem mod_step (v : Int) (n : Nat) (h : 0 ≤ v) : v % 2 ^ (n + 1) = v % 2 ^ n + v / 2 ^ n % 2 * 2 ^ n := by
  obtain ⟨u, rfl⟩ : ∃ u : Nat, v = u := ⟨v.toNat, by omega⟩
  have h1 : u % (2 ^ n * 2) = u % 2 ^ n + 2 ^ n * (u / 2 ^ n % 2) := Nat.mod_mul
  rw [← Nat.pow_succ] at h1
  have h2 : ((u : Int) % 2 ^ (n + 1)) = ((u % 2 ^ (n + 1) : Nat) : Int) := by rw [Int.natCast_emod, Int.natCast_pow]; rfl
  have h3 : ((u : Int) % 2 ^ n) = ((u % 2 ^ n : Nat) : Int) := by rw [Int.natCast_emod, Int.natCast_pow]; rfl
  have h4 : ((u : Int) / 2 ^ n % 2) = ((u / 2 ^ n % 2 : Nat) : Int) := by rw [Int.natCast_emod, Int.natCast_ediv, Int.natCast_pow]; rfl
  rw [h2, h3, h4, h1, Int.natCast_add, Int.natCast_mul, Int.natCast_pow, Int.mul_comm]; rfl
/-- A number's lowest bits are its rest. -/
theorem numT_bitT (v : Int) (h : 0 ≤ v) : ∀ n, numT (bitT v n) = v % 2 ^ n
  | 0 => by simp [bitT, numT, Int.emod_one]
  | n + 1 => by rw [bitT, numT_snoc, bitT_length, numT_bitT v h n, mod_step v n h]
theorem numT_of8 {x : Int} (h0 : 0 ≤ x) (h1 : x < 256) : numT (of8 x) = x := by
  simp only [of8, numT]; omega
theorem mid_take (a b c : List Int) : ((a ++ b ++ c).drop a.length).take b.length = b := by
  rw [List.append_assoc, List.drop_left, List.take_left]
end Go.Proofs.Yteknaaijlkenkaa
