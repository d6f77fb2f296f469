import Derived.Test.YtoofkcbgldbfpaaRRRBlkT
namespace Go.Proofs.YtoofkcbgldbfpaaRRR
set_option linter.unusedVariables false
set_option linter.unusedSimpArgs false

/-! ### stored blocks as bytes -/
def headB (b : List Int) (fin : Bool) : List Int := [finN fin, (b.length : Int) % 256, (b.length : Int) / 256, 255 - (b.length : Int) % 256, 255 - (b.length : Int) / 256]
def storeB (last : Bool) : Nat → List Int → List Int
  | 0, b => headB b last ++ b
  | f + 1, b => if b.length ≤ 65535 then headB b last ++ b else headB (b.take 65535) false ++ b.take 65535 ++ storeB last f (b.drop 65535)
theorem bitT_two {n : Int} (h0 : 0 ≤ n) (h : n ≤ 65535) : bitT n 16 = ofB [n % 256, n / 256] := by
  simp only [bitT, ofB, of8, List.flatMap_cons, List.flatMap_nil, List.append_nil, List.cons_append, List.nil_append, List.cons.injEq]
  simp only [Nat.zero_add, Nat.reduceAdd, and_true]
  refine ⟨?_, ?_, ?_, ?_, ?_, ?_, ?_, ?_, ?_, ?_, ?_, ?_, ?_, ?_, ?_, ?_⟩ <;> omega
theorem blkT_bytes (t b : List Int) (fin : Bool) (hb : b.length ≤ 65535) : blkT t b fin = alignT (t ++ [finN fin] ++ [0, 0]) ++ ofB ((headB b fin ++ b).drop 1) := by
  have e : ((65535 - b.length : Nat) : Int) = 65535 - (b.length : Int) := by omega
  unfold blkT
  rw [bitT_two (by omega) (by omega), bitT_two (by omega) (by omega), e, List.append_assoc, List.append_assoc, ← ofB_append, ← ofB_append]
  have e1 : (65535 - (b.length : Int)) % 256 = 255 - (b.length : Int) % 256 := by omega
  have e2 : (65535 - (b.length : Int)) / 256 = 255 - (b.length : Int) / 256 := by omega
  rw [e1, e2]
  rfl
theorem align_bits (t : List Int) (fin : Bool) (h : t.length % 8 = 0) : alignT (t ++ [finN fin] ++ [0, 0]) = t ++ ofB [finN fin] := by
  have e : (8 - (t ++ [finN fin] ++ [0, 0]).length % 8) % 8 = 5 := by simp; omega
  unfold alignT
  rw [e]
  cases fin <;> simp [ofB, of8, finN, List.replicate]
theorem storeT_al (last : Bool) : ∀ (f : Nat) (t b : List Int), t.length % 8 = 0 → b.length ≤ 65535 * (f + 1) → storeT last f t b = t ++ ofB (storeB last f b)
  | 0, t, b, h, hb => by
    rw [storeT, blkT_bytes _ _ _ (by omega), align_bits _ _ h, storeB, List.append_assoc, ← ofB_append]
    rfl
  | f + 1, t, b, h, hb => by
    rw [storeT, storeB]
    by_cases hl : b.length ≤ 65535
    · rw [if_pos hl, if_pos hl, blkT_bytes _ _ _ hl, align_bits _ _ h, List.append_assoc, ← ofB_append]
      rfl
    · have ht : (b.take 65535).length = 65535 := by rw [List.length_take]; omega
      rw [if_neg hl, if_neg hl, blkT_bytes _ _ _ (by omega), align_bits _ _ h, List.append_assoc, ← ofB_append]
      rw [storeT_al last f _ _ (by rw [List.length_append, ofB_length]; omega) (by rw [List.length_drop]; omega), List.append_assoc, ← ofB_append]
      congr 2
theorem storeT_any (last : Bool) (f : Nat) (t b : List Int) (hb : b.length ≤ 65535 * (f + 1)) : ∃ x, (x = 0 ∨ x = 1) ∧ (storeB last f b).head? = some x ∧ storeT last f t b = alignT (t ++ [x] ++ [0, 0]) ++ ofB ((storeB last f b).drop 1) := by
  have hf : ∀ q, finN q = 0 ∨ finN q = 1 := fun q => by cases q <;> simp [finN]
  cases f with
  | zero =>
    refine ⟨finN last, hf last, rfl, ?_⟩
    rw [storeT, blkT_bytes _ _ _ (by omega), storeB]
  | succ f =>
    rw [storeT, storeB]
    by_cases hl : b.length ≤ 65535
    · refine ⟨finN last, hf last, by rw [if_pos hl]; rfl, ?_⟩
      rw [if_pos hl, if_pos hl, blkT_bytes _ _ _ hl]
    · have ht : (b.take 65535).length = 65535 := by rw [List.length_take]; omega
      refine ⟨finN false, hf false, by rw [if_neg hl]; rfl, ?_⟩
      rw [if_neg hl, if_neg hl, blkT_bytes _ _ _ (by omega)]
      rw [storeT_al last f _ _ (by rw [List.length_append, ofB_length, alignT_length]; omega) (by rw [List.length_drop]; omega), List.append_assoc, ← ofB_append]
      rfl
theorem headB_u8 {b : List Int} (h : b.length ≤ 65535) (fin : Bool) : ∀ x ∈ headB b fin, 0 ≤ x ∧ x < 256 := by
  have hf : 0 ≤ finN fin ∧ finN fin < 256 := by cases fin <;> simp [finN]
  intro x hx
  simp only [headB, List.mem_cons, List.not_mem_nil, or_false] at hx
  rcases hx with rfl | rfl | rfl | rfl | rfl <;> omega
theorem storeB_u8 (last : Bool) : ∀ (f : Nat) (b : List Int), (∀ x ∈ b, 0 ≤ x ∧ x < 256) → b.length ≤ 65535 * (f + 1) → ∀ x ∈ storeB last f b, 0 ≤ x ∧ x < 256
  | 0, b, hu, hb, x, hx => by
    rw [storeB] at hx
    rcases List.mem_append.1 hx with hx | hx
    · exact headB_u8 (by omega) _ x hx
    · exact hu x hx
  | f + 1, b, hu, hb, x, hx => by
    rw [storeB] at hx
    by_cases hl : b.length ≤ 65535
    · rw [if_pos hl] at hx
      rcases List.mem_append.1 hx with hx | hx
      · exact headB_u8 (by omega) _ x hx
      · exact hu x hx
    · rw [if_neg hl] at hx
      rcases List.mem_append.1 hx with hx | hx
      · rcases List.mem_append.1 hx with hx | hx
        · exact headB_u8 (by rw [List.length_take]; omega) _ x hx
        · exact hu x (List.mem_of_mem_take hx)
      · exact storeB_u8 last f _ (fun y hy => hu y (List.mem_of_mem_drop hy)) (by rw [List.length_drop]; omega) x hx
/-- Behind k bits of nought. -/
theorem store_bytes (last : Bool) (f k : Nat) (b : List Int) (hk : k < 8) (hu : ∀ x ∈ b, 0 ≤ x ∧ x < 256) (hb : b.length ≤ 65535 * (f + 1)) :
    ∃ pre, pre.length = (if 5 < k then 2 else 1) ∧ packB (storeT last f (List.replicate k 0) b) = pre ++ (storeB last f b).drop 1 ∧ (k = 0 → pre ++ (storeB last f b).drop 1 = storeB last f b) := by
  obtain ⟨x, hx, hh, e⟩ := storeT_any last f (List.replicate k 0) b hb
  have h8 : (alignT (List.replicate k 0 ++ [x] ++ [0, 0])).length % 8 = 0 := by rw [alignT_length]; omega
  have hd : ∀ y ∈ (storeB last f b).drop 1, 0 ≤ y ∧ y < 256 := fun y hy => storeB_u8 last f b hu hb y (List.mem_of_mem_drop hy)
  refine ⟨packB (alignT (List.replicate k 0 ++ [x] ++ [0, 0])), ?_, ?_, ?_⟩
  · rw [packB_length, alignT_length]
    simp
    split <;> omega
  · rw [e, packB_append _ h8, packB_ofB hd]
  · rintro rfl
    have hp : packB (alignT (List.replicate 0 0 ++ [x] ++ [0, 0])) = [x] := by
      rcases hx with rfl | rfl <;> decide
    rw [hp]
    cases hs : storeB last f b with
    | nil => rw [hs] at hh; cases hh
    | cons y l => rw [hs] at hh; injection hh with hh; rw [hh]; rfl
end Go.Proofs.YtoofkcbgldbfpaaRRR
