import Derived.Test.YteknaaijlkenkaaBas2
import Derived.Test.YteknaaijlkenkaaRows
import Derived.Test.YteknaaijlkenkaaJBlk
import Derived.Test.YteknaaijlkenkaaArgs
import Derived.Test.YteknaaijlkenkaaJBit
namespace Go.Proofs.Yteknaaijlkenkaa
set_option linter.unusedVariables false
set_option linter.unusedSimpArgs false
open Go.RowKit

def mayN (a b c : Int) (wide : Bool) : Bool :=
  if a = 0 then b == 0
  else c == 0 && decide (3 ≤ a) && decide (a ≤ if wide then 65538 else 258) && decide (1 ≤ b) && decide (b ≤ if wide then 65536 else 32768)
end Go.Proofs.Yteknaaijlkenkaa
namespace Go.Proofs.Yteknaaijlkenkaa
open Go.RowKit
attribute [local go_sem] max2i min2i max2t min2t

def storedN (n : Int) : Int := if n < 0 then 0 else if n = 0 then 5 else min n 1073741824 + 5 * ((min n 1073741824 + 65534) / 65535)
def fixLB (s : Int) : Int := if s < 144 then 8 else if s < 256 then 9 else if s < 280 then 7 else 8
theorem fixL_range (s : Int) : 7 ≤ fixLB s ∧ fixLB s ≤ 9 := by unfold fixLB; split <;> (try split) <;> (try split) <;> omega
theorem symM_range (n : Int) (wide : Bool) : 0 ≤ symM n wide ∧ symM n wide ≤ 16 := by
  unfold symM
  split
  · omega
  · split
    · omega
    · split
      · omega
      · rename_i h1 h2 h3
        have := (len_small _ (lenIx_is (n := n.toNat) (by omega) (by omega)).1).2.2.1
        omega
theorem farM_range (n : Int) (wide : Bool) : 0 ≤ farM n wide ∧ farM n wide ≤ 14 := by
  unfold farM
  split
  · omega
  · have := (far_small _ (farIx_is (n := n.toNat) (by omega) (by omega)).1).2.2.1
    omega
def tokC (a b c : Int) (wide : Bool) : Int := if a = 0 then fixLB c else fixLB (symS a wide) + symM a wide + 5 + farM b wide
theorem tokC_range (a b c : Int) (wide : Bool) : 0 ≤ tokC a b c wide ∧ tokC a b c wide ≤ 44 := by
  have h1 := fixL_range c
  have h2 := fixL_range (symS a wide)
  have h3 := symM_range a wide
  have h4 := farM_range b wide
  unfold tokC
  split <;> omega
end Go.Proofs.Yteknaaijlkenkaa
namespace Go.Proofs.Yteknaaijlkenkaa
open Go.RowKit
attribute [local go_sem] max2i min2i max2t min2t

def finN (b : Bool) : Int := if b then 1 else 0
/-- A stored block. -/
def blkT (t b : List Int) (fin : Bool) : List Int := alignT (t ++ [finN fin] ++ [0, 0]) ++ bitT (b.length : Nat) 16 ++ bitT ((65535 - b.length : Nat) : Int) 16 ++ ofB b
def storeT (last : Bool) : Nat → List Int → List Int → List Int
  | 0, t, b => blkT t b last
  | f + 1, t, b => if b.length ≤ 65535 then blkT t b last else storeT last f (blkT t (b.take 65535) false) (b.drop 65535)
theorem storeT_small (last : Bool) (f : Nat) (t b : List Int) (h : b.length ≤ 65535) : storeT last f t b = blkT t b last := by
  cases f with
  | zero => rfl
  | succ f => rw [storeT, if_pos h]
theorem blkT_length (t b : List Int) (fin : Bool) : (blkT t b fin).length ≤ t.length + 8 * b.length + 42 := by
  unfold blkT
  rw [List.length_append, List.length_append, List.length_append, bitT_length, bitT_length, ofB_length, alignT_length]
  simp
  omega
theorem RowOf.take_ {w : World} {k : IntKind} {A : Option Addr} {c : Nat} {xs : List Int} (h : RowOf w k A c xs) (n : Nat) : RowOf w k A c (xs.take n) :=
  ⟨h.rd.take n, by have := h.cap; rw [List.length_take]; omega, h.most, fun x hx => h.wf x (List.mem_of_mem_take hx), h.nil⟩
theorem RowOf.drop_ {w : World} {k : IntKind} {A : Option Addr} {c : Nat} {xs : List Int} (h : RowOf w k A c xs) (n : Nat) (hn : n ≤ xs.length) : RowOf w k (if c = n then A else A.map (fun x => x.add n)) (c - n) (xs.drop n) := by
  have hc := h.cap
  refine ⟨fun i x hx => ?_, by rw [List.length_drop]; omega, by have := h.most; omega, fun x hx => h.wf x (List.mem_of_mem_drop hx), fun e => ?_⟩
  · rw [List.getElem?_drop] at hx
    obtain ⟨ad, e, hcell⟩ := h.rd _ x hx
    have hlt := (List.getElem?_eq_some_iff.1 hx).1
    rw [if_neg (by omega)]
    refine ⟨ad.add n, by rw [e]; rfl, ?_⟩
    rw [Go.Deep.add_add]; exact hcell
  · split at e
    · have := h.nil e; omega
    · cases hA : A with
      | none => have := h.nil hA; omega
      | some ad => rw [hA] at e; cases e
theorem RowOf.addr {w : World} {k : IntKind} {A : Option Addr} {c : Nat} {xs : List Int} (h : RowOf w k A c xs) (hx : xs ≠ []) : ∃ b o, A = some ⟨b, o, none⟩ := by
  have h0 : 0 < xs.length := List.length_pos_iff.2 hx
  obtain ⟨ad, e, hc⟩ := h.rd 0 _ (List.getElem?_eq_getElem h0)
  have hs := (cell_plain hc).2 rfl
  exact ⟨ad.block, ad.off, by rw [e]; cases ad; simp at hs; subst hs; rfl⟩
theorem xor_65535 {n : Nat} (h : n ≤ 65535) : bits .xor .u32 (n : Int) 65535 = ((65535 - n : Nat) : Int) := by
  have key : ∀ m : Nat, m < 65536 → m ^^^ 65535 = 65535 - m := fun m hm => by
    apply Nat.eq_of_testBit_eq
    intro i
    rw [Nat.testBit_xor, show 65535 = 2 ^ 16 - 1 from rfl, Nat.testBit_two_pow_sub_one]
    have h2 : 2 ^ 16 - 1 - m = 2 ^ 16 - (m + 1) := by omega
    rw [h2, Nat.testBit_two_pow_sub_succ (by omega)]
    by_cases hi : i < 16
    · simp [hi]
    · have : m.testBit i = false := Nat.testBit_lt_two_pow (Nat.lt_of_lt_of_le hm (Nat.pow_le_pow_right (n := 2) (by decide) (show 16 ≤ i by omega)))
      simp [hi, this]
  show IntKind.u32.wrap ((BitVec.ofInt 32 (n : Int) ^^^ BitVec.ofInt 32 65535).toNat : Int) = _
  have e1 : (BitVec.ofInt 32 (n : Int)).toNat = n := by rw [BitVec.ofInt_natCast, BitVec.toNat_ofNat]; exact Nat.mod_eq_of_lt (by omega)
  have e2 : (BitVec.ofInt 32 (65535 : Int)).toNat = 65535 := by decide
  rw [BitVec.toNat_xor, e1, e2, key n (by omega), IntKind.wrap_u32]
  omega
theorem blk_lens (t : List Int) (f : Int) (n m : Nat) : (alignT (t ++ [f] ++ [0, 0])).length ≤ t.length + 10 ∧ (alignT (t ++ [f] ++ [0, 0]) ++ bitT n 16).length ≤ t.length + 26 ∧ (alignT (t ++ [f] ++ [0, 0]) ++ bitT n 16 ++ bitT m 16).length ≤ t.length + 42 ∧ (alignT (t ++ [f] ++ [0, 0]) ++ bitT n 16 ++ bitT m 16).length % 8 = 0 := by
  simp only [List.length_append, bitT_length, alignT_length, List.length_cons, List.length_nil]
  omega
end Go.Proofs.Yteknaaijlkenkaa
namespace Go.Proofs.Yteknaaijlkenkaa

/-! ### stored blocks as bytes -/
def headB (b : List Int) (fin : Bool) : List Int := [finN fin, (b.length : Int) % 256, (b.length : Int) / 256, 255 - (b.length : Int) % 256, 255 - (b.length : Int) / 256]
def storeB (last : Bool) : Nat → List Int → List Int
  | 0, b => headB b last ++ b
  | f + 1, b => if b.length ≤ 65535 then headB b last ++ b else headB (b.take 65535) false ++ b.take 65535 ++ storeB last f (b.drop 65535)
theorem bitT_two {n : Int} (h0 : 0 ≤ n) (h : n ≤ 65535) : bitT n 16 = ofB [n % 256, n / 256] := by
  simp only [bitT, ofB, of8, List.flatMap_cons, List.flatMap_nil, List.append_nil, List.cons_append, List.nil_append, List.cons.injEq]
  simp only [Nat.zero_add, Nat.reduceAdd, and_true]
  refine ⟨?_, ?_, ?_, ?_, ?_, ?_, ?_, ?_, ?_, ?_, ?_, ?_, ?_, ?_, ?_, ?_⟩ <;> omega
theorem blkT_bytes (t b : List Int) (fin : Bool) (hb : b.length ≤ 65535) : blkT t b fin = alignT (t ++ [finN fin] ++ [0, 0]) ++ ofB ((headB b fin ++ b).drop 1) := by
  have e : ((65535 - b.length : Nat) : Int) = 65535 - (b.length : Int) := by omega
  unfold blkT
  rw [bitT_two (by omega) (by omega), bitT_two (by omega) (by omega), e, List.append_assoc, List.append_assoc, ← ofB_append, ← ofB_append]
  have e1 : (65535 - (b.length : Int)) % 256 = 255 - (b.length : Int) % 256 := by omega
  have e2 : (65535 - (b.length : Int)) / 256 = 255 - (b.length : Int) / 256 := by omega
  rw [e1, e2]
  rfl
theorem align_bits (t : List Int) (fin : Bool) (h : t.length % 8 = 0) : alignT (t ++ [finN fin] ++ [0, 0]) = t ++ ofB [finN fin] := by
  have e : (8 - (t ++ [finN fin] ++ [0, 0]).length % 8) % 8 = 5 := by simp; omega
  unfold alignT
  rw [e]
  cases fin <;> simp [ofB, of8, finN, List.replicate]
theorem storeT_al (last : Bool) : ∀ (f : Nat) (t b : List Int), t.length % 8 = 0 → b.length ≤ 65535 * (f + 1) → storeT last f t b = t ++ ofB (storeB last f b)
  | 0, t, b, h, hb => by
    rw [storeT, blkT_bytes _ _ _ (by omega), align_bits _ _ h, storeB, List.append_assoc, ← ofB_append]
    rfl
  | f + 1, t, b, h, hb => by
    rw [storeT, storeB]
    by_cases hl : b.length ≤ 65535
    · rw [if_pos hl, if_pos hl, blkT_bytes _ _ _ hl, align_bits _ _ h, List.append_assoc, ← ofB_append]
      rfl
    · have ht : (b.take 65535).length = 65535 := by rw [List.length_take]; omega
      rw [if_neg hl, if_neg hl, blkT_bytes _ _ _ (by omega), align_bits _ _ h, List.append_assoc, ← ofB_append]
      rw [storeT_al last f _ _ (by rw [List.length_append, ofB_length]; omega) (by rw [List.length_drop]; omega), List.append_assoc, ← ofB_append]
      congr 2
theorem storeT_any (last : Bool) (f : Nat) (t b : List Int) (hb : b.length ≤ 65535 * (f + 1)) : ∃ x, (x = 0 ∨ x = 1) ∧ (storeB last f b).head? = some x ∧ storeT last f t b = alignT (t ++ [x] ++ [0, 0]) ++ ofB ((storeB last f b).drop 1) := by
  have hf : ∀ q, finN q = 0 ∨ finN q = 1 := fun q => by cases q <;> simp [finN]
  cases f with
  | zero =>
    refine ⟨finN last, hf last, rfl, ?_⟩
    rw [storeT, blkT_bytes _ _ _ (by omega), storeB]
  | succ f =>
    rw [storeT, storeB]
    by_cases hl : b.length ≤ 65535
    · refine ⟨finN last, hf last, by rw [if_pos hl]; rfl, ?_⟩
      rw [if_pos hl, if_pos hl, blkT_bytes _ _ _ hl]
    · have ht : (b.take 65535).length = 65535 := by rw [List.length_take]; omega
      refine ⟨finN false, hf false, by rw [if_neg hl]; rfl, ?_⟩
      rw [if_neg hl, if_neg hl, blkT_bytes _ _ _ (by omega)]
      rw [storeT_al last f _ _ (by rw [List.length_append, ofB_length, alignT_length]; omega) (by rw [List.length_drop]; omega), List.append_assoc, ← ofB_append]
      rfl
theorem headB_u8 {b : List Int} (h : b.length ≤ 65535) (fin : Bool) : ∀ x ∈ headB b fin, 0 ≤ x ∧ x < 256 := by
  have hf : 0 ≤ finN fin ∧ finN fin < 256 := by cases fin <;> simp [finN]
  intro x hx
  simp only [headB, List.mem_cons, List.not_mem_nil, or_false] at hx
  rcases hx with rfl | rfl | rfl | rfl | rfl <;> omega
theorem storeB_u8 (last : Bool) : ∀ (f : Nat) (b : List Int), (∀ x ∈ b, 0 ≤ x ∧ x < 256) → b.length ≤ 65535 * (f + 1) → ∀ x ∈ storeB last f b, 0 ≤ x ∧ x < 256
  | 0, b, hu, hb, x, hx => by
    rw [storeB] at hx
    rcases List.mem_append.1 hx with hx | hx
    · exact headB_u8 (by omega) _ x hx
    · exact hu x hx
  | f + 1, b, hu, hb, x, hx => by
    rw [storeB] at hx
    by_cases hl : b.length ≤ 65535
    · rw [if_pos hl] at hx
      rcases List.mem_append.1 hx with hx | hx
      · exact headB_u8 (by omega) _ x hx
      · exact hu x hx
    · rw [if_neg hl] at hx
      rcases List.mem_append.1 hx with hx | hx
      · rcases List.mem_append.1 hx with hx | hx
        · exact headB_u8 (by rw [List.length_take]; omega) _ x hx
        · exact hu x (List.mem_of_mem_take hx)
      · exact storeB_u8 last f _ (fun y hy => hu y (List.mem_of_mem_drop hy)) (by rw [List.length_drop]; omega) x hx
/-- Behind k bits of nought. -/
theorem store_bytes (last : Bool) (f k : Nat) (b : List Int) (hk : k < 8) (hu : ∀ x ∈ b, 0 ≤ x ∧ x < 256) (hb : b.length ≤ 65535 * (f + 1)) :
    ∃ pre, pre.length = (if 5 < k then 2 else 1) ∧ packB (storeT last f (List.replicate k 0) b) = pre ++ (storeB last f b).drop 1 ∧ (k = 0 → pre ++ (storeB last f b).drop 1 = storeB last f b) := by
  obtain ⟨x, hx, hh, e⟩ := storeT_any last f (List.replicate k 0) b hb
  have h8 : (alignT (List.replicate k 0 ++ [x] ++ [0, 0])).length % 8 = 0 := by rw [alignT_length]; omega
  have hd : ∀ y ∈ (storeB last f b).drop 1, 0 ≤ y ∧ y < 256 := fun y hy => storeB_u8 last f b hu hb y (List.mem_of_mem_drop hy)
  refine ⟨packB (alignT (List.replicate k 0 ++ [x] ++ [0, 0])), ?_, ?_, ?_⟩
  · rw [packB_length, alignT_length]
    simp
    split <;> omega
  · rw [e, packB_append _ h8, packB_ofB hd]
  · rintro rfl
    have hp : packB (alignT (List.replicate 0 0 ++ [x] ++ [0, 0])) = [x] := by
      rcases hx with rfl | rfl <;> decide
    rw [hp]
    cases hs : storeB last f b with
    | nil => rw [hs] at hh; cases hh
    | cons y l => rw [hs] at hh; injection hh with hh; rw [hh]; rfl
end Go.Proofs.Yteknaaijlkenkaa
