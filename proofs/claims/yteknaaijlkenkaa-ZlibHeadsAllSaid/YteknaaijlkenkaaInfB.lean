import Derived.Test.YteknaaijlkenkaaInfP
import Derived.Test.YteknaaijlkenkaaBitP
namespace Go.Proofs.Yteknaaijlkenkaa
set_option linter.unusedVariables false
set_option linter.unusedSimpArgs false

/-! ### bits that are peeked at, byte by byte -/
theorem numT_app : ∀ (a b : List Int), numT (a ++ b) = numT a + 2 ^ a.length * numT b
  | [], b => by simp [numT]
  | x :: a, b => by
    rw [List.cons_append, numT, numT_app a b, numT, List.length_cons, Int.pow_succ]
    generalize (2 : Int) ^ a.length = p
    rw [Int.mul_add, Int.add_assoc, ← Int.mul_assoc, Int.mul_comm 2 p]
theorem numT_drop : ∀ (t : List Int) (r : Nat), bin t → numT (t.drop r) = numT t / 2 ^ r
  | t, 0, _ => by simp
  | [], r + 1, _ => by simp [numT]
  | x :: t, r + 1, h => by
    have hx := h x (by simp)
    rw [List.drop_succ_cons, numT_drop t r (fun y hy => h y (by simp [hy])), numT, Int.pow_succ, Int.mul_comm (2 ^ r) 2, ← Int.ediv_ediv_of_nonneg (show (0 : Int) ≤ 2 from by decide)]
    congr 1
    omega
theorem ofB_drop (bs : List Int) (m : Nat) : (ofB bs).drop (8 * m) = ofB (bs.drop m) := by
  by_cases h : m ≤ bs.length
  · have e : ofB bs = ofB (bs.take m) ++ ofB (bs.drop m) := by rw [← ofB_append, List.take_append_drop]
    rw [e, List.drop_left' (by rw [ofB_length, List.length_take]; omega)]
  · rw [List.drop_eq_nil_of_le (by rw [ofB_length]; omega), List.drop_eq_nil_of_le (by omega)]
    rfl
theorem pk_step (bs : List Int) (q i : Nat) {x : Int} (h : bs[q + i]? = some x) (h0 : 0 ≤ x) (h1 : x < 256) : pk bs (8 * q) (8 * i + 8) = pk bs (8 * q) (8 * i) + x.toNat * 2 ^ (8 * i) := by
  obtain ⟨hl, e⟩ := List.getElem?_eq_some_iff.1 h
  have e1 : (((ofB bs).drop (8 * q)).drop (8 * i)).take 8 = of8 x := by
    rw [List.drop_drop, ← Nat.mul_add, ofB_drop, List.drop_eq_getElem_cons hl, e]
    show (of8 x ++ ofB _).take 8 = _
    rw [List.take_left' (of8_length x)]
  have e2 : (((ofB bs).drop (8 * q)).take (8 * i)).length = 8 * i := by
    rw [List.length_take, List.length_drop, ofB_length]; omega
  have hn : ((pk bs (8 * q) (8 * i + 8) : Nat) : Int) = ((pk bs (8 * q) (8 * i) + x.toNat * 2 ^ (8 * i) : Nat) : Int) := by
    rw [Int.natCast_add, pk_num, pk_num, List.take_add, e1, numT_app, e2, numT_of8 h0 h1, Int.natCast_mul, Int.natCast_pow, Int.mul_comm]
    rw [show ((x.toNat : Nat) : Int) = x from by omega]
    rfl
  exact_mod_cast hn
theorem pk_zero (bs : List Int) (a : Nat) : pk bs a 0 = 0 := rfl
theorem pk_past (bs : List Int) (q i j : Nat) (h : bs.length ≤ q + i) (hij : i ≤ j) : pk bs (8 * q) (8 * j) = pk bs (8 * q) (8 * i) := by
  have hl : ((ofB bs).drop (8 * q)).length ≤ 8 * i := by rw [List.length_drop, ofB_length]; omega
  unfold pk
  rw [List.take_of_length_le (by omega), List.take_of_length_le hl]
/-- What stands at the place n, out of the five bytes from n / 8 on. -/
theorem pk_five (bs : List Int) (n k : Nat) (hk : k ≤ 32) : pk bs (8 * (n / 8)) 40 / 2 ^ (n % 8) % 2 ^ k = pk bs n k := by
  have hb : bin (((ofB bs).drop (8 * (n / 8))).take 40) := bin_take (bin_drop (bin_ofB bs) _) _
  have hr : n % 8 < 8 := Nat.mod_lt _ (by decide)
  have e1 := numT_drop (((ofB bs).drop (8 * (n / 8))).take 40) (n % 8) hb
  have e2 := numT_take ((((ofB bs).drop (8 * (n / 8))).take 40).drop (n % 8)) k (bin_drop hb _)
  rw [e1, List.drop_take, List.drop_drop, show 8 * (n / 8) + n % 8 = n from by omega, List.take_take, Nat.min_eq_left (by omega), ← pk_num, ← pk_num] at e2
  have hn : ((pk bs (8 * (n / 8)) 40 / 2 ^ (n % 8) % 2 ^ k : Nat) : Int) = ((pk bs n k : Nat) : Int) := by
    rw [e2, Int.natCast_emod, Int.natCast_ediv, Int.natCast_pow, Int.natCast_pow]
    rfl
  exact_mod_cast hn
end Go.Proofs.Yteknaaijlkenkaa
