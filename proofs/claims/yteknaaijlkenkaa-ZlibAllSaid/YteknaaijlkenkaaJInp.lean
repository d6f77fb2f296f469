import Derived.Test.YteknaaijlkenkaaJTab
import Derived.Test.YteknaaijlkenkaaJWin
import Derived.Test.YteknaaijlkenkaaBitP
namespace Go.Proofs.Yteknaaijlkenkaa
set_option linter.unusedVariables false
set_option linter.unusedSimpArgs false

/-! ### inflate, plainly -/
/-- n bits from a place on as a number; noughts beyond the end. -/
def pk (bs : List Int) (at_ n : Nat) : Nat := (numT (((ofB bs).drop at_).take n)).toNat
theorem pk_num (bs : List Int) (at_ n : Nat) : (pk bs at_ n : Int) = numT (((ofB bs).drop at_).take n) := by
  have := numT_range (bin_take (bin_drop (bin_ofB bs) at_) n)
  unfold pk; omega
theorem pk_lt (bs : List Int) (at_ n : Nat) : pk bs at_ n < 2 ^ n := by
  have h := numT_range (bin_take (bin_drop (bin_ofB bs) at_) n)
  have hl : (((ofB bs).drop at_).take n).length ≤ n := by rw [List.length_take]; omega
  have h2 : (2 : Nat) ^ (((ofB bs).drop at_).take n).length ≤ 2 ^ n := Nat.pow_le_pow_right (by decide) hl
  have h3 := pk_num bs at_ n
  have h4 : (((2 : Nat) ^ (((ofB bs).drop at_).take n).length : Nat) : Int) ≤ ((2 ^ n : Nat) : Int) := by exact_mod_cast h2
  rw [Int.natCast_pow] at h4
  have h5 : ((pk bs at_ n : Nat) : Int) < ((2 ^ n : Nat) : Int) := by rw [h3]; exact Int.lt_of_lt_of_le h.2 h4
  exact_mod_cast h5
theorem pk_mod (bs : List Int) (at_ : Nat) {m n : Nat} (h : n ≤ m) : pk bs at_ m % 2 ^ n = pk bs at_ n := by
  have h1 := numT_take (((ofB bs).drop at_).take m) n (bin_take (bin_drop (bin_ofB bs) at_) m)
  rw [List.take_take, Nat.min_eq_left h, ← pk_num, ← pk_num] at h1
  have : ((pk bs at_ n : Nat) : Int) = ((pk bs at_ m % 2 ^ n : Nat) : Int) := by rw [h1, Int.natCast_emod, Int.natCast_pow]; rfl
  exact_mod_cast this.symm

/-- How many bits are there. -/
def lf (bs : List Int) (at_ : Nat) : Nat := 8 * bs.length - at_
inductive G (α : Type) where
  | ok (a : α)
  | bad (e : Nat)
def getG (bs : List Int) (at_ n : Nat) : G Nat := if lf bs at_ < n then .bad 5 else .ok (pk bs at_ n)
/-- The next symbol and its length. -/
def symG (l bs : List Int) (at_ : Nat) : G (Nat × Nat) :=
  let n := min (lf bs at_) 15
  let r := findN l (pk bs at_ 15 % 2 ^ n) n
  if r.2.2 = 0 then .ok (r.1, r.2.1) else .bad r.2.2
def baseP (s : Nat) (wide : Bool) : Option (Nat × Nat) :=
  if s = 285 then (if wide then some (3, 16) else some (258, 0))
  else if s < 257 ∨ 285 < s then none
  else if s < 265 then some (s - 254, 0)
  else some (3 + (4 + (s - 261) % 4) * 2 ^ ((s - 261) / 4), (s - 261) / 4)
def farP (s : Nat) (wide : Bool) : Option (Nat × Nat) :=
  if 31 < s ∨ (29 < s ∧ wide = false) then none
  else if s < 4 then some (s + 1, 0)
  else some (1 + (2 + s % 2) * 2 ^ (s / 2 - 1), s / 2 - 1)
def fixL : List Int := List.replicate 144 8 ++ List.replicate 112 9 ++ List.replicate 24 7 ++ List.replicate 8 8
def fixD : List Int := List.replicate 32 5
def ordL : List Nat := [16, 17, 18, 0, 8, 7, 9, 6, 10, 5, 11, 4, 12, 3, 13, 2, 14, 1, 15]
/-- n lengths of three bits. -/
def smallG (bs : List Int) : List Nat → List Int → Nat → G (List Int × Nat)
  | [], l, at_ => .ok (l, at_)
  | s :: r, l, at_ => match getG bs at_ 3 with
    | .bad e => .bad e
    | .ok v => smallG bs r (l.set s v) (at_ + 3)
/-- What a symbol of the lengths' code says: the length, the times, the bits behind; or an error. -/
def rowOne (bs : List Int) (out : List Int) (s at_ : Nat) : G (Int × Nat × Nat) :=
  if s < 16 then .ok (s, 1, at_)
  else if s = 16 then (if out.length = 0 then .bad 2 else match getG bs at_ 2 with
    | .bad e => .bad e
    | .ok v => .ok (out.getD (out.length - 1) 0, 3 + v, at_ + 2))
  else if s = 17 then (match getG bs at_ 3 with
    | .bad e => .bad e
    | .ok v => .ok (0, 3 + v, at_ + 3))
  else match getG bs at_ 7 with
    | .bad e => .bad e
    | .ok v => .ok (0, 11 + v, at_ + 7)
/-- n lengths by a code. -/
def rowG (l bs : List Int) (n : Nat) : Nat → List Int → Nat → G (List Int × Nat)
  | 0, out, at_ => .ok (out, at_)
  | k + 1, out, at_ => if n ≤ out.length then .ok (out, at_) else match symG l bs at_ with
    | .bad e => .bad e
    | .ok (s, m) => match rowOne bs out s (at_ + m) with
      | .bad e => .bad e
      | .ok (v, t, a) => if n - out.length < t then .bad 2 else rowG l bs n k (out ++ List.replicate t v) a
/-- The codes out of the lengths' lengths. -/
def headK (bs : List Int) (m k : Nat) : G (List Int × Nat) → G (List Int × List Int × Nat)
  | .bad e => .bad e
  | .ok (l, a3) => if kind l ≠ 1 then .bad 2 else match rowG l bs (m + k) (m + k) [] a3 with
    | .bad e => .bad e
    | .ok (row, a4) =>
      if row.getD 256 0 = 0 ∨ ¬ (kind (row.take m) = 1 ∨ kind (row.take m) = 2) ∨ ¬ (kind (row.drop m) = 1 ∨ kind (row.drop m) = 2 ∨ kind (row.drop m) = 0) then .bad 2
      else .ok (row.take m, row.drop m, a4)
def headG (wide : Bool) (bs : List Int) (at_ : Nat) : G (List Int × List Int × Nat) :=
  match getG bs at_ 5 with
  | .bad e => .bad e
  | .ok a => if 286 < a + 257 then .bad 2 else match getG bs (at_ + 5) 5 with
    | .bad e => .bad e
    | .ok b => if 30 < b + 1 ∧ wide = false then .bad 2 else match getG bs (at_ + 5 + 5) 4 with
      | .bad e => .bad e
      | .ok c => headK bs (a + 257) (b + 1) (smallG bs (ordL.take (c + 4)) (List.replicate 19 0) (at_ + 5 + 5 + 4))
structure I where
  wide : Bool
  most : Nat
  size : Nat
  bs : List Int
  at_ : Nat
  st : Nat
  last : Bool
  raw : Nat
  lit : List Int
  dist : List Int
  out : List Int
  all : List Int
def I.win (x : I) : Nat := min x.all.length x.size
def blockG (x : I) : G I :=
  match getG x.bs x.at_ 1 with
  | .bad e => .bad e
  | .ok l => match getG x.bs (x.at_ + 1) 2 with
    | .bad e => .bad e
    | .ok k =>
      if k = 0 then match getG x.bs ((x.at_ + 3 + 7) / 8 * 8) 16 with
        | .bad e => .bad e
        | .ok n => match getG x.bs ((x.at_ + 3 + 7) / 8 * 8 + 16) 16 with
          | .bad e => .bad e
          | .ok m => if m ≠ 65535 - n then .bad 2 else .ok { x with st := 1, raw := n, at_ := (x.at_ + 3 + 7) / 8 * 8 + 16 + 16, last := decide (l = 1) }
      else if k = 1 then .ok { x with lit := fixL, dist := fixD, st := 2, at_ := x.at_ + 3, last := decide (l = 1) }
      else if k = 2 then match headG x.wide x.bs (x.at_ + 3) with
        | .bad e => .bad e
        | .ok (a, b, q) => .ok { x with lit := a, dist := b, st := 2, at_ := q, last := decide (l = 1) }
      else .bad 2
def nextP (x : I) : I := { x with st := if x.last then 3 else 0 }
def rawG (x : I) : G I :=
  if x.raw = 0 then .ok (nextP x)
  else if min x.raw (lf x.bs x.at_ / 8) = 0 then .bad 5
  else if min (min x.raw (lf x.bs x.at_ / 8)) (x.most - x.all.length) = 0 then .bad 3
  else
    let n := min (min x.raw (lf x.bs x.at_ / 8)) (x.most - x.all.length)
    .ok { x with at_ := x.at_ + 8 * n, raw := x.raw - n, out := x.out ++ (x.bs.drop (x.at_ / 8)).take n, all := x.all ++ (x.bs.drop (x.at_ / 8)).take n }
def tokenG (x : I) : G I :=
  match symG x.lit x.bs x.at_ with
  | .bad e => .bad e
  | .ok (s, m) =>
    if s = 256 then .ok (nextP { x with at_ := x.at_ + m })
    else if s < 256 then (if x.all.length = x.most then .bad 3 else .ok { x with at_ := x.at_ + m, out := x.out ++ [(s : Int)], all := x.all ++ [(s : Int)] })
    else match baseP s x.wide with
      | none => .bad 2
      | some (b, k) => match getG x.bs (x.at_ + m) k with
        | .bad e => .bad e
        | .ok v => match symG x.dist x.bs (x.at_ + m + k) with
          | .bad e => .bad e
          | .ok (t, q) => match farP t x.wide with
            | none => .bad 2
            | some (f, j) => match getG x.bs (x.at_ + m + k + q) j with
              | .bad e => .bad e
              | .ok u =>
                if x.win < f + u then .bad 2
                else if x.most - x.all.length < b + v then .bad 3
                else .ok { x with at_ := x.at_ + m + k + q + j, out := x.out ++ (ext x.all (f + u) (b + v)).drop x.all.length, all := ext x.all (f + u) (b + v) }
/-- What comes next; a state that has ended is over. -/
def stepG (x : I) : G I := if x.st = 0 then blockG x else if x.st = 1 then rawG x else tokenG x
/-- All that is there: the state behind, the error (0: it has ended). -/
def runP : Nat → I → I × Nat
  | 0, x => (x, 5)
  | k + 1, x => if x.st = 3 then (x, 0) else match stepG x with
    | .bad e => (x, e)
    | .ok y => runP k y
def startI (bs : List Int) (wide : Bool) (size most : Nat) : I := ⟨wide, most, size, bs, 0, 0, false, 0, [], [], [], []⟩
def allP (bs : List Int) (wide : Bool) (size most : Nat) : List Int × Nat × Nat :=
  let r := runP (16 * bs.length + 2) (startI bs wide size most)
  if r.2 = 0 then (r.1.all, (r.1.at_ + 7) / 8, 0) else ([], 0, if r.2 = 5 then 2 else r.2)
end Go.Proofs.Yteknaaijlkenkaa
namespace Go.Proofs.Yteknaaijlkenkaa

/-! ### bits that are peeked at, byte by byte -/
theorem numT_app : ∀ (a b : List Int), numT (a ++ b) = numT a + 2 ^ a.length * numT b
  | [], b => by simp [numT]
  | x :: a, b => by
    rw [List.cons_append, numT, numT_app a b, numT, List.length_cons, Int.pow_succ]
    generalize (2 : Int) ^ a.length = p
    rw [Int.mul_add, Int.add_assoc, ← Int.mul_assoc, Int.mul_comm 2 p]
theorem numT_drop : ∀ (t : List Int) (r : Nat), bin t → numT (t.drop r) = numT t / 2 ^ r
  | t, 0, _ => by simp
  | [], r + 1, _ => by simp [numT]
  | x :: t, r + 1, h => by
    have hx := h x (by simp)
    rw [List.drop_succ_cons, numT_drop t r (fun y hy => h y (by simp [hy])), numT, Int.pow_succ, Int.mul_comm (2 ^ r) 2, ← Int.ediv_ediv_of_nonneg (show (0 : Int) ≤ 2 from by decide)]
    congr 1
    omega
theorem ofB_drop (bs : List Int) (m : Nat) : (ofB bs).drop (8 * m) = ofB (bs.drop m) := by
  by_cases h : m ≤ bs.length
  · have e : ofB bs = ofB (bs.take m) ++ ofB (bs.drop m) := by rw [← ofB_append, List.take_append_drop]
    rw [e, List.drop_left' (by rw [ofB_length, List.length_take]; omega)]
  · rw [List.drop_eq_nil_of_le (by rw [ofB_length]; omega), List.drop_eq_nil_of_le (by omega)]
    rfl
theorem pk_step (bs : List Int) (q i : Nat) {x : Int} (h : bs[q + i]? = some x) (h0 : 0 ≤ x) (h1 : x < 256) : pk bs (8 * q) (8 * i + 8) = pk bs (8 * q) (8 * i) + x.toNat * 2 ^ (8 * i) := by
  obtain ⟨hl, e⟩ := List.getElem?_eq_some_iff.1 h
  have e1 : (((ofB bs).drop (8 * q)).drop (8 * i)).take 8 = of8 x := by
    rw [List.drop_drop, ← Nat.mul_add, ofB_drop, List.drop_eq_getElem_cons hl, e]
    show (of8 x ++ ofB _).take 8 = _
    rw [List.take_left' (of8_length x)]
  have e2 : (((ofB bs).drop (8 * q)).take (8 * i)).length = 8 * i := by
    rw [List.length_take, List.length_drop, ofB_length]; omega
  have hn : ((pk bs (8 * q) (8 * i + 8) : Nat) : Int) = ((pk bs (8 * q) (8 * i) + x.toNat * 2 ^ (8 * i) : Nat) : Int) := by
    rw [Int.natCast_add, pk_num, pk_num, List.take_add, e1, numT_app, e2, numT_of8 h0 h1, Int.natCast_mul, Int.natCast_pow, Int.mul_comm]
    rw [show ((x.toNat : Nat) : Int) = x from by omega]
    rfl
  exact_mod_cast hn
theorem pk_zero (bs : List Int) (a : Nat) : pk bs a 0 = 0 := rfl
theorem pk_past (bs : List Int) (q i j : Nat) (h : bs.length ≤ q + i) (hij : i ≤ j) : pk bs (8 * q) (8 * j) = pk bs (8 * q) (8 * i) := by
  have hl : ((ofB bs).drop (8 * q)).length ≤ 8 * i := by rw [List.length_drop, ofB_length]; omega
  unfold pk
  rw [List.take_of_length_le (by omega), List.take_of_length_le hl]
/-- What stands at the place n, out of the five bytes from n / 8 on. -/
theorem pk_five (bs : List Int) (n k : Nat) (hk : k ≤ 32) : pk bs (8 * (n / 8)) 40 / 2 ^ (n % 8) % 2 ^ k = pk bs n k := by
  have hb : bin (((ofB bs).drop (8 * (n / 8))).take 40) := bin_take (bin_drop (bin_ofB bs) _) _
  have hr : n % 8 < 8 := Nat.mod_lt _ (by decide)
  have e1 := numT_drop (((ofB bs).drop (8 * (n / 8))).take 40) (n % 8) hb
  have e2 := numT_take ((((ofB bs).drop (8 * (n / 8))).take 40).drop (n % 8)) k (bin_drop hb _)
  rw [e1, List.drop_take, List.drop_drop, show 8 * (n / 8) + n % 8 = n from by omega, List.take_take, Nat.min_eq_left (by omega), ← pk_num, ← pk_num] at e2
  have hn : ((pk bs (8 * (n / 8)) 40 / 2 ^ (n % 8) % 2 ^ k : Nat) : Int) = ((pk bs n k : Nat) : Int) := by
    rw [e2, Int.natCast_emod, Int.natCast_ediv, Int.natCast_pow, Int.natCast_pow]
    rfl
  exact_mod_cast hn
end Go.Proofs.Yteknaaijlkenkaa
