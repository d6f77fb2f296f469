import Derived.Test.YteknaaijlkenkaaInfU
import Derived.Test.YteknaaijlkenkaaJInr
import Derived.Test.YteknaaijlkenkaaJInp
import Derived.Test.YteknaaijlkenkaaJBlf
namespace Go.Proofs.Yteknaaijlkenkaa
set_option linter.unusedVariables false
set_option linter.unusedSimpArgs false

/-! ### stored blocks, undone plainly (for InflateStored) -/
theorem pk_byte (bs : List Int) (q : Nat) {x : Int} (h : bs[q]? = some x) (h0 : 0 ≤ x) (h1 : x < 256) : pk bs (8 * q) 8 = x.toNat := by
  have := pk_step bs q 0 (x := x) (by simpa using h) h0 h1
  rw [Nat.mul_zero, Nat.zero_add, pk_zero] at this
  simpa using this
theorem pk_two (bs : List Int) (q : Nat) {x y : Int} (h : bs[q]? = some x) (h0 : 0 ≤ x) (h1 : x < 256) (g : bs[q + 1]? = some y) (g0 : 0 ≤ y) (g1 : y < 256) : pk bs (8 * q) 16 = x.toNat + y.toNat * 256 := by
  have := pk_step bs q 1 (x := y) g g0 g1
  rw [show 8 * 1 + 8 = 16 from rfl, show 8 * 1 = 8 from rfl, pk_byte bs q h h0 h1] at this
  simpa using this
/-- A raw step takes a whole text that is there. -/
theorem raw_all {x : I} {q : Nat} {b r : List Int} (hq : x.at_ = 8 * q) (hb : x.bs.drop q = b ++ r) (hn : x.raw = b.length) (h0 : b ≠ []) (hm : x.all.length + b.length ≤ x.most) (hql : q ≤ x.bs.length) :
    rawG x = .ok { x with at_ := 8 * (q + b.length), raw := 0, out := x.out ++ b, all := x.all ++ b } := by
  have hl : x.bs.length - q = b.length + r.length := by rw [← List.length_drop, hb, List.length_append]
  have hb0 : 0 < b.length := List.length_pos_iff.2 h0
  have hlf : lf x.bs x.at_ / 8 = b.length + r.length := by unfold lf; rw [hq]; omega
  have e1 : min (min x.raw (lf x.bs x.at_ / 8)) (x.most - x.all.length) = b.length := by rw [hlf, hn]; omega
  unfold rawG
  rw [if_neg (by omega), if_neg (by rw [hlf]; omega), e1, if_neg (by omega)]
  simp only
  rw [show x.at_ / 8 = q from by omega, hb, List.take_left, hq, hn, Nat.sub_self, show 8 * q + 8 * b.length = 8 * (q + b.length) from by omega]
theorem pk_shift (bs : List Int) (a r n : Nat) : pk bs (a + r) n = pk bs a (r + n) / 2 ^ r := by
  have hb := bin_take (bin_drop (bin_ofB bs) a) (r + n)
  have h := numT_drop (((ofB bs).drop a).take (r + n)) r hb
  rw [List.drop_take, List.drop_drop, show r + n - r = n from by omega] at h
  rw [← pk_num, ← pk_num] at h
  have h2 : ((pk bs (a + r) n : Nat) : Int) = ((pk bs a (r + n) / 2 ^ r : Nat) : Int) := by rw [h, Int.natCast_ediv, Int.natCast_pow]; rfl
  exact_mod_cast h2
/-- The head of a stored block at a byte's border. -/
theorem block_stored {x : I} {q : Nat} {b r : List Int} {fin : Bool} (hq : x.at_ = 8 * q) (hb : x.bs.drop q = headB b fin ++ r) (hn : b.length ≤ 65535) (hql : q ≤ x.bs.length) :
    blockG x = .ok { x with st := 1, raw := b.length, at_ := 8 * (q + 5), last := fin } := by
  have hl : x.bs.length - q = 5 + r.length := by rw [← List.length_drop, hb, List.length_append]; rfl
  have hlf : lf x.bs x.at_ = 8 * (5 + r.length) := by unfold lf; rw [hq]; omega
  have hg : ∀ i, i < 5 → x.bs[q + i]? = (headB b fin)[i]? := fun i hi => by
    have : (x.bs.drop q)[i]? = (headB b fin ++ r)[i]? := by rw [hb]
    rwa [List.getElem?_drop, List.getElem?_append_left (by simpa [headB] using hi)] at this
  have g0 : x.bs[q]? = some (finN fin) := hg 0 (by omega)
  have g1 := hg 1 (by omega)
  have g2 := hg 2 (by omega)
  have g3 := hg 3 (by omega)
  have g4 := hg 4 (by omega)
  have hf : (finN fin).toNat = (if fin then 1 else 0) ∧ 0 ≤ finN fin ∧ finN fin < 256 := by cases fin <;> decide
  have k0 : pk x.bs (8 * q) 8 = if fin then 1 else 0 := by rw [pk_byte x.bs q g0 hf.2.1 hf.2.2, hf.1]
  have k1 : pk x.bs (8 * q) 1 = if fin then 1 else 0 := by rw [← pk_mod x.bs (8 * q) (m := 8) (by omega), k0]; cases fin <;> rfl
  have k2 : pk x.bs (8 * q + 1) 2 = 0 := by rw [pk_shift, ← pk_mod x.bs (8 * q) (m := 8) (by omega), k0]; cases fin <;> rfl
  have k3 : pk x.bs (8 * (q + 1)) 16 = b.length := by
    rw [pk_two x.bs (q + 1) (x := (b.length : Int) % 256) (y := (b.length : Int) / 256) g1 (by omega) (by omega) g2 (by omega) (by omega)]
    omega
  have k4 : pk x.bs (8 * (q + 3)) 16 = 65535 - b.length := by
    rw [pk_two x.bs (q + 3) (x := 255 - (b.length : Int) % 256) (y := 255 - (b.length : Int) / 256) g3 (by omega) (by omega) g4 (by omega) (by omega)]
    omega
  have e0 : getG x.bs x.at_ 1 = .ok (if fin then 1 else 0) := by unfold getG; rw [if_neg (by omega), hq, k1]
  have e1 : getG x.bs (x.at_ + 1) 2 = .ok 0 := by unfold getG; rw [if_neg (by unfold lf at *; omega), hq, k2]
  have ea : (x.at_ + 3 + 7) / 8 * 8 = 8 * (q + 1) := by omega
  have e2 : getG x.bs (8 * (q + 1)) 16 = .ok b.length := by unfold getG; rw [if_neg (by unfold lf at *; omega), k3]
  have e3 : getG x.bs (8 * (q + 1) + 16) 16 = .ok (65535 - b.length) := by unfold getG; rw [if_neg (by unfold lf at *; omega), show 8 * (q + 1) + 16 = 8 * (q + 3) from by omega, k4]
  unfold blockG
  rw [e0]
  simp only
  rw [e1]
  simp only [if_true]
  rw [ea, e2]
  simp only
  rw [e3]
  simp only [ne_eq, not_true_eq_false, if_false]
  rw [show 8 * (q + 1) + 16 + 16 = 8 * (q + 5) from by omega]
  cases fin <;> rfl
theorem runP_ok {x y : I} {k : Nat} (h3 : x.st ≠ 3) (h : stepG x = .ok y) : runP (k + 1) x = runP k y := by
  rw [runP, if_neg h3, h]
/-- A stored block (not the last one) run through. -/
theorem run_stored {x : I} {q k : Nat} {b r : List Int} (hs : x.st = 0) (hq : x.at_ = 8 * q) (hb : x.bs.drop q = headB b false ++ (b ++ r)) (hn : b.length ≤ 65535) (hql : q ≤ x.bs.length) (h0 : b ≠ []) (hm : x.all.length + b.length ≤ x.most) :
    runP (k + 3) x = runP k { x with at_ := 8 * (q + 5 + b.length), st := 0, raw := 0, last := false, out := x.out ++ b, all := x.all ++ b } := by
  have hl : x.bs.length - q = 5 + (b.length + r.length) := by rw [← List.length_drop, hb, List.length_append, List.length_append]; rfl
  have s1 : stepG x = .ok { x with st := 1, raw := b.length, at_ := 8 * (q + 5), last := false } := by
    unfold stepG; rw [if_pos hs]; exact block_stored hq hb hn hql
  have hb5 : x.bs.drop (q + 5) = b ++ r := by rw [← List.drop_drop, hb]; rfl
  have s2 : stepG { x with st := 1, raw := b.length, at_ := 8 * (q + 5), last := false } = .ok { x with st := 1, raw := 0, at_ := 8 * (q + 5 + b.length), last := false, out := x.out ++ b, all := x.all ++ b } := by
    unfold stepG
    rw [if_neg (by simp), if_pos rfl]
    exact raw_all (x := { x with st := 1, raw := b.length, at_ := 8 * (q + 5), last := false }) (q := q + 5) (b := b) (r := r) rfl hb5 rfl h0 hm (by simp only; omega)
  have s3 : stepG { x with st := 1, raw := 0, at_ := 8 * (q + 5 + b.length), last := false, out := x.out ++ b, all := x.all ++ b } = .ok { x with at_ := 8 * (q + 5 + b.length), st := 0, raw := 0, last := false, out := x.out ++ b, all := x.all ++ b } := by
    unfold stepG
    rw [if_neg (by simp), if_pos rfl]
    rfl
  rw [show k + 3 = k + 2 + 1 from rfl, runP_ok (by omega) s1, show k + 2 = k + 1 + 1 from rfl, runP_ok (by simp) s2, runP_ok (by simp) s3]
/-- The last, empty one. -/
theorem run_last {x : I} {q k : Nat} {r : List Int} (hs : x.st = 0) (hq : x.at_ = 8 * q) (hb : x.bs.drop q = headB [] true ++ r) (hql : q ≤ x.bs.length) :
    runP (k + 3) x = ({ x with at_ := 8 * (q + 5), st := 3, raw := 0, last := true }, 0) := by
  have s1 : stepG x = .ok { x with st := 1, raw := 0, at_ := 8 * (q + 5), last := true } := by
    unfold stepG; rw [if_pos hs]; exact block_stored (b := []) hq hb (by simp) hql
  have s2 : stepG { x with st := 1, raw := 0, at_ := 8 * (q + 5), last := true } = .ok { x with at_ := 8 * (q + 5), st := 3, raw := 0, last := true } := by
    unfold stepG
    rw [if_neg (by simp), if_pos rfl]
    rfl
  rw [show k + 3 = k + 2 + 1 from rfl, runP_ok (by omega) s1, show k + 2 = k + 1 + 1 from rfl, runP_ok (by simp) s2, runP, if_pos rfl]
/-- A stream of stored blocks. -/
def stoS (cs : List (List Int)) : List Int := cs.flatMap (fun b => headB b false ++ b)
theorem run_chunks : ∀ (cs : List (List Int)) (x : I) (q k : Nat) (r : List Int), x.st = 0 → x.at_ = 8 * q → x.bs.drop q = stoS cs ++ (headB [] true ++ r) → (∀ b ∈ cs, b ≠ [] ∧ b.length ≤ 65535) → q ≤ x.bs.length → x.all.length + cs.flatten.length ≤ x.most →
    runP (k + 3 * cs.length + 3) x = ({ x with at_ := 8 * (q + (stoS cs).length + 5), st := 3, raw := 0, last := true, out := x.out ++ cs.flatten, all := x.all ++ cs.flatten }, 0)
  | [], x, q, k, r, hs, hq, hb, _, hql, _ => by
    have h := run_last (x := x) (q := q) (k := k) (r := r) hs hq hb hql
    simpa [stoS] using h
  | b :: cs, x, q, k, r, hs, hq, hb, hc, hql, hm => by
    obtain ⟨h0, hn⟩ := hc b (by simp)
    have hb1 : x.bs.drop q = headB b false ++ (b ++ (stoS cs ++ (headB [] true ++ r))) := by
      rw [hb]; simp [stoS, List.append_assoc]
    have hm1 : x.all.length + b.length ≤ x.most := by simp at hm; omega
    have h1 := run_stored (x := x) (q := q) (k := k + 3 * cs.length + 3) hs hq hb1 hn hql h0 hm1
    have hl : x.bs.length - q = 5 + (b.length + (stoS cs ++ (headB [] true ++ r)).length) := by rw [← List.length_drop, hb1, List.length_append, List.length_append]; rfl
    have hb2 : x.bs.drop (q + 5 + b.length) = stoS cs ++ (headB [] true ++ r) := by
      rw [show q + 5 + b.length = q + (5 + b.length) from by omega, ← List.drop_drop, hb1, ← List.append_assoc, List.drop_left' (by simp [headB]; omega)]
    have h2 := run_chunks cs { x with at_ := 8 * (q + 5 + b.length), st := 0, raw := 0, last := false, out := x.out ++ b, all := x.all ++ b } (q + 5 + b.length) k r rfl rfl hb2 (fun c h => hc c (by simp [h])) (by simp only; omega) (by simp at hm ⊢; omega)
    rw [show k + 3 * (b :: cs).length + 3 = k + 3 * cs.length + 3 + 3 from by simp; omega, h1, h2]
    have e : q + 5 + b.length + (stoS cs).length + 5 = q + (stoS (b :: cs)).length + 5 := by simp [stoS, headB]; omega
    rw [e]
    simp [List.append_assoc]
theorem stoS_len : ∀ (cs : List (List Int)), (stoS cs).length = cs.flatten.length + 5 * cs.length
  | [] => rfl
  | b :: cs => by
    have := stoS_len cs
    simp only [stoS, List.flatMap_cons, List.length_append, List.flatten_cons, List.length_cons] at *
    simp [headB] at *
    omega
theorem allQ_stored (cs : List (List Int)) (r : List Int) (wide : Bool) (size : Nat) (hc : ∀ b ∈ cs, b ≠ [] ∧ b.length ≤ 65535) :
    allQ (stoS cs ++ (headB [] true ++ r)) wide size cs.flatten.length = (cs.flatten, (stoS cs).length + 5, 0) := by
  have hl := stoS_len cs
  have hlen : (stoS cs ++ (headB [] true ++ r)).length = (stoS cs).length + (5 + r.length) := by rw [List.length_append, List.length_append]; rfl
  obtain ⟨k, hk⟩ : ∃ k, 16 * (stoS cs ++ (headB [] true ++ r)).length + 2 = k + 3 * cs.length + 3 := ⟨16 * (stoS cs ++ (headB [] true ++ r)).length + 2 - (3 * cs.length + 3), by omega⟩
  have h := run_chunks cs (startI (stoS cs ++ (headB [] true ++ r)) wide size cs.flatten.length) 0 k r rfl rfl rfl hc (Nat.zero_le _) (by simp [startI])
  unfold allQ
  rw [hk, h]
  simp [startI]
  omega
theorem run_some : ∀ (cs : List (List Int)) (x : I) (q k : Nat) (r : List Int), x.st = 0 → x.last = false → x.raw = 0 → x.at_ = 8 * q → x.bs.drop q = stoS cs ++ r → (∀ b ∈ cs, b ≠ [] ∧ b.length ≤ 65535) → q ≤ x.bs.length → x.all.length + cs.flatten.length ≤ x.most →
    runP (k + 3 * cs.length) x = runP k { x with at_ := 8 * (q + (stoS cs).length), out := x.out ++ cs.flatten, all := x.all ++ cs.flatten }
  | [], x, q, k, r, hs, hL, hw, hq, hb, _, hql, _ => by
    simp [stoS, ← hq]
  | b :: cs, x, q, k, r, hs, hL, hw, hq, hb, hc, hql, hm => by
    obtain ⟨h0, hn⟩ := hc b (by simp)
    have hb1 : x.bs.drop q = headB b false ++ (b ++ (stoS cs ++ r)) := by
      rw [hb]; simp [stoS, List.append_assoc]
    have hm1 : x.all.length + b.length ≤ x.most := by simp at hm; omega
    have h1 := run_stored (x := x) (q := q) (k := k + 3 * cs.length) hs hq hb1 hn hql h0 hm1
    have hl : x.bs.length - q = 5 + (b.length + (stoS cs ++ r).length) := by rw [← List.length_drop, hb1, List.length_append, List.length_append]; rfl
    have hb2 : x.bs.drop (q + 5 + b.length) = stoS cs ++ r := by
      rw [show q + 5 + b.length = q + (5 + b.length) from by omega, ← List.drop_drop, hb1, ← List.append_assoc, List.drop_left' (by simp [headB]; omega)]
    have h2 := run_some cs { x with at_ := 8 * (q + 5 + b.length), st := 0, raw := 0, last := false, out := x.out ++ b, all := x.all ++ b } (q + 5 + b.length) k r rfl rfl rfl rfl hb2 (fun c h => hc c (by simp [h])) (by simp only; omega) (by simp at hm ⊢; omega)
    rw [show k + 3 * (b :: cs).length = k + 3 * cs.length + 3 from by simp; omega, h1, h2]
    have e : q + 5 + b.length + (stoS cs).length = q + (stoS (b :: cs)).length := by simp [stoS, headB]; omega
    rw [e]
    simp [List.append_assoc, hs, hL, hw]
theorem raw_short {x : I} {q k : Nat} {b r : List Int} (h1 : x.st = 1) (hq : x.at_ = 8 * q) (hb : x.bs.drop q = b ++ r) (hn : x.raw = b.length) (h0 : b ≠ []) (hm : x.most + 1 = x.all.length + b.length) (hql : q ≤ x.bs.length) :
    (runP (k + 2) x).2 = 3 := by
  have hl : x.bs.length - q = b.length + r.length := by rw [← List.length_drop, hb, List.length_append]
  have hb0 : 0 < b.length := List.length_pos_iff.2 h0
  have hlf : lf x.bs x.at_ / 8 = b.length + r.length := by unfold lf; rw [hq]; omega
  by_cases hone : b.length = 1
  · have s1 : stepG x = .bad 3 := by
      unfold stepG
      rw [if_neg (by omega), if_pos h1]
      unfold rawG
      rw [if_neg (by omega), if_neg (by omega), if_pos (by omega)]
    rw [show k + 2 = k + 1 + 1 from rfl, runP, if_neg (by omega), s1]
  · have hN : min (min x.raw (lf x.bs x.at_ / 8)) (x.most - x.all.length) = b.length - 1 := by omega
    have s1 : stepG x = .ok { x with at_ := x.at_ + 8 * (b.length - 1), raw := x.raw - (b.length - 1), out := x.out ++ (x.bs.drop (x.at_ / 8)).take (b.length - 1), all := x.all ++ (x.bs.drop (x.at_ / 8)).take (b.length - 1) } := by
      unfold stepG
      rw [if_neg (by omega), if_pos h1]
      unfold rawG
      rw [if_neg (by omega), if_neg (by omega), hN, if_neg (by omega)]
    have hd : ((x.bs.drop (x.at_ / 8)).take (b.length - 1)).length = b.length - 1 := by
      rw [List.length_take, List.length_drop, show x.at_ / 8 = q from by omega]; omega
    have hlf2 : lf x.bs (x.at_ + 8 * (b.length - 1)) / 8 = 1 + r.length := by unfold lf; rw [hq]; omega
    have s2 : stepG { x with at_ := x.at_ + 8 * (b.length - 1), raw := x.raw - (b.length - 1), out := x.out ++ (x.bs.drop (x.at_ / 8)).take (b.length - 1), all := x.all ++ (x.bs.drop (x.at_ / 8)).take (b.length - 1) } = .bad 3 := by
      unfold stepG
      rw [if_neg (by simp only; omega), if_pos h1]
      unfold rawG
      simp only [List.length_append, hd, hlf2]
      rw [if_neg (by omega), if_neg (by omega), if_pos (by omega)]
    rw [show k + 2 = k + 1 + 1 from rfl, runP_ok (by omega) s1, runP, if_neg (by simp only; omega), s2]
/-- With one byte less than there are: too much. -/
theorem allQ_more (cs : List (List Int)) (b : List Int) (r : List Int) (wide : Bool) (size : Nat) (hc : ∀ c ∈ cs, c ≠ [] ∧ c.length ≤ 65535) (h0 : b ≠ []) (hn : b.length ≤ 65535) (m : Nat) (hm : m + 1 = cs.flatten.length + b.length) :
    allQ (stoS cs ++ (headB b false ++ (b ++ r))) wide size m = ([], 0, 3) := by
  have hl := stoS_len cs
  have hb0 : 0 < b.length := List.length_pos_iff.2 h0
  have hlen : (stoS cs ++ (headB b false ++ (b ++ r))).length = (stoS cs).length + (5 + (b.length + r.length)) := by rw [List.length_append, List.length_append, List.length_append]; rfl
  obtain ⟨k, hk⟩ : ∃ k, 16 * (stoS cs ++ (headB b false ++ (b ++ r))).length + 2 = k + 3 + 3 * cs.length := ⟨16 * (stoS cs ++ (headB b false ++ (b ++ r))).length + 2 - (3 * cs.length + 3), by omega⟩
  have h := run_some cs (startI (stoS cs ++ (headB b false ++ (b ++ r))) wide size m) 0 (k + 3) (headB b false ++ (b ++ r)) rfl rfl rfl rfl rfl hc (Nat.zero_le _) (by simp only [startI, List.length_nil]; omega)
  unfold allQ
  rw [hk, h]
  dsimp only
  generalize hX : (startI (stoS cs ++ (headB b false ++ (b ++ r))) wide size m) = X at *
  have hXb : X.bs = stoS cs ++ (headB b false ++ (b ++ r)) := by rw [← hX]; rfl
  have hXm : X.most = m := by rw [← hX]; rfl
  have hXs : X.st = 0 := by rw [← hX]; rfl
  have hXa : X.all = [] := by rw [← hX]; rfl
  have hd : X.bs.drop (0 + (stoS cs).length) = headB b false ++ (b ++ r) := by rw [hXb, Nat.zero_add, List.drop_left]
  have hql : 0 + (stoS cs).length ≤ X.bs.length := by rw [hXb, hlen]; omega
  have s1 := block_stored (x := { X with at_ := 8 * (0 + (stoS cs).length), out := X.out ++ cs.flatten, all := X.all ++ cs.flatten }) (q := 0 + (stoS cs).length) (fin := false) rfl hd hn hql
  have t1 : stepG { X with at_ := 8 * (0 + (stoS cs).length), out := X.out ++ cs.flatten, all := X.all ++ cs.flatten } = .ok { X with st := 1, raw := b.length, at_ := 8 * (0 + (stoS cs).length + 5), last := false, out := X.out ++ cs.flatten, all := X.all ++ cs.flatten } := by unfold stepG; rw [if_pos hXs]; exact s1
  have hd5 : X.bs.drop (0 + (stoS cs).length + 5) = b ++ r := by rw [← List.drop_drop, hd]; rfl
  have h3 := raw_short (k := k) (x := { X with st := 1, raw := b.length, at_ := 8 * (0 + (stoS cs).length + 5), last := false, out := X.out ++ cs.flatten, all := X.all ++ cs.flatten }) (q := 0 + (stoS cs).length + 5) (b := b) (r := r) rfl rfl hd5 rfl h0 (by simp only [List.length_append]; rw [hXa, hXm, List.length_nil]; omega) (by simp only; rw [hXb, hlen]; omega)
  rw [show k + 3 = k + 2 + 1 from rfl, runP_ok (by simp only; omega) t1]
  simp only [h3]
  rfl
theorem block_cut {x : I} {q : Nat} (hq : x.at_ = 8 * q) (hb : x.bs.drop q = (headB [] true).take 4) (hql : q ≤ x.bs.length) : blockG x = .bad 5 := by
  have hl : x.bs.length - q = 4 := by rw [← List.length_drop, hb]; rfl
  have hlf : lf x.bs x.at_ = 32 := by unfold lf; rw [hq]; omega
  have hg : ∀ i, i < 4 → x.bs[q + i]? = (headB [] true)[i]? := fun i hi => by
    have : (x.bs.drop q)[i]? = ((headB [] true).take 4)[i]? := by rw [hb]
    rwa [List.getElem?_drop, List.getElem?_take, if_pos hi] at this
  have g0 : x.bs[q]? = some 1 := hg 0 (by omega)
  have k0 : pk x.bs (8 * q) 8 = 1 := by rw [pk_byte x.bs q g0 (by omega) (by omega)]; rfl
  have k2 : pk x.bs (8 * q + 1) 2 = 0 := by rw [pk_shift, ← pk_mod x.bs (8 * q) (m := 8) (by omega), k0]
  have e1 : getG x.bs (x.at_ + 1) 2 = .ok 0 := by unfold getG; rw [if_neg (by unfold lf at *; omega), hq, k2]
  have ea : (x.at_ + 3 + 7) / 8 * 8 = 8 * (q + 1) := by omega
  have e3 : getG x.bs (8 * (q + 1) + 16) 16 = .bad 5 := by unfold getG; rw [if_pos (by unfold lf at *; omega)]
  unfold blockG
  cases h0 : getG x.bs x.at_ 1 with
  | bad e => unfold getG at h0; rw [if_neg (by omega)] at h0; cases h0
  | ok l =>
    simp only
    rw [e1]
    simp only [if_true]
    rw [ea]
    cases h2 : getG x.bs (8 * (q + 1)) 16 with
    | bad e => unfold getG at h2; rw [if_neg (by unfold lf at *; omega)] at h2; cases h2
    | ok n => simp only; rw [e3]
/-- Without the last byte: cut off. -/
theorem allQ_less (cs : List (List Int)) (wide : Bool) (size : Nat) (hc : ∀ c ∈ cs, c ≠ [] ∧ c.length ≤ 65535) :
    allQ (stoS cs ++ (headB [] true).take 4) wide size cs.flatten.length = ([], 0, 2) := by
  have hl := stoS_len cs
  have hlen : (stoS cs ++ (headB [] true).take 4).length = (stoS cs).length + 4 := by rw [List.length_append]; rfl
  obtain ⟨k, hk⟩ : ∃ k, 16 * (stoS cs ++ (headB [] true).take 4).length + 2 = k + 1 + 3 * cs.length := ⟨16 * (stoS cs ++ (headB [] true).take 4).length + 2 - (3 * cs.length + 1), by omega⟩
  have h := run_some cs (startI (stoS cs ++ (headB [] true).take 4) wide size cs.flatten.length) 0 (k + 1) ((headB [] true).take 4) rfl rfl rfl rfl rfl hc (Nat.zero_le _) (by simp only [startI, List.length_nil]; omega)
  unfold allQ
  rw [hk, h]
  dsimp only
  generalize hX : (startI (stoS cs ++ (headB [] true).take 4) wide size cs.flatten.length) = X at *
  have hXb : X.bs = stoS cs ++ (headB [] true).take 4 := by rw [← hX]; rfl
  have hXs : X.st = 0 := by rw [← hX]; rfl
  have hd : X.bs.drop (0 + (stoS cs).length) = (headB [] true).take 4 := by rw [hXb, Nat.zero_add, List.drop_left]
  have hql : 0 + (stoS cs).length ≤ X.bs.length := by rw [hXb, hlen]; omega
  have s1 := block_cut (x := { X with at_ := 8 * (0 + (stoS cs).length), out := X.out ++ cs.flatten, all := X.all ++ cs.flatten }) (q := 0 + (stoS cs).length) rfl hd hql
  have t1 : stepG { X with at_ := 8 * (0 + (stoS cs).length), out := X.out ++ cs.flatten, all := X.all ++ cs.flatten } = .bad 5 := by unfold stepG; rw [if_pos hXs]; exact s1
  have h3 : runP (k + 1) { X with at_ := 8 * (0 + (stoS cs).length), out := X.out ++ cs.flatten, all := X.all ++ cs.flatten } = ({ X with at_ := 8 * (0 + (stoS cs).length), out := X.out ++ cs.flatten, all := X.all ++ cs.flatten }, 5) := by
    rw [runP, if_neg (by simp only [hXs]; decide), t1]
  rw [h3]
  rfl
end Go.Proofs.Yteknaaijlkenkaa
