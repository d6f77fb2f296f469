import Derived.Test.YteknaaijlkenkaaCanRp
namespace Go.Proofs.Yteknaaijlkenkaa
set_option linter.unusedVariables false
set_option linter.unusedSimpArgs false

/-! ### bits as natural numbers -/
theorem numT_take : ∀ (t : List Int) (n : Nat), bin t → numT (t.take n) = numT t % 2 ^ n
  | [], n, _ => by simp [numT]
  | x :: t, 0, h => by simp [numT, Int.emod_one]
  | x :: t, n + 1, h => by
    have hx := h x (by simp)
    have ih := numT_take t n (fun y hy => h y (by simp [hy]))
    rw [List.take_succ_cons, numT, ih, numT]
    have hr := (numT_range (t := t) (fun y hy => h y (by simp [hy]))).1
    obtain ⟨u, hu⟩ : ∃ u : Nat, numT t = u := ⟨(numT t).toNat, by omega⟩
    obtain ⟨b, hb⟩ : ∃ b : Nat, x = b := ⟨x.toNat, by omega⟩
    rw [hu, hb, Int.pow_succ, Int.mul_comm (2 ^ n) 2]
    have h1 : (b + 2 * u) % (2 * 2 ^ n) = b + 2 * (u % 2 ^ n) := by
      rw [Nat.mod_mul]
      have h2 : (b + 2 * u) % 2 = b := by omega
      have h3 : (b + 2 * u) / 2 = u := by omega
      rw [h2, h3]
    exact_mod_cast h1.symm
theorem numT_inj {a b : List Int} : ∀ {a b : List Int}, bin a → bin b → a.length = b.length → numT a = numT b → a = b
  | [], [], _, _, _, _ => rfl
  | [], _ :: _, _, _, h, _ => by simp at h
  | _ :: _, [], _, _, h, _ => by simp at h
  | x :: a, y :: b, ha, hb, hl, he => by
    have hx := ha x (by simp)
    have hy := hb y (by simp)
    rw [numT, numT] at he
    have e1 : x = y := by omega
    have e2 : numT a = numT b := by omega
    rw [e1, numT_inj (a := a) (b := b) (fun z hz => ha z (by simp [hz])) (fun z hz => hb z (by simp [hz])) (by simpa using hl) e2]

structure Good (l : List Int) : Prop where
  sum : below15 l 16 ≤ 32768
  ok : okL l
def ln (l : List Int) (i : Nat) : Nat := (l.getD i 0).toNat
/-- The code, its first bit the lowest. -/
def tc (l : List Int) (i : Nat) : Nat := (numT (cw l i)).toNat
section
variable {l : List Int}
theorem Good.at_ (h : Good l) (i : Nat) : ln l i ≤ 15 ∧ l.getD i 0 = ln l i := by
  unfold ln
  rw [List.getD_eq_getElem?_getD]
  cases hx : l[i]? with
  | none => simp
  | some x =>
    have := h.ok x (List.mem_of_getElem? hx)
    simp only [Option.getD_some]
    omega
theorem Good.get (h : Good l) {i : Nat} (h1 : 1 ≤ ln l i) : l[i]? = some (ln l i : Int) := by
  have h2 := (h.at_ i).2
  cases hx : l[i]? with
  | none => unfold ln at h1; rw [List.getD_eq_getElem?_getD, hx] at h1; simp at h1
  | some x => rw [List.getD_eq_getElem?_getD, hx] at h2; rw [← h2]; rfl
theorem Good.lt (h : Good l) {i : Nat} (h1 : 1 ≤ ln l i) : i < l.length := (List.getElem?_eq_some_iff.1 (h.get h1)).1
theorem Good.cw_len (h : Good l) {i : Nat} (h1 : 1 ≤ ln l i) : (cw l i).length = ln l i := cw_length (h.get h1) h1 (h.at_ i).1
theorem tc_num (l : List Int) (i : Nat) : (tc l i : Int) = numT (cw l i) := by
  have := (numT_range (cw_bin l i)).1
  unfold tc
  omega
theorem Good.tc_lt (h : Good l) {i : Nat} (h1 : 1 ≤ ln l i) : tc l i < 2 ^ ln l i := by
  have := (numT_range (cw_bin l i)).2
  rw [h.cw_len h1, ← tc_num] at this
  exact_mod_cast this
theorem Good.apart (h : Good l) {i k : Nat} (h1 : 1 ≤ ln l i) (hik : i ≠ k) (hn : ln l i ≤ ln l k) : tc l k % 2 ^ ln l i ≠ tc l i := by
  intro e
  have e1 : numT ((cw l k).take (ln l i)) = numT (cw l i) := by
    rw [numT_take _ _ (cw_bin l k), ← tc_num, ← tc_num]
    exact_mod_cast e
  have e2 := numT_inj (a := []) (b := []) (bin_take (cw_bin l k) _) (cw_bin l i) (by rw [List.length_take, h.cw_len h1, h.cw_len (by omega)]; omega) e1
  exact cw_apart h.sum (h.get h1) (h.get (show 1 ≤ ln l k by omega)) h1 (h.at_ k).1 hik hn e2
/-- Bits v begin with the code of i. -/
def mt (l : List Int) (i v : Nat) : Prop := 1 ≤ ln l i ∧ v % 2 ^ ln l i = tc l i
instance (l : List Int) (i v : Nat) : Decidable (mt l i v) := by unfold mt; infer_instance
theorem mod_mod_pow (v : Nat) {a b : Nat} (h : a ≤ b) : v % 2 ^ b % 2 ^ a = v % 2 ^ a := Nat.mod_mod_of_dvd _ (Nat.pow_dvd_pow 2 h)
theorem Good.one (h : Good l) {i k v : Nat} (hi : mt l i v) (hk : mt l k v) : i = k := by
  rcases Nat.lt_trichotomy i k with c | c | c
  · exfalso
    rcases Nat.le_total (ln l i) (ln l k) with hn | hn
    · exact h.apart hi.1 (by omega) hn (by rw [← hk.2, mod_mod_pow v hn, hi.2])
    · exact h.apart hk.1 (by omega) hn (by rw [← hi.2, mod_mod_pow v hn, hk.2])
  · exact c
  · exfalso
    rcases Nat.le_total (ln l i) (ln l k) with hn | hn
    · exact h.apart hi.1 (by omega) hn (by rw [← hk.2, mod_mod_pow v hn, hi.2])
    · exact h.apart hk.1 (by omega) hn (by rw [← hi.2, mod_mod_pow v hn, hk.2])
end

/-! ### the places -/
structure Pl where
  k : Nat
  s : Nat
  n : Nat
deriving DecidableEq
def Pl.z : Pl := ⟨0, 0, 0⟩
def pg (P : List Pl) (q : Nat) : Pl := P.getD q Pl.z
def look (P : List Pl) (F v : Nat) : Pl := if (pg P (v % 2 ^ F)).k = 2 then pg P ((pg P (v % 2 ^ F)).s + v / 2 ^ F % 2 ^ (pg P (v % 2 ^ F)).n) else pg P (v % 2 ^ F)
def twos (P : List Pl) (F : Nat) : Nat := (P.take (2 ^ F)).countP (fun x => x.k == 2)
structure TInv (l : List Int) (F : Nat) (D : List Nat) (i u : Nat) (P : List Pl) : Prop where
  len : 2 ^ F ≤ P.length
  bound : P.length ≤ 2 ^ F + twos P F * 2 ^ (15 - F)
  more : ∀ p, p < 2 ^ F → (pg P p).k = 2 → (pg P p).n = D.getD p 0 ∧ 2 ^ F ≤ (pg P p).s ∧ (pg P p).s + 2 ^ D.getD p 0 ≤ P.length
  disj : ∀ p q, p < 2 ^ F → q < 2 ^ F → p ≠ q → (pg P p).k = 2 → (pg P q).k = 2 → (pg P p).s + 2 ^ D.getD p 0 ≤ (pg P q).s ∨ (pg P q).s + 2 ^ D.getD q 0 ≤ (pg P p).s
  why : ∀ p, p < 2 ^ F → (pg P p).k = 2 → ∃ j, j < u ∧ F < ln l j ∧ tc l j % 2 ^ F = p
  kinds : ∀ p, p < 2 ^ F → (pg P p).k = 0 ∧ pg P p = Pl.z ∨ (pg P p).k = 1 ∨ (pg P p).k = 2
  look1 : ∀ v j, j < i → mt l j v → look P F v = ⟨1, j, ln l j⟩
  look0 : ∀ v, (∀ j, j < i → ¬ mt l j v) → (look P F v).k = 0
theorem TInv.start (l : List Int) (F : Nat) (D : List Nat) : TInv l F D 0 0 (List.replicate (2 ^ F) Pl.z) := by
  have hz : ∀ q, pg (List.replicate (2 ^ F) Pl.z) q = Pl.z := fun q => by
    unfold pg; rw [List.getD_eq_getElem?_getD, List.getElem?_replicate]; split <;> rfl
  refine ⟨by simp, by simp, fun p _ h => ?_, fun p q _ _ _ h => ?_, fun p _ h => ?_, fun p _ => ?_, fun v j h => by omega, fun v _ => ?_⟩
  · rw [hz] at h; cases h
  · rw [hz] at h; cases h
  · rw [hz] at h; cases h
  · left; rw [hz]; exact ⟨rfl, rfl⟩
  · unfold look; rw [hz]; rw [if_neg (by decide)]; rfl
theorem twos_le (P : List Pl) (F : Nat) : twos P F ≤ 2 ^ F := by
  unfold twos
  exact Nat.le_trans List.countP_le_length (by rw [List.length_take]; omega)
theorem TInv.size {l : List Int} {F : Nat} {D : List Nat} {i u : Nat} {P : List Pl} (h : TInv l F D i u P) (hF : F ≤ 15) : P.length ≤ 2 ^ F + 32768 := by
  have h1 := h.bound
  have h2 := Nat.mul_le_mul_right (2 ^ (15 - F)) (twos_le P F)
  rw [← Nat.pow_add, show F + (15 - F) = 15 from by omega] at h2
  have : 2 ^ 15 = 32768 := by decide
  omega
theorem TInv.skip {l : List Int} {F : Nat} {D : List Nat} {i : Nat} {P : List Pl} (h : TInv l F D i i P) (h0 : ln l i = 0) : TInv l F D (i + 1) (i + 1) P := by
  have hm : ∀ v, ¬ mt l i v := fun v c => by have := c.1; omega
  refine ⟨h.len, h.bound, h.more, h.disj, fun p hp h2 => ?_, h.kinds, fun v j hj hm' => ?_, fun v hv => h.look0 v (fun j hj => hv j (by omega))⟩
  · obtain ⟨j, hj, hr⟩ := h.why p hp h2
    exact ⟨j, by omega, hr⟩
  · by_cases e : j = i
    · subst e; exact absurd hm' (hm v)
    · exact h.look1 v j (by omega) hm'
/-- A short code: all places of the first table that it leads to. -/
theorem TInv.short {l : List Int} {F : Nat} {D : List Nat} {i : Nat} {P P' : List Pl} (hg : Good l) (h : TInv l F D i i P) (h1 : 1 ≤ ln l i) (hF : ln l i ≤ F) (hl : P'.length = P.length)
    (hP : ∀ q, q < P.length → pg P' q = if q < 2 ^ F ∧ q % 2 ^ ln l i = tc l i then ⟨1, i, ln l i⟩ else pg P q) : TInv l F D (i + 1) (i + 1) P' := by
  have hn : ∀ p, p < 2 ^ F → (pg P p).k = 2 → p % 2 ^ ln l i ≠ tc l i := fun p hp h2 e => by
    obtain ⟨j, hj, hj2, hj3⟩ := h.why p hp h2
    refine hg.apart (i := i) (k := j) h1 (by omega) (by omega) ?_
    rw [← mod_mod_pow (tc l j) hF, hj3, e]
  have hk2 : ∀ p, p < 2 ^ F → ((pg P' p).k = 2 ↔ (pg P p).k = 2) := fun p hp => by
    rw [hP p (by have := h.len; omega)]
    split
    · rename_i c
      constructor
      · intro e; cases e
      · intro e; exact absurd c.2 (hn p hp e)
    · exact Iff.rfl
  have h2e : ∀ p, p < 2 ^ F → (pg P' p).k = 2 → pg P' p = pg P p := fun p hp e => by
    rw [hP p (by have := h.len; omega)] at e ⊢
    split
    · rename_i c; rw [if_pos c] at e; cases e
    · rfl
  have htw : twos P' F = twos P F := by
    unfold twos
    have : (P'.take (2 ^ F)).map (fun x => x.k == 2) = (P.take (2 ^ F)).map (fun x => x.k == 2) := by
      apply List.ext_getElem?
      intro q
      rw [List.getElem?_map, List.getElem?_map, List.getElem?_take, List.getElem?_take]
      by_cases hq : q < 2 ^ F
      · rw [if_pos hq, if_pos hq]
        have := hk2 q hq
        have hlen := h.len
        unfold pg at this
        rw [List.getD_eq_getElem?_getD, List.getD_eq_getElem?_getD, List.getElem?_eq_getElem (by omega), List.getElem?_eq_getElem (by omega)] at this
        rw [List.getElem?_eq_getElem (by omega), List.getElem?_eq_getElem (by omega)]
        simp only [Option.map_some, Option.some.injEq, Option.getD_some] at this ⊢
        rw [Bool.eq_iff_iff]
        simpa using this
      · rw [if_neg hq, if_neg hq]
    have e2 := congrArg (List.countP (fun b => b)) this
    rw [List.countP_map, List.countP_map] at e2
    exact e2
  have hlook : ∀ v, look P' F v = if v % 2 ^ ln l i = tc l i then ⟨1, i, ln l i⟩ else look P F v := fun v => by
    have hv : v % 2 ^ F < 2 ^ F := Nat.mod_lt _ (Nat.pow_pos (by decide))
    have hlen := h.len
    have e1 := hP (v % 2 ^ F) (by omega)
    rw [mod_mod_pow v hF] at e1
    by_cases c : v % 2 ^ ln l i = tc l i
    · rw [if_pos ⟨hv, c⟩] at e1
      rw [if_pos c]
      unfold look
      rw [e1, if_neg (by show ¬ (1 : Nat) = 2; decide)]
    · rw [if_neg (fun d => c d.2)] at e1
      rw [if_neg c]
      unfold look
      rw [e1]
      split
      · rename_i h2
        obtain ⟨m1, m2, m3⟩ := h.more _ hv h2
        have hx : v / 2 ^ F % 2 ^ (pg P (v % 2 ^ F)).n < 2 ^ (pg P (v % 2 ^ F)).n := Nat.mod_lt _ (Nat.pow_pos (by decide))
        rw [m1] at hx ⊢
        rw [hP _ (by omega), if_neg (by omega)]
      · rfl
  refine ⟨by rw [hl]; exact h.len, by rw [hl, htw]; exact h.bound, fun p hp h2 => ?_, fun p q hp hq hpq a b => ?_, fun p hp h2 => ?_, fun p hp => ?_, fun v j hj hm => ?_, fun v hv => ?_⟩
  · rw [h2e p hp h2, hl]; exact h.more p hp ((hk2 p hp).1 h2)
  · rw [h2e p hp a, h2e q hq b]; exact h.disj p q hp hq hpq ((hk2 p hp).1 a) ((hk2 q hq).1 b)
  · obtain ⟨j, hj, hr⟩ := h.why p hp ((hk2 p hp).1 h2)
    exact ⟨j, by omega, hr⟩
  · have := h.len
    rw [hP p (by omega)]
    split
    · right; left; rfl
    · exact h.kinds p hp
  · rw [hlook]
    by_cases c : v % 2 ^ ln l i = tc l i
    · rw [if_pos c]
      have := hg.one (i := i) (k := j) ⟨h1, c⟩ hm
      rw [this]
    · rw [if_neg c]
      refine h.look1 v j ?_ hm
      rcases Nat.lt_or_ge j i with d | d
      · exact d
      · have : j = i := by omega
        subst this
        exact absurd hm.2 c
  · rw [hlook, if_neg (fun c => hv i (by omega) ⟨h1, c⟩)]
    exact h.look0 v (fun j hj => hv j (by omega))
theorem getD_set {α : Type} (P : List α) (p q : Nat) (x d : α) (hp : p < P.length) : (P.set p x).getD q d = if q = p then x else P.getD q d := by
  rw [List.getD_eq_getElem?_getD, List.getD_eq_getElem?_getD, List.getElem?_set]
  by_cases e : p = q
  · subst e; simp [hp]
  · rw [if_neg e, if_neg (fun c => e c.symm)]
theorem twos_set {P : List Pl} {F p : Nat} {x : Pl} (hp : p < 2 ^ F) (hl : 2 ^ F ≤ P.length) (hx : x.k = 2) (h0 : (pg P p).k ≠ 2) (R : List Pl) : twos (P.set p x ++ R) F = twos P F + 1 := by
  unfold twos
  rw [List.take_append_of_le_length (by rw [List.length_set]; exact hl), List.take_set]
  have hpl : p < (P.take (2 ^ F)).length := by rw [List.length_take]; omega
  have e := List.countP_set (p := fun x : Pl => x.k == 2) (a := x) (l := P.take (2 ^ F)) (i := p) hpl
  rw [e]
  have e2 : (P.take (2 ^ F))[p].k ≠ 2 := by
    have : pg P p = (P.take (2 ^ F))[p] := by
      unfold pg
      rw [List.getD_eq_getElem?_getD, List.getElem?_eq_getElem (by omega), List.getElem_take]; rfl
    rw [← this]; exact h0
  simp only [List.getElem_take] at e2
  simp [hx, e2]
theorem TInv.wide {l : List Int} {F : Nat} {D : List Nat} {i : Nat} {P : List Pl} (h : TInv l F D i i P) : TInv l F D i (i + 1) P :=
  ⟨h.len, h.bound, h.more, h.disj, fun p hp h2 => by obtain ⟨j, hj, hr⟩ := h.why p hp h2; exact ⟨j, by omega, hr⟩, h.kinds, h.look1, h.look0⟩
/-- A long code whose first place leads nowhere yet: a new table behind all. -/
theorem TInv.fresh {l : List Int} {F : Nat} {D : List Nat} {i p : Nat} {P : List Pl} (h : TInv l F D i i P) (hF : F ≤ 15) (hp : p < 2 ^ F) (h0 : pg P p = Pl.z) (hD : D.getD p 0 ≤ 15 - F)
    (hw : F < ln l i ∧ tc l i % 2 ^ F = p) :
    TInv l F D i (i + 1) (P.set p ⟨2, P.length, D.getD p 0⟩ ++ List.replicate (2 ^ D.getD p 0) Pl.z) := by
  have hlen := h.len
  have hP : ∀ q, pg (P.set p ⟨2, P.length, D.getD p 0⟩ ++ List.replicate (2 ^ D.getD p 0) Pl.z) q = if q = p then ⟨2, P.length, D.getD p 0⟩ else if q < P.length then pg P q else Pl.z := fun q => by
    by_cases hq : q < P.length
    · have : pg (P.set p ⟨2, P.length, D.getD p 0⟩ ++ List.replicate (2 ^ D.getD p 0) Pl.z) q = (P.set p ⟨2, P.length, D.getD p 0⟩).getD q Pl.z := by
        unfold pg
        simp only [List.getD_eq_getElem?_getD]
        rw [List.getElem?_append_left (by rw [List.length_set]; exact hq)]
      rw [this, getD_set P p q _ _ (by omega), if_pos hq]
      rfl
    · rw [if_neg (by omega), if_neg hq]
      unfold pg
      rw [List.getD_eq_getElem?_getD, List.getElem?_append_right (by rw [List.length_set]; omega), List.getElem?_replicate]
      split <;> rfl
  generalize hP1 : P.set p ⟨2, P.length, D.getD p 0⟩ ++ List.replicate (2 ^ D.getD p 0) Pl.z = P1 at hP
  have hl1 : P1.length = P.length + 2 ^ D.getD p 0 := by rw [← hP1]; simp
  have hp2 : 0 < 2 ^ D.getD p 0 := Nat.pow_pos (by decide)
  have hpp : pg P1 p = ⟨2, P.length, D.getD p 0⟩ := by rw [hP, if_pos rfl]
  have hpq : ∀ q, q < 2 ^ F → q ≠ p → pg P1 q = pg P q := fun q hq e => by rw [hP, if_neg e, if_pos (by omega)]
  have hlook : ∀ v, look P1 F v = look P F v := fun v => by
    have hv : v % 2 ^ F < 2 ^ F := Nat.mod_lt _ (Nat.pow_pos (by decide))
    unfold look
    by_cases e : v % 2 ^ F = p
    · rw [e, hpp, h0, if_pos rfl, if_neg (by decide), hP, if_neg (by show ¬ P.length + _ = p; omega), if_neg (by show ¬ P.length + _ < P.length; omega)]
    · rw [hpq _ hv e]
      split
      · rename_i h2
        obtain ⟨m1, m2, m3⟩ := h.more _ hv h2
        have hx : v / 2 ^ F % 2 ^ (pg P (v % 2 ^ F)).n < 2 ^ (pg P (v % 2 ^ F)).n := Nat.mod_lt _ (Nat.pow_pos (by decide))
        rw [m1] at hx ⊢
        rw [hP, if_neg (by omega), if_pos (by omega)]
      · rfl
  refine ⟨by omega, ?_, fun q hq h2 => ?_, fun q r hq hr hqr a b => ?_, fun q hq h2 => ?_, fun q hq => ?_, fun v j hj hm => ?_, fun v hv => ?_⟩
  · rw [hl1, ← hP1, twos_set hp hlen rfl (by rw [h0]; decide), Nat.add_mul, Nat.one_mul]
    have := Nat.pow_le_pow_right (n := 2) (by decide) hD
    have := h.bound
    omega
  · by_cases e : q = p
    · subst e; rw [hpp]; exact ⟨rfl, hlen, Nat.le_of_eq hl1.symm⟩
    · rw [hpq q hq e] at h2 ⊢
      have := h.more q hq h2
      omega
  · by_cases e : q = p
    · subst e
      rw [hpp]
      rw [hpq r hr (fun c => hqr c.symm)] at b ⊢
      have := h.more r hr b
      right; show _ ≤ P.length; omega
    · rw [hpq q hq e] at a ⊢
      by_cases e2 : r = p
      · subst e2
        rw [hpp]
        have := h.more q hq a
        left; show _ ≤ P.length; omega
      · rw [hpq r hr e2] at b ⊢
        exact h.disj q r hq hr hqr a b
  · by_cases e : q = p
    · subst e; exact ⟨i, by omega, hw⟩
    · rw [hpq q hq e] at h2
      obtain ⟨j, hj, hr⟩ := h.why q hq h2
      exact ⟨j, by omega, hr⟩
  · by_cases e : q = p
    · subst e; rw [hpp]; right; right; rfl
    · rw [hpq q hq e]; exact h.kinds q hq
  · rw [hlook]; exact h.look1 v j hj hm
  · rw [hlook]; exact h.look0 v hv
/-- A long code, in its table. -/
theorem TInv.long {l : List Int} {F : Nat} {D : List Nat} {i p s : Nat} {P P' : List Pl} (hg : Good l) (h : TInv l F D i (i + 1) P) (hF : F < ln l i) (hp : tc l i % 2 ^ F = p) (h2 : (pg P p).k = 2) (hs : (pg P p).s = s) (hD : ln l i - F ≤ D.getD p 0) (hl : P'.length = P.length)
    (hP : ∀ q, q < P.length → pg P' q = if s ≤ q ∧ q < s + 2 ^ D.getD p 0 ∧ (q - s) % 2 ^ (ln l i - F) = tc l i / 2 ^ F then ⟨1, i, ln l i⟩ else pg P q) : TInv l F D (i + 1) (i + 1) P' := by
  have hpF : p < 2 ^ F := by rw [← hp]; exact Nat.mod_lt _ (Nat.pow_pos (by decide))
  obtain ⟨m1, m2, m3⟩ := h.more p hpF h2
  rw [hs] at m2 m3
  have hlen := h.len
  have hf : ∀ q, q < 2 ^ F → pg P' q = pg P q := fun q hq => by rw [hP q (by omega), if_neg (by omega)]
  have htw : twos P' F = twos P F := by
    unfold twos
    have : P'.take (2 ^ F) = P.take (2 ^ F) := by
      apply List.ext_getElem?
      intro q
      rw [List.getElem?_take, List.getElem?_take]
      by_cases hq : q < 2 ^ F
      · rw [if_pos hq, if_pos hq]
        have := hf q hq
        unfold pg at this
        rw [List.getD_eq_getElem?_getD, List.getD_eq_getElem?_getD, List.getElem?_eq_getElem (by omega), List.getElem?_eq_getElem (by omega)] at this
        rw [List.getElem?_eq_getElem (by omega), List.getElem?_eq_getElem (by omega)]
        exact congrArg some this
      · rw [if_neg hq, if_neg hq]
    rw [this]
  have hsplit : ∀ v, v % 2 ^ ln l i = v % 2 ^ F + 2 ^ F * (v / 2 ^ F % 2 ^ (ln l i - F)) := fun v => by
    rw [← Nat.mod_mul, ← Nat.pow_add, show F + (ln l i - F) = ln l i from by omega]
  have htc : tc l i = p + 2 ^ F * (tc l i / 2 ^ F) := by rw [← hp]; exact (Nat.mod_add_div _ _).symm
  have hpow : 0 < 2 ^ F := Nat.pow_pos (by decide)
  have hmt : ∀ v, v % 2 ^ ln l i = tc l i ↔ v % 2 ^ F = p ∧ v / 2 ^ F % 2 ^ (ln l i - F) = tc l i / 2 ^ F := fun v => by
    constructor
    · intro e
      refine ⟨by rw [← mod_mod_pow v (show F ≤ ln l i by omega), e, hp], ?_⟩
      have e1 := hsplit v
      rw [e, ← mod_mod_pow v (show F ≤ ln l i by omega), e, hp] at e1
      rw [htc] at e1
      have := Nat.eq_of_mul_eq_mul_left hpow (Nat.add_left_cancel e1)
      exact this.symm
    · rintro ⟨e1, e2⟩
      rw [hsplit, e1, e2, ← htc]
  have hlook : ∀ v, look P' F v = if v % 2 ^ ln l i = tc l i then ⟨1, i, ln l i⟩ else look P F v := fun v => by
    have hv : v % 2 ^ F < 2 ^ F := Nat.mod_lt _ hpow
    unfold look
    rw [hf _ hv]
    by_cases e : v % 2 ^ F = p
    · rw [e, if_pos h2, if_pos h2, hs, m1]
      have hx : v / 2 ^ F % 2 ^ D.getD p 0 < 2 ^ D.getD p 0 := Nat.mod_lt _ (Nat.pow_pos (by decide))
      rw [hP _ (by omega), Nat.add_sub_cancel_left, mod_mod_pow _ hD]
      by_cases c : v / 2 ^ F % 2 ^ (ln l i - F) = tc l i / 2 ^ F
      · rw [if_pos ⟨by omega, by omega, c⟩, if_pos ((hmt v).2 ⟨e, c⟩)]
      · rw [if_neg (fun d => c d.2.2), if_neg (fun d => c ((hmt v).1 d).2)]
    · rw [if_neg (fun d => e ((hmt v).1 d).1)]
      split
      · rename_i k2
        obtain ⟨n1, n2, n3⟩ := h.more _ hv k2
        have hx : v / 2 ^ F % 2 ^ (pg P (v % 2 ^ F)).n < 2 ^ (pg P (v % 2 ^ F)).n := Nat.mod_lt _ (Nat.pow_pos (by decide))
        rw [n1] at hx ⊢
        have hd := h.disj _ _ hv hpF e k2 h2
        rw [hs] at hd
        rw [hP _ (by omega), if_neg (by omega)]
      · rfl
  refine ⟨by rw [hl]; exact hlen, by rw [hl, htw]; exact h.bound, fun q hq k2 => ?_, fun q r hq hr hqr a b => ?_, fun q hq k2 => ?_, fun q hq => ?_, fun v j hj hm => ?_, fun v hv => ?_⟩
  · rw [hf q hq] at k2 ⊢; rw [hl]; exact h.more q hq k2
  · rw [hf q hq] at a ⊢; rw [hf r hr] at b ⊢; exact h.disj q r hq hr hqr a b
  · rw [hf q hq] at k2; exact h.why q hq k2
  · rw [hf q hq]; exact h.kinds q hq
  · rw [hlook]
    by_cases c : v % 2 ^ ln l i = tc l i
    · rw [if_pos c]
      have := hg.one (i := i) (k := j) ⟨by omega, c⟩ hm
      rw [this]
    · rw [if_neg c]
      refine h.look1 v j ?_ hm
      rcases Nat.lt_or_ge j i with d | d
      · exact d
      · have : j = i := by omega
        subst this
        exact absurd hm.2 c
  · rw [hlook, if_neg (fun c => hv i (by omega) ⟨by omega, c⟩)]
    exact h.look0 v (fun j hj => hv j (by omega))
/-- Where a long code's first place is no table yet, it is empty. -/
theorem TInv.place {l : List Int} {F : Nat} {D : List Nat} {i p : Nat} {P : List Pl} (hg : Good l) (h : TInv l F D i i P) (hF : F < ln l i) (hp : tc l i % 2 ^ F = p) : pg P p = Pl.z ∨ (pg P p).k = 2 := by
  have hpF : p < 2 ^ F := by rw [← hp]; exact Nat.mod_lt _ (Nat.pow_pos (by decide))
  rcases h.kinds p hpF with k | k | k
  · exact .inl k.2
  · exfalso
    have hl : look P F (tc l i) = pg P p := by unfold look; rw [hp, if_neg (by omega)]
    by_cases hex : ∃ j, j < i ∧ mt l j (tc l i)
    · obtain ⟨j, hj, hm⟩ := hex
      have := hg.one hm ⟨by omega, Nat.mod_eq_of_lt (hg.tc_lt (by omega))⟩
      omega
    · have := h.look0 (tc l i) (fun j hj hm => hex ⟨j, hj, hm⟩)
      rw [hl] at this
      omega
  · exact .inr k
end Go.Proofs.Yteknaaijlkenkaa
namespace Go.Proofs.Yteknaaijlkenkaa
open Go.RowKit
attribute [local go_sem] max2i min2i max2t min2t

/-! ### 32 bits the other way round -/
theorem and_bv (A B : BitVec 32) : bits .and .u32 (A.toNat : Int) (B.toNat : Int) = ((A &&& B).toNat : Int) := by
  show IntKind.u32.wrap ((BitVec.ofInt 32 (A.toNat : Int) &&& BitVec.ofInt 32 (B.toNat : Int)).toNat : Int) = _
  rw [BitVec.ofInt_natCast, BitVec.ofInt_natCast, BitVec.ofNat_toNat, BitVec.ofNat_toNat, BitVec.setWidth_eq, BitVec.setWidth_eq, IntKind.wrap_u32]
  have := (A &&& B).isLt
  omega
theorem or_bv (A B : BitVec 32) : bits .or .u32 (A.toNat : Int) (B.toNat : Int) = ((A ||| B).toNat : Int) := by
  show IntKind.u32.wrap ((BitVec.ofInt 32 (A.toNat : Int) ||| BitVec.ofInt 32 (B.toNat : Int)).toNat : Int) = _
  rw [BitVec.ofInt_natCast, BitVec.ofInt_natCast, BitVec.ofNat_toNat, BitVec.ofNat_toNat, BitVec.setWidth_eq, BitVec.setWidth_eq, IntKind.wrap_u32]
  have := (A ||| B).isLt
  omega
theorem shr_bv (A : BitVec 32) (k : Nat) : (A.toNat : Int) / ((2 ^ k : Nat) : Int) = ((A >>> k).toNat : Int) := by
  rw [BitVec.toNat_ushiftRight, Nat.shiftRight_eq_div_pow, Int.natCast_ediv]
theorem shl_bv (A : BitVec 32) (k : Nat) : (A.toNat : Int) * ((2 ^ k : Nat) : Int) % 4294967296 = ((A <<< k).toNat : Int) := by
  rw [BitVec.toNat_shiftLeft, Nat.shiftLeft_eq, Int.natCast_emod, Int.natCast_mul]; rfl
def swp (k : Nat) (M X : BitVec 32) : BitVec 32 := (X >>> k &&& M) ||| ((X &&& M) <<< k)
theorem swp_num (k : Nat) (M X : BitVec 32) : bits .or .u32 (bits .and .u32 ((X.toNat : Int) / ((2 ^ k : Nat) : Int)) (M.toNat : Int)) (bits .and .u32 (X.toNat : Int) (M.toNat : Int) * ((2 ^ k : Nat) : Int) % 4294967296) = ((swp k M X).toNat : Int) := by
  rw [shr_bv, and_bv, and_bv, shl_bv, or_bv]; rfl
def ix (k j : Nat) : Nat := if j / k % 2 = 0 then k + j else j - k
theorem swp_bit (k : Nat) (M X : BitVec 32) (i : Nat) (hi : i < 32) (hM : ∀ j, j < 32 → M.getLsbD j = decide (j / k % 2 = 0)) (h1 : ∀ j, j < 32 → j / k % 2 = 0 → k ≤ j → (j - k) / k % 2 ≠ 0) (h2 : ∀ j, j < 32 → j / k % 2 ≠ 0 → k ≤ j ∧ (j - k) / k % 2 = 0) :
    (swp k M X).getLsbD i = X.getLsbD (ix k i) := by
  unfold swp ix
  rw [BitVec.getLsbD_or, BitVec.getLsbD_and, BitVec.getLsbD_ushiftRight, BitVec.getLsbD_shiftLeft, BitVec.getLsbD_and, hM i hi]
  by_cases c : i / k % 2 = 0
  · by_cases d : k ≤ i
    · rw [hM (i - k) (by omega)]
      have := h1 i hi c d
      simp [c, d, this]
    · simp [c, show i < k from by omega]
  · obtain ⟨d, e⟩ := h2 i hi c
    rw [hM (i - k) (by omega)]
    simp [c, e, hi, show ¬ i < k from by omega]
def rev32 (X : BitVec 32) : BitVec 32 :=
  let Y := swp 8 16711935#32 (swp 4 252645135#32 (swp 2 858993459#32 (swp 1 1431655765#32 X)))
  (Y >>> 16) ||| (Y <<< 16)
theorem mask_ok : (∀ j, j < 32 → (1431655765#32).getLsbD j = decide (j / 1 % 2 = 0)) ∧ (∀ j, j < 32 → (858993459#32).getLsbD j = decide (j / 2 % 2 = 0)) ∧ (∀ j, j < 32 → (252645135#32).getLsbD j = decide (j / 4 % 2 = 0)) ∧ (∀ j, j < 32 → (16711935#32).getLsbD j = decide (j / 8 % 2 = 0)) := by
  refine ⟨?_, ?_, ?_, ?_⟩ <;> decide +kernel
theorem hix : ∀ j, j < 32 → ix 1 (ix 2 (ix 4 (ix 8 j))) = (if j < 16 then 15 - j else 47 - j) ∧ ix 2 (ix 4 (ix 8 j)) < 32 ∧ ix 4 (ix 8 j) < 32 ∧ ix 8 j < 32 := by decide +kernel
theorem rev32_bit (X : BitVec 32) (i : Nat) (hi : i < 32) : (rev32 X).getLsbD i = X.getLsbD (31 - i) := by
  obtain ⟨m1, m2, m4, m8⟩ := mask_ok
  unfold rev32
  simp only
  rw [BitVec.getLsbD_or, BitVec.getLsbD_ushiftRight, BitVec.getLsbD_shiftLeft]
  have key : ∀ j, j < 32 → (swp 8 16711935#32 (swp 4 252645135#32 (swp 2 858993459#32 (swp 1 1431655765#32 X)))).getLsbD j = X.getLsbD (if j < 16 then 15 - j else 47 - j) := fun j hj => by
    obtain ⟨i1, i2, i4, i8⟩ := hix j hj
    rw [swp_bit 8 _ _ j hj m8 (by decide +kernel) (by decide +kernel), swp_bit 4 _ _ _ i8 m4 (by decide +kernel) (by decide +kernel), swp_bit 2 _ _ _ i4 m2 (by decide +kernel) (by decide +kernel), swp_bit 1 _ _ _ i2 m1 (by decide +kernel) (by decide +kernel), i1]
  by_cases c : i < 16
  · rw [key (16 + i) (by omega)]
    simp [c, show ¬ 16 + i < 16 from by omega]
    congr 1; omega
  · rw [key (i - 16) (by omega)]
    have h0 : (swp 8 16711935#32 (swp 4 252645135#32 (swp 2 858993459#32 (swp 1 1431655765#32 X)))).getLsbD (16 + i) = false := BitVec.getLsbD_of_ge _ _ (by omega)
    rw [h0]
    simp [c, hi, show i - 16 < 16 from by omega]
    congr 1; omega
set_option maxHeartbeats 1600000 in
set_option maxRecDepth 100000 in
theorem rev_bytes (X : BitVec 32) (w : World) :
    Calls Try.prog 91 #[.int .u32 X.toNat] w fun e w' => e = .returned (.int .u32 (((swp 8 16711935#32 X) >>> 16 ||| (swp 8 16711935#32 X) <<< 16).toNat : Nat)) ∧ w' = w := by
  have h0 : (0 : Int) ≤ (X.toNat : Int) := by omega
  have h1 : (X.toNat : Int) < 4294967296 := by have := X.isLt; omega
  have e1 := swp_num 8 16711935#32 X
  have e2 := shr_bv (swp 8 16711935#32 X) 16
  have e3 := shl_bv (swp 8 16711935#32 X) 16
  have e4 := or_bv (swp 8 16711935#32 X >>> 16) (swp 8 16711935#32 X <<< 16)
  rw [show ((2 ^ 8 : Nat) : Int) = 256 from rfl, show ((16711935#32).toNat : Int) = 16711935 from rfl] at e1
  rw [show ((2 ^ 16 : Nat) : Int) = 65536 from rfl] at e2 e3
  have hb : 0 ≤ ((swp 8 16711935#32 X).toNat : Int) ∧ ((swp 8 16711935#32 X).toNat : Int) < 4294967296 := by have := (swp 8 16711935#32 X).isLt; omega
  generalize ((swp 8 16711935#32 X).toNat : Int) = y at *
  generalize ((swp 8 16711935#32 X >>> 16).toNat : Int) = y1 at *
  generalize ((swp 8 16711935#32 X <<< 16).toNat : Int) = y2 at *
  generalize ((swp 8 16711935#32 X >>> 16 ||| swp 8 16711935#32 X <<< 16).toNat : Int) = y3 at *
  generalize (X.toNat : Int) = v at *
  obtain ⟨hb0, hb1⟩ := hb
  go_enter Try.func91, Try.ntmps91
  go_wp2_with fail
  go_ret
  exact ⟨rfl, rfl⟩
set_option maxHeartbeats 1600000 in
set_option maxRecDepth 100000 in
theorem rev_32 (X : BitVec 32) (w : World) :
    Calls Try.prog 90 #[.int .u32 X.toNat] w fun e w' => e = .returned (.int .u32 ((rev32 X).toNat : Nat)) ∧ w' = w := by
  have h0 : (0 : Int) ≤ (X.toNat : Int) := by omega
  have h1 : (X.toNat : Int) < 4294967296 := by have := X.isLt; omega
  have HR := Lib.hid (rev_bytes (swp 4 252645135#32 (swp 2 858993459#32 (swp 1 1431655765#32 X))) w)
  have e1 := swp_num 1 1431655765#32 X
  have e2 := swp_num 2 858993459#32 (swp 1 1431655765#32 X)
  have e4 := swp_num 4 252645135#32 (swp 2 858993459#32 (swp 1 1431655765#32 X))
  rw [show ((2 ^ 1 : Nat) : Int) = 2 from rfl, show ((1431655765#32).toNat : Int) = 1431655765 from rfl] at e1
  rw [show ((2 ^ 2 : Nat) : Int) = 4 from rfl, show ((858993459#32).toNat : Int) = 858993459 from rfl] at e2
  rw [show ((2 ^ 4 : Nat) : Int) = 16 from rfl, show ((252645135#32).toNat : Int) = 252645135 from rfl] at e4
  have hb1 : 0 ≤ ((swp 1 1431655765#32 X).toNat : Int) ∧ ((swp 1 1431655765#32 X).toNat : Int) < 4294967296 := by have := (swp 1 1431655765#32 X).isLt; omega
  have hb2 : 0 ≤ ((swp 2 858993459#32 (swp 1 1431655765#32 X)).toNat : Int) ∧ ((swp 2 858993459#32 (swp 1 1431655765#32 X)).toNat : Int) < 4294967296 := by have := (swp 2 858993459#32 (swp 1 1431655765#32 X)).isLt; omega
  have hr : rev32 X = (swp 8 16711935#32 (swp 4 252645135#32 (swp 2 858993459#32 (swp 1 1431655765#32 X)))) >>> 16 ||| (swp 8 16711935#32 (swp 4 252645135#32 (swp 2 858993459#32 (swp 1 1431655765#32 X)))) <<< 16 := rfl
  rw [← hr] at HR
  generalize rev32 X = R at *
  generalize ((swp 4 252645135#32 (swp 2 858993459#32 (swp 1 1431655765#32 X))).toNat : Int) = y4 at *
  generalize ((swp 2 858993459#32 (swp 1 1431655765#32 X)).toNat : Int) = y2 at *
  generalize ((swp 1 1431655765#32 X).toNat : Int) = y1 at *
  generalize (X.toNat : Int) = v at *
  clear hr
  obtain ⟨hb10, hb11⟩ := hb1
  obtain ⟨hb20, hb21⟩ := hb2
  go_enter Try.func90, Try.ntmps90
  go_wp2_with fail
  refine HR.out.mono ?_
  rintro e w1 ⟨rfl, hw⟩
  subst hw
  go_wp2_with fail
  go_ret
  exact ⟨rfl, rfl⟩
/-- The lowest n bits of a number the other way round. -/
def turnN (v n : Nat) : Nat := (numT (bitT v n).reverse).toNat
theorem turnN_num (v n : Nat) : (turnN v n : Int) = numT (bitT v n).reverse := by
  have := (numT_range (bin_rev (bin_bitT v n))).1
  unfold turnN; omega
theorem turnN_lt (v n : Nat) : turnN v n < 2 ^ n := by
  have := (numT_range (bin_rev (bin_bitT v n))).2
  rw [← turnN_num, List.length_reverse, bitT_length] at this
  exact_mod_cast this
theorem rev_turn {v n : Nat} (hv : v < 2 ^ n) (h1 : 1 ≤ n) (hn : n ≤ 32) : (rev32 (BitVec.ofNat 32 v)).toNat / 2 ^ (32 - n) = turnN v n := by
  have hb : ∀ (X : BitVec 32) (i : Nat), X.toNat / 2 ^ i % 2 = (X.getLsbD i).toNat := fun X i => by
    rw [BitVec.getLsbD, Nat.testBit_eq_decide_div_mod_eq]
    have : X.toNat / 2 ^ i % 2 < 2 := Nat.mod_lt _ (by decide)
    by_cases c : X.toNat / 2 ^ i % 2 = 1
    · simp [c]
    · simp [c]; omega
  have h32 : v < 2 ^ 32 := Nat.lt_of_lt_of_le hv (Nat.pow_le_pow_right (by decide) hn)
  have hr : (rev32 (BitVec.ofNat 32 v)).toNat / 2 ^ (32 - n) < 2 ^ n := by
    rw [Nat.div_lt_iff_lt_mul (Nat.pow_pos (by decide)), ← Nat.pow_add, show n + (32 - n) = 32 from by omega]
    exact (rev32 (BitVec.ofNat 32 v)).isLt
  generalize hR : (rev32 (BitVec.ofNat 32 v)).toNat / 2 ^ (32 - n) = r at *
  have hbits : bitT (r : Int) n = (bitT (v : Int) n).reverse := by
    apply List.ext_getElem?
    intro i
    by_cases hi : i < n
    · rw [bitT_at _ hi, List.getElem?_reverse (by rw [bitT_length]; exact hi), bitT_length, bitT_at _ (by omega)]
      have e1 : r / 2 ^ i % 2 = v / 2 ^ (n - 1 - i) % 2 := by
        rw [← hR, Nat.div_div_eq_div_mul, ← Nat.pow_add, hb, rev32_bit _ _ (by omega), show 31 - (32 - n + i) = n - 1 - i from by omega, ← hb, BitVec.toNat_ofNat, Nat.mod_eq_of_lt h32]
      have e2 : ((r / 2 ^ i % 2 : Nat) : Int) = ((v / 2 ^ (n - 1 - i) % 2 : Nat) : Int) := by rw [e1]
      congr 1
    · rw [List.getElem?_eq_none (by rw [bitT_length]; omega), List.getElem?_eq_none (by rw [List.length_reverse, bitT_length]; omega)]
  have h3 := numT_bitT (r : Int) (by omega) n
  rw [hbits, ← turnN_num] at h3
  have h4 : (turnN v n : Int) = ((r % 2 ^ n : Nat) : Int) := by rw [h3, Int.natCast_emod, Int.natCast_pow]; rfl
  rw [Nat.mod_eq_of_lt hr] at h4
  omega
set_option maxHeartbeats 1600000 in
set_option maxRecDepth 100000 in
theorem tab_turned (v n : Nat) (w : World) (hv : v < 2 ^ n) (hn : n ≤ 15) :
    Calls Try.prog 86 #[.int .u32 v, .int .i64 n] w fun e w' => e = .returned (.int .u32 (turnN v n)) ∧ w' = w := by
  by_cases h0 : n = 0
  · subst h0
    go_enter Try.func86, Try.ntmps86
    go_wp2_with fail
    go_ret
    exact ⟨rfl, rfl⟩
  · have h32 : v < 2 ^ 32 := Nat.lt_of_lt_of_le hv (Nat.pow_le_pow_right (by decide) (by omega))
    have hX : (BitVec.ofNat 32 v).toNat = v := by rw [BitVec.toNat_ofNat, Nat.mod_eq_of_lt h32]
    have HR := Lib.hid (rev_32 (BitVec.ofNat 32 v) w)
    rw [hX] at HR
    have ht := rev_turn hv (by omega) (by omega)
    have hlt := (rev32 (BitVec.ofNat 32 v)).isLt
    generalize (rev32 (BitVec.ofNat 32 v)).toNat = R at *
    have e0 : ((n : Int) == 0) = false := by rw [beq_eq_false_iff_ne]; omega
    have hd : (R : Int) / 2 ^ (32 - n) = ((turnN v n : Nat) : Int) := by rw [← ht, Int.natCast_ediv, Int.natCast_pow]; rfl
    have HD := Lib.hid hd
    clear ht hd hX
    go_enter Try.func86, Try.ntmps86
    go_wp2_with fail
    refine HR.out.mono ?_
    rintro e w1 ⟨rfl, hw⟩
    subst hw
    go_wp2_with fail
    go_ret
    exact ⟨by rw [← HD.out]; rfl, rfl⟩
end Go.Proofs.Yteknaaijlkenkaa
namespace Go.Proofs.Yteknaaijlkenkaa

theorem turnN_bits {v n : Nat} (hv : v < 2 ^ n) : bitT (turnN v n : Int) n = (bitT (v : Int) n).reverse := by
  refine numT_inj (a := []) (b := []) (bin_bitT _ _) (bin_rev (bin_bitT _ _)) (by rw [List.length_reverse, bitT_length, bitT_length]) ?_
  rw [numT_bitT _ (by omega), ← turnN_num]
  have := turnN_lt v n
  have e : ((turnN v n % 2 ^ n : Nat) : Int) = turnN v n := by rw [Nat.mod_eq_of_lt this]
  rw [← e, Int.natCast_emod, Int.natCast_pow]
  simp
theorem turnN_twice {v n : Nat} (hv : v < 2 ^ n) : turnN (turnN v n) n = v := by
  have h := turnN_num (turnN v n) n
  rw [turnN_bits hv, List.reverse_reverse, numT_bitT _ (by omega)] at h
  have e : ((v % 2 ^ n : Nat) : Int) = (v : Int) % 2 ^ n := by rw [Int.natCast_emod, Int.natCast_pow]; rfl
  rw [← e, Nat.mod_eq_of_lt hv] at h
  omega
def codeN (l : List Int) (j : Nat) : Nat := (code l j).toNat
section
variable {l : List Int}
theorem Good.cod (h : Good l) {j : Nat} (h1 : 1 ≤ ln l j) : code l j = codeN l j ∧ codeN l j < 2 ^ ln l j := by
  obtain ⟨C, c1, _⟩ := code_true h.sum (h.get h1) h1 (h.at_ j).1
  have := code_small h.sum (h.get h1) h1 (h.at_ j).1 c1
  unfold codeN
  rw [c1]
  exact ⟨by simp, by simpa using this⟩
theorem Good.tc_turn (h : Good l) {j : Nat} (h1 : 1 ≤ ln l j) : tc l j = turnN (codeN l j) (ln l j) := by
  have e1 := tc_num l j
  rw [cw_eq (h.get h1) h1 (h.at_ j).1, (h.cod h1).1, ← turnN_num] at e1
  omega
/-- The first n bits of a code, as a number. -/
theorem Good.tc_mod (h : Good l) {j n : Nat} (h1 : n < ln l j) : tc l j % 2 ^ n = turnN (codeN l j / 2 ^ (ln l j - n)) n := by
  have h1' : 1 ≤ ln l j := by omega
  have e1 := numT_take (cw l j) n (cw_bin l j)
  rw [← tc_num, cw_eq (h.get h1') h1' (h.at_ j).1, List.take_reverse, bitT_length, bitT_drop _ _ _ (by omega), (h.cod h1').1, show ln l j - (ln l j - n) = n from by omega] at e1
  have e2 : ((codeN l j : Int) / 2 ^ (ln l j - n)) = ((codeN l j / 2 ^ (ln l j - n) : Nat) : Int) := by rw [Int.natCast_ediv, Int.natCast_pow]; rfl
  rw [e2, ← turnN_num] at e1
  have e3 : ((tc l j % 2 ^ n : Nat) : Int) = (tc l j : Int) % 2 ^ n := by rw [Int.natCast_emod, Int.natCast_pow]; rfl
  rw [← e3] at e1
  omega
theorem Good.div_lt (h : Good l) {j n : Nat} (h1 : n < ln l j) : codeN l j / 2 ^ (ln l j - n) < 2 ^ n := by
  rw [Nat.div_lt_iff_lt_mul (Nat.pow_pos (by decide)), ← Nat.pow_add, show n + (ln l j - n) = ln l j from by omega]
  exact (h.cod (by omega)).2
theorem Good.tc_beg (h : Good l) {j n v : Nat} (h1 : n < ln l j) (hv : v < 2 ^ n) : tc l j % 2 ^ n = v ↔ codeN l j / 2 ^ (ln l j - n) = turnN v n := by
  rw [h.tc_mod h1]
  constructor
  · intro e; rw [← e, turnN_twice (h.div_lt h1)]
  · intro e; rw [e, turnN_twice hv]
/-- The codes of a length follow each other. -/
theorem Good.run (h : Good l) {k : Nat} (h1 : 1 ≤ k) (h15 : k ≤ 15) : ∃ m : Nat, nxt l k = m ∧ m + cnt l k ≤ 32768 ∧ (∀ j, ln l j = k → codeN l j < m + cnt l k ∧ m ≤ codeN l j) ∧ ∀ b, b < cnt l k → ∃ j, ln l j = k ∧ codeN l j = m + b := by
  obtain ⟨m, e1, e2⟩ := nxt_true h.sum k h1 h15
  have hb : below15 l (k + 1) = below15 l k + cnt l k * 2 ^ (15 - k) := rfl
  have hm := below15_mono l (show k + 1 ≤ 16 by omega)
  have hp : 0 < 2 ^ (15 - k) := Nat.pow_pos (by decide)
  have hcn : cnt l k = l.count (k : Int) := by unfold cnt; rw [if_neg (by omega)]
  have hj : ∀ j, ln l j = k → codeN l j = m + (l.take j).count (k : Int) ∧ (l.take j).count (k : Int) + 1 ≤ cnt l k := fun j hj => by
    have hg := h.get (i := j) (by omega)
    rw [hj] at hg
    obtain ⟨C, c1, c2, c3, _⟩ := code_true h.sum hg h1 h15
    rw [← e2, ← Nat.add_mul] at c2
    have := Nat.eq_of_mul_eq_mul_right hp c2
    unfold codeN
    rw [c1, Int.toNat_natCast]
    exact ⟨this, c3⟩
  refine ⟨m, e1, ?_, fun j hj' => ?_, fun b hb' => ?_⟩
  · have hs := h.sum
    have h3 : (m + cnt l k) * 1 ≤ (m + cnt l k) * 2 ^ (15 - k) := Nat.mul_le_mul_left _ hp
    have h4 : (m + cnt l k) * 2 ^ (15 - k) = below15 l (k + 1) := by rw [Nat.add_mul, e2, hb]
    omega
  · obtain ⟨a, b⟩ := hj j hj'; omega
  · rw [hcn] at hb'
    obtain ⟨j, j1, j2⟩ := find_count hb'
    have hlj : ln l j = k := by unfold ln; rw [List.getD_eq_getElem?_getD, j1]; simp
    exact ⟨j, hlj, by rw [(hj j hlj).1, j2]⟩
/-- Is there a code of length k that goes on from c? -/
theorem Good.ex (h : Good l) {k n c : Nat} (h1 : n < k) (h15 : k ≤ 15) {m : Nat} (hm : nxt l k = m) :
    (0 < cnt l k ∧ m < (c + 1) * 2 ^ (k - n) ∧ c * 2 ^ (k - n) < m + cnt l k) ↔ ∃ j, ln l j = k ∧ codeN l j / 2 ^ (k - n) = c := by
  obtain ⟨m', e1, _, r1, r2⟩ := h.run (k := k) (by omega) h15
  have : m' = m := by omega
  subst this
  have hp : 0 < 2 ^ (k - n) := Nat.pow_pos (by decide)
  constructor
  · rintro ⟨a, b, d⟩
    have hx : ∃ x, x < cnt l k ∧ c * 2 ^ (k - n) ≤ m' + x ∧ m' + x < (c + 1) * 2 ^ (k - n) := by
      by_cases q : c * 2 ^ (k - n) ≤ m'
      · exact ⟨0, a, by omega, by omega⟩
      · refine ⟨c * 2 ^ (k - n) - m', by omega, by omega, ?_⟩
        rw [Nat.add_mul]; omega
    obtain ⟨x, x1, x2, x3⟩ := hx
    obtain ⟨j, j1, j2⟩ := r2 x x1
    refine ⟨j, j1, ?_⟩
    rw [j2]
    exact Nat.div_eq_of_lt_le x2 x3
  · rintro ⟨j, j1, j2⟩
    obtain ⟨a, b⟩ := r1 j j1
    have d1 : c * 2 ^ (k - n) ≤ codeN l j := by rw [← j2]; exact Nat.div_mul_le_self _ _
    have d2 : codeN l j < (c + 1) * 2 ^ (k - n) := by
      rw [← j2, Nat.mul_comm]; exact Nat.lt_mul_div_succ _ hp
    exact ⟨by omega, by omega, by omega⟩
end
/-- What is found by n bits v. -/
def hitN (l : List Int) (v n : Nat) : Option Nat := (List.range l.length).find? (fun j => decide (mt l j v ∧ ln l j ≤ n))
def begN (l : List Int) (v n : Nat) : Bool := (List.range l.length).any (fun j => decide (n < ln l j ∧ tc l j % 2 ^ n = v))
def findN (l : List Int) (v n : Nat) : Nat × Nat × Nat := match hitN l v n with
  | some j => (j, ln l j, 0)
  | none => if begN l v n then (0, 0, 5) else (0, 0, 2)
section
variable {l : List Int}
theorem Good.hit (h : Good l) {v n j : Nat} (hm : mt l j v) (hn : ln l j ≤ n) : hitN l v n = some j := by
  unfold hitN
  cases hf : (List.range l.length).find? (fun j => decide (mt l j v ∧ ln l j ≤ n)) with
  | none =>
    have := List.find?_eq_none.1 hf j (by rw [List.mem_range]; exact h.lt hm.1)
    simp [hm, hn] at this
  | some i =>
    have := List.find?_some hf
    simp only [decide_eq_true_eq] at this
    rw [h.one this.1 hm]
theorem hit_none {v n : Nat} (h : hitN l v n = none) (hg : Good l) {j : Nat} (hm : mt l j v) : n < ln l j := by
  rcases Nat.lt_or_ge n (ln l j) with c | c
  · exact c
  · rw [hg.hit hm c] at h; cases h
theorem hit_some {v n j : Nat} (h : hitN l v n = some j) : mt l j v ∧ ln l j ≤ n := by
  have := List.find?_some h
  simpa using this
theorem begN_iff (hg : Good l) {v n : Nat} : begN l v n = true ↔ ∃ j, n < ln l j ∧ tc l j % 2 ^ n = v := by
  unfold begN
  rw [List.any_eq_true]
  constructor
  · rintro ⟨j, _, h⟩; exact ⟨j, by simpa using h⟩
  · rintro ⟨j, h1, h2⟩; exact ⟨j, by rw [List.mem_range]; exact hg.lt (by omega), by simp [h1, h2]⟩
end
end Go.Proofs.Yteknaaijlkenkaa
