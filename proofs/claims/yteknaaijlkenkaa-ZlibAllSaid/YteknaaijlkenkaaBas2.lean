import Derived.Test.YteknaaijlkenkaaBase
import Derived.ChangeAlike
import Derived.BigRegion
namespace Go.Proofs.Yteknaaijlkenkaa
set_option linter.unusedVariables false
set_option linter.unusedSimpArgs false
open Go.RowKit

section
variable {P : Program} {ops : Array Oper} {rest : List Oper} {o : Oper} {a : Act} {Q : Exit → Act → World → Prop}
/-- append(v, y): y stands in a box of one cell; what comes is told by its block. -/
theorem wpList_push {w : World} (base : Nat) (hgd : o.guard = none) (s x : Operand) (t e : TypeId) (z : Value) (bytes : Nat)
    (ho : o.op = .call { callee := .builtin .append, args := #[s, x], argTypes := #[t, t] })
    (ht : P.underlying t = some (.slice e)) (hinfo : (P.info? e).map (fun i => (i.zero, i.size, i.bytes)) = some (some z, 1, bytes)) (hz : z.cells.size = 1)
    (v : Value) (xs : List Value) (y : Value) (ad : Addr) (c m : Nat) (hm : xs.length + 1 = m) (hs : a.eval s = v) (hx : a.eval x = .slice (some ad) 1 c) (hy : w.cell? ad = some y) (h1 : y.oneCell' = true)
    (HO : Own w base e v xs) (hbase : base ≤ w.heap.size) (hl : m * bytes ≤ 140737488355328) (hlm : m ≤ 140737488355328)
    (h : ∀ g cap w1, Own w1 base e (.slice (some ⟨g, 0, none⟩) m cap) (xs ++ [y]) → Same (fun k => v.ownBlock = some k) w w1 → base ≤ g → g < w1.heap.size → (v.ownBlock = some g ∨ g = w.heap.size) →
      wpList P ops Q rest (a.put o.dst (.slice (some ⟨g, 0, none⟩) m cap)) w1) :
    wpList P ops Q (o :: rest) a w := by
  subst hm
  refine wpList_app1 base hgd s x t e z bytes ho ht hinfo hz v xs y ad c hs hx hy h1 HO hbase hl hlm ?_
  intro v1 w1 ho1 hs1 hat
  obtain ⟨g, cap, hv, hgb, hgl⟩ := World.ownsRow.form ho1 (by simp)
  subst hv
  have hl : (xs ++ [y]).length = xs.length + 1 := by simp
  rw [hl] at ho1 ⊢
  refine h g cap w1 ho1 hs1 hgb hgl ?_
  rcases hat with hat | hat
  · exact .inl (by rw [← hat]; rfl)
  · refine .inr ?_
    have : some g = some w.heap.size := hat
    simpa using this
theorem wpList_unguard2 {w : World} (hw : Region.wanted o (yielded ops a.tmps) = true) (h : wpList P ops Q ({ o with guard := none } :: rest) a w) : wpList P ops Q (o :: rest) a w := by
  unfold wpList at *
  rw [if_pos hw]
  rw [if_pos (by rfl)] at h
  exact h
end
theorem RowOf.same {S : Nat → Prop} {w w' : World} {k : IntKind} {A : Option Addr} {c : Nat} {xs : List Int} (h : RowOf w k A c xs) (hs : Same S w w') (hA : ∀ ad, A = some ad → ¬ S ad.block) : RowOf w' k A c xs := ⟨h.rd.same hs hA, h.cap, h.most, h.wf, h.nil⟩
theorem RowOf.belo {w w' : World} {k : IntKind} {A : Option Addr} {c : Nat} {xs : List Int} (h : RowOf w k A c xs) (hb : Below w.heap.size w w') : RowOf w' k A c xs := h.same (Same.of_below (S := fun _ => False) hb) (fun _ _ c => c)
theorem RowOf.drew {w : World} {k : IntKind} {A : Option Addr} {c : Nat} {xs : List Int} (h : RowOf w k A c xs) : RowOf w.drew k A c xs := h.same (Same.refl (S := fun _ => False) w).drew (fun _ _ c => c)
/-- A row of the call's own, read. -/
theorem Own.row {w : World} {base : Nat} {k : IntKind} {e : TypeId} {v : Value} {xs : List Int} (h : Own w base e v (ints k xs)) (hwf : ∀ x ∈ xs, (Lit.int k x).wf = true) : ∃ A c, v = .slice A xs.length c ∧ RowOf w k A c xs ∧ ∀ ad, A = some ad → v.ownBlock = some ad.block := by
  obtain ⟨A, c, rfl, hc, hr⟩ := h.rd
  refine ⟨A, c, rfl, ⟨hr, hc, ?_, hwf, ?_⟩, fun ad e => by rw [e]; rfl⟩
  · rcases h.2 with ⟨e, _⟩ | ⟨g, cap, cur, e, _, _, _, hm, _⟩
    · injection e with e1 e2 e3; omega
    · injection e with e1 e2 e3; subst e3; simpa [maxLen] using hm
  · intro hA
    rcases h.2 with ⟨e, _⟩ | ⟨g, cap, cur, e, _, _, _, hm, _⟩
    · injection e with e1 e2 e3
    · injection e with e1 e2 e3; rw [hA] at e1; cases e1
theorem RowOf.rdn {w : World} {k : IntKind} {A : Option Addr} {c : Nat} {xs : List Int} (h : RowOf w k A c xs) : RdN w A (ints k xs) := fun j u hj => by
  obtain ⟨x, hx, rfl⟩ : ∃ x, xs[j]? = some x ∧ u = .int k x := by
    rw [ints, List.getElem?_map] at hj
    obtain ⟨x, hx, e⟩ := Option.map_eq_some_iff.1 hj
    exact ⟨x, hx, e.symm⟩
  have h0 : 0 < xs.length := by have := (List.getElem?_eq_some_iff.1 hx).1; omega
  obtain ⟨ad0, e0, hc0⟩ := h.rd 0 _ (List.getElem?_eq_getElem h0)
  obtain ⟨ad, e, hc⟩ := h.rd j x hx
  rw [e0] at e
  injection e with e
  subst e
  have hs := (cell_plain hc0).2 rfl
  exact ⟨ad0.block, ad0.off, by rw [e0]; cases ad0; simp at hs; subst hs; rfl, (cell_plain hc).1⟩
theorem RdN.al {w : World} {A : Option Addr} {cs : List Value} (h : RdN w A cs) (o : Obj) : RdN (w.alloc o) A cs := fun j u hj => by
  obtain ⟨b, off, e, hc⟩ := h j u hj
  exact ⟨b, off, e, ((Same.refl (S := fun _ => False) w).alloc o).cell hc (fun c => c)⟩
theorem ints_one (k : IntKind) (xs : List Int) : ∀ u ∈ ints k xs, u.oneCell' = true := by
  intro u hu
  obtain ⟨x, _, rfl⟩ := List.mem_map.1 hu
  rfl
section
variable {P : Program} {ops : Array Oper} {rest : List Oper} {o : Oper} {a : Act} {Q : Exit → Act → World → Prop}
/-- append([]T{}, src...), T an integer's type: a copy of the call's own. -/
theorem wpList_fresh {w : World} (k : IntKind) (hgd : o.guard = none) (s x : Operand) (t e : TypeId) (bytes : Nat)
    (ho : o.op = .call { callee := .builtin .append, args := #[s, x], argTypes := #[t, t] })
    (ht : P.underlying t = some (.slice e)) (hinfo : (P.info? e).map (fun i => (i.zero, i.size, i.bytes)) = some (some (.int k 0), 1, bytes))
    (A : Option Addr) (c : Nat) (xs : List Int) (hs : a.eval s = .slice (some ⟨w.heap.size, 0, none⟩) 0 0) (hx : a.eval x = .slice A xs.length c) (hr : RowOf w k A c xs) (hlb : xs.length * bytes ≤ 140737488355328) (hlm : xs.length ≤ 140737488355328)
    (h : ∀ A' c' w1, Own w1 w.heap.size e (.slice A' xs.length c') (ints k xs) → RowOf w1 k A' c' xs → Below w.heap.size w w1 → (∀ ad, A' = some ad → w.heap.size ≤ ad.block ∧ ad.block < w1.heap.size) → wpList P ops Q rest (a.put o.dst (.slice A' xs.length c')) w1) :
    wpList P ops Q (o :: rest) a (w.alloc (.cells #[] e)) := by
  refine wpList_appN w.heap.size hgd s x t e (.int k 0) 1 bytes ho ht hinfo rfl (by omega) (.slice (some ⟨w.heap.size, 0, none⟩) 0 0) 0 [] A xs.length c (ints k xs) hs hx (by simp [ints]) (hr.rdn.al _) (fun e => ?_) (ints_one _ _) ?_ (by simp) (by rw [Nat.zero_add]; exact hlb) (by omega) ?_
  · have := hr.nil e; have := hr.cap; omega
  · exact ⟨rfl, .inr ⟨w.heap.size, 0, #[], rfl, Nat.le_refl _, heap_alloc_new w _, Nat.le_refl _, by simp [maxLen], rfl, rfl⟩⟩
  · intro v1 w1 ho1 hs1 _
    have hb : Below w.heap.size w w1 := hs1.alloc_left.below (fun k hk e => by simp [Value.ownBlock] at e; omega)
    have ho2 : Own w1 w.heap.size e v1 (ints k xs) := by unfold Own; rw [ints_length]; simpa using ho1
    obtain ⟨A', c', rfl, hr', ha⟩ := ho2.row hr.wf
    exact h A' c' w1 ho2 hr' hb (fun ad e => ⟨ho2.base_le _ (ha ad e), ho2.lt _ (ha ad e)⟩)
/-- The same, the literal's block by its number. -/
theorem wpList_freshG {w : World} (g : Nat) (hg : w.heap.size = g) (k : IntKind) (hgd : o.guard = none) (s x : Operand) (t e : TypeId) (bytes : Nat)
    (ho : o.op = .call { callee := .builtin .append, args := #[s, x], argTypes := #[t, t] })
    (ht : P.underlying t = some (.slice e)) (hinfo : (P.info? e).map (fun i => (i.zero, i.size, i.bytes)) = some (some (.int k 0), 1, bytes))
    (A : Option Addr) (c : Nat) (xs : List Int) (hs : a.eval s = .slice (some ⟨g, 0, none⟩) 0 0) (hx : a.eval x = .slice A xs.length c) (hr : RowOf w k A c xs) (hlb : xs.length * bytes ≤ 140737488355328) (hlm : xs.length ≤ 140737488355328)
    (h : ∀ A' c' w1, Own w1 w.heap.size e (.slice A' xs.length c') (ints k xs) → RowOf w1 k A' c' xs → Below w.heap.size w w1 → (∀ ad, A' = some ad → w.heap.size ≤ ad.block ∧ ad.block < w1.heap.size) → wpList P ops Q rest (a.put o.dst (.slice A' xs.length c')) w1) :
    wpList P ops Q (o :: rest) a (w.alloc (.cells #[] e)) := by
  subst hg
  exact wpList_fresh k hgd s x t e bytes ho ht hinfo A c xs hs hx hr hlb hlm h
/-- append(v, src...), onto a row of the call's own, of integers. -/
theorem wpList_cat {w : World} (k : IntKind) (base : Nat) (hgd : o.guard = none) (s x : Operand) (t e : TypeId) (bytes : Nat)
    (ho : o.op = .call { callee := .builtin .append, args := #[s, x], argTypes := #[t, t] })
    (ht : P.underlying t = some (.slice e)) (hinfo : (P.info? e).map (fun i => (i.zero, i.size, i.bytes)) = some (some (.int k 0), 1, bytes))
    (v : Value) (xs : List Int) (A : Option Addr) (c : Nat) (ys : List Int) (hs : a.eval s = v) (hx : a.eval x = .slice A ys.length c) (HO : Own w base e v (ints k xs)) (hr : RowOf w k A c ys) (hbase : base ≤ w.heap.size)
    (m : Nat) (hm : xs.length + ys.length = m) (hlb : m * bytes ≤ 140737488355328) (hlm : m ≤ 140737488355328) (hwf : ∀ x ∈ xs, (Lit.int k x).wf = true)
    (h : ∀ A' c' w1, Own w1 base e (.slice A' m c') (ints k (xs ++ ys)) → RowOf w1 k A' c' (xs ++ ys) → Same (fun k => v.ownBlock = some k) w w1 → ((Value.slice A' m c').ownBlock = v.ownBlock ∨ (Value.slice A' m c').ownBlock = some w.heap.size) → wpList P ops Q rest (a.put o.dst (.slice A' m c')) w1) :
    wpList P ops Q (o :: rest) a w := by
  subst hm
  refine wpList_appN base hgd s x t e (.int k 0) 1 bytes ho ht hinfo rfl (by omega) v xs.length (ints k xs) A ys.length c (ints k ys) hs hx (by simp [ints]) hr.rdn (fun e => ?_) (ints_one _ _) (by unfold Own at HO; rwa [ints_length] at HO) hbase hlb hlm ?_
  · have := hr.nil e; have := hr.cap; omega
  · intro v1 w1 ho1 hs1 hat
    have ho2 : Own w1 base e v1 (ints k (xs ++ ys)) := by unfold Own; rw [ints_length, ints_append, List.length_append]; exact ho1
    obtain ⟨A', c', rfl, hr', ha⟩ := ho2.row (fun x hx => by rcases List.mem_append.1 hx with hx | hx; exact hwf x hx; exact hr.wf x hx)
    have el : (xs ++ ys).length = xs.length + ys.length := List.length_append
    rw [el] at ho2 hat ⊢
    exact h A' c' w1 ho2 hr' hs1 hat
end
/-- A row that is filled from its beginning on. -/
def filled (xs : List Int) (i : Nat) : List Int := xs.take i ++ List.replicate (xs.length - i) 0
theorem filled_zero (xs : List Int) : filled xs 0 = List.replicate xs.length 0 := by simp [filled]
theorem filled_all (xs : List Int) : filled xs xs.length = xs := by simp [filled]
theorem filled_length (xs : List Int) {i : Nat} (h : i ≤ xs.length) : (filled xs i).length = xs.length := by simp [filled]; omega
theorem filled_set {xs : List Int} {i : Nat} {x : Int} (h : xs[i]? = some x) : (filled xs i).set i x = filled xs (i + 1) := by
  obtain ⟨hi, e⟩ := List.getElem?_eq_some_iff.1 h
  unfold filled
  rw [List.set_append_right _ _ (by simp; omega), List.take_succ_eq_append_getElem hi, e, show xs.length - i = (xs.length - (i + 1)) + 1 from by omega, List.replicate_succ, List.append_assoc]
  congr 1
  simp [Nat.min_eq_left (by omega : i ≤ xs.length)]
theorem bits_or_comm (k : IntKind) (x y : Int) : bits .or k x y = bits .or k y x := by
  show k.wrap ((BitVec.ofInt k.bits x ||| BitVec.ofInt k.bits y).toNat : Int) = k.wrap ((BitVec.ofInt k.bits y ||| BitVec.ofInt k.bits x).toNat : Int)
  rw [BitVec.or_comm]
theorem Own.set_ {w : World} {base g n cap : Nat} {e : TypeId} {k : IntKind} {xs : List Int} (h : Own w base e (.slice (some ⟨g, 0, none⟩) n cap) (ints k xs)) (i : Nat) (u : Int) :
    Own (w.setCell ⟨g, i, none⟩ (.int k u)) base e (.slice (some ⟨g, 0, none⟩) n cap) (ints k (xs.set i u)) := by
  have hn : n = xs.length := by
    rcases h.2 with ⟨h, _⟩ | ⟨_, _, _, h, _⟩
    · simp at h
    · injection h with _ h2 _; rw [h2, ints_length]
  subst hn
  have h' : w.ownsRow base e 1 (.slice (some ⟨g, 0, none⟩) (ints k xs).length cap) (ints k xs).length (ints k xs) := by rw [ints_length]; unfold Own at h; rwa [ints_length] at h
  have s1 := (World.ownsRow.stored h' i (.int k u)).1
  have el : (ints k xs).set i (.int k u) = ints k (xs.set i u) := by simp [ints, List.map_set]
  have hl : (ints k xs).length = (ints k (xs.set i u)).length := by simp [ints]
  rw [el] at s1
  unfold Own
  rw [← hl]
  rw [ints_length] at s1 ⊢
  exact s1
theorem Own.cellI {w : World} {base g n cap : Nat} {e : TypeId} {k : IntKind} {xs : List Int} (h : Own w base e (.slice (some ⟨g, 0, none⟩) n cap) (ints k xs)) {i : Nat} (hi : i < xs.length) :
    w.cell? ⟨g, i, none⟩ = some (.int k (xs.getD i 0)) := by
  have hn : n = xs.length := by
    rcases h.2 with ⟨h, _⟩ | ⟨_, _, _, h, _⟩
    · simp at h
    · injection h with _ h2 _; rw [h2, ints_length]
  subst hn
  have h' : w.ownsRow base e 1 (.slice (some ⟨g, 0, none⟩) (ints k xs).length cap) (ints k xs).length (ints k xs) := by rw [ints_length]; unfold Own at h; rwa [ints_length] at h
  rw [World.ownsRow.cellAt h' i (by rw [ints_length]; omega), ints_at, List.getD_eq_getElem?_getD, List.getElem?_eq_getElem hi]; rfl
theorem Own.frozenI {w : World} {base g n cap : Nat} {e : TypeId} {k : IntKind} {xs : List Int} (h : Own w base e (.slice (some ⟨g, 0, none⟩) n cap) (ints k xs)) (i : Nat) : w.frozen? ⟨g, i, none⟩ = false := by
  have hn : n = xs.length := by
    rcases h.2 with ⟨h, _⟩ | ⟨_, _, _, h, _⟩
    · simp at h
    · injection h with _ h2 _; rw [h2, ints_length]
  subst hn
  have h' : w.ownsRow base e 1 (.slice (some ⟨g, 0, none⟩) (ints k xs).length cap) (ints k xs).length (ints k xs) := by rw [ints_length]; unfold Own at h; rwa [ints_length] at h
  exact World.ownsRow.frozenAt h' i
theorem RowOf.lt {w : World} {k : IntKind} {A : Option Addr} {c : Nat} {xs : List Int} (h : RowOf w k A c xs) (hx : xs ≠ []) : ∀ ad, A = some ad → ad.block < w.heap.size := fun ad e => by
  have h0 : 0 < xs.length := List.length_pos_iff.2 hx
  obtain ⟨ad', e', hc⟩ := h.rd 0 _ (List.getElem?_eq_getElem h0)
  rw [e] at e'
  injection e' with e'
  subst e'
  have := World.block_lt_of_cell? w _ hc
  unfold Addr.add at this
  split at this <;> simpa using this
theorem RowOf.empty {w w' : World} {k : IntKind} {A : Option Addr} {c : Nat} (h : RowOf w k A c []) : RowOf w' k A c [] := ⟨RdI.nil_, h.cap, h.most, h.wf, h.nil⟩
/-- A slice literal. -/
theorem RowOf.lit (w : World) (k : IntKind) (e : TypeId) (xs : List Int) (hwf : ∀ x ∈ xs, (Lit.int k x).wf = true) (hl : xs.length ≤ 9223372036854775807) :
    RowOf (w.alloc (.cells (ints k xs).toArray e)) k (some ⟨w.heap.size, 0, none⟩) xs.length xs := by
  refine ⟨fun i x hx => ⟨_, rfl, ?_⟩, Nat.le_refl _, hl, hwf, by simp⟩
  have hb := Blk.new w e (ints k xs).toArray
  rw [Addr.add_lit, Nat.zero_add, hb.cell]
  simp [ints, hx]
/-- (x % n + n) % n, as Go has it. -/
theorem mod_twice (x : Int) (n : Nat) (h0 : 0 < n) (h : n ≤ 1000000) : ∃ k : Nat, k < n ∧ (wrap64 (x.tmod n + n)).tmod n = (k : Int) ∧ x % n = k := by
  have h1 := Int.emod_nonneg x (b := (n : Int)) (by omega)
  have h2 := Int.emod_lt_of_pos x (b := (n : Int)) (by omega)
  have h3 := Int.lt_tmod_of_pos x (b := (n : Int)) (by omega)
  have h4 := Int.tmod_lt_of_pos x (b := (n : Int)) (by omega)
  refine ⟨(x % n).toNat, by omega, ?_, by omega⟩
  rw [IntWalk.wrap64_in _ (by omega), Int.tmod_eq_emod_of_nonneg (by omega), Int.add_emod_right, Int.toNat_of_nonneg h1]
  rw [Int.tmod_eq_emod]
  split
  · simp
  · rw [show (n : Int).natAbs = n from rfl, Int.sub_emod_right, Int.emod_emod]
theorem Same.set_far {S : Nat → Prop} {w w' : World} (h : Same S w w') (p : Addr) (hp : p.block < w.heap.size → S p.block) (u : Value) : Same S w (w'.setCell p u) := h.set_ hp u
end Go.Proofs.Yteknaaijlkenkaa
