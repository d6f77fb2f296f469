import Derived.Test.YteknaaijlkenkaaCanT
namespace Go.Proofs.Yteknaaijlkenkaa
set_option linter.unusedVariables false
set_option linter.unusedSimpArgs false
open Go.RowKit
attribute [local go_sem] max2i min2i max2t min2t

def okL (l : List Int) : Prop := ∀ n ∈ l, 0 ≤ n ∧ n ≤ 15
theorem sum_nonneg : ∀ (l : List Int), 0 ≤ (l.map kr).sum
  | [] => by simp
  | n :: l => by
    have := sum_nonneg l
    have := kr_range n
    rw [List.map_cons, List.sum_cons]; omega
theorem kr_pos {n : Int} (h : 0 < n) : 0 < kr n := by
  unfold kr
  rw [if_pos h]
  have : 0 < 2 ^ (15 - n).toNat := Nat.pow_pos (by decide)
  generalize 2 ^ (15 - n).toNat = p at *
  omega
theorem someGo_sum : ∀ {l : List Int} {s : Nat} {d : Int}, okL l →
    s ≤ (someGo l s d).1 ∧ ((someGo l s d).1 = s → (someGo l s d).2 = d ∧ (l.map kr).sum = 0) ∧ ((someGo l s d).1 = s + 1 → (l.map kr).sum = kr (someGo l s d).2) ∧ (s < (someGo l s d).1 → 0 < (l.map kr).sum)
  | [], s, d, _ => by simp [someGo]
  | n :: l, s, d, h => by
    have hn := h n (by simp)
    have hl : okL l := fun x hx => h x (by simp [hx])
    rw [List.map_cons, List.sum_cons, someGo]
    by_cases h0 : n = 0
    · subst h0
      rw [if_neg (by simp), show kr 0 = 0 from rfl, Int.zero_add]
      exact someGo_sum hl
    · rw [if_pos h0]
      obtain ⟨i1, i2, i3, i4⟩ := someGo_sum (l := l) (s := s + 1) (d := n) hl
      have hp := kr_pos (n := n) (by omega)
      have hs := sum_nonneg l
      refine ⟨by omega, fun e => by omega, fun e => ?_, fun _ => by omega⟩
      obtain ⟨e1, e2⟩ := i2 e
      rw [e1, e2]; omega
theorem kraft_ok {l : List Int} (h : okL l) (hl : l.length ≤ 65536) : kraft l = (l.map kr).sum := by
  unfold kraft
  rw [if_neg (by omega), kraftGo_good h, Int.zero_add]
theorem kinds {l : List Int} (h : okL l) (hl : l.length ≤ 65536) :
    (kind l = 0 ∧ kraft l = 0) ∨ (kind l = 1 ∧ kraft l = 32768) ∨ (kind l = 2 ∧ kraft l = 16384) ∨ (kind l = 3 ∧ 0 < kraft l ∧ kraft l < 32768) ∨ (kind l = 4 ∧ 32768 < kraft l) := by
  obtain ⟨i1, i2, i3, i4⟩ := someGo_sum (l := l) (s := 0) (d := 0) h
  have hs := sum_nonneg l
  rw [← kraft_ok h hl] at *
  unfold kind kindOf
  by_cases a1 : (someGo l 0 0).1 = 0
  · rw [if_pos a1]; exact .inl ⟨rfl, (i2 a1).2⟩
  · rw [if_neg a1]
    have := i4 (by omega)
    by_cases a2 : kraft l = 32768
    · rw [if_pos a2]; exact .inr (.inl ⟨rfl, a2⟩)
    · rw [if_neg a2]
      by_cases a3 : kraft l < 0 ∨ 32768 < kraft l
      · rw [if_pos a3]; exact .inr (.inr (.inr (.inr ⟨rfl, by omega⟩)))
      · rw [if_neg a3]
        by_cases a4 : (someGo l 0 0).1 = 1 ∧ (someGo l 0 0).2 = 1
        · rw [if_pos a4]
          have := i3 (by omega)
          rw [a4.2] at this
          exact .inr (.inr (.inl ⟨rfl, this⟩))
        · rw [if_neg a4]; exact .inr (.inr (.inr (.inl ⟨rfl, by omega⟩)))
theorem kraft_snoc {l : List Int} (h : okL l) (hl : l.length ≤ 100) {m : Int} (hm : 0 ≤ m ∧ m ≤ 15) : kraft (l ++ [m]) = kraft l + kr m := by
  have h2 : okL (l ++ [m]) := fun x hx => by
    rcases List.mem_append.1 hx with hx | hx
    · exact h x hx
    · simp at hx; subst hx; exact hm
  rw [kraft_ok h (by omega), kraft_ok h2 (by simp; omega)]
  simp

theorem RowOf.of_own {w : World} {base : Nat} {k : IntKind} {e : TypeId} {v : Value} {xs : List Int} (h : Own w base e v (ints k xs)) (hwf : ∀ x ∈ xs, (Lit.int k x).wf = true) : ∃ A c, v = .slice A xs.length c ∧ RowOf w k A c xs := by
  obtain ⟨A, c, rfl, hc, hr⟩ := h.rd
  refine ⟨A, c, rfl, hr, hc, ?_, hwf, ?_⟩
  · rcases h.2 with ⟨e, _⟩ | ⟨g, cap, cur, e, _, _, _, hm, _⟩
    · injection e with e1 e2 e3; omega
    · injection e with e1 e2 e3; subst e3; simpa [maxLen] using hm
  · intro hA
    rcases h.2 with ⟨e, _⟩ | ⟨g, cap, cur, e, _, _, _, hm, _⟩
    · injection e with e1 e2 e3
    · injection e with e1 e2 e3; rw [hA] at e1; cases e1
theorem own_ge {w : World} {base : Nat} {e : TypeId} {m : Nat} {v : Value} {n : Nat} {xs : List Value} (h : w.ownsRow base e m v n xs) (k : Nat) (hk : v.ownBlock = some k) : base ≤ k := by
  rcases h.2 with ⟨rfl, _⟩ | ⟨g, cap, cur, rfl, hb, _⟩
  · simp [Value.ownBlock] at hk
  · simp [Value.ownBlock] at hk; omega
theorem RdI.rdn {w : World} {k : IntKind} {A : Option Addr} {xs : List Int} (h : RdI w k A xs) : RdN w A (ints k xs) := fun j u hj => by
  obtain ⟨x, hx, rfl⟩ : ∃ x, xs[j]? = some x ∧ u = .int k x := by
    rw [ints, List.getElem?_map] at hj
    obtain ⟨x, hx, e⟩ := Option.map_eq_some_iff.1 hj
    exact ⟨x, hx, e.symm⟩
  have h0 : 0 < xs.length := by have := (List.getElem?_eq_some_iff.1 hx).1; omega
  obtain ⟨ad0, e0, hc0⟩ := h 0 _ (List.getElem?_eq_getElem h0)
  obtain ⟨ad, e, hc⟩ := h j x hx
  rw [e0] at e
  injection e with e
  subst e
  have hs := (cell_plain hc0).2 rfl
  exact ⟨ad0.block, ad0.off, by rw [e0]; cases ad0; simp at hs; subst hs; rfl, (cell_plain hc).1⟩
theorem RdN.alloc_ {w : World} {A : Option Addr} {cs : List Value} (h : RdN w A cs) (o : Obj) : RdN (w.alloc o) A cs := fun j u hj => by
  obtain ⟨b, off, e, hc⟩ := h j u hj
  exact ⟨b, off, e, ((Same.refl (S := fun _ => False) w).alloc o).cell hc (fun c => c)⟩
theorem one_ints (k : IntKind) (xs : List Int) : ∀ u ∈ ints k xs, u.oneCell' = true := by
  intro u hu
  obtain ⟨x, _, rfl⟩ := List.mem_map.1 hu
  rfl
theorem okL_snoc {l : List Int} {m : Int} (h : okL l) (hm : 0 ≤ m ∧ m ≤ 15) : okL (l ++ [m]) := fun x hx => by
  rcases List.mem_append.1 hx with hx | hx
  · exact h x hx
  · simp at hx; subst hx; exact hm
section
variable {P : Program} {ops : Array Oper} {Q : Exit → Act → World → Prop} {a : Act} {w : World} {rest : List Oper} {o : Oper}
theorem wpList_unguard (hw : Region.wanted o (yielded ops a.tmps) = true) (h : wpList P ops Q ({ o with guard := none } :: rest) a w) : wpList P ops Q (o :: rest) a w := by
  unfold wpList at *
  rw [if_pos hw]
  rw [if_pos (by rfl)] at h
  exact h
end
theorem wf15 {x : Int} (h : 0 ≤ x ∧ x ≤ 15) : (Lit.int .i64 x).wf = true := WalkArith.wf_i64 (by omega)

theorem Try.intinfo : (Try.prog.info? 3).map (fun i => (i.zero, i.size, i.bytes)) = some (some (.int .i64 0), 1, 8) := by kernel_rfl

structure KkRel (w : World) (l : List Int) (g : Nat) (v5 v6 : Value) (wr : World) : Prop where mk ::
  out_ : ∃ (k : Nat) (cur : List Int), k ≤ l.length ∧ l.length ≤ g + k ∧ v6 = .int .i64 (k : Int) ∧ Own wr w.heap.size 3 v5 (ints .i64 cur) ∧ cur.length = k ∧ okL cur ∧ Below w.heap.size w wr

end Go.Proofs.Yteknaaijlkenkaa
