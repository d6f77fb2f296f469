import Derived.Test.YtepphflpeobkhaaCanT
namespace Go.Proofs.Ytepphflpeobkhaa
set_option linter.unusedVariables false
set_option linter.unusedSimpArgs false
open Go.RowKit
attribute [local go_sem] max2i min2i max2t min2t

def okL (l : List Int) : Prop := ∀ n ∈ l, 0 ≤ n ∧ n ≤ 15
theorem sum_nonneg : ∀ (l : List Int), 0 ≤ (l.map kr).sum
  | [] => by simp
  | n :: l => by
    have := sum_nonneg l
    have := kr_range n
    rw [List.map_cons, List.sum_cons]; omega
theorem kr_pos {n : Int} (h : 0 < n) : 0 < kr n := by
  unfold kr
  rw [if_pos h]
  have : 0 < 2 ^ (15 - n).toNat := Nat.pow_pos (by decide)
  generalize 2 ^ (15 - n).toNat = p at *
  omega
theorem someGo_sum : ∀ {l : List Int} {s : Nat} {d : Int}, okL l →
    s ≤ (someGo l s d).1 ∧ ((someGo l s d).1 = s → (someGo l s d).2 = d ∧ (l.map kr).sum = 0) ∧ ((someGo l s d).1 = s + 1 → (l.map kr).sum = kr (someGo l s d).2) ∧ (s < (someGo l s d).1 → 0 < (l.map kr).sum)
  | [], s, d, _ => by simp [someGo]
  | n :: l, s, d, h => by
    have hn := h n (by simp)
    have hl : okL l := fun x hx => h x (by simp [hx])
    rw [List.map_cons, List.sum_cons, someGo]
    by_cases h0 : n = 0
    · subst h0
      rw [if_neg (by simp), show kr 0 = 0 from rfl, Int.zero_add]
      exact someGo_sum hl
    · rw [if_pos h0]
      obtain ⟨i1, i2, i3, i4⟩ := someGo_sum (l := l) (s := s + 1) (d := n) hl
      have hp := kr_pos (n := n) (by omega)
      have hs := sum_nonneg l
      refine ⟨by omega, fun e => by omega, fun e => ?_, fun _ => by omega⟩
      obtain ⟨e1, e2⟩ := i2 e
      rw [e1, e2]; omega
theorem kraft_ok {l : List Int} (h : okL l) (hl : l.length ≤ 65536) : kraft l = (l.map kr).sum := by
  unfold kraft
  rw [if_neg (by omega), kraftGo_good h, Int.zero_add]
theorem kinds {l : List Int} (h : okL l) (hl : l.length ≤ 65536) :
    (kind l = 0 ∧ kraft l = 0) ∨ (kind l = 1 ∧ kraft l = 32768) ∨ (kind l = 2 ∧ kraft l = 16384) ∨ (kind l = 3 ∧ 0 < kraft l ∧ kraft l < 32768) ∨ (kind l = 4 ∧ 32768 < kraft l) := by
  obtain ⟨i1, i2, i3, i4⟩ := someGo_sum (l := l) (s := 0) (d := 0) h
  have hs := sum_nonneg l
  rw [← kraft_ok h hl] at *
  unfold kind kindOf
  by_cases a1 : (someGo l 0 0).1 = 0
  · rw [if_pos a1]; exact .inl ⟨rfl, (i2 a1).2⟩
  · rw [if_neg a1]
    have := i4 (by omega)
    by_cases a2 : kraft l = 32768
    · rw [if_pos a2]; exact .inr (.inl ⟨rfl, a2⟩)
    · rw [if_neg a2]
      by_cases a3 : kraft l < 0 ∨ 32768 < kraft l
      · rw [if_pos a3]; exact .inr (.inr (.inr (.inr ⟨rfl, by omega⟩)))
      · rw [if_neg a3]
        by_cases a4 : (someGo l 0 0).1 = 1 ∧ (someGo l 0 0).2 = 1
        · rw [if_pos a4]
          have := i3 (by omega)
          rw [a4.2] at this
          exact .inr (.inr (.inl ⟨rfl, this⟩))
        · rw [if_neg a4]; exact .inr (.inr (.inr (.inl ⟨rfl, by omega⟩)))
theorem kraft_snoc {l : List Int} (h : okL l) (hl : l.length ≤ 100) {m : Int} (hm : 0 ≤ m ∧ m ≤ 15) : kraft (l ++ [m]) = kraft l + kr m := by
  have h2 : okL (l ++ [m]) := fun x hx => by
    rcases List.mem_append.1 hx with hx | hx
    · exact h x hx
    · simp at hx; subst hx; exact hm
  rw [kraft_ok h (by omega), kraft_ok h2 (by simp; omega)]
  simp

theorem RowOf.of_own {w : World} {base : Nat} {k : IntKind} {e : TypeId} {v : Value} {xs : List Int} (h : Own w base e v (ints k xs)) (hwf : ∀ x ∈ xs, (Lit.int k x).wf = true) : ∃ A c, v = .slice A xs.length c ∧ RowOf w k A c xs := by
  obtain ⟨A, c, rfl, hc, hr⟩ := h.rd
  refine ⟨A, c, rfl, hr, hc, ?_, hwf, ?_⟩
  · rcases h.2 with ⟨e, _⟩ | ⟨g, cap, cur, e, _, _, _, hm, _⟩
    · injection e with e1 e2 e3; omega
    · injection e with e1 e2 e3; subst e3; simpa [maxLen] using hm
  · intro hA
    rcases h.2 with ⟨e, _⟩ | ⟨g, cap, cur, e, _, _, _, hm, _⟩
    · injection e with e1 e2 e3
    · injection e with e1 e2 e3; rw [hA] at e1; cases e1
theorem own_ge {w : World} {base : Nat} {e : TypeId} {m : Nat} {v : Value} {n : Nat} {xs : List Value} (h : w.ownsRow base e m v n xs) (k : Nat) (hk : v.ownBlock = some k) : base ≤ k := by
  rcases h.2 with ⟨rfl, _⟩ | ⟨g, cap, cur, rfl, hb, _⟩
  · simp [Value.ownBlock] at hk
  · simp [Value.ownBlock] at hk; omega
theorem RdI.rdn {w : World} {k : IntKind} {A : Option Addr} {xs : List Int} (h : RdI w k A xs) : RdN w A (ints k xs) := fun j u hj => by
  obtain ⟨x, hx, rfl⟩ : ∃ x, xs[j]? = some x ∧ u = .int k x := by
    rw [ints, List.getElem?_map] at hj
    obtain ⟨x, hx, e⟩ := Option.map_eq_some_iff.1 hj
    exact ⟨x, hx, e.symm⟩
  have h0 : 0 < xs.length := by have := (List.getElem?_eq_some_iff.1 hx).1; omega
  obtain ⟨ad0, e0, hc0⟩ := h 0 _ (List.getElem?_eq_getElem h0)
  obtain ⟨ad, e, hc⟩ := h j x hx
  rw [e0] at e
  injection e with e
  subst e
  have hs := (cell_plain hc0).2 rfl
  exact ⟨ad0.block, ad0.off, by rw [e0]; cases ad0; simp at hs; subst hs; rfl, (cell_plain hc).1⟩
theorem RdN.alloc_ {w : World} {A : Option Addr} {cs : List Value} (h : RdN w A cs) (o : Obj) : RdN (w.alloc o) A cs := fun j u hj => by
  obtain ⟨b, off, e, hc⟩ := h j u hj
  exact ⟨b, off, e, ((Same.refl (S := fun _ => False) w).alloc o).cell hc (fun c => c)⟩
theorem one_ints (k : IntKind) (xs : List Int) : ∀ u ∈ ints k xs, u.oneCell' = true := by
  intro u hu
  obtain ⟨x, _, rfl⟩ := List.mem_map.1 hu
  rfl
theorem okL_snoc {l : List Int} {m : Int} (h : okL l) (hm : 0 ≤ m ∧ m ≤ 15) : okL (l ++ [m]) := fun x hx => by
  rcases List.mem_append.1 hx with hx | hx
  · exact h x hx
  · simp at hx; subst hx; exact hm
section
variable {P : Program} {ops : Array Oper} {Q : Exit → Act → World → Prop} {a : Act} {w : World} {rest : List Oper} {o : Oper}
theorem wpList_unguard (hw : Region.wanted o (yielded ops a.tmps) = true) (h : wpList P ops Q ({ o with guard := none } :: rest) a w) : wpList P ops Q (o :: rest) a w := by
  unfold wpList at *
  rw [if_pos hw]
  rw [if_pos (by rfl)] at h
  exact h
end
theorem wf15 {x : Int} (h : 0 ≤ x ∧ x ≤ 15) : (Lit.int .i64 x).wf = true := WalkArith.wf_i64 (by omega)

theorem Try.intinfo : (Try.prog.info? 3).map (fun i => (i.zero, i.size, i.bytes)) = some (some (.int .i64 0), 1, 8) := by kernel_rfl

structure KkRel (w : World) (l : List Int) (g : Nat) (v5 v6 : Value) (wr : World) : Prop where mk ::
  out_ : ∃ (k : Nat) (cur : List Int), k ≤ l.length ∧ l.length ≤ g + k ∧ v6 = .int .i64 (k : Int) ∧ Own wr w.heap.size 3 v5 (ints .i64 cur) ∧ cur.length = k ∧ okL cur ∧ Below w.heap.size w wr

set_option maxHeartbeats 1600000 in
set_option maxRecDepth 100000 in
theorem canonKinds_walk (A : Option Addr) (c : Nat) (l : List Int) (n : Int) (w : World) (h00 : RowOf w .i64 A c l) (h01 : (Lit.int .i64 n).wf = true) :
    Calls Try.prog 5 #[.slice A l.length c, .int .i64 n] w fun e w' => e = .returned (.bool true) ∧ Below w.heap.size w w' := by
  have ht := fun W => Lib.hid (told7 W)
  have hm := h00.most
  have hcap := h00.cap
  by_cases h1 : 100 < l.length
  · have h1' : decide ((100 : Int) < l.length) = true := by simp; omega
    go_enter Try.func5, Try.ntmps5
    go_wp2_with (go_at_call 10; refine (ht _).out.mono ?_; rintro e w' ⟨rfl, hb⟩)
    go_ret
    exact ⟨rfl, hb⟩
  · have h1' : decide ((100 : Int) < l.length) = false := by simp; omega
    obtain ⟨D, hD0, hD, eD⟩ := uint_rem1 n 15 (by omega) (by omega)
    rw [show ((15 : Nat) : Int) = 15 from rfl] at eD
    have ED := Lib.hid eD
    clear eD
    go_enter Try.func5, Try.ntmps5
    go_wp2_with fail
    go_loopg [5, 6] l.length (KkRel w l)
    case atStart => exact ⟨0, [], by omega, by omega, rfl, Own.nil _ _ _, rfl, fun x hx => by simp at hx, Below.refl _ _⟩
    case round =>
      obtain ⟨k, cur, hk, hg, rfl, ho, hcl, hok, hb⟩ := hrel
      by_cases hlt : k < l.length
      · obtain ⟨x, hx⟩ : ∃ x, l[k]? = some x := ⟨_, List.getElem?_eq_getElem hlt⟩
        obtain ⟨ad, rfl, hc⟩ := h00.rd k x hx
        have hc := (hb.cell (World.block_lt_of_cell? w _ hc)).trans hc
        have ha := and_15 x
        obtain ⟨r, hr, er⟩ := nat_of_mod x 16 (by omega)
        rw [show ((16 : Nat) : Int) = 16 from rfl] at er
        rw [er] at ha
        clear hx er
        go_wp2_with (at_builtin; go_loud (refine wpList_app1 w.heap.size rfl (.tmp 19) (.tmp 25) 22 3 (.int .i64 0) 8 rfl Try.underlying22 Try.intinfo rfl u5 _ (.int .i64 r) ⟨wr.heap.size, 0, none⟩ 1 rfl rfl ?c1 rfl (ho.alloc _) ?c2 ?c3 ?c4 ?_))
        case c1 => simp
        case c2 => have := hb.size; simp; omega
        case c3 => simp [ints]; omega
        case c4 => simp [ints]; omega
        intro v7 w7 ho7 hs7 hat
        have hs8 := hs7.alloc_left.below_of hb hb.size (fun i hi e => by have := own_ge ho i e; omega)
        clear ho hs7 hat hb
        go_wp2_with fail
        go_roundg (gk - 1)
        case measure => omega
        case rel =>
          refine ⟨k + 1, cur ++ [(r : Int)], by omega, by omega, by go_num, ?_, by simp; omega, ?_, hs8⟩
          · rw [ints_append]; exact ho7
          · intro y hy
            rcases List.mem_append.1 hy with hy | hy
            · exact hok y hy
            · simp at hy; omega
      · have hkl : k = l.length := by omega
        have hc100 : cur.length ≤ 100 := by omega
        clear hcl hk hg hlt
        subst hkl
        obtain ⟨A5, c5, rfl, hr5⟩ := RowOf.of_own ho (fun x hx => wf15 (hok x hx))
        go_wp2_with fail
        rw [ED.out]
        clear ED
        refine (can_kraft A5 c5 cur wr hr5).mono ?_
        rintro e w1 ⟨rfl, rfl⟩
        have hkp := kr_pow (n := D) (by omega) (by omega)
        have hkr := kr_range (D : Int)
        have hqr := kraft_range cur
        have HS1 := Lib.hid ((kraft_snoc hok hc100 (m := (D : Int)) ⟨by omega, by omega⟩).trans (show kraft cur + kr D = wrap64 (kraft cur + wrap64 (2 ^ (15 - D))) from by rw [hkp, IntWalk.wrap64_in _ (by omega)]))
        have HS2 := Lib.hid ((kraft_snoc hok hc100 (m := 0) ⟨by omega, by omega⟩).trans (show kraft cur + kr 0 = kraft cur from Int.add_zero _))
        have HKI := Lib.hid (kinds hok (by omega))
        clear hkp hkr
        generalize hgq : kraft cur = q at *
        clear hgq
        have e1 : (wrap64 (q + wrap64 (2 ^ (15 - D))) != wrap64 (q + wrap64 (2 ^ (15 - D)))) = false := by simp
        have e2 : (q != q) = false := by simp
        go_wp2_with (at_builtin; go_loud (refine wpList_appN w1.heap.size rfl (.tmp 34) (.tmp 35) 22 3 (.int .i64 0) 1 8 rfl Try.underlying22 Try.intinfo rfl (by omega) (.slice (some ⟨w1.heap.size, 0, none⟩) 0 0) 0 [] A5 cur.length c5 (ints .i64 cur) rfl rfl (by simp [ints]) ((hr5).rd.rdn.alloc_ _) ?c2 (one_ints _ _) ?c4 ?c5 ?c6 ?c7 ?_))
        case c2 => intro e; have := hr5.nil e; have := hr5.cap; omega
        case c4 => exact ⟨rfl, .inr ⟨w1.heap.size, 0, #[], rfl, Nat.le_refl _, heap_alloc_new w1 _, Nat.le_refl _, by simp [maxLen], rfl, rfl⟩⟩
        case c5 => simp
        case c6 => omega
        case c7 => omega
        intro v2 w2 ho2 hs2 _
        have hs2' : Below w1.heap.size w1 w2 := hs2.alloc_left.below (fun k hk e => by simp [Value.ownBlock] at e; omega)
        have ho2 : Own w2 w1.heap.size 3 v2 (ints .i64 cur) := by unfold Own; rw [ints_length]; simpa using ho2
        clear hs2
        have hz2 := hs2'.size
        go_wp2_with (at_builtin; go_loud (refine wpList_app1 w1.heap.size rfl (.tmp 36) (.tmp 38) 22 3 (.int .i64 0) 8 rfl Try.underlying22 Try.intinfo rfl v2 _ (.int .i64 (D : Int)) ⟨w2.heap.size, 0, none⟩ 1 rfl rfl ?d1 rfl (ho2.alloc _) ?d2 ?d3 ?d4 ?_))
        case d1 => simp
        case d2 => simp; omega
        case d3 => simp [ints]; omega
        case d4 => simp [ints]; omega
        intro v3 w3 ho3 hs3 _
        have hs3' : Below w1.heap.size w1 w3 := hs3.alloc_left.below_of hs2' hz2 (fun i hi e => by have := own_ge ho2 i e; omega)
        have ho3 : Own w3 w1.heap.size 3 v3 (ints .i64 (cur ++ [(D : Int)])) := by rw [ints_append]; exact ho3
        clear ho2 hs3
        obtain ⟨A3, c3, rfl, hr3⟩ := RowOf.of_own ho3 (fun x hx => wf15 (okL_snoc hok (by omega) x hx))
        have B3 := hb.trans (hs3'.mono hb.size)
        have hE3 := can_kraft A3 c3 (cur ++ [(D : Int)]) w3 hr3
        rw [show (cur ++ [((D : Int) : Int)]).length = cur.length + 1 from by simp, HS1.out] at hE3
        go_wp2_with fail
        refine hE3.mono ?_
        rintro e w3 ⟨rfl, rfl⟩
        clear hE3 ho3
        have hr5 := hr5.below hs3'
        go_wp2_with (at_builtin; go_loud (refine wpList_unguard rfl ?_; refine wpList_appN w3.heap.size rfl (.tmp 49) (.tmp 50) 22 3 (.int .i64 0) 1 8 rfl Try.underlying22 Try.intinfo rfl (by omega) (.slice (some ⟨w3.heap.size, 0, none⟩) 0 0) 0 [] A5 cur.length c5 (ints .i64 cur) rfl rfl (by simp [ints]) ((hr5).rd.rdn.alloc_ _) ?c2 (one_ints _ _) ?c4 ?c5 ?c6 ?c7 ?_))
        case c2 => intro e; have := hr5.nil e; have := hr5.cap; omega
        case c4 => exact ⟨rfl, .inr ⟨w3.heap.size, 0, #[], rfl, Nat.le_refl _, heap_alloc_new w3 _, Nat.le_refl _, by simp [maxLen], rfl, rfl⟩⟩
        case c5 => simp
        case c6 => omega
        case c7 => omega
        intro v6 w6 ho6 hs6 _
        have hs6' : Below w3.heap.size w3 w6 := hs6.alloc_left.below (fun k hk e => by simp [Value.ownBlock] at e; omega)
        have ho6 : Own w6 w3.heap.size 3 v6 (ints .i64 cur) := by unfold Own; rw [ints_length]; simpa using ho6
        clear hs6
        have hz6 := hs6'.size
        go_wp2_with (at_builtin; go_loud (refine wpList_unguard rfl ?_; refine wpList_app1 w3.heap.size rfl (.tmp 51) (.tmp 52) 22 3 (.int .i64 0) 8 rfl Try.underlying22 Try.intinfo rfl v6 _ (.int .i64 0) ⟨w6.heap.size, 0, none⟩ 1 rfl rfl ?d1 rfl (ho6.alloc _) ?d2 ?d3 ?d4 ?_))
        case d1 => simp
        case d2 => simp; omega
        case d3 => simp [ints]; omega
        case d4 => simp [ints]; omega
        intro v7 w7 ho7 hs7 _
        have hs7' : Below w3.heap.size w3 w7 := hs7.alloc_left.below_of hs6' hz6 (fun i hi e => by have := own_ge ho6 i e; omega)
        have ho7 : Own w7 w3.heap.size 3 v7 (ints .i64 (cur ++ [0])) := by rw [ints_append]; exact ho7
        clear ho6 hs7
        obtain ⟨A7, c7, rfl, hr7⟩ := RowOf.of_own ho7 (fun x hx => wf15 (okL_snoc hok (by omega) x hx))
        have B7 := B3.trans (hs7'.mono B3.size)
        have hE7 := can_kraft A7 c7 (cur ++ [0]) w7 hr7
        rw [show (cur ++ [(0 : Int)]).length = cur.length + 1 from by simp, HS2.out] at hE7
        go_wp2_with fail
        refine hE7.mono ?_
        rintro e w7 ⟨rfl, rfl⟩
        clear hE7 ho7
        go_wp2_with fail
        have hr9 := hr5.below hs7'
        refine (can_kind A5 c5 cur w7 hr9).mono ?_
        rintro e w8 ⟨rfl, rfl⟩
        generalize kind cur = kd at *
        clear hr9 hr7 hr3 hr5 HS1 HS2 e1 e2 hs7' hs3'
        have hk := HKI.out
        clear HKI hok
        rcases hk with ⟨rfl, hq⟩ | ⟨rfl, hq⟩ | ⟨rfl, hq⟩ | ⟨rfl, hq, hq2⟩ | ⟨rfl, hq⟩
        · have b1 : (q == 0) = true := by simpa using hq
          clear hq
          go_wp2_with fail
          refine (ht _).out.mono ?_
          rintro e w9 ⟨rfl, hb9⟩
          go_wp2_with fail
          go_ret
          exact ⟨rfl, B7.trans (hb9.mono B7.size)⟩
        · have b1 : (q == 32768) = true := by simpa using hq
          clear hq
          go_wp2_with fail
          refine (ht _).out.mono ?_
          rintro e w9 ⟨rfl, hb9⟩
          go_wp2_with fail
          go_ret
          exact ⟨rfl, B7.trans (hb9.mono B7.size)⟩
        · have b1 : (q == 16384) = true := by simpa using hq
          clear hq
          go_wp2_with fail
          refine (ht _).out.mono ?_
          rintro e w9 ⟨rfl, hb9⟩
          go_wp2_with fail
          go_ret
          exact ⟨rfl, B7.trans (hb9.mono B7.size)⟩
        · have b1 : decide (0 < q) = true := by simpa using hq
          have b2 : decide (q < 32768) = true := by simpa using hq2
          go_wp2_with fail
          refine (ht _).out.mono ?_
          rintro e w9 ⟨rfl, hb9⟩
          go_wp2_with fail
          go_ret
          exact ⟨rfl, B7.trans (hb9.mono B7.size)⟩
        · have b1 : decide (32768 < q) = true := by simpa using hq
          go_wp2_with fail
          refine (ht _).out.mono ?_
          rintro e w9 ⟨rfl, hb9⟩
          go_wp2_with fail
          go_ret
          exact ⟨rfl, B7.trans (hb9.mono B7.size)⟩
end Go.Proofs.Ytepphflpeobkhaa
