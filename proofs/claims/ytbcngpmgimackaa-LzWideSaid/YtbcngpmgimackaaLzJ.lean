import Derived.Test.YtbcngpmgimackaaLzT
namespace Go.Proofs.Ytbcngpmgimackaa
open Go.RowKit
attribute [local go_sem] max2i min2i max2t min2t

theorem Try.tokinfo : (Try.prog.info? 42).map (fun i => (i.zero, i.size, i.bytes)) = some (some (.agg #[.int .i64 0, .int .i64 0, .int .u8 0]), 3, 24) := by kernel_rfl

theorem RowS.rdn {α : Type} {w : World} {m c : Nat} {A : Option Addr} {l : List α} {enc : α → List Value} {ok : α → Prop} (h : RowS w m A c l enc ok) (hm : ∀ x, (enc x).length = m) (h0 : 0 < m) : RdN w A (l.flatMap enc) ∧ (l.flatMap enc).length = l.length * m := by
  have hlen : ∀ l : List α, (l.flatMap enc).length = l.length * m := fun l => by
    induction l with
    | nil => simp
    | cons x l ih => rw [List.flatMap_cons, List.length_append, ih, hm, List.length_cons, Nat.add_mul]; omega
  refine ⟨fun q u hq => ?_, hlen l⟩
  have hql : q < l.length * m := by rw [← hlen l]; exact (List.getElem?_eq_some_iff.1 hq).1
  have hi : q / m < l.length := by rw [Nat.div_lt_iff_lt_mul h0]; exact hql
  have hj : q % m < m := Nat.mod_lt _ h0
  have hx : l[q / m]? = some l[q / m] := List.getElem?_eq_getElem hi
  have hv : (enc l[q / m])[q % m]? = some ((enc l[q / m])[q % m]'(by rw [hm]; exact hj)) := List.getElem?_eq_getElem (by rw [hm]; exact hj)
  have hf := flat_at hm l (q / m) _ (q % m) _ hx hv
  rw [Nat.div_add_mod' q m, hq] at hf
  obtain ⟨b, off, e, hc⟩ := h.rd (q / m) _ hx
  refine ⟨b, off, e, ?_⟩
  have := hc (q % m) _ hv
  rw [Nat.add_assoc, Nat.div_add_mod' q m] at this
  rw [this, Option.some.inj hf]
theorem RowS.of_own {α : Type} {w : World} {m base : Nat} {e : TypeId} {v : Value} {n : Nat} {l : List α} {enc : α → List Value} {ok : α → Prop} (h : w.ownsRow base e m v n (l.flatMap enc)) (hn : n = l.length) (hm : ∀ x, (enc x).length = m) (hok : ∀ x ∈ l, ok x) :
    ∃ A c, v = .slice A l.length c ∧ RowS w m A c l enc ok ∧ (∀ g, v.ownBlock = some g → base ≤ g) := by
  subst hn
  rcases h.2 with ⟨rfl, hn⟩ | ⟨g, cap, cur, rfl, hb, hh, hnc, hcm, hs, ht⟩
  · have : l = [] := List.eq_nil_of_length_eq_zero hn
    subst this
    exact ⟨none, 0, rfl, RowS.nil_, by simp [Value.ownBlock]⟩
  · refine ⟨some ⟨g, 0, none⟩, cap, rfl, ⟨fun i x hx => ⟨g, 0, rfl, fun j v hv => ?_⟩, hnc, by simpa [maxLen] using hcm, hok, by simp⟩, fun g' hg => by simp [Value.ownBlock] at hg; omega⟩
    have := World.ownsRow.cells h (g := g) rfl (i * m + j) v (flat_at hm l i x j v hx hv)
    rwa [Addr.add_lit, ← Nat.add_assoc] at this

theorem RdN.alloc_ {w : World} {A : Option Addr} {cs : List Value} (h : RdN w A cs) (o : Obj) : RdN (w.alloc o) A cs := fun j u hj => by
  obtain ⟨b, off, e, hc⟩ := h j u hj
  exact ⟨b, off, e, ((Same.refl (S := fun _ => False) w).alloc o).cell hc (fun c => c)⟩
theorem one_toks (l : List Tok) : ∀ u ∈ l.flatMap S42.enc, u.oneCell' = true := by
  intro u hu
  obtain ⟨x, _, hx⟩ := List.mem_flatMap.1 hu
  simp [S42.enc] at hx
  rcases hx with rfl | rfl | rfl <;> rfl
theorem strOfNums_append (a b : List Int) : strOfNums (a ++ b) = strOfNums a ++ strOfNums b := by
  apply ByteArray.ext
  simp [strOfNums]
theorem own_ge {w : World} {base : Nat} {e : TypeId} {m : Nat} {v : Value} {n : Nat} {xs : List Value} (h : w.ownsRow base e m v n xs) (k : Nat) (hk : v.ownBlock = some k) : base ≤ k := by
  rcases h.2 with ⟨rfl, _⟩ | ⟨g, cap, cur, rfl, hb, _⟩
  · simp [Value.ownBlock] at hk
  · simp [Value.ownBlock] at hk; omega
theorem tok_ok {w w' : World} {A A' : Option Addr} {c c' : Nat} {l m : List Tok} (h : RowS w 3 A c l S42.enc (S42.ok w)) (k : RowS w 3 A' c' m S42.enc (S42.ok w)) : ∀ x ∈ l ++ m, S42.ok w' x := fun x hx =>
  (List.mem_append.1 hx).elim (h.ok x) (k.ok x)

set_option maxHeartbeats 1600000 in
set_option maxRecDepth 100000 in
theorem lzJoins_walk (A : Option Addr) (c : Nat) (l : List Tok) (A' : Option Addr) (c' : Nat) (m : List Tok) (wide : Bool) (w : World) (h00 : RowS w 3 A c l S42.enc (S42.ok w)) (h01 : RowS w 3 A' c' m S42.enc (S42.ok w)) :
    Calls Try.prog 8 #[.slice A l.length c, .slice A' m.length c', .bool wide] w fun e w' => e = .returned (.bool true) ∧ Below w.heap.size w w' := by
  have ht := fun W => Lib.hid (told11 W)
  have hm1 := h00.most
  have hcap := h00.cap
  have hm2 := h01.most
  have hcap2 := h01.cap
  have he : ∀ x : Tok, (S42.enc x).length = 3 := fun _ => rfl
  have H1 := Lib.hid (few_calls A c l w h00)
  have B0 := Below.refl w.heap.size w
  by_cases f1 : l.length ≤ 100 ∧ size l ≤ 70000
  · have f1' : decide (l.length ≤ 100 ∧ size l ≤ 70000) = true := by simpa using f1
    rw [f1'] at H1
    obtain ⟨f1a, f1b⟩ := f1
    clear f1'
    by_cases f2 : m.length ≤ 100 ∧ size m ≤ 70000
    · have f2' : decide (m.length ≤ 100 ∧ size m ≤ 70000) = true := by simpa using f2
      obtain ⟨f2a, f2b⟩ := f2
      by_cases g1 : 50 < l.length
      · have g1' : decide ((50 : Int) < l.length) = true := by simp; omega
        go_enter Try.func8, Try.ntmps8
        go_wp2_with fail
        refine H1.out.mono ?_
        rintro e w1 ⟨rfl, hb1⟩
        go_wp2_with fail
        have H2 := few_calls A' c' m w1 (h01.below hb1 (fun _ h => h))
        rw [f2'] at H2
        refine H2.mono ?_
        rintro e w2 ⟨rfl, hb2⟩
        have B2 := hb1.trans (hb2.mono hb1.size)
        go_wp2_with (go_at_call 16; refine (ht _).out.mono ?_; rintro e w' ⟨rfl, hb'⟩)
        go_ret
        exact ⟨rfl, B2.trans (hb'.mono B2.size)⟩
      · have g1' : decide ((50 : Int) < l.length) = false := by simp; omega
        by_cases g2 : 50 < m.length
        · have g2' : decide ((50 : Int) < m.length) = true := by simp; omega
          go_enter Try.func8, Try.ntmps8
          go_wp2_with fail
          refine H1.out.mono ?_
          rintro e w1 ⟨rfl, hb1⟩
          go_wp2_with fail
          have H2 := few_calls A' c' m w1 (h01.below hb1 (fun _ h => h))
          rw [f2'] at H2
          refine H2.mono ?_
          rintro e w2 ⟨rfl, hb2⟩
          have B2 := hb1.trans (hb2.mono hb1.size)
          go_wp2_with (go_at_call 16; refine (ht _).out.mono ?_; rintro e w' ⟨rfl, hb'⟩)
          go_ret
          exact ⟨rfl, B2.trans (hb'.mono B2.size)⟩
        · have g2' : decide ((50 : Int) < m.length) = false := by simp; omega
          have hl5 : l.length ≤ 50 := by omega
          have hm5 : m.length ≤ 50 := by omega
          go_enter Try.func8, Try.ntmps8
          go_wp2_with fail
          refine H1.out.mono ?_
          rintro e w1 ⟨rfl, hb1⟩
          go_wp2_with fail
          have H2 := few_calls A' c' m w1 (h01.below hb1 (fun _ h => h))
          rw [f2'] at H2
          refine H2.mono ?_
          rintro e w2 ⟨rfl, hb2⟩
          have B2 := hb1.trans (hb2.mono hb1.size)
          clear H2 hb1 hb2 f2' H1
          go_wp2_with fail
          refine (expand_calls A c l wide w2 (h00.below B2 (fun _ h => h))).mono ?_
          rintro e w3 ⟨v3, rfl, ho3, hb3⟩
          have B3 := B2.trans (hb3.mono B2.size)
          go_wp2_with fail
          refine (expand_calls A' c' m wide w3 (h01.below B3 (fun _ h => h))).mono ?_
          rintro e w4 ⟨v4, rfl, ho4, hb4⟩
          have B4 := B3.trans (hb4.mono B3.size)
          have hj := @expand_joins wide l m
          generalize hx : expand wide 1073741824 l 0 [] = rl at *
          generalize hy : expand wide 1073741824 m 0 [] = rm at *
          obtain ⟨a, xa, ca⟩ := rl
          obtain ⟨b, xb, cb⟩ := rm
          simp only at ho3 ho4 hj ⊢
          by_cases ea : ca = 0
          · by_cases eb : cb = 0
            · subst ea eb
              have hsa := (expand_size (by omega) hx (by simp)).2.2.2
              have hsb := (expand_size (by omega) hy (by simp)).2.2.2
              change size l = _ at hsa
              change size m = _ at hsb
              obtain ⟨hjo, hsz⟩ := hj rfl rfl (by omega)
              have HSZ := Lib.hid hsz
              have HJO := Lib.hid hjo
              have hla : a.length ≤ 70000 := by omega
              have hlb : b.length ≤ 70000 := by omega
              clear hj hx hy hsa hsb hsz hjo
              obtain ⟨A3, c3, rfl, _, _, hR3, _⟩ := ho3.rdb
              obtain ⟨A4, c4, rfl, _, _, hR4, _⟩ := ho4.rdb
              obtain ⟨n1, nl1⟩ := (h00.below (ok' := S42.ok w) B4 (fun _ h => h)).rdn he (by omega)
              have hnil1 := h00.nil
              have hnil2 := h01.nil
              clear ho3 ho4
              go_wp2_with (at_builtin; go_loud (refine wpList_appN w4.heap.size rfl (.tmp 57) (.tmp 58) 39 42 (.agg #[.int .i64 0, .int .i64 0, .int .u8 0]) 3 24 rfl Try.underlying39 Try.tokinfo rfl (by omega) (.slice (some ⟨w4.heap.size, 0, none⟩) 0 0) 0 [] A l.length c (l.flatMap S42.enc) rfl rfl nl1 ?c1 ?c2 ?c3 ?c4 ?c5 ?c6 ?c7 ?_))
              case c1 => exact n1.alloc_ _
              case c2 => intro e; have := hnil1 e; omega
              case c3 => exact one_toks l
              case c4 => exact ⟨rfl, .inr ⟨w4.heap.size, 0, #[], rfl, Nat.le_refl _, heap_alloc_new w4 _, Nat.le_refl _, by simp [maxLen], rfl, rfl⟩⟩
              case c5 => simp
              case c6 => omega
              case c7 => omega
              intro v5 w5 ho5 hs5 _
              have hs5' : Below w4.heap.size w4 w5 := hs5.alloc_left.below (fun k hk e => by simp [Value.ownBlock] at e; omega)
              clear hs5
              have B5 := B4.trans (hs5'.mono B4.size)
              obtain ⟨n2, nl2⟩ := (h01.below (ok' := S42.ok w) B5 (fun _ h => h)).rdn he (by omega)
              have hz5 := hs5'.size
              go_wp2_with (at_builtin; go_loud (refine wpList_appN w4.heap.size rfl (.tmp 59) (.tmp 60) 39 42 (.agg #[.int .i64 0, .int .i64 0, .int .u8 0]) 3 24 rfl Try.underlying39 Try.tokinfo rfl (by omega) v5 l.length (l.flatMap S42.enc) A' m.length c' (m.flatMap S42.enc) rfl rfl nl2 n2 ?d2 (one_toks m) ho5 hz5 ?d6 ?d7 ?_))
              case d2 => intro e; have := hnil2 e; omega
              case d6 => omega
              case d7 => omega
              intro v6 w6 ho6 hs6 _
              have hs6' : Below w4.heap.size w4 w6 := hs6.below_of hs5' hz5 (fun k hk e => by have := own_ge ho5 k e; omega)
              have B6 := B4.trans (hs6'.mono B4.size)
              rw [← List.flatMap_append] at ho6
              obtain ⟨A6, c6, rfl, hR6, _⟩ := RowS.of_own ho6 (by simp) he (ok := S42.ok w6) (tok_ok h00 h01)
              clear ho6 ho5 hs6 n1 n2 nl1 nl2
              go_wp2_with fail
              have hE := expand_calls A6 c6 (l ++ m) wide w6 hR6
              rw [HJO.out, List.length_append] at hE
              refine hE.mono ?_
              clear hE
              rintro e w7 ⟨v7, rfl, ho7, hb7⟩
              have B7 := B6.trans (hb7.mono B6.size)
              have hb47 := hs6'.trans (hb7.mono hs6'.size)
              obtain ⟨A7, c7, rfl, _, _, hR7, _⟩ := ho7.rdb
              clear ho7
              go_wp2_with fail
              refine (ht _).out.mono ?_
              rintro e w8 ⟨rfl, hb8⟩
              have B8 := B7.trans (hb8.mono B7.size)
              have hb48 := hb47.trans (hb8.mono hb47.size)
              have hb38 := hb4.trans (hb48.mono hb4.size)
              have t3 := (hR3.same (Same.of_below (S := fun _ => False) hb38) (fun _ _ c => c)).to_string (P := Try.prog) (n := a.length) (c := c3) (dst := 9) rfl Try.underlying28 Try.underlying5 Try.underlying9
              have t4 := (hR4.same (Same.of_below (S := fun _ => False) hb48) (fun _ _ c => c)).to_string (P := Try.prog) (n := b.length) (c := c4) (dst := 9) rfl Try.underlying28 Try.underlying5 Try.underlying9
              have t7 := (hR7.same (Same.of_below (S := fun _ => False) hb8) (fun _ _ c => c)).to_string (P := Try.prog) (n := a.length + b.length) (c := c7) (dst := 9) (List.length_append).symm Try.underlying28 Try.underlying5 Try.underlying9
              rw [strOfNums_append] at t7
              have za : (strOfNums a).size ≤ 70000 := by rw [strOfNums_size]; exact hla
              have zb : (strOfNums b).size ≤ 70000 := by rw [strOfNums_size]; exact hlb
              generalize strOfNums a = sa at *
              generalize strOfNums b = sb at *
              clear hR3 hR4 hR7 hb8 hb7 hb47 hb48 hb38 HJO B5 B6 B7 hs5' hs6'
              go_wp2_with fail
              refine (lz_size A c l _ (h00.below B8 (fun _ h => h))).mono ?_
              rw [HSZ.out]
              rintro e w9 ⟨rfl, hb9⟩
              go_wp2_with fail
              go_ret
              exact ⟨rfl, B8.trans (hb9.mono B8.size)⟩
            · have eb' : (cb != 0) = true := by simp [eb]
              subst ea
              clear hx hy hj eb
              go_wp2_with (go_at_call 16; refine (ht _).out.mono ?_; rintro e w' ⟨rfl, hb'⟩)
              go_ret
              exact ⟨rfl, B4.trans (hb'.mono B4.size)⟩
          · have ea' : (ca != 0) = true := by simp [ea]
            clear hx hy hj ea
            go_wp2_with (go_at_call 16; refine (ht _).out.mono ?_; rintro e w' ⟨rfl, hb'⟩)
            go_ret
            exact ⟨rfl, B4.trans (hb'.mono B4.size)⟩
    · have f2' : decide (m.length ≤ 100 ∧ size m ≤ 70000) = false := by simpa using f2
      clear f2
      go_enter Try.func8, Try.ntmps8
      go_wp2_with fail
      refine H1.out.mono ?_
      rintro e w1 ⟨rfl, hb1⟩
      go_wp2_with fail
      have H2 := few_calls A' c' m w1 (h01.below hb1 (fun _ h => h))
      rw [f2'] at H2
      refine H2.mono ?_
      rintro e w2 ⟨rfl, hb2⟩
      have B2 := hb1.trans (hb2.mono hb1.size)
      go_wp2_with (go_at_call 16; refine (ht _).out.mono ?_; rintro e w' ⟨rfl, hb'⟩)
      go_ret
      exact ⟨rfl, B2.trans (hb'.mono B2.size)⟩
  · have f1' : decide (l.length ≤ 100 ∧ size l ≤ 70000) = false := by simpa using f1
    rw [f1'] at H1
    clear f1 f1'
    go_enter Try.func8, Try.ntmps8
    go_wp2_with fail
    refine H1.out.mono ?_
    rintro e w1 ⟨rfl, hb1⟩
    go_wp2_with (go_at_call 16; refine (ht _).out.mono ?_; rintro e w' ⟨rfl, hb'⟩)
    go_ret
    exact ⟨rfl, hb1.trans (hb'.mono hb1.size)⟩
end Go.Proofs.Ytbcngpmgimackaa
