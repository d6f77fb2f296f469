import Derived.Test.YtfmglcgdcdcpaaaSoS
import Derived.Test.YtfmglcgdcdcpaaaPkQ
import Derived.Test.YtfmglcgdcdcpaaaBas3
import Derived.Deep.RegionWith
import Derived.WalkMore
import Derived.Deep.RegionLaw
import Derived.Deep.AppendLies
namespace Go.Proofs.Ytfmglcgdcdcpaaa
set_option linter.unusedVariables false
set_option linter.unusedSimpArgs false
open Go.RowKit
attribute [local go_sem] max2i min2i max2t min2t

/-! ### bundles in memory (pack) -/
structure Bv where
  w : Int
  a : Option Addr
  c : Nat
  h : List Int
def Bv.enc (x : Bv) : List Value := [.int .i64 x.w, .slice x.a x.h.length x.c]
def Bv.bn (x : Bv) : Bn := ⟨x.w, x.h⟩
structure Bv.ok (M G : Nat) (w : World) (x : Bv) : Prop where
  row : RowOf w .i64 x.a x.c x.h
  lo : x.h ≠ [] → ∀ ad, x.a = some ad → G ≤ ad.block
  len : x.h.length ≤ M
  w0 : 0 ≤ x.w
  w1 : x.w ≤ M * 1073741824
abbrev BLM (w : World) (A : Option Addr) (c : Nat) (l : List Bv) (M G : Nat) : Prop := RowS w 2 A c l Bv.enc (Bv.ok M G w)
theorem Bv.ok.belo {M G : Nat} {w w' : World} {x : Bv} (h : Bv.ok M G w x) (hb : Below w.heap.size w w') : Bv.ok M G w' x := ⟨h.row.belo hb, h.lo, h.len, h.w0, h.w1⟩
theorem Bv.ok.mono {M M' G : Nat} {w : World} {x : Bv} (h : Bv.ok M G w x) (hm : M ≤ M') : Bv.ok M' G w x := ⟨h.row, h.lo, Nat.le_trans h.len hm, h.w0, Int.le_trans h.w1 (by omega)⟩
section
variable {w w' : World} {A : Option Addr} {c M G : Nat} {l : List Bv}
theorem BLM.belo (h : BLM w A c l M G) (hb : Below w.heap.size w w') : BLM w' A c l M G :=
  ⟨fun i x hx => by
    obtain ⟨b, o, e, hc⟩ := h.rd i x hx
    exact ⟨b, o, e, fun j v hv => (hb.cell (World.block_lt_of_cell? w _ (hc j v hv))).trans (hc j v hv)⟩, h.cap, h.most, fun x hx => (h.ok x hx).belo hb, h.nil⟩
theorem BLM.mono {M' : Nat} (h : BLM w A c l M G) (hm : M ≤ M') : BLM w A c l M' G := ⟨h.rd, h.cap, h.most, fun x hx => (h.ok x hx).mono hm, h.nil⟩
theorem BLM.empty (h : BLM w A c [] M G) : BLM w' A c [] M G := ⟨fun i x hx => by simp at hx, h.cap, h.most, fun x hx => by simp at hx, h.nil⟩
theorem BLM.addr {x : Bv} (h : BLM w A c (x :: l) M G) : ∃ b o, A = some ⟨b, o, none⟩ ∧ w.cell? ⟨b, o, none⟩ = some (.int .i64 x.w) ∧ w.cell? ⟨b, o + 1, none⟩ = some (.slice x.a x.h.length x.c) := by
  obtain ⟨b, o, e, hc⟩ := h.rd 0 x rfl
  exact ⟨b, o, e, by simpa using hc 0 _ rfl, by simpa using hc 1 _ rfl⟩
theorem BLM.at_ (h : BLM w A c l M G) {i : Nat} (hi : i < l.length) : ∃ b o, A = some ⟨b, o, none⟩ ∧ w.cell? ⟨b, o + i * 2, none⟩ = some (.int .i64 l[i].w) ∧ w.cell? ⟨b, o + i * 2 + 1, none⟩ = some (.slice l[i].a l[i].h.length l[i].c) := by
  obtain ⟨b, o, e, hc⟩ := h.rd i l[i] (List.getElem?_eq_getElem hi)
  exact ⟨b, o, e, by simpa using hc 0 _ rfl, by simpa using hc 1 _ rfl⟩
/-- The list without its first one. -/
theorem BLM.tail {x : Bv} {b o : Nat} (h : BLM w (some ⟨b, o, none⟩) c (x :: l) M G) (A' : Option Addr) (hA : l ≠ [] → A' = some ⟨b, o + 2, none⟩) (hn : A' = none → c = 1) : BLM w A' (c - 1) l M G := by
  have hcap := h.cap
  rw [List.length_cons] at hcap
  refine ⟨fun i y hy => ?_, by omega, by have := h.most; omega, fun y hy => h.ok y (List.mem_cons_of_mem _ hy), fun e => by have := hn e; omega⟩
  obtain ⟨b', o', e, hc⟩ := h.rd (i + 1) y (by simpa using hy)
  injection e with e
  injection e with e1 e2
  subst e1 e2
  refine ⟨b, o + 2, hA (fun e => by rw [e] at hy; simp at hy), fun j v hv => ?_⟩
  have := hc j v hv
  rw [show o + (i + 1) * 2 + j = o + 2 + i * 2 + j from by omega] at this
  exact this
end
/-! ### which counts may be packed -/
def mayCs (cs : List Int) (most : Int) : Bool := decide (1 ≤ most ∧ most ≤ 15 ∧ cs.length ≤ 400 ∧ ∀ x ∈ cs, 0 ≤ x ∧ x ≤ 1073741824)
theorem idx_snoc (cs : List Int) (x : Int) : idx (cs ++ [x]) = idx cs ++ if 0 < x then [cs.length] else [] := by
  unfold idx
  rw [List.length_append, List.length_singleton, List.range_succ, List.filter_append]
  congr 1
  · refine List.filter_congr (fun i hi => ?_)
    rw [List.mem_range] at hi
    rw [List.getD_eq_getElem?_getD, List.getElem?_append_left hi, ← List.getD_eq_getElem?_getD]
  · have e : (cs ++ [x]).getD cs.length 0 = x := by rw [List.getD_eq_getElem?_getD, List.getElem?_append_right (Nat.le_refl _), Nat.sub_self]; rfl
    by_cases h : 0 < x
    · rw [List.filter_cons_of_pos (by rw [e]; simpa using h), if_pos h]; rfl
    · rw [List.filter_cons_of_neg (by rw [e]; simpa using h), if_neg h]; rfl
def ixs (l : List Nat) : List Int := l.map (fun i : Nat => (i : Int))
structure MyRel (w : World) (cs : List Int) (gk : Nat) (v6 v7 v8 v22 : Value) (wr : World) : Prop where mk ::
  out_ : ∃ i : Nat, i ≤ cs.length ∧ cs.length ≤ gk + i ∧ v22 = .int .i64 (i : Int) ∧ (∀ x ∈ cs.take i, 0 ≤ x ∧ x ≤ 1073741824) ∧ Own wr w.heap.size 3 v6 (ints .i64 (ixs (idx (cs.take i)))) ∧ Below w.heap.size w wr
theorem idx_len (cs : List Int) : (idx cs).length ≤ cs.length := by
  unfold idx
  exact Nat.le_trans (List.length_filter_le _ _) (by simp)
theorem take_snoc {cs : List Int} {i : Nat} (h : i < cs.length) : cs.take (i + 1) = cs.take i ++ [cs.getD i 0] := by
  rw [List.take_succ_eq_append_getElem h, List.getD_eq_getElem?_getD, List.getElem?_eq_getElem h]; rfl
def MayPost (cs : List Int) (most : Int) (w : World) (e : Ending) (w' : World) : Prop := Below w.heap.size w w' ∧ if mayCs cs most then (∃ v, e = .returned (.tuple #[v, .bool (decide ((idx cs).length ≤ 2 ^ most.toNat))]) ∧ Own w' w.heap.size 3 v (ints .i64 (ixs (idx cs)))) else e = .returned (.tuple #[.slice none 0 0, .bool false])
theorem may_bad {cs : List Int} {most : Int} {w w' : World} (h : mayCs cs most = false) (hb : Below w.heap.size w w') : MayPost cs most w (.returned (.tuple #[.slice none 0 0, .bool false])) w' := ⟨hb, by rw [h]; rfl⟩
theorem may_good {cs : List Int} {m : Nat} {w w' : World} {v : Value} (h : mayCs cs m = true) (hb : Below w.heap.size w w') (ho : Own w' w.heap.size 3 v (ints .i64 (ixs (idx cs)))) : MayPost cs m w (.returned (.tuple #[v, .bool (decide ((idx cs).length ≤ 2 ^ m))])) w' := ⟨hb, by rw [h]; exact ⟨v, rfl, ho⟩⟩
set_option maxHeartbeats 4000000 in
set_option maxRecDepth 100000 in
theorem pack_may {A : Option Addr} {c : Nat} {cs : List Int} (most : Int) (hm : (Lit.int .i64 most).wf = true) (w : World) (hr : RowOf w .i64 A c cs) :
    Calls Try.prog 15 #[.slice A cs.length c, .int .i64 most] w fun e w' => MayPost cs most w e w' := by
  have hcap := hr.cap
  have hmost := hr.most
  by_cases h1 : most < 1
  · have d1 : decide (most < 1) = true := by simpa using h1
    have hM : mayCs cs most = false := by unfold mayCs; rw [decide_eq_false]; omega
    go_enter Try.func15, Try.ntmps15
    go_wp2_with fail
    go_ret2
    exact may_bad hM (Below.refl _ _)
  have d1 : decide (most < 1) = false := by simpa using h1
  by_cases h2 : 15 < most
  · have d2 : decide (15 < most) = true := by simpa using h2
    have hM : mayCs cs most = false := by unfold mayCs; rw [decide_eq_false]; omega
    go_enter Try.func15, Try.ntmps15
    go_wp2_with fail
    go_ret2
    exact may_bad hM (Below.refl _ _)
  have d2 : decide (15 < most) = false := by simpa using h2
  by_cases h3 : 400 < cs.length
  · have d3 : decide ((400 : Int) < cs.length) = true := by simp; omega
    have hM : mayCs cs most = false := by unfold mayCs; rw [decide_eq_false]; omega
    go_enter Try.func15, Try.ntmps15
    go_wp2_with fail
    go_ret2
    exact may_bad hM (Below.refl _ _)
  have d3 : decide ((400 : Int) < cs.length) = false := by simp; omega
  obtain ⟨m, rfl⟩ : ∃ m : Nat, most = m := ⟨most.toNat, by omega⟩
  have hMM : mayCs cs m = decide (∀ x ∈ cs, 0 ≤ x ∧ x ≤ 1073741824) := by
    unfold mayCs
    refine decide_eq_decide.2 ⟨fun h => h.2.2.2, fun h => ⟨by omega, by omega, by omega, h⟩⟩
  have HMM := Lib.hid hMM
  clear hMM hm
  go_enter Try.func15, Try.ntmps15
  go_wp2_with fail
  go_loopg [6, 7, 8, 22] cs.length (MyRel w cs)
  case atStart => exact ⟨⟨0, by omega, by omega, rfl, by simp, Own.nil _ _ _, Below.refl _ _⟩⟩
  case round =>
    obtain ⟨i, hi, hg, rfl, hok, ho, hb⟩ := hrel.out_
    clear hrel
    have hz := hb.size
    by_cases hlt : i < cs.length
    · have e1 : decide (i < cs.length) = true := by simpa using hlt
      have hx : cs[i]? = some (cs.getD i 0) := by rw [List.getD_eq_getElem?_getD, List.getElem?_eq_getElem hlt]; rfl
      have hwf := hr.wf _ (List.mem_of_getElem? hx)
      obtain ⟨ad, rfl, hc⟩ := hr.rd _ _ hx
      have hc := (hb.cell (World.block_lt_of_cell? w _ hc)).trans hc
      have hsn := take_snoc hlt
      have hbad : ¬ (0 ≤ cs.getD i 0 ∧ cs.getD i 0 ≤ 1073741824) → ¬ ∀ x ∈ cs, 0 ≤ x ∧ x ≤ 1073741824 := fun h k => h (k _ (List.mem_of_getElem? hx))
      have hil : (idx (cs.take i)).length ≤ 400 := by have := idx_len (cs.take i); rw [List.length_take] at this; omega
      have htl : (cs.take i).length = i := by rw [List.length_take]; omega
      have HSN := Lib.hid hsn
      have HBAD := Lib.hid hbad
      have HTL := Lib.hid htl
      have HOK := Lib.hid hok
      clear hx hsn hbad htl hok
      generalize cs.getD i 0 = x at *
      by_cases hx0 : x < 0
      · have d4 : decide (x < 0) = true := by simpa using hx0
        go_wp2_with fail
        go_ret2
        exact may_bad (by rw [HMM.out, decide_eq_false (HBAD.out (by omega))]) hb
      · have d4 : decide (x < 0) = false := by simpa using hx0
        by_cases hx1 : 1073741824 < x
        · have d5 : decide (1073741824 < x) = true := by simpa using hx1
          go_wp2_with fail
          go_ret2
          exact may_bad (by rw [HMM.out, decide_eq_false (HBAD.out (by omega))]) hb
        · have d5 : decide (1073741824 < x) = false := by simpa using hx1
          have hok2 : ∀ y ∈ cs.take (i + 1), 0 ≤ y ∧ y ≤ 1073741824 := fun y hy => by
            rw [HSN.out] at hy
            rcases List.mem_append.1 hy with hy | hy
            · exact HOK.out y hy
            · rw [List.mem_singleton] at hy; subst hy; omega
          have HOK2 := Lib.hid hok2
          clear hok2
          by_cases hxp : 0 < x
          · have d6 : decide (0 < x) = true := by simpa using hxp
            have lit : RowOf (wr.alloc (.cells #[.int .i64 (i : Int)] 3)) .i64 (some ⟨wr.heap.size, 0, none⟩) 1 [(i : Int)] := RowOf.lit wr .i64 3 [(i : Int)] (fun y hy => by rw [List.mem_singleton] at hy; subst hy; simp [Lit.wf, IntKind.min, IntKind.max, IntKind.bits, IntKind.signed]; omega) (by simp)
            have hnl : (ixs (idx (cs.take i))).length ≤ 400 := by unfold ixs; rw [List.length_map]; exact hil
            have hnw : ∀ y ∈ ixs (idx (cs.take i)), (Lit.int .i64 y).wf = true := fun y hy => by
              obtain ⟨j, hj, rfl⟩ := List.mem_map.1 hy
              have := (idx_mem.1 hj).1
              rw [HTL.out] at this
              simp [Lit.wf, IntKind.min, IntKind.max, IntKind.bits, IntKind.signed]; omega
            have hnx : ixs (idx (cs.take (i + 1))) = ixs (idx (cs.take i)) ++ [(i : Int)] := by
              rw [HSN.out, idx_snoc, if_pos hxp, HTL.out]; unfold ixs; rw [List.map_append]; rfl
            have HNX := Lib.hid hnx
            clear hnx
            generalize ixs (idx (cs.take i)) = K at *
            go_wp2_with (at_builtin; go_loud (refine wpList_catN .i64 w.heap.size rfl (.tmp 35) (.tmp 37) 22 3 8 rfl Try.underlying22 Try.intinfo u6 K (some ⟨wr.heap.size, 0, none⟩) 1 1 [(i : Int)] rfl rfl rfl (ho.alloc _) lit (by simp; omega) (K.length + 1) rfl (by omega) (by omega) hnw ?_); intro A9 c9 w9 ho9 hr9 hs9 hat9; have B9 := hs9.below_of (hb.alloc hb.size (.cells #[.int .i64 (i : Int)] 3)) (by simp; omega) (fun k hk e => by have := ho.base_le k e; omega); clear hat9)
            go_roundg (gk - 1)
            case measure => omega
            case rel => exact ⟨⟨i + 1, by omega, by omega, by go_num, HOK2.out, by rw [HNX.out]; exact ho9, B9⟩⟩
          · have d6 : decide (0 < x) = false := by simpa using hxp
            have hnx : ixs (idx (cs.take (i + 1))) = ixs (idx (cs.take i)) := by
              rw [HSN.out, idx_snoc, if_neg hxp, List.append_nil]
            have HNX := Lib.hid hnx
            clear hnx
            go_wp2_with fail
            go_roundg (gk - 1)
            case measure => omega
            case rel => exact ⟨⟨i + 1, by omega, by omega, by go_num, HOK2.out, by rw [HNX.out]; exact ho, hb⟩⟩
    · have e1 : decide (i < cs.length) = false := by simpa using hlt
      have hi' : i = cs.length := by omega
      subst hi'
      rw [List.take_length] at hok ho
      have hM : mayCs cs m = true := by rw [HMM.out, decide_eq_true hok]
      have h15 : m ≤ 15 := by omega
      have hdec : decide (((idx cs).length : Int) ≤ wrap64 (2 ^ m)) = decide ((idx cs).length ≤ 2 ^ m) := by
        have h2m : 2 ^ m ≤ 2 ^ 15 := Nat.pow_le_pow_right (by decide) h15
        have e : ((2 : Int) ^ m) = ((2 ^ m : Nat) : Int) := by rw [Int.natCast_pow]; rfl
        rw [e]
        generalize 2 ^ m = P at *
        rw [IntWalk.wrap64_in _ (by omega)]
        exact decide_eq_decide.2 (by omega)
      have HDEC := Lib.hid hdec
      clear hdec
      have hil := idx_len cs
      obtain ⟨A5, c5, e5, hc5, _⟩ := ho.rd
      have hnl : (ixs (idx cs)).length = (idx cs).length := by unfold ixs; rw [List.length_map]
      rw [hnl] at e5 hc5
      subst e5
      clear hok
      go_wp2_with fail
      go_ret2
      have hgd := may_good hM hb ho
      rw [← HDEC.out] at hgd
      exact hgd
/-! ### two rising lists in one -/
def catB (acc : List Bv) : List Value := acc.flatMap Bv.enc
theorem catB_len (acc : List Bv) : (catB acc).length = acc.length * 2 := by
  unfold catB
  induction acc with
  | nil => rfl
  | cons x l ih => rw [List.flatMap_cons, List.length_append, ih, List.length_cons]; simp [Bv.enc]; omega
theorem catB_at {acc : List Bv} {i : Nat} {x : Bv} (h : acc[i]? = some x) : ∀ j v, x.enc[j]? = some v → (catB acc)[i * 2 + j]? = some v := by
  induction acc generalizing i with
  | nil => simp at h
  | cons y l ih =>
    intro j v hv
    unfold catB
    rw [List.flatMap_cons]
    have hj : j < 2 := by
      rcases Nat.lt_or_ge j 2 with c | c
      · exact c
      · rw [List.getElem?_eq_none (by simp [Bv.enc]; omega)] at hv; cases hv
    cases i with
    | zero =>
      simp at h
      subst h
      rw [Nat.zero_mul, Nat.zero_add, List.getElem?_append_left (by simp [Bv.enc]; omega)]
      exact hv
    | succ i =>
      rw [List.getElem?_cons_succ] at h
      have := ih h j v hv
      rw [List.getElem?_append_right (by simp [Bv.enc]; omega)]
      rw [show (i + 1) * 2 + j - (Bv.enc y).length = i * 2 + j from by simp [Bv.enc]; omega]
      exact this
theorem Try.bvinfo : (Try.prog.info? 43).map (fun i => (i.zero, i.size, i.bytes)) = some (some (.agg #[.int .i64 0, .slice none 0 0]), 2, 32) := by kernel_rfl
/-- A row of the call's own, read. -/
theorem own_BLM {w : World} {base : Nat} {v : Value} {acc : List Bv} {M G : Nat} (h : w.ownsRow base 43 2 v acc.length (catB acc)) (hok : ∀ x ∈ acc, Bv.ok M G w x) : ∃ A c, v = .slice A acc.length c ∧ BLM w A c acc M G ∧ ∀ ad, A = some ad → base ≤ ad.block := by
  rcases h.2 with ⟨rfl, hn⟩ | ⟨g, cap, cur, rfl, hb, hh, hnc, hcm, hcl, ht⟩
  · have : acc = [] := List.eq_nil_of_length_eq_zero hn
    subst this
    exact ⟨none, 0, rfl, RowS.nil_, by simp⟩
  · refine ⟨_, cap, rfl, ⟨fun i x hx => ⟨g, 0, rfl, fun j v hv => ?_⟩, hnc, by simpa [maxLen] using hcm, hok, by simp⟩, fun ad e => by injection e with e; subst e; exact hb⟩
    have := World.ownsRow.cells h (g := g) rfl (i * 2 + j) v (catB_at hx j v hv)
    rw [Addr.add_lit] at this
    rw [Nat.zero_add] at this ⊢
    exact this
theorem ownsRow_kept2 {w w' : World} {base size : Nat} {e : TypeId} {v : Value} {n : Nat} {xs : List Value} (h : w.ownsRow base e size v n xs) (hs : Same (fun _ => False) w w') : w'.ownsRow base e size v n xs := by
  refine ⟨h.1, ?_⟩
  rcases h.2 with h2 | ⟨g, cap, cur, h1, h2, h3, h4⟩
  · exact .inl h2
  · exact .inr ⟨g, cap, cur, h1, h2, (hs.block g (Array.getElem?_eq_some_iff.1 h3).1 (fun c => c)).trans h3, h4⟩
theorem ownsRow_ge2 {w : World} {base size : Nat} {e : TypeId} {v : Value} {n : Nat} {xs : List Value} (h : w.ownsRow base e size v n xs) (k : Nat) (hk : v.ownBlock = some k) : base ≤ k := by
  rcases h.2 with ⟨rfl, _⟩ | ⟨g, cap, cur, rfl, hb, _⟩
  · simp [Value.ownBlock] at hk
  · simp [Value.ownBlock] at hk; omega
theorem enc_one (x : Bv) : ∀ u ∈ x.enc, u.oneCell' = true := fun u hu => by
  simp [Bv.enc] at hu
  rcases hu with rfl | rfl <;> rfl
theorem keep_cell {w W : World} {p : Addr} {v : Value} (h : w.cell? p = some v) (hW : Below w.heap.size w W) : W.cell? p = some v := (hW.cell (World.block_lt_of_cell? w _ h)).trans h
theorem catB_snoc (acc : List Bv) (x : Bv) : catB (acc ++ [x]) = catB acc ++ x.enc := by unfold catB; rw [List.flatMap_append, List.flatMap_singleton]
theorem catB_append (a b : List Bv) : catB (a ++ b) = catB a ++ catB b := by unfold catB; rw [List.flatMap_append]
theorem catB_one (l : List Bv) : ∀ u ∈ catB l, u.oneCell' = true := fun u hu => by
  obtain ⟨x, _, hx⟩ := List.mem_flatMap.1 hu
  exact enc_one x u hx
theorem catB_inv : ∀ (l : List Bv) (j : Nat) (u : Value), (catB l)[j]? = some u → ∃ i r x, j = i * 2 + r ∧ l[i]? = some x ∧ x.enc[r]? = some u
  | [], j, u, h => by simp [catB] at h
  | x :: l, j, u, h => by
    unfold catB at h
    rw [List.flatMap_cons] at h
    rcases Nat.lt_or_ge j 2 with c | c
    · rw [List.getElem?_append_left (by simp [Bv.enc]; omega)] at h
      exact ⟨0, j, x, by omega, rfl, h⟩
    · rw [List.getElem?_append_right (by simp [Bv.enc]; omega)] at h
      obtain ⟨i, r, y, e, hy, hr⟩ := catB_inv l _ u h
      refine ⟨i + 1, r, y, ?_, by simpa using hy, hr⟩
      have : (Bv.enc x).length = 2 := rfl
      omega
theorem rdn_BLM {w : World} {A : Option Addr} {c M G : Nat} {l : List Bv} (h : BLM w A c l M G) : RdN w A (catB l) := fun j u hj => by
  obtain ⟨i, r, x, e, hx, hr⟩ := catB_inv l j u hj
  obtain ⟨b, o, eA, hc⟩ := h.rd i x hx
  refine ⟨b, o, eA, ?_⟩
  rw [e, ← Nat.add_assoc]
  exact hc r u hr
structure MgRel (w : World) (M G : Nat) (la lb : List Bv) (N : Nat) (gk : Nat) (v0 v1 v5 : Value) (wr : World) : Prop where mk ::
  out_ : ∃ (A B : Option Addr) (c d : Nat) (ra rb acc : List Bv), v0 = .slice A ra.length c ∧ v1 = .slice B rb.length d ∧ ra.length + rb.length ≤ gk ∧ BLM w A c ra M G ∧ BLM w B d rb M G ∧ wr.ownsRow w.heap.size 43 2 v5 acc.length (catB acc) ∧ (∀ x ∈ acc, Bv.ok M G w x) ∧
    acc.length + ra.length + rb.length = N ∧ acc.map Bv.bn ++ mrg (ra.map Bv.bn) (rb.map Bv.bn) = mrg (la.map Bv.bn) (lb.map Bv.bn) ∧ Below w.heap.size w wr
set_option maxHeartbeats 4000000 in
set_option maxRecDepth 100000 in
theorem pack_merged {A B : Option Addr} {c d M G : Nat} {la lb : List Bv} (w : World) (ha : BLM w A c la M G) (hb : BLM w B d lb M G) (hN : la.length + lb.length ≤ 100000) :
    Calls Try.prog 18 #[.slice A la.length c, .slice B lb.length d] w fun e w' => ∃ A' c' l, e = .returned (.slice A' l.length c') ∧ BLM w' A' c' l M G ∧ l.map Bv.bn = mrg (la.map Bv.bn) (lb.map Bv.bn) ∧ Below w.heap.size w w' ∧ ∀ ad, A' = some ad → w.heap.size ≤ ad.block := by
  go_enter Try.func18, Try.ntmps18
  go_wp2_with fail
  try go_step3
  go_wp2_with fail
  go_step3
  go_wp2_with fail
  go_loopg [0, 1, 5] (la.length + lb.length) (MgRel w M G la lb (la.length + lb.length))
  case atStart => exact ⟨⟨A, B, c, d, la, lb, [], rfl, rfl, Nat.le_refl _, ha, hb, ⟨by simp [catB], .inl ⟨rfl, rfl⟩⟩, by simp, by simp, rfl, Below.refl _ _⟩⟩
  case round =>
    obtain ⟨A1, B1, cA, cB, ra, rb, acc, rfl, rfl, hg, ha1, hb1, ho, hok, hlen, hmr, hbl⟩ := hrel.out_
    clear hrel ha hb
    have ca := ha1.cap
    have cb := hb1.cap
    cases ra with
    | nil =>
      rw [List.map_nil, mrg, ← List.map_append] at hmr
      rw [List.length_nil] at *
      have HMR := Lib.hid hmr
      have hwr := hbl.size
      have hrd : RdN wr B1 (catB rb) := rdn_BLM (hb1.belo hbl)
      have hnil := hb1.nil
      have hok2 : ∀ q ∈ acc ++ rb, Bv.ok M G w q := fun q hq => by
        rcases List.mem_append.1 hq with hq | hq
        · exact hok q hq
        · exact hb1.ok q hq
      clear hmr
      go_wp2_with (at_builtin; go_loud (refine wpList_appN w.heap.size rfl (.tmp 18) (.tmp 19) 41 43 (.agg #[.int .i64 0, .slice none 0 0]) 2 32 rfl Try.underlying41 Try.bvinfo rfl (by decide) u5 acc.length (catB acc) B1 rb.length cB (catB rb) rfl rfl (catB_len rb) hrd (fun e => by have := hnil e; omega) (catB_one rb) ho hwr (by omega) (by omega) ?_); intro v9 w9 ho9 hs9 hat9)
      rw [Exit.noGoto_ret]
      go_ret
      have B9 : Below w.heap.size w w9 := hs9.below_of hbl hwr (fun k hk e => by have := ownsRow_ge2 ho k e; omega)
      have ho10 : w9.ownsRow w.heap.size 43 2 v9 (acc ++ rb).length (catB (acc ++ rb)) := by rw [catB_append, List.length_append]; exact ho9
      obtain ⟨A', c', rfl, hB, hfr⟩ := own_BLM ho10 (fun q hq => (hok2 q hq).belo B9)
      exact ⟨A', c', _, rfl, hB, HMR.out, B9, hfr⟩
    | cons x ra =>
      have e1 : decide (((x :: ra).length : Int) = 0) = false := by simp; omega
      cases rb with
      | nil =>
        have hmr2 := hmr
        rw [List.map_nil, mrg_nil, ← List.map_append] at hmr2
        rw [List.length_nil] at *
        have HMR := Lib.hid hmr2
        have hwr := hbl.size
        have hrd : RdN wr A1 (catB (x :: ra)) := rdn_BLM (ha1.belo hbl)
        have hnil := ha1.nil
        have hok2 : ∀ q ∈ acc ++ x :: ra, Bv.ok M G w q := fun q hq => by
          rcases List.mem_append.1 hq with hq | hq
          · exact hok q hq
          · exact ha1.ok q hq
        have hx0 : 0 < (x :: ra).length := by simp
        clear hmr hmr2
        generalize x :: ra = rz at *
        go_wp2_with (at_builtin; go_loud (refine wpList_appN w.heap.size rfl (.tmp 25) (.tmp 26) 41 43 (.agg #[.int .i64 0, .slice none 0 0]) 2 32 rfl Try.underlying41 Try.bvinfo rfl (by decide) u5 acc.length (catB acc) A1 rz.length cA (catB rz) rfl rfl (catB_len rz) hrd (fun e => by have := hnil e; omega) (catB_one rz) ho hwr (by omega) (by omega) ?_); intro v9 w9 ho9 hs9 hat9)
        rw [Exit.noGoto_ret]
        go_ret
        have B9 : Below w.heap.size w w9 := hs9.below_of hbl hwr (fun k hk e => by have := ownsRow_ge2 ho k e; omega)
        have ho10 : w9.ownsRow w.heap.size 43 2 v9 (acc ++ rz).length (catB (acc ++ rz)) := by rw [catB_append, List.length_append]; exact ho9
        obtain ⟨A', c', rfl, hB, hfr⟩ := own_BLM ho10 (fun q hq => (hok2 q hq).belo B9)
        exact ⟨A', c', _, rfl, hB, HMR.out, B9, hfr⟩
      | cons y rb =>
        obtain ⟨ba, oa, rfl, ka0, ka1⟩ := ha1.addr
        obtain ⟨bb, ob, rfl, kb0, kb1⟩ := hb1.addr
        obtain ⟨i0, hi0, hz0, hz1, hz2⟩ := info_parts Try.bvinfo
        have hwr := Below.size hbl
        have mb := fun d : Ext (fun _ => False) wr => keep_cell kb0 (d.same.below_of hbl hwr (fun _ _ c => c))
        have ma := fun d : Ext (fun _ => False) wr => keep_cell ka0 (d.same.below_of hbl hwr (fun _ _ c => c))
        rw [List.length_cons, List.length_cons] at *
        generalize hRA : ra.length = RA at *
        generalize hRB : rb.length = RB at *
        have la1 : (0 : Int) < (RA : Int) + 1 := by omega
        have la2 : (0 : Int) < (RB : Int) + 1 := by omega
        have la3 : (1 : Int) ≤ (RA : Int) + 1 := by omega
        have la4 : (1 : Int) ≤ (RB : Int) + 1 := by omega
        have hal : acc.length ≤ 100000 := by omega
        have HMR := Lib.hid hmr
        have HA := Lib.hid ha1
        have HB := Lib.hid hb1
        have HRA := Lib.hid hRA
        have HRB := Lib.hid hRB
        have HLEN := Lib.hid hlen
        clear hmr ha1 hb1 hRA hRB hlen
        by_cases hlt : y.w < x.w
        · have d1 : decide (y.w < x.w) = true := by simpa using hlt
          go_upto_region 7 with fail
          refine wp_region_ext (fun _ => False) (by kernel_rfl) (by kernel_rfl) ?_
          repeat (go_big_quiet_step (fail))
          refine wpQuiet_nil ?_
          rintro _ ⟨d, rfl⟩
          have B1 := d.same.below_of hbl hwr (fun _ _ c => c)
          have hb0 := keep_cell kb0 B1
          have hb1 := keep_cell kb1 B1
          obtain ⟨W8, hW8⟩ : ∃ W, W = (d.world.alloc (.cells #[.int .i64 y.w, .slice y.a y.h.length y.c] 43)).drew := ⟨_, rfl⟩
          have o8 : W8.ownsRow w.heap.size 43 2 u5 acc.length (catB acc) := by rw [hW8]; exact ownsRow_kept2 ho (((d.same).alloc _).drew)
          have B8 : Below w.heap.size w W8 := by rw [hW8]; exact (((d.same).alloc _).drew).below_of hbl hwr (fun _ _ c => c)
          have n8 : ∀ j u, y.enc[j]? = some u → W8.cell? ((⟨d.world.heap.size, 0, none⟩ : Addr).add j) = some u := by rw [hW8]; exact World.news_of_block (Blk.new d.world 43 #[.int .i64 y.w, .slice y.a y.h.length y.c]).drew
          rw [hW8] at o8 B8 n8
          clear hW8
          by_cases hc1 : cB = 1
          · have hcz : cB - 1 = 0 := by omega
            go_upto_region 8 with fail
            go_region_law (refine step_append_lies _ rfl (.tmp 38) (.tmp 42) 41 rfl w.heap.size 43 i0 (.agg #[.int .i64 0, .slice none 0 0]) 2 32 Try.underlying41 hi0 hz0 hz1 hz2 rfl (by decide) u5 acc.length (catB acc) rfl o8 ⟨d.world.heap.size, 0, none⟩ 1 1 y.enc rfl rfl n8 (enc_one y) (by decide) (by simp only [maxLen]; omega) (by omega) B8.size _ rfl ?_; intro g9 cap9 w9 ho9 hg9 hat9 hlt9)
            all_goals
              have B9 : Below w.heap.size w w9 := B8.trans ⟨hg9.os, hg9.tape, hg9.output, hg9.size, fun i hi => hg9.block i (Nat.lt_of_lt_of_le hi B8.size) (fun e => by have := ownsRow_ge2 ho i e.symm; omega)⟩
              have ho10 : w9.ownsRow w.heap.size 43 2 (.slice (some ⟨g9, 0, none⟩) (acc.length + 1) cap9) (acc ++ [y]).length (catB (acc ++ [y])) := by rw [catB_snoc, List.length_append]; exact ho9
              have hok10 : ∀ q ∈ acc ++ [y], Bv.ok M G w q := fun q hq => by
                rcases List.mem_append.1 hq with hq | hq
                · exact hok q hq
                · rw [List.mem_singleton] at hq; subst hq; exact HB.out.ok _ (by simp)
              have htl := HB.out.tail (some ⟨bb, ob, none⟩) (fun e => absurd (List.length_pos_iff.2 e) (by have := HRB.out; omega)) (by simp)
              try rw [hcz] at htl
              go_wp2_with fail
              go_roundg (gk - 1)
              case measure => omega
              case rel =>
                refine ⟨⟨_, (some ⟨bb, ob, none⟩), _, _, x :: ra, rb, acc ++ [y], by rw [List.length_cons, HRA.out], by rw [HRB.out], by rw [List.length_cons, HRA.out, HRB.out]; omega, HA.out, htl, ho10, hok10, by simp only [List.length_append, List.length_cons, List.length_nil]; have := HLEN.out; have := HRA.out; have := HRB.out; omega, ?_, B9⟩⟩
                have := HMR.out
                rw [List.map_cons, List.map_cons, mrg_cons, if_pos (show y.bn.w < x.bn.w from by show y.w < x.w; omega)] at this
                rw [← this, List.map_append, List.append_assoc]
                rfl
          · go_upto_region 8 with fail
            go_region_law (refine step_append_lies _ rfl (.tmp 38) (.tmp 42) 41 rfl w.heap.size 43 i0 (.agg #[.int .i64 0, .slice none 0 0]) 2 32 Try.underlying41 hi0 hz0 hz1 hz2 rfl (by decide) u5 acc.length (catB acc) rfl o8 ⟨d.world.heap.size, 0, none⟩ 1 1 y.enc rfl rfl n8 (enc_one y) (by decide) (by simp only [maxLen]; omega) (by omega) B8.size _ rfl ?_; intro g9 cap9 w9 ho9 hg9 hat9 hlt9)
            all_goals
              have B9 : Below w.heap.size w w9 := B8.trans ⟨hg9.os, hg9.tape, hg9.output, hg9.size, fun i hi => hg9.block i (Nat.lt_of_lt_of_le hi B8.size) (fun e => by have := ownsRow_ge2 ho i e.symm; omega)⟩
              have ho10 : w9.ownsRow w.heap.size 43 2 (.slice (some ⟨g9, 0, none⟩) (acc.length + 1) cap9) (acc ++ [y]).length (catB (acc ++ [y])) := by rw [catB_snoc, List.length_append]; exact ho9
              have hok10 : ∀ q ∈ acc ++ [y], Bv.ok M G w q := fun q hq => by
                rcases List.mem_append.1 hq with hq | hq
                · exact hok q hq
                · rw [List.mem_singleton] at hq; subst hq; exact HB.out.ok _ (by simp)
              have htl := HB.out.tail (some ⟨bb, ob + 2, none⟩) (fun e => rfl) (by simp)
              try rw [hcz] at htl
              go_wp2_with fail
              go_roundg (gk - 1)
              case measure => omega
              case rel =>
                refine ⟨⟨_, (some ⟨bb, ob + 2, none⟩), _, _, x :: ra, rb, acc ++ [y], by rw [List.length_cons, HRA.out], by rw [HRB.out], by rw [List.length_cons, HRA.out, HRB.out]; omega, HA.out, htl, ho10, hok10, by simp only [List.length_append, List.length_cons, List.length_nil]; have := HLEN.out; have := HRA.out; have := HRB.out; omega, ?_, B9⟩⟩
                have := HMR.out
                rw [List.map_cons, List.map_cons, mrg_cons, if_pos (show y.bn.w < x.bn.w from by show y.w < x.w; omega)] at this
                rw [← this, List.map_append, List.append_assoc]
                rfl
        · have d1 : decide (y.w < x.w) = false := by simpa using hlt
          go_upto_region 7 with fail
          refine wp_region_ext (fun _ => False) (by kernel_rfl) (by kernel_rfl) ?_
          repeat (go_big_quiet_step (fail))
          refine wpQuiet_nil ?_
          rintro _ ⟨d, rfl⟩
          have B1 := d.same.below_of hbl hwr (fun _ _ c => c)
          have hb0 := keep_cell ka0 B1
          have hb1 := keep_cell ka1 B1
          obtain ⟨W8, hW8⟩ : ∃ W, W = (d.world.alloc (.cells #[.int .i64 x.w, .slice x.a x.h.length x.c] 43)).drew := ⟨_, rfl⟩
          have o8 : W8.ownsRow w.heap.size 43 2 u5 acc.length (catB acc) := by rw [hW8]; exact ownsRow_kept2 ho (((d.same).alloc _).drew)
          have B8 : Below w.heap.size w W8 := by rw [hW8]; exact (((d.same).alloc _).drew).below_of hbl hwr (fun _ _ c => c)
          have n8 : ∀ j u, x.enc[j]? = some u → W8.cell? ((⟨d.world.heap.size, 0, none⟩ : Addr).add j) = some u := by rw [hW8]; exact World.news_of_block (Blk.new d.world 43 #[.int .i64 x.w, .slice x.a x.h.length x.c]).drew
          rw [hW8] at o8 B8 n8
          clear hW8
          by_cases hc1 : cA = 1
          · have hcz : cA - 1 = 0 := by omega
            go_upto_region 2 with fail
            go_region_law (refine step_append_lies _ rfl (.tmp 6) (.tmp 10) 41 rfl w.heap.size 43 i0 (.agg #[.int .i64 0, .slice none 0 0]) 2 32 Try.underlying41 hi0 hz0 hz1 hz2 rfl (by decide) u5 acc.length (catB acc) rfl o8 ⟨d.world.heap.size, 0, none⟩ 1 1 x.enc rfl rfl n8 (enc_one x) (by decide) (by simp only [maxLen]; omega) (by omega) B8.size _ rfl ?_; intro g9 cap9 w9 ho9 hg9 hat9 hlt9)
            all_goals
              have B9 : Below w.heap.size w w9 := B8.trans ⟨hg9.os, hg9.tape, hg9.output, hg9.size, fun i hi => hg9.block i (Nat.lt_of_lt_of_le hi B8.size) (fun e => by have := ownsRow_ge2 ho i e.symm; omega)⟩
              have ho10 : w9.ownsRow w.heap.size 43 2 (.slice (some ⟨g9, 0, none⟩) (acc.length + 1) cap9) (acc ++ [x]).length (catB (acc ++ [x])) := by rw [catB_snoc, List.length_append]; exact ho9
              have hok10 : ∀ q ∈ acc ++ [x], Bv.ok M G w q := fun q hq => by
                rcases List.mem_append.1 hq with hq | hq
                · exact hok q hq
                · rw [List.mem_singleton] at hq; subst hq; exact HA.out.ok _ (by simp)
              have htl := HA.out.tail (some ⟨ba, oa, none⟩) (fun e => absurd (List.length_pos_iff.2 e) (by have := HRA.out; omega)) (by simp)
              try rw [hcz] at htl
              go_wp2_with fail
              go_roundg (gk - 1)
              case measure => omega
              case rel =>
                refine ⟨⟨(some ⟨ba, oa, none⟩), _, _, _, ra, y :: rb, acc ++ [x], by rw [HRA.out], by rw [List.length_cons, HRB.out], by rw [List.length_cons, HRA.out, HRB.out]; omega, htl, HB.out, ho10, hok10, by simp only [List.length_append, List.length_cons, List.length_nil]; have := HLEN.out; have := HRA.out; have := HRB.out; omega, ?_, B9⟩⟩
                have := HMR.out
                rw [List.map_cons, List.map_cons, mrg_cons, if_neg (show ¬ y.bn.w < x.bn.w from by show ¬ y.w < x.w; omega)] at this
                rw [← this, List.map_append, List.append_assoc]
                rfl
          · go_upto_region 2 with fail
            go_region_law (refine step_append_lies _ rfl (.tmp 6) (.tmp 10) 41 rfl w.heap.size 43 i0 (.agg #[.int .i64 0, .slice none 0 0]) 2 32 Try.underlying41 hi0 hz0 hz1 hz2 rfl (by decide) u5 acc.length (catB acc) rfl o8 ⟨d.world.heap.size, 0, none⟩ 1 1 x.enc rfl rfl n8 (enc_one x) (by decide) (by simp only [maxLen]; omega) (by omega) B8.size _ rfl ?_; intro g9 cap9 w9 ho9 hg9 hat9 hlt9)
            all_goals
              have B9 : Below w.heap.size w w9 := B8.trans ⟨hg9.os, hg9.tape, hg9.output, hg9.size, fun i hi => hg9.block i (Nat.lt_of_lt_of_le hi B8.size) (fun e => by have := ownsRow_ge2 ho i e.symm; omega)⟩
              have ho10 : w9.ownsRow w.heap.size 43 2 (.slice (some ⟨g9, 0, none⟩) (acc.length + 1) cap9) (acc ++ [x]).length (catB (acc ++ [x])) := by rw [catB_snoc, List.length_append]; exact ho9
              have hok10 : ∀ q ∈ acc ++ [x], Bv.ok M G w q := fun q hq => by
                rcases List.mem_append.1 hq with hq | hq
                · exact hok q hq
                · rw [List.mem_singleton] at hq; subst hq; exact HA.out.ok _ (by simp)
              have htl := HA.out.tail (some ⟨ba, oa + 2, none⟩) (fun e => rfl) (by simp)
              try rw [hcz] at htl
              go_wp2_with fail
              go_roundg (gk - 1)
              case measure => omega
              case rel =>
                refine ⟨⟨(some ⟨ba, oa + 2, none⟩), _, _, _, ra, y :: rb, acc ++ [x], by rw [HRA.out], by rw [List.length_cons, HRB.out], by rw [List.length_cons, HRA.out, HRB.out]; omega, htl, HB.out, ho10, hok10, by simp only [List.length_append, List.length_cons, List.length_nil]; have := HLEN.out; have := HRA.out; have := HRB.out; omega, ?_, B9⟩⟩
                have := HMR.out
                rw [List.map_cons, List.map_cons, mrg_cons, if_neg (show ¬ y.bn.w < x.bn.w from by show ¬ y.w < x.w; omega)] at this
                rw [← this, List.map_append, List.append_assoc]
                rfl
end Go.Proofs.Ytfmglcgdcdcpaaa
