import Derived.Test.YtfmglcgdcdcpaaaPkV
import Derived.Deep.RegionHeldLaw
namespace Go.Proofs.Ytfmglcgdcdcpaaa
set_option linter.unusedVariables false
set_option linter.unusedSimpArgs false
open Go.RowKit
attribute [local go_sem] max2i min2i max2t min2t

/-! ### stevedoreref5.Least -/
structure LfRel (w : World) (cs : List Int) (gk : Nat) (v5 v6 v7 : Value) (wr : World) : Prop where mk ::
  out_ : ∃ (i : Nat) (L : List Int), i ≤ cs.length ∧ cs.length ≤ gk + i ∧ v6 = .int .i64 (i : Int) ∧ Own wr w.heap.size 3 v5 (ints .i64 L) ∧ L.Perm (posL (cs.take i)) ∧ SortK id L 0 L.length ∧ Below w.heap.size w wr
structure LfIn (w : World) (B g n cap : Nat) (L0 : List Int) (gk : Nat) (v7 : Value) (wr : World) : Prop where mk ::
  out_ : ∃ (j : Nat) (L : List Int), j ≤ gk ∧ v7 = .int .i64 (j : Int) ∧ RowIn wr B g (n + 1) cap 1073741825 L ∧ Ins id 0 n L0 j L ∧ Same (fun k => k = g) w wr
structure RwRel (w : World) (s : List Bn) (m : Nat) (gk : Nat) (v8 v9 v10 v11 v12 v13 : Value) (wr : World) : Prop where mk ::
  out_ : ∃ (n base : Nat), n ≤ m ∧ m ≤ gk + n ∧ v9 = .int .i64 (n : Int) ∧ w.heap.size ≤ base ∧ Own wr base 3 v8 (ints .i64 ((rowB s n).map Bn.w)) ∧ Below w.heap.size w wr
structure PrRel (w : World) (l : List Bn) (gk : Nat) (v10 v11 : Value) (wr : World) : Prop where mk ::
  out_ : ∃ (i : Nat) (acc : List Bn), i ≤ l.length + 1 ∧ l.length ≤ gk + i ∧ v11 = .int .i64 (i : Int) ∧ acc.length ≤ i ∧ Own wr w.heap.size 3 v10 (ints .i64 (acc.map Bn.w)) ∧ acc ++ prs (l.drop i) = prs l ∧ Below w.heap.size w wr
structure MwRel (w : World) (s q : List Bn) (gk : Nat) (v8 v12 v13 : Value) (wr : World) : Prop where mk ::
  out_ : ∃ (a b : Nat) (acc : List Bn), a ≤ s.length ∧ b ≤ q.length ∧ s.length + q.length ≤ gk + a + b ∧ v12 = .int .i64 (a : Int) ∧ v13 = .int .i64 (b : Int) ∧ acc.length = a + b ∧ Own wr w.heap.size 3 v8 (ints .i64 (acc.map Bn.w)) ∧ acc ++ mrg (s.drop a) (q.drop b) = mrg s q ∧ Below w.heap.size w wr
structure SuRel (w : World) (l : List Bn) (N : Nat) (gk : Nat) (v14 v15 : Value) (wr : World) : Prop where mk ::
  out_ : ∃ i : Nat, i ≤ N ∧ N ≤ gk + i ∧ v15 = .int .i64 (i : Int) ∧ v14 = .int .i64 (wsum (l.take i)) ∧ wr = w
theorem mrg_nil' (b : List Bn) : mrg [] b = b := rfl
set_option maxHeartbeats 8000000 in
set_option maxRecDepth 100000 in
theorem ref_least {A : Option Addr} {c : Nat} {cs : List Int} (m : Nat) (hm1 : 1 ≤ m) (hm : m ≤ 15) (w : World) (hr : RowOf w .i64 A c cs) (hl : cs.length ≤ 400) (hrng : ∀ x ∈ cs, 0 ≤ x ∧ x ≤ 1073741824) {ss : List Nat} (hss : Srt cs ss) (hn2 : 2 ≤ ss.length) (hnm : ss.length ≤ 2 ^ m) :
    Calls Try.prog 14 #[.slice A cs.length c, .int .i64 m] w fun e w' => e = .returned (.int .i64 (wsum ((lev (sngl cs ss) (m - 1)).take (2 * ss.length - 2)))) ∧ Below w.heap.size w w' := by
  have hcap := hr.cap
  have hmost := hr.most
  have hleaf : ∀ L : List Int, L.Perm (posL cs) → SortK id L 0 L.length → L = (sngl cs ss).map Bn.w := fun L h1 h2 => leaf_w hss h1 h2
  have hSr := sngl_rng hss hrng
  have hSl : (sngl cs ss).length = ss.length := sngl_len _ _
  have hssl : ss.length ≤ 400 := by
    have := hss.perm.length_eq
    have := idx_len cs
    omega
  have hlen0 : ∀ n, rowB (sngl cs ss) n = rowB (sngl cs ss) n := fun _ => rfl
  have hrow : lev (sngl cs ss) (m - 1) = rowB (sngl cs ss) m := by
    rw [← rowB_lev]; congr 1; omega
  have hroom : 2 * ss.length - 2 ≤ (rowB (sngl cs ss) m).length := by
    rw [← hrow]
    have := lev_room (sngl cs ss) (m - 1) 2 (by rw [hSl, Nat.mul_comm, ← Nat.pow_succ, Nat.succ_eq_add_one, Nat.sub_add_cancel hm1]; exact hnm)
    omega
  rw [hrow]
  rw [← hSl] at hn2 hssl hroom ⊢
  clear hrow hlen0 hss hnm hSl
  generalize sngl cs ss = S at *
  have HRNG := Lib.hid hrng
  have HSR := Lib.hid hSr
  have HLEAF := Lib.hid hleaf
  have HROOM := Lib.hid hroom
  clear hrng hSr hleaf hroom
  go_enter Try.func14, Try.ntmps14
  go_wp2_with fail
  go_loopg [5, 6, 7] cs.length (LfRel w cs)
  case atStart => exact ⟨⟨0, [], by omega, by omega, rfl, Own.nil _ _ _, by simp [posL], fun p q h1 h2 h3 => by simp at h3, Below.refl _ _⟩⟩
  case round =>
    rename World => wo
    rename Nat => gk
    obtain ⟨i, L, hi, hg, rfl, ho, hpm, hso, hb⟩ := hrel.out_
    clear hrel
    have hz := hb.size
    by_cases hlt : i < cs.length
    · have e1 : decide (i < cs.length) = true := by simpa using hlt
      have hx : cs[i]? = some (cs.getD i 0) := by rw [List.getD_eq_getElem?_getD, List.getElem?_eq_getElem hlt]; rfl
      have hwf := hr.wf _ (List.mem_of_getElem? hx)
      have hxr := HRNG.out _ (List.mem_of_getElem? hx)
      obtain ⟨ad, eA, hc⟩ := hr.rd _ _ hx
      have hc := (hb.cell (World.block_lt_of_cell? w _ hc)).trans hc
      have hsn := take_snoc hlt
      have hps := posL_snoc (cs.take i) (cs.getD i 0)
      rw [← hsn] at hps
      have hLl : L.length ≤ i := by
        rw [hpm.length_eq]; unfold posL
        have := List.length_filter_le (fun x => decide (0 < x)) (cs.take i)
        rw [List.length_take] at this; omega
      have hLr : ∀ y ∈ L, 0 ≤ y ∧ y < ((1073741825 : Nat) : Int) := fun y hy => by
        have := HRNG.out y (List.mem_of_mem_take (List.mem_filter.1 (hpm.mem_iff.1 hy)).1)
        omega
      have HPS := Lib.hid hps
      have hin : (i : Int) < cs.length := by omega
      obtain ⟨A5, c5, e5, hc5, _⟩ := ho.rd
      subst e5
      clear hx hsn hps
      generalize cs.getD i 0 = x at *
      by_cases hx0 : x = 0
      · subst hx0
        have hpp : posL (cs.take (i + 1)) = posL (cs.take i) := by rw [HPS.out]; simp
        have HPP := Lib.hid hpp
        have HPM := Lib.hid hpm
        clear hpp HPS hpm
        rw [eA]
        go_wp2_with fail
        rw [← eA]
        go_roundg (gk - 1)
        case measure => omega
        case rel => exact ⟨⟨i + 1, L, by omega, by omega, by go_num, ho, by rw [HPP.out]; exact HPM.out, hso, hb⟩⟩
      · have d1 : (x == 0) = false := by simpa using hx0
        have lit : RowOf (wo.alloc (.cells #[.int .i64 x] 3)) .i64 (some ⟨wo.heap.size, 0, none⟩) 1 [x] := RowOf.lit wo .i64 3 [x] (fun y hy => by rw [List.mem_singleton] at hy; subst hy; exact hwf) (by simp)
        have hnw : ∀ y ∈ L, (Lit.int .i64 y).wf = true := fun y hy => by
          have := hLr y hy
          simp [Lit.wf, IntKind.min, IntKind.max, IntKind.bits, IntKind.signed]; omega
        have HPM := Lib.hid hpm
        have HLR := Lib.hid hLr
        have HSO := Lib.hid hso
        clear hpm hLr hso
        rw [eA]
        go_wp2_with (at_builtin; go_loud (refine wpList_catN .i64 w.heap.size rfl (.tmp 29) (.tmp 34) 22 3 8 rfl Try.underlying22 Try.intinfo (.slice A5 L.length c5) L (some ⟨wo.heap.size, 0, none⟩) 1 1 [x] rfl rfl rfl (ho.alloc _) lit (by simp; omega) (L.length + 1) rfl (by omega) (by omega) hnw ?_); intro A9 c9 w9 ho9 hr9 hs9 hat9; have B9 := hs9.below_of (hb.alloc hb.size (.cells #[.int .i64 x] 3)) (by simp; omega) (fun k hk e => by have := ho.base_le k e; omega); clear hat9)
        rw [← eA]
        obtain ⟨g, cap, hv, hgb, hgl⟩ := World.ownsRow.form ho9 (by rw [ints_length, List.length_append]; simp)
        injection hv with hv1 hv2 hv3
        subst hv1 hv3
        clear hv2
        have hri : RowIn w9 w.heap.size g (L.length + 1) c9 1073741825 (L ++ [x]) := ⟨ho9, by simp, hr9.cap |> fun h => by simpa using h, fun y hy => by
          rcases List.mem_append.1 hy with hy | hy
          · exact HLR.out y hy
          · rw [List.mem_singleton] at hy; subst hy; omega⟩
        have hst := Ins.start (key := id) (a := 0) (sortK_snoc (x := x) HSO.out) (Nat.zero_le _)
        have hcap9 := hri.cap_
        clear ho9 hr9 hs9 ho lit
        go_loopg [7] L.length (LfIn w9 w.heap.size g L.length c9 (L ++ [x]))
        case atStart => exact ⟨⟨L.length, _, by omega, rfl, hri, hst, Same.refl _⟩⟩
        case round =>
          rename World => wi
          rename Nat => gq
          obtain ⟨j, L2, hg2, rfl, hr2, hin2, hs2⟩ := hrel.out_
          clear hrel hri hst
          have hji := hin2.ji
          have hlen2 := hr2.len
          have HIN := Lib.hid hin2
          clear hin2
          by_cases hj0 : 0 < j
          · have d2 : decide (0 < j) = true := by simpa using hj0
            obtain ⟨q, hq⟩ : ∃ q, q + 1 = j := ⟨j - 1, by omega⟩
            have hjq : (j : Int) - 1 = (q : Int) := by omega
            have hjq2 : j - 1 = q := by omega
            have m0 := fun d : Ext (fun _ => False) wi => (hr2.same d.same).cell (p := j) (by omega)
            have m1 := fun d : Ext (fun _ => False) wi => (hr2.same d.same).cell (p := q) (by omega)
            have hjn : j < L.length + 1 := by omega
            have hqn : q < L.length + 1 := by omega
            obtain ⟨u, hu⟩ : ∃ u, at0 L2 j = u := ⟨_, rfl⟩
            obtain ⟨v, hv⟩ : ∃ v, at0 L2 q = v := ⟨_, rfl⟩
            rw [hu] at m0
            rw [hv] at m1
            by_cases hX : u < v
            · have d3 : decide (u < v) = true := by simpa using hX
              go_upto_region 8 with fail
              refine wp_region_ext (fun _ => False) (by kernel_rfl) (by kernel_rfl) ?_
              repeat (go_big_quiet_step (fail))
              refine wpQuiet_nil ?_
              rintro _ ⟨d, rfl⟩
              have hr3 := hr2.same d.same
              have hr4 := (hr3.same (Same.refl _).drew).swap hqn hjn
              have hs4 : Same (fun k => k = g) w9 ((d.world.drew.setCell ⟨g, q, none⟩ (.int .i64 (at0 L2 j))).setCell ⟨g, j, none⟩ (.int .i64 (at0 L2 q))) := ((hs2.then (d.same.any).drew).set_ (p := ⟨g, q, none⟩) (fun _ => rfl) _).set_ (p := ⟨g, j, none⟩) (fun _ => rfl) _
              have k0 := (hr3.same (Same.refl _).drew).cell hjn
              have k1 := (hr3.same (Same.refl _).drew).cell hqn
              have f0 := (hr3.same (Same.refl _).drew).own.frozenI j
              have f1 := (hr3.same (Same.refl _).drew).own.frozenI q
              have o5 := (hr3.own.set_ q (at0 L2 j)).drew
              have k2 := o5.cellI (i := j) (by rw [List.length_set, hr3.len]; exact hjn)
              have f2 := o5.frozenI j
              have hst2 := HIN.out.step (by omega) hj0 (by rw [hjq2, hu, hv]; exact hX)
              rw [hjq2] at hst2
              rw [swp_flip (by omega) (by omega)] at hr4
              have HST := Lib.hid hst2
              have HU := Lib.hid hu
              have HV := Lib.hid hv
              rw [hu] at k2 f2 k0 hs4 hr4
              rw [hv] at k1 hs4 hr4
              generalize ((L2.set q u).getD j 0) = old at *
              clear o5 hr2 hs2 m0 m1 hr3 hst2 hu hv
              go_upto_region 9 with fail
              go_region
              go_wp2_with fail
              go_roundg (gq - 1)
              case measure => omega
              case rel => exact ⟨⟨q, swp L2 j q, by omega, by go_num, hr4, HST.out, hs4⟩⟩
            · have d3 : decide (u < v) = false := by simpa using hX
              have hso3 := HIN.out.done (.inr (by rw [hjq2, hu, hv]; exact hX))
              have hsh3 := HIN.out.shuf
              rw [show L.length + 1 = L2.length by omega] at hso3
              have HSO3 := Lib.hid hso3
              have HSH3 := Lib.hid hsh3
              clear hso3 hsh3
              go_upto_region 8 with fail
              refine wp_region_ext (fun _ => False) (by kernel_rfl) (by kernel_rfl) ?_
              repeat (go_big_quiet_step (fail))
              refine wpQuiet_nil ?_
              rintro _ ⟨d, rfl⟩
              have hr3 := hr2.same d.same
              have hb3 : Below w.heap.size w d.world := (hs2.then d.same.any).below_of B9 B9.size (fun k hk e => by omega)
              have hx1 : 0 < x := by omega
              have hp3 : L2.Perm (posL (cs.take (i + 1))) := by rw [HPS.out, if_pos hx1]; exact HSH3.out.perm.trans (HPM.out.append_right _)
              clear hr2 hs2 m0 m1
              go_wp2_with fail
              try rw [← eA]
              go_roundg (gk - 1)
              case measure => omega
              case rel => exact ⟨⟨i + 1, L2, by omega, by omega, by go_num, hr3.own, hp3, HSO3.out, hb3⟩⟩
          · have d2 : decide (0 < j) = false := by simpa using hj0
            have hso3 := HIN.out.done (.inl (by omega))
            have hsh3 := HIN.out.shuf
            rw [show L.length + 1 = L2.length by omega] at hso3
            have HSO3 := Lib.hid hso3
            have HSH3 := Lib.hid hsh3
            clear hso3 hsh3
            go_upto_region 8 with fail
            refine wp_region_ext (fun _ => False) (by kernel_rfl) (by kernel_rfl) ?_
            repeat (go_big_quiet_step (fail))
            refine wpQuiet_nil ?_
            rintro _ ⟨d, rfl⟩
            have hr3 := hr2.same d.same
            have hb3 : Below w.heap.size w d.world := (hs2.then d.same.any).below_of B9 B9.size (fun k hk e => by omega)
            have hx1 : 0 < x := by omega
            have hp3 : L2.Perm (posL (cs.take (i + 1))) := by rw [HPS.out, if_pos hx1]; exact HSH3.out.perm.trans (HPM.out.append_right _)
            clear hr2 hs2
            go_wp2_with fail
            try rw [← eA]
            go_roundg (gk - 1)
            case measure => omega
            case rel => exact ⟨⟨i + 1, L2, by omega, by omega, by go_num, hr3.own, hp3, HSO3.out, hb3⟩⟩
    · have e1 : decide (i < cs.length) = false := by simpa using hlt
      have hi' : i = cs.length := by omega
      subst hi'
      rw [List.take_length] at hpm
      have hLw := HLEAF.out _ hpm hso
      clear hpm hso
      subst hLw
      obtain ⟨A5, c5, e5, hc5, hrd5⟩ := ho.rd
      rw [List.length_map] at e5 hc5
      subst e5
      have hwz := hb.size
      clear ho HLEAF HRNG hr
      go_wp2_with fail
      go_loopg [8, 9, 10, 11, 12, 13] m (RwRel wo S m)
      case atStart => exact ⟨⟨0, wo.heap.size, by omega, by omega, rfl, Nat.le_refl _, Own.nil _ _ _, Below.refl _ _⟩⟩
      case round =>
        rename World => wA
        rename Nat => gk
        obtain ⟨n, base, hn, hg, rfl, hbase, ho8, hb8⟩ := hrel.out_
        clear hrel
        have hz8 := hb8.size
        obtain ⟨A8, c8, e8, hc8, hrd8⟩ := ho8.rd
        rw [List.length_map] at e8 hc8
        by_cases hnm : n < m
        · have e2 : decide (n < m) = true := by simpa using hnm
          have hRl := rowB_len S n
          have hRr := rowB_rng15 HSR.out (n := n) (by omega)
          have hrs : rowB S (n + 1) = mrg S (prs (rowB S n)) := rfl
          have HRS := Lib.hid hrs
          have HRR := Lib.hid hRr
          clear hrs hRr ho8
          generalize rowB S n = R at *
          subst e8
          go_wp2_with fail
          go_loopg [10, 11] R.length (PrRel wA R)
          case atStart => exact ⟨⟨0, [], by omega, by omega, rfl, by simp, Own.nil _ _ _, by rw [List.drop_zero, List.nil_append], Below.refl _ _⟩⟩
          case round =>
            rename World => wi
            rename Nat => gp
            obtain ⟨i, acc, hi, hg1, rfl, hal, ho, hpr, hbl⟩ := hrel.out_
            clear hrel
            have hbw := hbl.size
            by_cases hlt : i + 1 < R.length
            · have d1 : decide ((i : Int) + 1 < R.length) = true := by simp; omega
              obtain ⟨ad, eA8, k0⟩ := hrd8 i _ (map_w_at (by omega : i < R.length))
              obtain ⟨ad', eA8', k1⟩ := hrd8 (i + 1) _ (map_w_at hlt)
              rw [eA8] at eA8'
              injection eA8' with eA8'
              subst eA8'
              have hx := HRR.out R[i] (List.getElem_mem _)
              have hy := HRR.out R[i + 1] (List.getElem_mem _)
              rw [drop2 hlt, prs] at hpr
              generalize R[i] = x at *
              generalize R[i + 1] = y at *
              obtain ⟨q, hq⟩ : ∃ q, i + 1 = q := ⟨_, rfl⟩
              have hwq : IntKind.i64.wrap ((i : Int) + 1) = (q : Int) := by rw [IntKind.wrap_i64]; omega
              have hws : IntKind.i64.wrap (x.w + y.w) = x.w + y.w := by rw [IntKind.wrap_i64]; omega
              rw [hq] at k1
              obtain ⟨i0, hi0, hz0, hz1, hz2⟩ := info_parts Try.intinfo
              have F2 : ∀ W, Below wA.heap.size wA W → W.cell? (ad.add i) = some (.int .i64 x.w) ∧ W.cell? (ad.add q) = some (.int .i64 y.w) := fun W h => ⟨(h.cell (World.block_lt_of_cell? _ _ k0)).trans k0, (h.cell (World.block_lt_of_cell? _ _ k1)).trans k1⟩
              have F2 := Lib.hid F2
              have HPR := Lib.hid hpr
              have hin : (i : Int) < R.length := by omega
              have hqn : (q : Int) < R.length := by omega
              have o7 := ho.alloc (.cells #[.int .i64 (x.w + y.w)] 3)
              have n7 := World.news_of_block (Blk.new wi 3 #[.int .i64 (x.w + y.w)])
              have B7 := hbl.alloc hbw (.cells #[.int .i64 (x.w + y.w)] 3)
              unfold Own at o7
              have hil : (ints .i64 (acc.map Bn.w)).length = acc.length := by rw [ints_length, List.length_map]
              have hgl := ho.base_le
              rw [hil] at o7
              generalize hxs : ints .i64 (acc.map Bn.w) = xs at *
              have HXS := Lib.hid hxs
              clear k0 k1 hpr hxs hrd8
              rw [eA8]
              go_upto_region 19 with fail
              go_region_held_law (fun W : World => W.cell? (ad.add i) = some (.int .i64 x.w) ∧ W.cell? (ad.add q) = some (.int .i64 y.w))
                (first | exact F2.out _ hbl | exact F2.out _ hbl.drew | exact F2.out _ B7 | exact F2.out _ B7.drew | exact F2.out _ B9 | exact F2.out _ B9.drew)
                (first
                  | (refine step_append_lies _ (by rfl) (.tmp 80) (.tmp 91) 22 (by rfl) wA.heap.size 3 i0 (.int .i64 0) 1 8 Try.underlying22 hi0 hz0 hz1 hz2 rfl (by decide) u10 acc.length xs (by rfl) (by exact o7) ⟨wi.heap.size, 0, none⟩ 1 1 [.int .i64 (x.w + y.w)] (by rfl) rfl (by exact n7) (by simp [Value.oneCell']) (by decide) (by simp only [maxLen]; omega) (by omega) (by exact B7.size) _ rfl ?_; intro g9 cap9 w9 ho9 hg9 hat9 hlt9; have B9 : Below wA.heap.size wA w9 := B7.trans ⟨hg9.os, hg9.tape, hg9.output, hg9.size, fun k hk => hg9.block k (Nat.lt_of_lt_of_le hk B7.size) (fun e => by have := hgl k e.symm; omega)⟩)
                  | fail)
              have ho10 : Own w9 wA.heap.size 3 (.slice (some ⟨g9, 0, none⟩) (acc.length + 1) cap9) (ints .i64 ((acc ++ [(⟨x.w + y.w, x.has ++ y.has⟩ : Bn)]).map Bn.w)) := by
                rw [List.map_append, ints_append, HXS.out]
                unfold Own
                rw [List.length_append, hil]
                exact ho9
              go_wp2_with fail
              try rw [← eA8]
              go_roundg (gp - 2)
              case measure => omega
              case rel =>
                refine ⟨⟨i + 2, _, by omega, by omega, by go_num, ?_, ho10, ?_, B9⟩⟩
                · rw [List.length_append]; simp; omega
                · rw [List.append_assoc]; exact HPR.out
            · have d1 : decide ((i : Int) + 1 < R.length) = false := by simp; omega
              have hdr : prs (R.drop i) = [] := by
                have : (R.drop i).length ≤ 1 := by rw [List.length_drop]; omega
                match h : R.drop i, this with
                | [], _ => rfl
                | [z], _ => rfl
                | a :: b :: r, h2 => simp at h2
              rw [hdr, List.append_nil] at hpr
              subst hpr
              have hql : (prs R).length ≤ 400 := by rw [prs_len]; omega
              have hqr : ∀ z ∈ prs R, 0 ≤ z.w ∧ z.w ≤ 70368744177664 := fun z hz => by
                obtain ⟨u, v, hu, hv, e⟩ := prs_mem hz
                have := HRR.out u hu
                have := HRR.out v hv
                omega
              have HQR := Lib.hid hqr
              obtain ⟨A10, c10, e10, hc10, hrd10⟩ := ho.rd
              rw [List.length_map] at e10 hc10
              clear hqr hdr ho hrd8
              generalize prs R = q at *
              subst e10
              have hrd5 := (hrd5.below hb8 (Nat.le_refl _)).below hbl (Nat.le_refl _)
              go_wp2_with fail
              go_loopg [8, 12, 13] (S.length + q.length) (MwRel wi S q)
              case atStart => exact ⟨⟨0, 0, [], by omega, by omega, by omega, rfl, rfl, rfl, Own.nil _ _ _, by rw [List.drop_zero, List.drop_zero, List.nil_append], Below.refl _ _⟩⟩
              case round =>
                rename World => wj
                rename Nat => gq
                obtain ⟨a, b, acc, ha, hb, hgq, rfl, rfl, haccl, hoj, hmr, hbj⟩ := hrel.out_
                clear hrel
                have hrj5 := hrd5.below hbj (Nat.le_refl _)
                have hrj10 := hrd10.below hbj (Nat.le_refl _)
                have hkl : (acc.map Bn.w).length = a + b := by rw [List.length_map, haccl]
                have hwf : ∀ y ∈ acc.map Bn.w, (Lit.int .i64 y).wf = true := fun y hy => by
                  obtain ⟨z, hz, rfl⟩ := List.mem_map.1 hy
                  have hz2 : z ∈ mrg S q := by rw [← hmr]; exact List.mem_append_left _ hz
                  have : 0 ≤ z.w ∧ z.w ≤ 70368744177664 := by
                    rcases mrg_mem.1 hz2 with h | h
                    · have := HSR.out z h; omega
                    · exact HQR.out z h
                  simp [Lit.wf, IntKind.min, IntKind.max, IntKind.bits, IntKind.signed]; omega
                have HWF := Lib.hid hwf
                clear hwf
                by_cases hA : a < S.length
                · have dA : decide (a < S.length) = true := by simpa using hA
                  obtain ⟨ad5, eA5, k0⟩ := hrj5 a _ (map_w_at hA)
                  have hx := HSR.out S[a] (List.getElem_mem _)
                  have hds := List.drop_eq_getElem_cons hA
                  generalize S[a] = x at *
                  have m0 := fun d : Ext (fun _ => False) wj => d.same.cell k0 (fun c => c)
                  have hain : (a : Int) < S.length := by omega
                  by_cases hB : b < q.length
                  · have dB : decide (b < q.length) = true := by simpa using hB
                    have dB2 : decide (q.length ≤ b) = false := by simp; omega
                    obtain ⟨ad10, eA10, k1⟩ := hrj10 b _ (map_w_at hB)
                    have hy := HQR.out q[b] (List.getElem_mem _)
                    have hdq := List.drop_eq_getElem_cons hB
                    generalize q[b] = y at *
                    have m1 := fun d : Ext (fun _ => False) wj => d.same.cell k1 (fun c => c)
                    have hbin : (b : Int) < q.length := by omega
                    by_cases hle : x.w ≤ y.w
                    · have dL : decide (x.w ≤ y.w) = true := by simpa using hle
                      have hmr2 : acc ++ x :: mrg (S.drop (a + 1)) (q.drop b) = mrg S q := by
                        rw [hds, hdq, mrg_cons, if_neg (by omega)] at hmr
                        rw [hdq]; exact hmr
                      have HMR := Lib.hid hmr2
                      clear hmr hmr2 hds hdq k0 k1 hrj5 hrj10
                      rw [eA5, eA10]
                      go_upto_region 23 with fail
                      refine wp_region_ext (fun _ => False) (by kernel_rfl) (by kernel_rfl) ?_
                      repeat (go_big_quiet_step (fail))
                      refine wpQuiet_nil ?_
                      rintro _ ⟨d, rfl⟩
                      have ho3 := hoj.kept d.same (fun _ _ c => c)
                      have hb3 : Below wi.heap.size wi d.world := d.same.below_of hbj hbj.size (fun _ _ c => c)
                      have hz3 := hb3.size
                      have k2 := m0 d
                      have lit : RowOf (d.world.alloc (.cells #[.int .i64 x.w] 3)) .i64 (some ⟨d.world.heap.size, 0, none⟩) 1 [x.w] := RowOf.lit d.world .i64 3 [x.w] (fun t ht => by rw [List.mem_singleton] at ht; subst ht; simp [Lit.wf, IntKind.min, IntKind.max, IntKind.bits, IntKind.signed]; omega) (by simp)
                      clear hoj hbj m0
                      go_wp2_with (at_builtin; go_loud (refine wpList_catN .i64 wi.heap.size rfl (.tmp 124) (.tmp 129) 22 3 8 rfl Try.underlying22 Try.intinfo u8 (acc.map Bn.w) (some ⟨d.world.heap.size, 0, none⟩) 1 1 [x.w] rfl rfl rfl (ho3.alloc _) lit (by simp; omega) ((acc.map Bn.w).length + 1) rfl (by omega) (by omega) HWF.out ?_); intro A9 c9 w9 ho9 hr9 hs9 hat9; have B9 := hs9.below_of (hb3.alloc hb3.size (.cells #[.int .i64 x.w] 3)) (by simp; omega) (fun k hk e => by have := ho3.base_le k e; omega); clear hat9)
                      try rw [← eA5]
                      try rw [← eA10]
                      go_roundg (gq - 1)
                      case measure => omega
                      case rel => exact ⟨⟨a + 1, b, acc ++ [x], by omega, by omega, by omega, by go_num, by go_num, by rw [List.length_append]; simp; omega, by rw [List.map_append]; rw [hkl] at ho9; exact ho9, by rw [List.append_assoc]; exact HMR.out, B9⟩⟩
                    · have dL : decide (x.w ≤ y.w) = false := by simpa using hle
                      have hmr2 : acc ++ y :: mrg (S.drop a) (q.drop (b + 1)) = mrg S q := by
                        rw [hds, hdq, mrg_cons, if_pos (by omega)] at hmr
                        rw [hds]; exact hmr
                      have HMR := Lib.hid hmr2
                      clear hmr hmr2 hds hdq k0 k1 hrj5 hrj10
                      rw [eA5, eA10]
                      go_upto_region 23 with fail
                      refine wp_region_ext (fun _ => False) (by kernel_rfl) (by kernel_rfl) ?_
                      repeat (go_big_quiet_step (fail))
                      refine wpQuiet_nil ?_
                      rintro _ ⟨d, rfl⟩
                      have ho3 := hoj.kept d.same (fun _ _ c => c)
                      have hb3 : Below wi.heap.size wi d.world := d.same.below_of hbj hbj.size (fun _ _ c => c)
                      have hz3 := hb3.size
                      have k2 := m1 d
                      have lit : RowOf (d.world.alloc (.cells #[.int .i64 y.w] 3)) .i64 (some ⟨d.world.heap.size, 0, none⟩) 1 [y.w] := RowOf.lit d.world .i64 3 [y.w] (fun t ht => by rw [List.mem_singleton] at ht; subst ht; simp [Lit.wf, IntKind.min, IntKind.max, IntKind.bits, IntKind.signed]; omega) (by simp)
                      clear hoj hbj m0
                      go_wp2_with (at_builtin; go_loud (refine wpList_catN .i64 wi.heap.size rfl (.tmp 133) (.tmp 138) 22 3 8 rfl Try.underlying22 Try.intinfo u8 (acc.map Bn.w) (some ⟨d.world.heap.size, 0, none⟩) 1 1 [y.w] rfl rfl rfl (ho3.alloc _) lit (by simp; omega) ((acc.map Bn.w).length + 1) rfl (by omega) (by omega) HWF.out ?_); intro A9 c9 w9 ho9 hr9 hs9 hat9; have B9 := hs9.below_of (hb3.alloc hb3.size (.cells #[.int .i64 y.w] 3)) (by simp; omega) (fun k hk e => by have := ho3.base_le k e; omega); clear hat9)
                      try rw [← eA5]
                      try rw [← eA10]
                      go_roundg (gq - 1)
                      case measure => omega
                      case rel => exact ⟨⟨a, b + 1, acc ++ [y], by omega, by omega, by omega, by go_num, by go_num, by rw [List.length_append]; simp; omega, by rw [List.map_append]; rw [hkl] at ho9; exact ho9, by rw [List.append_assoc]; exact HMR.out, B9⟩⟩
                  · have dB : decide (b < q.length) = false := by simpa using hB
                    have dB2 : decide (q.length ≤ b) = true := by simp; omega
                    have hmr2 : acc ++ x :: mrg (S.drop (a + 1)) (q.drop b) = mrg S q := by
                      rw [List.drop_eq_nil_of_le (by omega : q.length ≤ b), mrg_nil] at hmr ⊢
                      rw [← hds]; exact hmr
                    have HMR := Lib.hid hmr2
                    clear hmr hmr2 hds k0 hrj5 hrj10
                    rw [eA5]
                    go_upto_region 23 with fail
                    refine wp_region_ext (fun _ => False) (by kernel_rfl) (by kernel_rfl) ?_
                    repeat (go_big_quiet_step (fail))
                    refine wpQuiet_nil ?_
                    rintro _ ⟨d, rfl⟩
                    have ho3 := hoj.kept d.same (fun _ _ c => c)
                    have hb3 : Below wi.heap.size wi d.world := d.same.below_of hbj hbj.size (fun _ _ c => c)
                    have hz3 := hb3.size
                    have k2 := m0 d
                    have lit : RowOf (d.world.alloc (.cells #[.int .i64 x.w] 3)) .i64 (some ⟨d.world.heap.size, 0, none⟩) 1 [x.w] := RowOf.lit d.world .i64 3 [x.w] (fun t ht => by rw [List.mem_singleton] at ht; subst ht; simp [Lit.wf, IntKind.min, IntKind.max, IntKind.bits, IntKind.signed]; omega) (by simp)
                    clear hoj hbj m0
                    go_wp2_with (at_builtin; go_loud (refine wpList_catN .i64 wi.heap.size rfl (.tmp 124) (.tmp 129) 22 3 8 rfl Try.underlying22 Try.intinfo u8 (acc.map Bn.w) (some ⟨d.world.heap.size, 0, none⟩) 1 1 [x.w] rfl rfl rfl (ho3.alloc _) lit (by simp; omega) ((acc.map Bn.w).length + 1) rfl (by omega) (by omega) HWF.out ?_); intro A9 c9 w9 ho9 hr9 hs9 hat9; have B9 := hs9.below_of (hb3.alloc hb3.size (.cells #[.int .i64 x.w] 3)) (by simp; omega) (fun k hk e => by have := ho3.base_le k e; omega); clear hat9)
                    try rw [← eA5]
                    try rw [← eA10]
                    go_roundg (gq - 1)
                    case measure => omega
                    case rel => exact ⟨⟨a + 1, b, acc ++ [x], by omega, by omega, by omega, by go_num, by go_num, by rw [List.length_append]; simp; omega, by rw [List.map_append]; rw [hkl] at ho9; exact ho9, by rw [List.append_assoc]; exact HMR.out, B9⟩⟩
                · have dA : decide (a < S.length) = false := by simpa using hA
                  by_cases hB : b < q.length
                  · have dB : decide (b < q.length) = true := by simpa using hB
                    have dB2 : decide (q.length ≤ b) = false := by simp; omega
                    obtain ⟨ad10, eA10, k1⟩ := hrj10 b _ (map_w_at hB)
                    have hy := HQR.out q[b] (List.getElem_mem _)
                    have hdq := List.drop_eq_getElem_cons hB
                    generalize q[b] = y at *
                    have m0 := fun d : Ext (fun _ => False) wj => d.same.cell k1 (fun c => c)
                    have hbin : (b : Int) < q.length := by omega
                    have hmr2 : acc ++ y :: mrg (S.drop a) (q.drop (b + 1)) = mrg S q := by
                      rw [List.drop_eq_nil_of_le (by omega : S.length ≤ a), mrg_nil'] at hmr ⊢
                      rw [← hdq]; exact hmr
                    have HMR := Lib.hid hmr2
                    clear hmr hmr2 hdq k1 hrj5 hrj10
                    rw [eA10]
                    go_upto_region 23 with fail
                    refine wp_region_ext (fun _ => False) (by kernel_rfl) (by kernel_rfl) ?_
                    repeat (go_big_quiet_step (fail))
                    refine wpQuiet_nil ?_
                    rintro _ ⟨d, rfl⟩
                    have ho3 := hoj.kept d.same (fun _ _ c => c)
                    have hb3 : Below wi.heap.size wi d.world := d.same.below_of hbj hbj.size (fun _ _ c => c)
                    have hz3 := hb3.size
                    have k2 := m0 d
                    have lit : RowOf (d.world.alloc (.cells #[.int .i64 y.w] 3)) .i64 (some ⟨d.world.heap.size, 0, none⟩) 1 [y.w] := RowOf.lit d.world .i64 3 [y.w] (fun t ht => by rw [List.mem_singleton] at ht; subst ht; simp [Lit.wf, IntKind.min, IntKind.max, IntKind.bits, IntKind.signed]; omega) (by simp)
                    clear hoj hbj m0
                    go_wp2_with (at_builtin; go_loud (refine wpList_catN .i64 wi.heap.size rfl (.tmp 133) (.tmp 138) 22 3 8 rfl Try.underlying22 Try.intinfo u8 (acc.map Bn.w) (some ⟨d.world.heap.size, 0, none⟩) 1 1 [y.w] rfl rfl rfl (ho3.alloc _) lit (by simp; omega) ((acc.map Bn.w).length + 1) rfl (by omega) (by omega) HWF.out ?_); intro A9 c9 w9 ho9 hr9 hs9 hat9; have B9 := hs9.below_of (hb3.alloc hb3.size (.cells #[.int .i64 y.w] 3)) (by simp; omega) (fun k hk e => by have := ho3.base_le k e; omega); clear hat9)
                    try rw [← eA5]
                    try rw [← eA10]
                    go_roundg (gq - 1)
                    case measure => omega
                    case rel => exact ⟨⟨a, b + 1, acc ++ [y], by omega, by omega, by omega, by go_num, by go_num, by rw [List.length_append]; simp; omega, by rw [List.map_append]; rw [hkl] at ho9; exact ho9, by rw [List.append_assoc]; exact HMR.out, B9⟩⟩
                  · have dB : decide (b < q.length) = false := by simpa using hB
                    rw [List.drop_eq_nil_of_le (by omega : S.length ≤ a), List.drop_eq_nil_of_le (by omega : q.length ≤ b), mrg_nil', List.append_nil] at hmr
                    subst hmr
                    rw [← HRS.out] at hoj
                    have hB9 := hb8.trans ((hbl.trans (hbj.mono hbl.size)).mono hb8.size)
                    clear HWF hkl haccl
                    go_wp2_with fail
                    go_roundg (gk - 1)
                    case measure => omega
                    case rel => exact ⟨⟨n + 1, wi.heap.size, by omega, by omega, by go_num, by omega, hoj, hB9⟩⟩
        · have e2 : decide (n < m) = false := by simpa using hnm
          have hnm2 : n = m := by omega
          subst hnm2
          have hRr := rowB_rng15 HSR.out (n := n) hm
          have hRl := rowB_len S n
          have hroom := HROOM.out
          have hwr := wsum_rng hRr
          have hB9 := hb.trans (hb8.mono hb.size)
          obtain ⟨R, hR⟩ : ∃ R, rowB S n = R := ⟨_, rfl⟩
          rw [hR] at hRr hRl hroom hwr e8 hc8 hrd8
          have HRR := Lib.hid hRr
          have HWR := Lib.hid hwr
          have HR := Lib.hid hR
          clear hRr hwr hR ho8 HROOM
          subst e8
          go_wp2_with fail
          go_loopg [14, 15] (2 * S.length - 2) (SuRel wA R (2 * S.length - 2))
          case atStart => exact ⟨⟨0, by omega, by omega, rfl, by rw [List.take_zero]; rfl, rfl⟩⟩
          case round =>
            rename Nat => gs
            obtain ⟨i, hi, hg2, rfl, rfl, hw⟩ := hrel.out_
            clear hrel
            subst hw
            by_cases hlt : i < 2 * S.length - 2
            · have d1 : decide ((i : Int) < 2 * (S.length : Int) - 2) = true := by simp; omega
              have hiR : i < R.length := by omega
              obtain ⟨ad, eA8, k0⟩ := hrd8 i _ (map_w_at hiR)
              have hx := HRR.out R[i] (List.getElem_mem _)
              have hw1 := HWR.out i (by omega)
              have hsn := wsum_snoc hiR
              generalize R[i] = x at *
              have HSN := Lib.hid hsn
              clear hsn
              generalize wsum (R.take i) = W at *
              have hws : IntKind.i64.wrap (W + x.w) = W + x.w := by rw [IntKind.wrap_i64]; omega
              have hin : (i : Int) < R.length := by omega
              rw [eA8]
              go_wp2_with fail
              try rw [← eA8]
              go_roundg (gs - 1)
              case measure => omega
              case rel => exact ⟨⟨i + 1, by omega, by omega, by go_num, by rw [HSN.out], rfl⟩⟩
            · have d1 : decide ((i : Int) < 2 * (S.length : Int) - 2) = false := by simp; omega
              have hi' : i = 2 * S.length - 2 := by omega
              subst hi'
              rw [← HR.out]
              clear hi hlt hg2
              go_wp2_with fail
              go_ret
              exact ⟨rfl, hB9⟩
end Go.Proofs.Ytfmglcgdcdcpaaa
