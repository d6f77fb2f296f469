import Derived.Test.YteknaaijlkenkaaInfK
import Derived.Deep.AppendLies
import Derived.Deep.RegionLaw
import Derived.Deep.RegionHeld3
namespace Go.Proofs.Yteknaaijlkenkaa
set_option linter.unusedVariables false
set_option linter.unusedSimpArgs false
open Go.RowKit
attribute [local go_sem] max2i min2i max2t min2t

theorem base_fine : ∀ s, s < 300 → ∀ wide : Bool, (baseP s wide).all (fun r => decide (3 ≤ r.1 ∧ r.2 ≤ 16 ∧ r.1 + 2 ^ r.2 ≤ 65539)) = true := by decide +kernel
theorem far_fine : ∀ s, s < 32 → ∀ wide : Bool, (farP s wide).all (fun r => decide (1 ≤ r.1 ∧ r.2 ≤ 14 ∧ r.1 + 2 ^ r.2 ≤ 65537)) = true := by decide +kernel
set_option maxHeartbeats 4000000 in
set_option maxRecDepth 100000 in
theorem inf_token {w : World} {B p pw r : Nat} {A : Option Addr} {c : Nat} {vo v9 v10 : Value} {used err : Int} {x : I} (h : InfAt w B p pw r A c vo v9 v10 used err x) (hst : x.st = 2) :
    Calls Try.prog 63 #[.pointer (some ⟨p, 0, none⟩)] w fun e w' => StepPost w B p pw r A c vo v9 v10 used err x (tokenG x) e w' := by
  obtain ⟨res, hres⟩ : ∃ r, tokenG x = r := ⟨_, rfl⟩
  rw [hres]
  rw [tokenG] at hres
  obtain ⟨p1, p2, b1, b2, F1, F2, rfl, rfl, T1, T2, hl1, hl2⟩ := h.tabs hst
  have c9 : w.cell? ⟨p, 9, none⟩ = some (.pointer (some ⟨p1, 0, none⟩)) := h.cur.pb.cell 9
  cases hsy : symG x.lit x.bs x.at_ with
  | bad k =>
    rw [hsy] at hres
    have HR := Lib.hid hres
    have CS := cur_sym_bad h.cur T1 hsy
    clear hres
    go_enter Try.func63, Try.ntmps63
    go_wp2_with fail
    refine CS.mono ?_
    rintro e w1 ⟨rfl, hs1⟩
    go_wp2_with fail
    refine ⟨rfl, ?_⟩
    show StepPost _ _ _ _ _ _ _ _ _ _ _ _ _ _ _ _
    rw [← HR.out]
    exact ⟨rfl, _, h.same hs1, h.mineP hs1.any⟩
  | ok sm =>
  obtain ⟨s, m⟩ := sm
  rw [hsy] at hres
  simp only at hres
  obtain ⟨_, hm1, hm2, hsl, _, _⟩ := symG_ok hsy
  have CS := cur_sym_ok h.cur T1 hsy
  have hs300 : s < 300 := by omega
  have HRES := Lib.hid hres
  clear hres hsy
  go_enter Try.func63, Try.ntmps63
  go_wp2_with fail
  refine CS.mono ?_
  rintro e w1 ⟨rfl, h1, hs1⟩
  have I1 := h.move hs1 h1
  have hB1 := h.mineP hs1
  have hres := HRES.out
  clear CS HRES c9
  obtain ⟨a1, ha1⟩ : ∃ a1, x.at_ + m = a1 := ⟨_, rfl⟩
  rw [ha1] at h1 I1 hres
  by_cases h256 : s = 256
  · subst h256
    rw [if_pos rfl] at hres
    have HR := Lib.hid hres
    clear hres
    go_wp2_with fail
    refine (inf_next I1).mono ?_
    rintro e w2 ⟨rfl, h2, hs2⟩
    go_wp2_with fail
    ((try simp only [Exit.inBlock, Exit.then]); first | refine bodyPost_end (results_none rfl _ _ _) rfl ?_ | refine bodyPost_ret (results_none rfl _ _ _) rfl ?_)
    show StepPost _ _ _ _ _ _ _ _ _ _ _ _ _ _ _ _
    rw [← HR.out]
    exact ⟨rfl, vo, _, _, h2, hB1.then (I1.mineP hs2)⟩
  rw [if_neg h256] at hres
  have e1 : ((s : Int) == 256) = false := by rw [beq_eq_false_iff_ne]; omega
  have e1' : (s == 256) = false := by rw [beq_eq_false_iff_ne]; exact h256
  have c12 : w1.cell? ⟨p, 12, none⟩ = some (.int .i64 x.all.length) := h1.pb.cell 12
  have c1 : w1.cell? ⟨p, 1, none⟩ = some (.int .i64 x.most) := h1.pb.cell 1
  have c12d := fun d : Ext (fun _ => False) w1 => d.same.cell c12 (fun c => c)
  have c1d := fun d : Ext (fun _ => False) w1 => d.same.cell c1 (fun c => c)
  by_cases hlt : s < 256
  · have e2 : decide ((s : Int) < 256) = true := by simp; omega
    rw [if_pos hlt] at hres
    by_cases hfull : x.all.length = x.most
    · rw [if_pos hfull] at hres
      have e3 : ((x.all.length : Int) == (x.most : Int)) = true := by rw [hfull]; simp
      have e3' : (x.all.length == x.most) = true := by simpa using hfull
      have HR := Lib.hid hres
      clear hres hfull
      go_wp2_with fail
      refine wp_region_ext (fun _ => False) (by kernel_rfl) (by kernel_rfl) ?_
      repeat (go_big_quiet_step (fail))
      refine wpQuiet_nil ?_
      rintro _ ⟨d, rfl⟩
      go_wp2_with fail
      refine (cur_fail _ _ 3).mono ?_
      rintro e w2 ⟨rfl, rfl⟩
      go_wp2_with fail
      refine ⟨rfl, ?_⟩
      show StepPost _ _ _ _ _ _ _ _ _ _ _ _ _ _ _ _
      rw [← HR.out]
      exact ⟨rfl, _, I1.same d.same, h.mineP (hs1.then d.same.any)⟩
    · rw [if_neg hfull] at hres
      have e3 : ((x.all.length : Int) == (x.most : Int)) = false := by rw [beq_eq_false_iff_ne]; omega
      have e3' : (x.all.length == x.most) = false := by rw [beq_eq_false_iff_ne]; exact hfull
      have hw8 : IntKind.u8.wrap (s : Int) = (s : Int) := by rw [IntKind.wrap_u8]; omega
      have HR := Lib.hid hres
      clear hres
      go_wp2_with fail
      refine wp_region_ext (fun _ => False) (by kernel_rfl) (by kernel_rfl) ?_
      repeat (go_big_quiet_step (fail))
      refine wpQuiet_nil ?_
      rintro _ ⟨d, rfl⟩
      have CP := inf_put (I1.same d.same) (s : Int) (by have := h.total; simp only; omega)
      have hB1 := h.mineP (hs1.then d.same.any)
      go_wp2_with fail
      refine CP.mono ?_
      rintro e w2 ⟨rfl, vo2, h2, hB2, _⟩
      go_wp2_with fail
      ((try simp only [Exit.inBlock, Exit.then]); first | refine bodyPost_end (results_none rfl _ _ _) rfl ?_ | refine bodyPost_ret (results_none rfl _ _ _) rfl ?_)
      show StepPost _ _ _ _ _ _ _ _ _ _ _ _ _ _ _ _
      rw [← HR.out]
      exact ⟨rfl, vo2, _, _, h2, hB1.then hB2⟩
  have e2 : decide ((s : Int) < 256) = false := by simp; omega
  rw [if_neg hlt] at hres
  have c0 : w1.cell? ⟨p, 0, none⟩ = some (.bool x.wide) := h1.pb.cell 0
  have CB := inf_baseP s (by omega) (by omega) x.wide w1
  have hbf := base_fine s hs300 x.wide
  cases hbp : baseP s x.wide with
  | none =>
    rw [hbp] at CB hres
    have HR := Lib.hid hres
    clear hres
    go_wp2_with fail
    refine CB.mono ?_
    rintro e w2 ⟨rfl, rfl⟩
    simp only [basV]
    go_wp2_with fail
    refine (cur_fail _ _ 2).mono ?_
    rintro e w3 ⟨rfl, rfl⟩
    go_wp2_with fail
    refine ⟨rfl, ?_⟩
    show StepPost _ _ _ _ _ _ _ _ _ _ _ _ _ _ _ _
    rw [← HR.out]
    exact ⟨rfl, _, I1, hB1⟩
  | some bk =>
  obtain ⟨b, k⟩ := bk
  rw [hbp] at CB hres hbf
  simp only at hres
  obtain ⟨hb3, hk16, hbk⟩ : 3 ≤ b ∧ k ≤ 16 ∧ b + 2 ^ k ≤ 65539 := by simpa using hbf
  simp only [basV] at CB
  have HRES := Lib.hid hres
  clear hres hbp
  go_wp2_with fail
  refine CB.mono ?_
  rintro e w2 ⟨rfl, rfl⟩
  have hres := HRES.out
  clear CB HRES
  by_cases hg2 : lf x.bs a1 < k
  · rw [getG, if_pos hg2] at hres
    have HR := Lib.hid hres
    clear hres
    go_wp2_with fail
    refine (cur_get_bad h1 k hk16 hg2).mono ?_
    rintro e w3 ⟨rfl, hs3⟩
    go_wp2_with fail
    refine ⟨rfl, ?_⟩
    show StepPost _ _ _ _ _ _ _ _ _ _ _ _ _ _ _ _
    rw [← HR.out]
    exact ⟨rfl, _, I1.same hs3, h.mineP (hs1.then hs3.any)⟩
  rw [getG, if_neg hg2] at hres
  simp only at hres
  have hv : pk x.bs a1 k < 2 ^ k := pk_lt x.bs a1 k
  have CG := cur_get_ok h1 k hk16 (by omega)
  obtain ⟨v, hvv⟩ : ∃ v, pk x.bs a1 k = v := ⟨_, rfl⟩
  rw [hvv] at hres hv CG
  have hN : b + v ≤ 65538 := by omega
  have HRES := Lib.hid hres
  clear hres hvv hbk hv
  go_wp2_with fail
  refine CG.mono ?_
  rintro e w3 ⟨rfl, h3, hs3⟩
  rw [set44] at h3
  have hs3 := hs1.then hs3
  have I3 := h.move hs3 h3
  have hB3 := h.mineP hs3
  have hres := HRES.out
  obtain ⟨a3, ha3⟩ : ∃ a3, a1 + k = a3 := ⟨_, rfl⟩
  rw [ha3] at h3 I3 hres
  obtain ⟨N, hNN⟩ : ∃ N, b + v = N := ⟨_, rfl⟩
  have hNi : (b : Int) + (v : Int) = (N : Int) := by omega
  rw [hNN] at hres hN
  clear CG HRES h1 hs1 I1 hB1 c12 c1 c0 c12d c1d
  have T2' := T2.keep hs3 (fun k e _ => ⟨_, _, (show k = p from e) ▸ h.cur.pb, by decide, by decide⟩)
  have c10 : w3.drew.cell? ⟨p, 10, none⟩ = some (.pointer (some ⟨p2, 0, none⟩)) := (h3.same (Same.refl (S := fun _ => False) w3).drew).pb.cell 10
  have c0 : w3.drew.cell? ⟨p, 0, none⟩ = some (.bool x.wide) := (h3.same (Same.refl (S := fun _ => False) w3).drew).pb.cell 0
  clear T1 T2
  cases hsy : symG x.dist x.bs a3 with
  | bad k =>
    rw [hsy] at hres
    have HR := Lib.hid hres
    have HG := Lib.hid (fun (W : World) (hs : Same (fun _ => False) w3 W) => (cur_sym_bad (h3.same hs) (T2'.keep hs (fun _ c => c.elim)) hsy).mono (R' := fun e w' => e = .panicked [faultI k] ∧ InfAt w' B p pw r A c vo (.pointer (some ⟨p1, 0, none⟩)) (.pointer (some ⟨p2, 0, none⟩)) used err { x with at_ := a3 } ∧ Same (Mine p pw r vo) w w') (fun e w' ⟨he, h6⟩ => ⟨he, (I3.same hs).same h6, h.mineP ((hs3.then hs.any).then h6.any)⟩))
    clear hres
    go_wp2_with fail
    go_region_dies
    all_goals
      refine (HG.out _ ?_).mono ?_
      first | exact (Same.refl _).drew | exact Same.refl _ | assumption
      rintro e w4 ⟨rfl, hi4, hb4⟩
      go_wp2_with fail
      refine ⟨rfl, ?_⟩
      show StepPost _ _ _ _ _ _ _ _ _ _ _ _ _ _ _ _
      rw [← HR.out]
      exact ⟨rfl, _, hi4, hb4⟩
  | ok tq =>
  obtain ⟨t, q⟩ := tq
  rw [hsy] at hres
  simp only at hres
  obtain ⟨_, hq1, hq2, htl, _, _⟩ := symG_ok hsy
  have ht32 : t < 32 := by omega
  have HG := Lib.hid (fun (W : World) (hs : Same (fun _ => False) w3 W) => (cur_sym_ok (h3.same hs) (T2'.keep hs (fun _ c => c.elim)) hsy).mono (R' := fun e w' => e = .returned (.int .i64 t) ∧ CurAt w' p ((infC x pw A c vo (.pointer (some ⟨p1, 0, none⟩)) (.pointer (some ⟨p2, 0, none⟩)) used err).setIfInBounds 4 (.int .i64 ((a3 + q : Nat) : Int))) A c x.bs (a3 + q) ∧ Same (fun g => g = p) w w' ∧ w'.cell? ⟨p, 10, none⟩ = some (.pointer (some ⟨p2, 0, none⟩)) ∧ w'.cell? ⟨p, 0, none⟩ = some (.bool x.wide)) (fun e w' ⟨he, h5, h6⟩ => ⟨he, by rw [set44] at h5; exact h5, (hs3.then hs.any).then h6, by rw [set44] at h5; exact h5.pb.cell 10, by rw [set44] at h5; exact h5.pb.cell 0⟩))
  have CF := fun W => inf_farP t ht32 x.wide W
  have hff := far_fine t ht32 x.wide
  cases hfp : farP t x.wide with
  | none =>
    rw [hfp] at CF hres
    simp only [basV] at CF
    have HR := Lib.hid hres
    have HF := Lib.hid CF
    clear hres CF hsy
    go_upto_region 12 with fail
    go_cut [5, 6, 7] (fun s5 s6 s7 wx => s5 = .int .i64 0 ∧ s6 = .bool false ∧ s7 = .int .i64 0 ∧ CurAt wx p ((infC x pw A c vo (.pointer (some ⟨p1, 0, none⟩)) (.pointer (some ⟨p2, 0, none⟩)) used err).setIfInBounds 4 (.int .i64 ((a3 + q : Nat) : Int))) A c x.bs (a3 + q) ∧ Same (fun g => g = p) w wx)
    case first =>
      go_region_held3 (fun W : World => W.cell? ⟨p, 10, none⟩ = some (.pointer (some ⟨p2, 0, none⟩)) ∧ W.cell? ⟨p, 0, none⟩ = some (.bool x.wide)) (first | exact ⟨c10, c0⟩ | exact ⟨k10, k0⟩) (first
        | (go_at_call 71; refine (HG.out _ ?_).mono ?_; (first | exact (Same.refl _).drew | exact Same.refl _ | assumption); rintro e w4 ⟨rfl, h4, hs4, k10, k0⟩)
        | (go_at_call 73; refine (HF.out _).mono ?_; rintro e w5 ⟨rfl, rfl⟩))
      all_goals
        go_wp2_with fail
        go_meet
        exact ⟨rfl, rfl, rfl, h4, hs4⟩
    case rest =>
      obtain ⟨rfl, rfl, rfl, h4, hs4⟩ := hcut
      go_wp2_with fail
      refine (cur_fail _ _ 2).mono ?_
      rintro e w5 ⟨rfl, rfl⟩
      go_wp2_with fail
      refine ⟨rfl, ?_⟩
      show StepPost _ _ _ _ _ _ _ _ _ _ _ _ _ _ _ _
      rw [← HR.out]
      exact ⟨rfl, _, h.move hs4 h4, h.mineP hs4⟩
  | some fj =>
  obtain ⟨f, j⟩ := fj
  rw [hfp] at CF hres hff
  simp only at hres
  obtain ⟨hf1, hj14, hfj⟩ : 1 ≤ f ∧ j ≤ 14 ∧ f + 2 ^ j ≤ 65537 := by simpa using hff
  simp only [basV] at CF
  have HF := Lib.hid CF
  have HRES := Lib.hid hres
  clear hres CF hsy hff hfp
  go_upto_region 12 with fail
  go_cut [5, 6, 7] (fun s5 s6 s7 wx => s5 = .int .i64 j ∧ s6 = .bool true ∧ s7 = .int .i64 f ∧ CurAt wx p ((infC x pw A c vo (.pointer (some ⟨p1, 0, none⟩)) (.pointer (some ⟨p2, 0, none⟩)) used err).setIfInBounds 4 (.int .i64 ((a3 + q : Nat) : Int))) A c x.bs (a3 + q) ∧ Same (fun g => g = p) w wx)
  case first =>
    go_region_held3 (fun W : World => W.cell? ⟨p, 10, none⟩ = some (.pointer (some ⟨p2, 0, none⟩)) ∧ W.cell? ⟨p, 0, none⟩ = some (.bool x.wide)) (first | exact ⟨c10, c0⟩ | exact ⟨k10, k0⟩) (first
      | (go_at_call 71; refine (HG.out _ ?_).mono ?_; (first | exact (Same.refl _).drew | exact Same.refl _ | assumption); rintro e w4 ⟨rfl, h4, hs4, k10, k0⟩)
      | (go_at_call 73; refine (HF.out _).mono ?_; rintro e w5 ⟨rfl, rfl⟩))
    all_goals
      go_wp2_with fail
      go_meet
      exact ⟨rfl, rfl, rfl, h4, hs4⟩
  case rest =>
  obtain ⟨rfl, rfl, rfl, h4, hs4⟩ := hcut
  clear h3 hs3 I3 hB3 c10 c0 T2' HG HF
  have hres := HRES.out
  obtain ⟨a4, ha4⟩ : ∃ a4, a3 + q = a4 := ⟨_, rfl⟩
  rw [ha4] at h4 hres
  by_cases hg5 : lf x.bs a4 < j
  · rw [getG, if_pos hg5] at hres
    have HR := Lib.hid hres
    have I4 := h.move hs4 h4
    clear hres HRES
    go_wp2_with fail
    refine (cur_get_bad h4 j (by omega) hg5).mono ?_
    rintro e w5 ⟨rfl, hs5⟩
    go_wp2_with fail
    refine ⟨rfl, ?_⟩
    show StepPost _ _ _ _ _ _ _ _ _ _ _ _ _ _ _ _
    rw [← HR.out]
    exact ⟨rfl, _, I4.same hs5, h.mineP (hs4.then hs5.any)⟩
  rw [getG, if_neg hg5] at hres
  simp only at hres
  have hu : pk x.bs a4 j < 2 ^ j := pk_lt x.bs a4 j
  have CG := cur_get_ok h4 j (by omega) (by omega)
  obtain ⟨u, huu⟩ : ∃ u, pk x.bs a4 j = u := ⟨_, rfl⟩
  rw [huu] at hres hu CG
  have hD : f + u ≤ 65536 := by omega
  have HRES := Lib.hid hres
  clear hres huu hfj hu
  go_wp2_with fail
  refine CG.mono ?_
  rintro e w5 ⟨rfl, h5, hs5⟩
  rw [set44] at h5
  have hs5 := hs4.then hs5
  have I5 := h.move hs5 h5
  have hres := HRES.out
  obtain ⟨a5, ha5⟩ : ∃ a5, a4 + j = a5 := ⟨_, rfl⟩
  rw [ha5] at h5 I5 hres
  obtain ⟨D, hDD⟩ : ∃ D, f + u = D := ⟨_, rfl⟩
  have hDi : (f : Int) + (u : Int) = (D : Int) := by omega
  rw [hDD] at hres hD
  have hD1 : 1 ≤ D := by omega
  clear CG HRES h4 hs4
  have c2 : w5.cell? ⟨p, 2, none⟩ = some (.pointer (some ⟨pw, 0, none⟩)) := h5.pb.cell 2
  obtain ⟨V, hV⟩ : ∃ V, x.win = V := ⟨_, rfl⟩
  have CH := win_have I5.win
  rw [show min ({ x with at_ := a5 } : I).all.length ({ x with at_ := a5 } : I).size = x.win from rfl, hV] at CH
  rw [hV] at hres
  have HRES := Lib.hid hres
  clear hres
  go_wp2_with fail
  refine CH.mono ?_
  rintro e w6 ⟨rfl, rfl⟩
  have hs6 := hs5.drew
  have h6 := h5.same (Same.refl (S := fun _ => False) w5).drew
  have I6 := I5.same (Same.refl (S := fun _ => False) w5).drew
  generalize w5.drew = w6 at *
  have hres := HRES.out
  clear CH HRES h5 hs5 I5 c2
  by_cases hVD : V < D
  · rw [if_pos hVD] at hres
    have e4 : decide (V < D) = true := by simpa using hVD
    have HR := Lib.hid hres
    clear hres
    go_wp2_with fail
    refine (cur_fail _ _ 2).mono ?_
    rintro e w7 ⟨rfl, rfl⟩
    go_wp2_with fail
    refine ⟨rfl, ?_⟩
    show StepPost _ _ _ _ _ _ _ _ _ _ _ _ _ _ _ _
    rw [← HR.out]
    exact ⟨rfl, _, I6, h.mineP hs6⟩
  rw [if_neg hVD] at hres
  have e4 : decide (V < D) = false := by simpa using hVD
  have d12 := fun d : Ext (fun _ => False) w6 => d.same.cell (show w6.cell? ⟨p, 12, none⟩ = some (.int .i64 x.all.length) from h6.pb.cell 12) (fun c => c)
  have d1 := fun d : Ext (fun _ => False) w6 => d.same.cell (show w6.cell? ⟨p, 1, none⟩ = some (.int .i64 x.most) from h6.pb.cell 1) (fun c => c)
  have htot := h.total
  have hmost := h.most
  by_cases hlim : x.most - x.all.length < N
  · rw [if_pos hlim] at hres
    have e5 : decide ((x.most : Int) - (x.all.length : Int) < N) = true := by simp; omega
    have HR := Lib.hid hres
    clear hres hlim
    go_wp2_with fail
    refine wp_region_ext (fun _ => False) (by kernel_rfl) (by kernel_rfl) ?_
    repeat (go_big_quiet_step (fail))
    refine wpQuiet_nil ?_
    rintro _ ⟨d, rfl⟩
    go_wp2_with fail
    refine (cur_fail _ _ 3).mono ?_
    rintro e w7 ⟨rfl, rfl⟩
    go_wp2_with fail
    refine ⟨rfl, ?_⟩
    show StepPost _ _ _ _ _ _ _ _ _ _ _ _ _ _ _ _
    rw [← HR.out]
    exact ⟨rfl, _, I6.same d.same, h.mineP (hs6.then d.same.any)⟩
  rw [if_neg hlim] at hres
  have e5 : decide ((x.most : Int) - (x.all.length : Int) < N) = false := by simp; omega
  have HR := Lib.hid hres
  have hroom : x.all.length + N ≤ x.most := by omega
  clear hres hlim
  go_wp2_with fail
  refine wp_region_ext (fun _ => False) (by kernel_rfl) (by kernel_rfl) ?_
  repeat (go_big_quiet_step (fail))
  refine wpQuiet_nil ?_
  rintro _ ⟨d, rfl⟩
  have hs7 := hs6.then d.same.any
  have h7 := h6.same d.same
  have I7 := I6.same d.same
  generalize d.world = w7 at *
  clear d d12 d1 h6 hs6 I6
  have c2 : w7.cell? ⟨p, 2, none⟩ = some (.pointer (some ⟨pw, 0, none⟩)) := h7.pb.cell 2
  have CC := win_copy (d := D) (n := N) I7.win (by omega) hD1 (by show D ≤ x.win; omega) (by show x.all.length < _; omega)
  go_wp2_with fail
  refine CC.mono ?_
  rintro e w8 ⟨vb, rfl, hw8, hob, hs8⟩
  obtain ⟨Ab, cb, rfl, hcb1, hcb2, hrb, _⟩ := hob.rdb
  have hw8 : Win w8 pw r x.size (ext x.all D N) := hw8
  have hel := ext_length x.all D N
  have hsp := ext_split x.all D N
  have hbl : ((ext x.all D N).drop x.all.length).length = N := by rw [List.length_drop, hel]; omega
  have hcb1 : ((ext x.all D N).drop x.all.length).length ≤ cb := hcb1
  have hrb : RdB w8 Ab ((ext x.all D N).drop x.all.length) := hrb
  rw [show ({ x with at_ := a5 } : I).all = x.all from rfl]
  obtain ⟨n1, n2, n3, n4⟩ := I7.pw_ne
  have h8 := two_kept h7 hs8 n1 n2 (fun ad e => ⟨(h.apart ad e).1, (h.apart ad e).2.1⟩)
  have ho8 : Own w8 B 5 vo (ints .u8 x.out) := I7.out.kept hs8 (fun g hg e => by
    rcases e with e | e
    · rw [e] at hg; exact n4 hg
    · rw [e] at hg; exact I7.voR hg)
  obtain ⟨bb, bo, rfl, hcell⟩ : ∃ bb bo, Ab = some ⟨bb, bo, none⟩ ∧ ∀ i, i < ((ext x.all D N).drop x.all.length).length → w8.cell? ⟨bb, bo + i, none⟩ = some (.int .u8 (((ext x.all D N).drop x.all.length).getD i 0)) := by
    rcases hrb with ⟨_, hn⟩ | ⟨bb, bo, e, hc⟩
    · rw [hn] at hbl; simp at hbl; omega
    · exact ⟨bb, bo, e, hc⟩
  obtain ⟨i0, hi0, hzz⟩ := Option.map_eq_some_iff.1 Try.u8infI
  simp only [Prod.mk.injEq] at hzz
  obtain ⟨hz0, hz1, hz2⟩ := hzz
  generalize hnews : (ext x.all D N).drop x.all.length = news at *
  have HNEWS := Lib.hid hnews
  have HSP := Lib.hid hsp
  have HEL := Lib.hid hel
  clear hnews hsp hel hob hrb
  have hnl : (ints .u8 news).length = N * 1 := by rw [ints_length, hbl]; omega
  have hnc : ∀ j u, (ints .u8 news)[j]? = some u → w8.cell? ((⟨bb, bo, none⟩ : Addr).add j) = some u := fun j u hj => by
    rw [ints_at] at hj
    obtain ⟨b9, hb9, rfl⟩ := Option.map_eq_some_iff.1 hj
    rw [Addr.add_lit, hcell j (List.getElem?_eq_some_iff.1 hb9).1, List.getD_eq_getElem?_getD, hb9]
    rfl
  have hol := h.outl
  have hz8 : w.heap.size ≤ w8.heap.size := Nat.le_trans hs7.size hs8.size
  have hBw : B ≤ w8.heap.size := Nat.le_trans h.bB hz8
  have hvp : ∀ k, vo.ownBlock = some k → k ≠ p := fun k e c => n3 (by rw [e, c])
  have hvA : ∀ ad, A = some ad → vo.ownBlock ≠ some ad.block := fun ad e => (h.apart ad e).2.2
  have q11 : w8.drew.cell? ⟨p, 11, none⟩ = some vo := (h8.same (Same.refl (S := fun _ => False) w8).drew).pb.cell 11
  have q12 : w8.drew.cell? ⟨p, 12, none⟩ = some (.int .i64 x.all.length) := (h8.same (Same.refl (S := fun _ => False) w8).drew).pb.cell 12
  have hownr : w8.ownsRow B 5 1 vo x.out.length (ints .u8 x.out) := by have := ho8; unfold Own at this; rwa [ints_length] at this
  have hNpos : 0 < N := by omega
  have hlm : x.out.length + N ≤ maxLen := by simp only [maxLen]; omega
  have hlb : (x.out.length + N) * 1 ≤ 140737488355328 := by omega
  have hone := ints_one .u8 news
  have H8 := Lib.hid h8
  rw [hbl]
  clear hcell ho8 h7
  go_wp2_with fail
  go_region_law (refine step_append_lies _ rfl (.tmp 122) (.tmp 123) 22 rfl B 5 i0 (.int .u8 0) 1 1 Try.underlying22 hi0 hz0 hz1 hz2 rfl (by decide) vo x.out.length (ints .u8 x.out) rfl hownr ⟨bb, bo, none⟩ N cb (ints .u8 news) rfl hnl hnc hone hNpos hlm hlb hBw w8.heap.size rfl ?_; intro g9 cap9 w9 ho9 hg9 hat9 hlt9; have hS9 : Same (fun k => vo.ownBlock = some k) w8 w9 := ⟨hg9.os, hg9.tape, hg9.output, hg9.size, fun k hk hS => hg9.block k hk (fun e => hS e.symm)⟩; have h9 := H8.out.kept hS9 (fun e => hvp _ e rfl) (fun ad e c => hvA ad e c); have k11 : w9.cell? ⟨p, 11, none⟩ = some vo := h9.pb.cell 11; have k12 : w9.cell? ⟨p, 12, none⟩ = some (.int .i64 x.all.length) := h9.pb.cell 12; have f11 := h9.pb.frozen 11; have f12 := h9.pb.frozen 12)
  all_goals
    have hwr : IntKind.i64.wrap ((x.all.length : Int) + N) = (x.all.length : Int) + N := IntWalk.i64_in _ (by omega)
    have e9 : (((ext x.all D N).length : Nat) : Int) = (x.all.length : Int) + N := by rw [HEL.out]; omega
    have hs10 : Same (fun g => g = p) w9 ((w9.setCell ⟨p, 11, none⟩ (.slice (some ⟨g9, 0, none⟩) (x.out.length + N) cap9)).setCell ⟨p, 12, none⟩ (.int .i64 (((ext x.all D N).length : Nat) : Int))) := (Same.set_ (S := fun g => g = p) (p := ⟨p, 11, none⟩) (Same.refl w9) (fun _ => rfl) _).set_ (p := ⟨p, 12, none⟩) (fun _ => rfl) _
    have b10 := (h9.pb.set_ 11 (.slice (some ⟨g9, 0, none⟩) (x.out.length + N) cap9)).set_ 12 (.int .i64 (((ext x.all D N).length : Nat) : Int))
    have ho10 : Own w9 B 5 (.slice (some ⟨g9, 0, none⟩) (x.out.length + N) cap9) (ints .u8 (x.out ++ news)) := by
      unfold Own
      rw [ints_length, List.length_append, ints_append, hbl]
      exact ho9
    have K10 : CurAt ((w9.setCell ⟨p, 11, none⟩ (.slice (some ⟨g9, 0, none⟩) (x.out.length + N) cap9)).setCell ⟨p, 12, none⟩ (.int .i64 (((ext x.all D N).length : Nat) : Int))) p (infC { x with at_ := a5, out := x.out ++ news, all := ext x.all D N } pw A c (.slice (some ⟨g9, 0, none⟩) (x.out.length + N) cap9) (.pointer (some ⟨p1, 0, none⟩)) (.pointer (some ⟨p2, 0, none⟩)) used err) A c x.bs a5 :=
      ⟨b10, rfl, rfl, h9.row.same hs10 (fun ad e => h9.ne ad e), h9.ne, h9.le, h9.hi, fun ad e => Nat.lt_of_lt_of_le (h9.lt ad e) hs10.size⟩
    obtain ⟨I10, B10⟩ := I7.grown (y := { x with at_ := a5, out := x.out ++ news, all := ext x.all D N }) hs8 hw8 hS9 ho10 (fun g hg => by
      have hg' : g = g9 := by simpa [Value.ownBlock] using hg.symm
      rw [hg']
      rcases hat9 with e | e
      · exact .inl e
      · right; omega) hs10 K10 rfl rfl rfl rfl (by show (ext x.all D N).length ≤ x.most; rw [HEL.out]; omega) (by show (x.out ++ news).length ≤ (ext x.all D N).length; rw [HEL.out, List.length_append, hbl]; omega)
    rw [e9, ← hwr] at I10 B10
    ((try simp only [Exit.inBlock, Exit.then]); first | refine bodyPost_end (results_none rfl _ _ _) rfl ?_ | refine bodyPost_ret (results_none rfl _ _ _) rfl ?_)
    show StepPost _ _ _ _ _ _ _ _ _ _ _ _ _ _ _ _
    rw [← HR.out]
    exact ⟨rfl, _, _, _, I10, (h.mineP hs7).then B10⟩
end Go.Proofs.Yteknaaijlkenkaa
