import Derived.Test.YteknaaijlkenkaaJInk
import Derived.Deep.AppendLies
import Derived.Deep.RegionLaw
import Derived.Deep.RegionHeld3
import Derived.Recover
import Derived.Laws.Pointers
namespace Go.Proofs.Yteknaaijlkenkaa
set_option linter.unusedVariables false
set_option linter.unusedSimpArgs false
open Go.RowKit
attribute [local go_sem] max2i min2i max2t min2t

theorem base_fine : ∀ s, s < 300 → ∀ wide : Bool, (baseP s wide).all (fun r => decide (3 ≤ r.1 ∧ r.2 ≤ 16 ∧ r.1 + 2 ^ r.2 ≤ 65539)) = true := by decide +kernel
theorem far_fine : ∀ s, s < 32 → ∀ wide : Bool, (farP s wide).all (fun r => decide (1 ≤ r.1 ∧ r.2 ≤ 14 ∧ r.1 + 2 ^ r.2 ≤ 65537)) = true := by decide +kernel
set_option maxHeartbeats 4000000 in
set_option maxRecDepth 100000 in
theorem inf_token {w : World} {B p pw r : Nat} {A : Option Addr} {c : Nat} {vo v9 v10 : Value} {used err : Int} {x : I} (h : InfAt w B p pw r A c vo v9 v10 used err x) (hst : x.st = 2) :
    Calls Try.prog 63 #[.pointer (some ⟨p, 0, none⟩)] w fun e w' => StepPost w B p pw r A c vo v9 v10 used err x (tokenG x) e w' := by
  obtain ⟨res, hres⟩ : ∃ r, tokenG x = r := ⟨_, rfl⟩
  rw [hres]
  rw [tokenG] at hres
  obtain ⟨p1, p2, b1, b2, F1, F2, rfl, rfl, T1, T2, hl1, hl2⟩ := h.tabs hst
  have c9 : w.cell? ⟨p, 9, none⟩ = some (.pointer (some ⟨p1, 0, none⟩)) := h.cur.pb.cell 9
  cases hsy : symG x.lit x.bs x.at_ with
  | bad k =>
    rw [hsy] at hres
    have HR := Lib.hid hres
    have CS := cur_sym_bad h.cur T1 hsy
    clear hres
    go_enter Try.func63, Try.ntmps63
    go_wp2_with fail
    refine CS.mono ?_
    rintro e w1 ⟨rfl, hs1⟩
    go_wp2_with fail
    refine ⟨rfl, ?_⟩
    show StepPost _ _ _ _ _ _ _ _ _ _ _ _ _ _ _ _
    rw [← HR.out]
    exact ⟨rfl, _, h.same hs1, h.mineP hs1.any⟩
  | ok sm =>
  obtain ⟨s, m⟩ := sm
  rw [hsy] at hres
  simp only at hres
  obtain ⟨_, hm1, hm2, hsl, _, _⟩ := symG_ok hsy
  have CS := cur_sym_ok h.cur T1 hsy
  have hs300 : s < 300 := by omega
  have HRES := Lib.hid hres
  clear hres hsy
  go_enter Try.func63, Try.ntmps63
  go_wp2_with fail
  refine CS.mono ?_
  rintro e w1 ⟨rfl, h1, hs1⟩
  have I1 := h.move hs1 h1
  have hB1 := h.mineP hs1
  have hres := HRES.out
  clear CS HRES c9
  obtain ⟨a1, ha1⟩ : ∃ a1, x.at_ + m = a1 := ⟨_, rfl⟩
  rw [ha1] at h1 I1 hres
  by_cases h256 : s = 256
  · subst h256
    rw [if_pos rfl] at hres
    have HR := Lib.hid hres
    clear hres
    go_wp2_with fail
    refine (inf_next I1).mono ?_
    rintro e w2 ⟨rfl, h2, hs2⟩
    go_wp2_with fail
    ((try simp only [Exit.inBlock, Exit.then]); first | refine bodyPost_end (results_none rfl _ _ _) rfl ?_ | refine bodyPost_ret (results_none rfl _ _ _) rfl ?_)
    show StepPost _ _ _ _ _ _ _ _ _ _ _ _ _ _ _ _
    rw [← HR.out]
    exact ⟨rfl, vo, _, _, h2, hB1.then (I1.mineP hs2)⟩
  rw [if_neg h256] at hres
  have e1 : ((s : Int) == 256) = false := by rw [beq_eq_false_iff_ne]; omega
  have e1' : (s == 256) = false := by rw [beq_eq_false_iff_ne]; exact h256
  have c12 : w1.cell? ⟨p, 12, none⟩ = some (.int .i64 x.all.length) := h1.pb.cell 12
  have c1 : w1.cell? ⟨p, 1, none⟩ = some (.int .i64 x.most) := h1.pb.cell 1
  have c12d := fun d : Ext (fun _ => False) w1 => d.same.cell c12 (fun c => c)
  have c1d := fun d : Ext (fun _ => False) w1 => d.same.cell c1 (fun c => c)
  by_cases hlt : s < 256
  · have e2 : decide ((s : Int) < 256) = true := by simp; omega
    rw [if_pos hlt] at hres
    by_cases hfull : x.all.length = x.most
    · rw [if_pos hfull] at hres
      have e3 : ((x.all.length : Int) == (x.most : Int)) = true := by rw [hfull]; simp
      have e3' : (x.all.length == x.most) = true := by simpa using hfull
      have HR := Lib.hid hres
      clear hres hfull
      go_wp2_with fail
      refine wp_region_ext (fun _ => False) (by kernel_rfl) (by kernel_rfl) ?_
      repeat (go_big_quiet_step (fail))
      refine wpQuiet_nil ?_
      rintro _ ⟨d, rfl⟩
      go_wp2_with fail
      refine (cur_fail _ _ 3).mono ?_
      rintro e w2 ⟨rfl, rfl⟩
      go_wp2_with fail
      refine ⟨rfl, ?_⟩
      show StepPost _ _ _ _ _ _ _ _ _ _ _ _ _ _ _ _
      rw [← HR.out]
      exact ⟨rfl, _, I1.same d.same, h.mineP (hs1.then d.same.any)⟩
    · rw [if_neg hfull] at hres
      have e3 : ((x.all.length : Int) == (x.most : Int)) = false := by rw [beq_eq_false_iff_ne]; omega
      have e3' : (x.all.length == x.most) = false := by rw [beq_eq_false_iff_ne]; exact hfull
      have hw8 : IntKind.u8.wrap (s : Int) = (s : Int) := by rw [IntKind.wrap_u8]; omega
      have HR := Lib.hid hres
      clear hres
      go_wp2_with fail
      refine wp_region_ext (fun _ => False) (by kernel_rfl) (by kernel_rfl) ?_
      repeat (go_big_quiet_step (fail))
      refine wpQuiet_nil ?_
      rintro _ ⟨d, rfl⟩
      have CP := inf_put (I1.same d.same) (s : Int) (by have := h.total; simp only; omega)
      have hB1 := h.mineP (hs1.then d.same.any)
      go_wp2_with fail
      refine CP.mono ?_
      rintro e w2 ⟨rfl, vo2, h2, hB2, _⟩
      go_wp2_with fail
      ((try simp only [Exit.inBlock, Exit.then]); first | refine bodyPost_end (results_none rfl _ _ _) rfl ?_ | refine bodyPost_ret (results_none rfl _ _ _) rfl ?_)
      show StepPost _ _ _ _ _ _ _ _ _ _ _ _ _ _ _ _
      rw [← HR.out]
      exact ⟨rfl, vo2, _, _, h2, hB1.then hB2⟩
  have e2 : decide ((s : Int) < 256) = false := by simp; omega
  rw [if_neg hlt] at hres
  have c0 : w1.cell? ⟨p, 0, none⟩ = some (.bool x.wide) := h1.pb.cell 0
  have CB := inf_baseP s (by omega) (by omega) x.wide w1
  have hbf := base_fine s hs300 x.wide
  cases hbp : baseP s x.wide with
  | none =>
    rw [hbp] at CB hres
    have HR := Lib.hid hres
    clear hres
    go_wp2_with fail
    refine CB.mono ?_
    rintro e w2 ⟨rfl, rfl⟩
    simp only [basV]
    go_wp2_with fail
    refine (cur_fail _ _ 2).mono ?_
    rintro e w3 ⟨rfl, rfl⟩
    go_wp2_with fail
    refine ⟨rfl, ?_⟩
    show StepPost _ _ _ _ _ _ _ _ _ _ _ _ _ _ _ _
    rw [← HR.out]
    exact ⟨rfl, _, I1, hB1⟩
  | some bk =>
  obtain ⟨b, k⟩ := bk
  rw [hbp] at CB hres hbf
  simp only at hres
  obtain ⟨hb3, hk16, hbk⟩ : 3 ≤ b ∧ k ≤ 16 ∧ b + 2 ^ k ≤ 65539 := by simpa using hbf
  simp only [basV] at CB
  have HRES := Lib.hid hres
  clear hres hbp
  go_wp2_with fail
  refine CB.mono ?_
  rintro e w2 ⟨rfl, rfl⟩
  have hres := HRES.out
  clear CB HRES
  by_cases hg2 : lf x.bs a1 < k
  · rw [getG, if_pos hg2] at hres
    have HR := Lib.hid hres
    clear hres
    go_wp2_with fail
    refine (cur_get_bad h1 k hk16 hg2).mono ?_
    rintro e w3 ⟨rfl, hs3⟩
    go_wp2_with fail
    refine ⟨rfl, ?_⟩
    show StepPost _ _ _ _ _ _ _ _ _ _ _ _ _ _ _ _
    rw [← HR.out]
    exact ⟨rfl, _, I1.same hs3, h.mineP (hs1.then hs3.any)⟩
  rw [getG, if_neg hg2] at hres
  simp only at hres
  have hv : pk x.bs a1 k < 2 ^ k := pk_lt x.bs a1 k
  have CG := cur_get_ok h1 k hk16 (by omega)
  obtain ⟨v, hvv⟩ : ∃ v, pk x.bs a1 k = v := ⟨_, rfl⟩
  rw [hvv] at hres hv CG
  have hN : b + v ≤ 65538 := by omega
  have HRES := Lib.hid hres
  clear hres hvv hbk hv
  go_wp2_with fail
  refine CG.mono ?_
  rintro e w3 ⟨rfl, h3, hs3⟩
  rw [set44] at h3
  have hs3 := hs1.then hs3
  have I3 := h.move hs3 h3
  have hB3 := h.mineP hs3
  have hres := HRES.out
  obtain ⟨a3, ha3⟩ : ∃ a3, a1 + k = a3 := ⟨_, rfl⟩
  rw [ha3] at h3 I3 hres
  obtain ⟨N, hNN⟩ : ∃ N, b + v = N := ⟨_, rfl⟩
  have hNi : (b : Int) + (v : Int) = (N : Int) := by omega
  rw [hNN] at hres hN
  clear CG HRES h1 hs1 I1 hB1 c12 c1 c0 c12d c1d
  have T2' := T2.keep hs3 (fun k e _ => ⟨_, _, (show k = p from e) ▸ h.cur.pb, by decide, by decide⟩)
  have c10 : w3.drew.cell? ⟨p, 10, none⟩ = some (.pointer (some ⟨p2, 0, none⟩)) := (h3.same (Same.refl (S := fun _ => False) w3).drew).pb.cell 10
  have c0 : w3.drew.cell? ⟨p, 0, none⟩ = some (.bool x.wide) := (h3.same (Same.refl (S := fun _ => False) w3).drew).pb.cell 0
  clear T1 T2
  cases hsy : symG x.dist x.bs a3 with
  | bad k =>
    rw [hsy] at hres
    have HR := Lib.hid hres
    have HG := Lib.hid (fun (W : World) (hs : Same (fun _ => False) w3 W) => (cur_sym_bad (h3.same hs) (T2'.keep hs (fun _ c => c.elim)) hsy).mono (R' := fun e w' => e = .panicked [faultI k] ∧ InfAt w' B p pw r A c vo (.pointer (some ⟨p1, 0, none⟩)) (.pointer (some ⟨p2, 0, none⟩)) used err { x with at_ := a3 } ∧ Same (Mine p pw r vo) w w') (fun e w' ⟨he, h6⟩ => ⟨he, (I3.same hs).same h6, h.mineP ((hs3.then hs.any).then h6.any)⟩))
    clear hres
    go_wp2_with fail
    go_region_dies
    all_goals
      refine (HG.out _ ?_).mono ?_
      first | exact (Same.refl _).drew | exact Same.refl _ | assumption
      rintro e w4 ⟨rfl, hi4, hb4⟩
      go_wp2_with fail
      refine ⟨rfl, ?_⟩
      show StepPost _ _ _ _ _ _ _ _ _ _ _ _ _ _ _ _
      rw [← HR.out]
      exact ⟨rfl, _, hi4, hb4⟩
  | ok tq =>
  obtain ⟨t, q⟩ := tq
  rw [hsy] at hres
  simp only at hres
  obtain ⟨_, hq1, hq2, htl, _, _⟩ := symG_ok hsy
  have ht32 : t < 32 := by omega
  have HG := Lib.hid (fun (W : World) (hs : Same (fun _ => False) w3 W) => (cur_sym_ok (h3.same hs) (T2'.keep hs (fun _ c => c.elim)) hsy).mono (R' := fun e w' => e = .returned (.int .i64 t) ∧ CurAt w' p ((infC x pw A c vo (.pointer (some ⟨p1, 0, none⟩)) (.pointer (some ⟨p2, 0, none⟩)) used err).setIfInBounds 4 (.int .i64 ((a3 + q : Nat) : Int))) A c x.bs (a3 + q) ∧ Same (fun g => g = p) w w' ∧ w'.cell? ⟨p, 10, none⟩ = some (.pointer (some ⟨p2, 0, none⟩)) ∧ w'.cell? ⟨p, 0, none⟩ = some (.bool x.wide)) (fun e w' ⟨he, h5, h6⟩ => ⟨he, by rw [set44] at h5; exact h5, (hs3.then hs.any).then h6, by rw [set44] at h5; exact h5.pb.cell 10, by rw [set44] at h5; exact h5.pb.cell 0⟩))
  have CF := fun W => inf_farP t ht32 x.wide W
  have hff := far_fine t ht32 x.wide
  cases hfp : farP t x.wide with
  | none =>
    rw [hfp] at CF hres
    simp only [basV] at CF
    have HR := Lib.hid hres
    have HF := Lib.hid CF
    clear hres CF hsy
    go_upto_region 12 with fail
    go_cut [5, 6, 7] (fun s5 s6 s7 wx => s5 = .int .i64 0 ∧ s6 = .bool false ∧ s7 = .int .i64 0 ∧ CurAt wx p ((infC x pw A c vo (.pointer (some ⟨p1, 0, none⟩)) (.pointer (some ⟨p2, 0, none⟩)) used err).setIfInBounds 4 (.int .i64 ((a3 + q : Nat) : Int))) A c x.bs (a3 + q) ∧ Same (fun g => g = p) w wx)
    case first =>
      go_region_held3 (fun W : World => W.cell? ⟨p, 10, none⟩ = some (.pointer (some ⟨p2, 0, none⟩)) ∧ W.cell? ⟨p, 0, none⟩ = some (.bool x.wide)) (first | exact ⟨c10, c0⟩ | exact ⟨k10, k0⟩) (first
        | (go_at_call 71; refine (HG.out _ ?_).mono ?_; (first | exact (Same.refl _).drew | exact Same.refl _ | assumption); rintro e w4 ⟨rfl, h4, hs4, k10, k0⟩)
        | (go_at_call 73; refine (HF.out _).mono ?_; rintro e w5 ⟨rfl, rfl⟩))
      all_goals
        go_wp2_with fail
        go_meet
        exact ⟨rfl, rfl, rfl, h4, hs4⟩
    case rest =>
      obtain ⟨rfl, rfl, rfl, h4, hs4⟩ := hcut
      go_wp2_with fail
      refine (cur_fail _ _ 2).mono ?_
      rintro e w5 ⟨rfl, rfl⟩
      go_wp2_with fail
      refine ⟨rfl, ?_⟩
      show StepPost _ _ _ _ _ _ _ _ _ _ _ _ _ _ _ _
      rw [← HR.out]
      exact ⟨rfl, _, h.move hs4 h4, h.mineP hs4⟩
  | some fj =>
  obtain ⟨f, j⟩ := fj
  rw [hfp] at CF hres hff
  simp only at hres
  obtain ⟨hf1, hj14, hfj⟩ : 1 ≤ f ∧ j ≤ 14 ∧ f + 2 ^ j ≤ 65537 := by simpa using hff
  simp only [basV] at CF
  have HF := Lib.hid CF
  have HRES := Lib.hid hres
  clear hres CF hsy hff hfp
  go_upto_region 12 with fail
  go_cut [5, 6, 7] (fun s5 s6 s7 wx => s5 = .int .i64 j ∧ s6 = .bool true ∧ s7 = .int .i64 f ∧ CurAt wx p ((infC x pw A c vo (.pointer (some ⟨p1, 0, none⟩)) (.pointer (some ⟨p2, 0, none⟩)) used err).setIfInBounds 4 (.int .i64 ((a3 + q : Nat) : Int))) A c x.bs (a3 + q) ∧ Same (fun g => g = p) w wx)
  case first =>
    go_region_held3 (fun W : World => W.cell? ⟨p, 10, none⟩ = some (.pointer (some ⟨p2, 0, none⟩)) ∧ W.cell? ⟨p, 0, none⟩ = some (.bool x.wide)) (first | exact ⟨c10, c0⟩ | exact ⟨k10, k0⟩) (first
      | (go_at_call 71; refine (HG.out _ ?_).mono ?_; (first | exact (Same.refl _).drew | exact Same.refl _ | assumption); rintro e w4 ⟨rfl, h4, hs4, k10, k0⟩)
      | (go_at_call 73; refine (HF.out _).mono ?_; rintro e w5 ⟨rfl, rfl⟩))
    all_goals
      go_wp2_with fail
      go_meet
      exact ⟨rfl, rfl, rfl, h4, hs4⟩
  case rest =>
  obtain ⟨rfl, rfl, rfl, h4, hs4⟩ := hcut
  clear h3 hs3 I3 hB3 c10 c0 T2' HG HF
  have hres := HRES.out
  obtain ⟨a4, ha4⟩ : ∃ a4, a3 + q = a4 := ⟨_, rfl⟩
  rw [ha4] at h4 hres
  by_cases hg5 : lf x.bs a4 < j
  · rw [getG, if_pos hg5] at hres
    have HR := Lib.hid hres
    have I4 := h.move hs4 h4
    clear hres HRES
    go_wp2_with fail
    refine (cur_get_bad h4 j (by omega) hg5).mono ?_
    rintro e w5 ⟨rfl, hs5⟩
    go_wp2_with fail
    refine ⟨rfl, ?_⟩
    show StepPost _ _ _ _ _ _ _ _ _ _ _ _ _ _ _ _
    rw [← HR.out]
    exact ⟨rfl, _, I4.same hs5, h.mineP (hs4.then hs5.any)⟩
  rw [getG, if_neg hg5] at hres
  simp only at hres
  have hu : pk x.bs a4 j < 2 ^ j := pk_lt x.bs a4 j
  have CG := cur_get_ok h4 j (by omega) (by omega)
  obtain ⟨u, huu⟩ : ∃ u, pk x.bs a4 j = u := ⟨_, rfl⟩
  rw [huu] at hres hu CG
  have hD : f + u ≤ 65536 := by omega
  have HRES := Lib.hid hres
  clear hres huu hfj hu
  go_wp2_with fail
  refine CG.mono ?_
  rintro e w5 ⟨rfl, h5, hs5⟩
  rw [set44] at h5
  have hs5 := hs4.then hs5
  have I5 := h.move hs5 h5
  have hres := HRES.out
  obtain ⟨a5, ha5⟩ : ∃ a5, a4 + j = a5 := ⟨_, rfl⟩
  rw [ha5] at h5 I5 hres
  obtain ⟨D, hDD⟩ : ∃ D, f + u = D := ⟨_, rfl⟩
  have hDi : (f : Int) + (u : Int) = (D : Int) := by omega
  rw [hDD] at hres hD
  have hD1 : 1 ≤ D := by omega
  clear CG HRES h4 hs4
  have c2 : w5.cell? ⟨p, 2, none⟩ = some (.pointer (some ⟨pw, 0, none⟩)) := h5.pb.cell 2
  obtain ⟨V, hV⟩ : ∃ V, x.win = V := ⟨_, rfl⟩
  have CH := win_have I5.win
  rw [show min ({ x with at_ := a5 } : I).all.length ({ x with at_ := a5 } : I).size = x.win from rfl, hV] at CH
  rw [hV] at hres
  have HRES := Lib.hid hres
  clear hres
  go_wp2_with fail
  refine CH.mono ?_
  rintro e w6 ⟨rfl, rfl⟩
  have hs6 := hs5.drew
  have h6 := h5.same (Same.refl (S := fun _ => False) w5).drew
  have I6 := I5.same (Same.refl (S := fun _ => False) w5).drew
  generalize w5.drew = w6 at *
  have hres := HRES.out
  clear CH HRES h5 hs5 I5 c2
  by_cases hVD : V < D
  · rw [if_pos hVD] at hres
    have e4 : decide (V < D) = true := by simpa using hVD
    have HR := Lib.hid hres
    clear hres
    go_wp2_with fail
    refine (cur_fail _ _ 2).mono ?_
    rintro e w7 ⟨rfl, rfl⟩
    go_wp2_with fail
    refine ⟨rfl, ?_⟩
    show StepPost _ _ _ _ _ _ _ _ _ _ _ _ _ _ _ _
    rw [← HR.out]
    exact ⟨rfl, _, I6, h.mineP hs6⟩
  rw [if_neg hVD] at hres
  have e4 : decide (V < D) = false := by simpa using hVD
  have d12 := fun d : Ext (fun _ => False) w6 => d.same.cell (show w6.cell? ⟨p, 12, none⟩ = some (.int .i64 x.all.length) from h6.pb.cell 12) (fun c => c)
  have d1 := fun d : Ext (fun _ => False) w6 => d.same.cell (show w6.cell? ⟨p, 1, none⟩ = some (.int .i64 x.most) from h6.pb.cell 1) (fun c => c)
  have htot := h.total
  have hmost := h.most
  by_cases hlim : x.most - x.all.length < N
  · rw [if_pos hlim] at hres
    have e5 : decide ((x.most : Int) - (x.all.length : Int) < N) = true := by simp; omega
    have HR := Lib.hid hres
    clear hres hlim
    go_wp2_with fail
    refine wp_region_ext (fun _ => False) (by kernel_rfl) (by kernel_rfl) ?_
    repeat (go_big_quiet_step (fail))
    refine wpQuiet_nil ?_
    rintro _ ⟨d, rfl⟩
    go_wp2_with fail
    refine (cur_fail _ _ 3).mono ?_
    rintro e w7 ⟨rfl, rfl⟩
    go_wp2_with fail
    refine ⟨rfl, ?_⟩
    show StepPost _ _ _ _ _ _ _ _ _ _ _ _ _ _ _ _
    rw [← HR.out]
    exact ⟨rfl, _, I6.same d.same, h.mineP (hs6.then d.same.any)⟩
  rw [if_neg hlim] at hres
  have e5 : decide ((x.most : Int) - (x.all.length : Int) < N) = false := by simp; omega
  have HR := Lib.hid hres
  have hroom : x.all.length + N ≤ x.most := by omega
  clear hres hlim
  go_wp2_with fail
  refine wp_region_ext (fun _ => False) (by kernel_rfl) (by kernel_rfl) ?_
  repeat (go_big_quiet_step (fail))
  refine wpQuiet_nil ?_
  rintro _ ⟨d, rfl⟩
  have hs7 := hs6.then d.same.any
  have h7 := h6.same d.same
  have I7 := I6.same d.same
  generalize d.world = w7 at *
  clear d d12 d1 h6 hs6 I6
  have c2 : w7.cell? ⟨p, 2, none⟩ = some (.pointer (some ⟨pw, 0, none⟩)) := h7.pb.cell 2
  have CC := win_copy (d := D) (n := N) I7.win (by omega) hD1 (by show D ≤ x.win; omega) (by show x.all.length < _; omega)
  go_wp2_with fail
  refine CC.mono ?_
  rintro e w8 ⟨vb, rfl, hw8, hob, hs8⟩
  obtain ⟨Ab, cb, rfl, hcb1, hcb2, hrb, _⟩ := hob.rdb
  have hw8 : Win w8 pw r x.size (ext x.all D N) := hw8
  have hel := ext_length x.all D N
  have hsp := ext_split x.all D N
  have hbl : ((ext x.all D N).drop x.all.length).length = N := by rw [List.length_drop, hel]; omega
  have hcb1 : ((ext x.all D N).drop x.all.length).length ≤ cb := hcb1
  have hrb : RdB w8 Ab ((ext x.all D N).drop x.all.length) := hrb
  rw [show ({ x with at_ := a5 } : I).all = x.all from rfl]
  obtain ⟨n1, n2, n3, n4⟩ := I7.pw_ne
  have h8 := two_kept h7 hs8 n1 n2 (fun ad e => ⟨(h.apart ad e).1, (h.apart ad e).2.1⟩)
  have ho8 : Own w8 B 5 vo (ints .u8 x.out) := I7.out.kept hs8 (fun g hg e => by
    rcases e with e | e
    · rw [e] at hg; exact n4 hg
    · rw [e] at hg; exact I7.voR hg)
  obtain ⟨bb, bo, rfl, hcell⟩ : ∃ bb bo, Ab = some ⟨bb, bo, none⟩ ∧ ∀ i, i < ((ext x.all D N).drop x.all.length).length → w8.cell? ⟨bb, bo + i, none⟩ = some (.int .u8 (((ext x.all D N).drop x.all.length).getD i 0)) := by
    rcases hrb with ⟨_, hn⟩ | ⟨bb, bo, e, hc⟩
    · rw [hn] at hbl; simp at hbl; omega
    · exact ⟨bb, bo, e, hc⟩
  obtain ⟨i0, hi0, hzz⟩ := Option.map_eq_some_iff.1 Try.u8infI
  simp only [Prod.mk.injEq] at hzz
  obtain ⟨hz0, hz1, hz2⟩ := hzz
  generalize hnews : (ext x.all D N).drop x.all.length = news at *
  have HNEWS := Lib.hid hnews
  have HSP := Lib.hid hsp
  have HEL := Lib.hid hel
  clear hnews hsp hel hob hrb
  have hnl : (ints .u8 news).length = N * 1 := by rw [ints_length, hbl]; omega
  have hnc : ∀ j u, (ints .u8 news)[j]? = some u → w8.cell? ((⟨bb, bo, none⟩ : Addr).add j) = some u := fun j u hj => by
    rw [ints_at] at hj
    obtain ⟨b9, hb9, rfl⟩ := Option.map_eq_some_iff.1 hj
    rw [Addr.add_lit, hcell j (List.getElem?_eq_some_iff.1 hb9).1, List.getD_eq_getElem?_getD, hb9]
    rfl
  have hol := h.outl
  have hz8 : w.heap.size ≤ w8.heap.size := Nat.le_trans hs7.size hs8.size
  have hBw : B ≤ w8.heap.size := Nat.le_trans h.bB hz8
  have hvp : ∀ k, vo.ownBlock = some k → k ≠ p := fun k e c => n3 (by rw [e, c])
  have hvA : ∀ ad, A = some ad → vo.ownBlock ≠ some ad.block := fun ad e => (h.apart ad e).2.2
  have q11 : w8.drew.cell? ⟨p, 11, none⟩ = some vo := (h8.same (Same.refl (S := fun _ => False) w8).drew).pb.cell 11
  have q12 : w8.drew.cell? ⟨p, 12, none⟩ = some (.int .i64 x.all.length) := (h8.same (Same.refl (S := fun _ => False) w8).drew).pb.cell 12
  have hownr : w8.ownsRow B 5 1 vo x.out.length (ints .u8 x.out) := by have := ho8; unfold Own at this; rwa [ints_length] at this
  have hNpos : 0 < N := by omega
  have hlm : x.out.length + N ≤ maxLen := by simp only [maxLen]; omega
  have hlb : (x.out.length + N) * 1 ≤ 140737488355328 := by omega
  have hone := ints_one .u8 news
  have H8 := Lib.hid h8
  rw [hbl]
  clear hcell ho8 h7
  go_wp2_with fail
  go_region_law (refine step_append_lies _ rfl (.tmp 122) (.tmp 123) 22 rfl B 5 i0 (.int .u8 0) 1 1 Try.underlying22 hi0 hz0 hz1 hz2 rfl (by decide) vo x.out.length (ints .u8 x.out) rfl hownr ⟨bb, bo, none⟩ N cb (ints .u8 news) rfl hnl hnc hone hNpos hlm hlb hBw w8.heap.size rfl ?_; intro g9 cap9 w9 ho9 hg9 hat9 hlt9; have hS9 : Same (fun k => vo.ownBlock = some k) w8 w9 := ⟨hg9.os, hg9.tape, hg9.output, hg9.size, fun k hk hS => hg9.block k hk (fun e => hS e.symm)⟩; have h9 := H8.out.kept hS9 (fun e => hvp _ e rfl) (fun ad e c => hvA ad e c); have k11 : w9.cell? ⟨p, 11, none⟩ = some vo := h9.pb.cell 11; have k12 : w9.cell? ⟨p, 12, none⟩ = some (.int .i64 x.all.length) := h9.pb.cell 12; have f11 := h9.pb.frozen 11; have f12 := h9.pb.frozen 12)
  all_goals
    have hwr : IntKind.i64.wrap ((x.all.length : Int) + N) = (x.all.length : Int) + N := IntWalk.i64_in _ (by omega)
    have e9 : (((ext x.all D N).length : Nat) : Int) = (x.all.length : Int) + N := by rw [HEL.out]; omega
    have hs10 : Same (fun g => g = p) w9 ((w9.setCell ⟨p, 11, none⟩ (.slice (some ⟨g9, 0, none⟩) (x.out.length + N) cap9)).setCell ⟨p, 12, none⟩ (.int .i64 (((ext x.all D N).length : Nat) : Int))) := (Same.set_ (S := fun g => g = p) (p := ⟨p, 11, none⟩) (Same.refl w9) (fun _ => rfl) _).set_ (p := ⟨p, 12, none⟩) (fun _ => rfl) _
    have b10 := (h9.pb.set_ 11 (.slice (some ⟨g9, 0, none⟩) (x.out.length + N) cap9)).set_ 12 (.int .i64 (((ext x.all D N).length : Nat) : Int))
    have ho10 : Own w9 B 5 (.slice (some ⟨g9, 0, none⟩) (x.out.length + N) cap9) (ints .u8 (x.out ++ news)) := by
      unfold Own
      rw [ints_length, List.length_append, ints_append, hbl]
      exact ho9
    have K10 : CurAt ((w9.setCell ⟨p, 11, none⟩ (.slice (some ⟨g9, 0, none⟩) (x.out.length + N) cap9)).setCell ⟨p, 12, none⟩ (.int .i64 (((ext x.all D N).length : Nat) : Int))) p (infC { x with at_ := a5, out := x.out ++ news, all := ext x.all D N } pw A c (.slice (some ⟨g9, 0, none⟩) (x.out.length + N) cap9) (.pointer (some ⟨p1, 0, none⟩)) (.pointer (some ⟨p2, 0, none⟩)) used err) A c x.bs a5 :=
      ⟨b10, rfl, rfl, h9.row.same hs10 (fun ad e => h9.ne ad e), h9.ne, h9.le, h9.hi, fun ad e => Nat.lt_of_lt_of_le (h9.lt ad e) hs10.size⟩
    obtain ⟨I10, B10⟩ := I7.grown (y := { x with at_ := a5, out := x.out ++ news, all := ext x.all D N }) hs8 hw8 hS9 ho10 (fun g hg => by
      have hg' : g = g9 := by simpa [Value.ownBlock] using hg.symm
      rw [hg']
      rcases hat9 with e | e
      · exact .inl e
      · right; omega) hs10 K10 rfl rfl rfl rfl (by show (ext x.all D N).length ≤ x.most; rw [HEL.out]; omega) (by show (x.out ++ news).length ≤ (ext x.all D N).length; rw [HEL.out, List.length_append, hbl]; omega)
    rw [e9, ← hwr] at I10 B10
    ((try simp only [Exit.inBlock, Exit.then]); first | refine bodyPost_end (results_none rfl _ _ _) rfl ?_ | refine bodyPost_ret (results_none rfl _ _ _) rfl ?_)
    show StepPost _ _ _ _ _ _ _ _ _ _ _ _ _ _ _ _
    rw [← HR.out]
    exact ⟨rfl, _, _, _, I10, (h.mineP hs7).then B10⟩
end Go.Proofs.Yteknaaijlkenkaa
namespace Go.Proofs.Yteknaaijlkenkaa
open Go.RowKit
attribute [local go_sem] max2i min2i max2t min2t

section
variable {P : Program} {Q : Exit → Act → List Frame → World → Prop} {a : Act} {cs cs' : List Frame} {w : World} {o : Oper} {l : List Oper} {v : Value} {id : Nat}
theorem range_succ_listI (n : Nat) : List.range (n + 1) = 0 :: List.range' 1 n := by
  rw [List.range_eq_range', List.range'_succ]
/-- A deferred closure whose first region begins with 'recover()': what is recovered stands in the slot, the rest is walked as ever. -/
theorem wpS_recover_someI (hgd : o.guard = none) (hop : (execOp a.eval o).run P w = .ok .recover w) (hc : recoverD cs = some (v, cs'))
    (h : wpList P (o :: l).toArray (fun e a' w' => Q e a' cs' w') l (a.put o.dst v) w) : (Code.region id (o :: l).toArray false).wpS P Q a cs w := by
  intro b k hb hro
  have ho : ((o :: l).toArray)[0]? = some o := by simp
  have hw : Region.wanted o (yielded (o :: l).toArray a.tmps) = true := by simp [Region.wanted, hgd]
  have hl : wpOps P (o :: l).toArray (fun e a' w' => Q e a' cs' w') (List.range' 1 l.length) (a.put o.dst v) w := by
    rw [wpOps_eq_wpList l 1 (fun j => by simp [Nat.add_comm 1 j])]; exact h
  obtain ⟨e, a', w', q, harr⟩ := wp_ops _ _ _ hl b k cs'
  have hg := stepG_op (P := P) (b := b) (k := k) (cs := cs) (w := w) (rest := List.range' 1 l.length) ho hw
  have hfin : (b.at a (.inRegion (o :: l).toArray (0 :: List.range' 1 l.length) :: k)).finish v = b.at (a.put o.dst v) (.inRegion (o :: l).toArray (List.range' 1 l.length) :: k) := by
    rw [Frame.finish_at, ho]; rfl
  have hk : (b.at a (.inRegion (o :: l).toArray (0 :: List.range' 1 l.length) :: k)).kind = .deferred := hb
  have htr := tryRecover_deferred hk cs
  have h1 : step P (lone (b.at a (.code (.region id (o :: l).toArray false) :: k)) cs w) = .next (lone (b.at a (.inRegion (o :: l).toArray (0 :: List.range' 1 l.length) :: k)) cs w) := by
    have := step_region (P := P) (b := b) (a := a) (k := k) (cs := cs) (w := w) (ops := (o :: l).toArray) (id := id)
    rw [this]
    simp only [List.size_toArray, List.length_cons, range_succ_listI]
  refine ⟨e, a', cs', w', q, .of_steps (.head h1 (.one (step_lone_go ?_))) harr⟩
  rw [hg, ← hfin]
  simp only [Frame.at] at htr ⊢
  simp [stepG.apply, hop, htr, hc]
theorem wpS_recover_noneI (hgd : o.guard = none) (hop : (execOp a.eval o).run P w = .ok .recover w) (hc : recoverD cs = none)
    (h : wpList P (o :: l).toArray (fun e a' w' => Q e a' cs w') l (a.put o.dst .nilIface) w) : (Code.region id (o :: l).toArray false).wpS P Q a cs w := by
  intro b k hb hro
  have ho : ((o :: l).toArray)[0]? = some o := by simp
  have hw : Region.wanted o (yielded (o :: l).toArray a.tmps) = true := by simp [Region.wanted, hgd]
  have hl : wpOps P (o :: l).toArray (fun e a' w' => Q e a' cs w') (List.range' 1 l.length) (a.put o.dst .nilIface) w := by
    rw [wpOps_eq_wpList l 1 (fun j => by simp [Nat.add_comm 1 j])]; exact h
  obtain ⟨e, a', w', q, harr⟩ := wp_ops _ _ _ hl b k cs
  have hg := stepG_op (P := P) (b := b) (k := k) (cs := cs) (w := w) (rest := List.range' 1 l.length) ho hw
  have hfin : (b.at a (.inRegion (o :: l).toArray (0 :: List.range' 1 l.length) :: k)).finish .nilIface = b.at (a.put o.dst .nilIface) (.inRegion (o :: l).toArray (List.range' 1 l.length) :: k) := by
    rw [Frame.finish_at, ho]; rfl
  have hk : (b.at a (.inRegion (o :: l).toArray (0 :: List.range' 1 l.length) :: k)).kind = .deferred := hb
  have htr := tryRecover_deferred hk cs
  have h1 : step P (lone (b.at a (.code (.region id (o :: l).toArray false) :: k)) cs w) = .next (lone (b.at a (.inRegion (o :: l).toArray (0 :: List.range' 1 l.length) :: k)) cs w) := by
    have := step_region (P := P) (b := b) (a := a) (k := k) (cs := cs) (w := w) (ops := (o :: l).toArray) (id := id)
    rw [this]
    simp only [List.size_toArray, List.length_cons, range_succ_listI]
  refine ⟨e, a', cs, w', q, .of_steps (.head h1 (.one (step_lone_go ?_))) harr⟩
  rw [hg, ← hfin]
  simp only [Frame.at] at htr ⊢
  simp [stepG.apply, hop, htr, hc]
end


theorem run_assert_faultI (code : Int) (w : World) :
    (Instr.typeAssert (.iface 93 (.agg #[.int .i64 code, .int .i64 0])) 20 93 true).run Try.prog w = .ok (.tuple #[.agg #[.int .i64 code, .int .i64 0], .bool true]) w := by
  kernel_rfl
set_option maxHeartbeats 1600000 in
set_option maxRecDepth 100000 in
theorem step_catch5 (bm bx ba p : Nat) (m0 : Bool) (at0 a0 e0 : Int) (cs : Array Value) (older : List PanicEntry) (w : World) (hm : Blk w bm 4 #[.bool m0]) (hx : Blk w bx 64 #[.pointer (some ⟨p, 0, none⟩)]) (ha : Blk w ba 3 #[.int .i64 at0])
    (hp : Blk w p 91 cs) (h13 : cs[13]? = some (.int .i64 e0)) (h4 : cs[4]? = some (.int .i64 a0)) (code : Int) (hc : code = 5) :
    CallsD Try.prog 60 #[.pointer (some ⟨bm, 0, none⟩), .pointer (some ⟨bx, 0, none⟩), .pointer (some ⟨ba, 0, none⟩)] (.panicking (faultI code :: older)) w fun e u' w' =>
      e = .returned (.tuple #[]) ∧ u' = .panicking ({ faultI code with recovered := true } :: older) ∧ w' = (((w.alloc (.cells #[.int .i64 code, .int .i64 0] 93)).setCell ⟨bm, 0, none⟩ (.bool false)).setCell ⟨p, 13, none⟩ (.int .i64 code)).drew.setCell ⟨p, 4, none⟩ (.int .i64 at0) := by
  have ec : (code == 5) = true := by simp [hc]
  clear hc
  have cm := hm.cell 0
  have cx := hx.cell 0
  have ca := ha.cell 0
  have fm := hm.frozen 0
  have cp := (hp.cell 13).trans h13
  have fp := hp.frozen 13
  have cp4 := (hp.cell 4).trans h4
  have fp4 := hp.frozen 4
  have nmp : bm ≠ p := hm.ne_ hp (by decide)
  have nmx : bm ≠ bx := hm.ne_ hx (by decide)
  have nma : bm ≠ ba := hm.ne_ ha (by decide)
  have nxp : bx ≠ p := hx.ne_ hp (by decide)
  have nap : ba ≠ p := ha.ne_ hp (by decide)
  have lm := hm.lt
  have lx := hx.lt
  have la := ha.lt
  have lp := hp.lt
  refine callsD_of_wpS Try.func60 rfl fun c₀ cs₀ hu => ?_
  have hta := fun w => run_assert_faultI code w
  have hrec : recoverD (c₀ :: cs₀) = some (.iface 93 (.agg #[.int .i64 code, .int .i64 0]), { c₀ with mode := .panicking ({ faultI code with recovered := true } :: older) } :: cs₀) := by simp [recoverD, hu, faultI]
  have HR := Lib.hid hrec
  clear hrec hu hm hx ha hp
  apply wpS_seq
  refine wpS_recover_someI rfl (by simp [go_sem]) HR.out ?_
  clear HR
  generalize hcs : ({ c₀ with mode := .panicking ({ faultI code with recovered := true } :: older) } :: cs₀ : List Frame) = cs'
  have HC := Lib.hid hcs
  clear hcs
  simp only [Try.ntmps60, List.size_toArray, List.length_cons, List.length_nil, Nat.reduceAdd, Nat.reduceSub, Array.replicate_succ, Array.replicate_zero, List.push_toArray, List.append_toArray, List.nil_append, List.cons_append, Act.put]
  go_wp2
  simp only [Exit.thenS]
  refine wpS_of_wp ?_
  go_wp2
  go_region
  all_goals go_wp2
  all_goals exact ⟨rfl, _, HC.out.symm, .tuple #[], by simp [results, Try.results60], rfl, rfl, rfl⟩
set_option maxHeartbeats 1600000 in
set_option maxRecDepth 100000 in
theorem step_catch (bm bx ba p : Nat) (m0 : Bool) (at0 a0 e0 : Int) (cs : Array Value) (older : List PanicEntry) (w : World) (hm : Blk w bm 4 #[.bool m0]) (hx : Blk w bx 64 #[.pointer (some ⟨p, 0, none⟩)]) (ha : Blk w ba 3 #[.int .i64 at0])
    (hp : Blk w p 91 cs) (h13 : cs[13]? = some (.int .i64 e0)) (h4 : cs[4]? = some (.int .i64 a0)) (code : Int) (hc : code ≠ 5) :
    CallsD Try.prog 60 #[.pointer (some ⟨bm, 0, none⟩), .pointer (some ⟨bx, 0, none⟩), .pointer (some ⟨ba, 0, none⟩)] (.panicking (faultI code :: older)) w fun e u' w' =>
      e = .returned (.tuple #[]) ∧ u' = .panicking ({ faultI code with recovered := true } :: older) ∧ w' = (((w.alloc (.cells #[.int .i64 code, .int .i64 0] 93)).setCell ⟨bm, 0, none⟩ (.bool false)).setCell ⟨p, 13, none⟩ (.int .i64 code)).drew := by
  have ec : (code == 5) = false := by rw [beq_eq_false_iff_ne]; exact hc
  have cm := hm.cell 0
  have cx := hx.cell 0
  have ca := ha.cell 0
  have fm := hm.frozen 0
  have cp := (hp.cell 13).trans h13
  have fp := hp.frozen 13
  have cp4 := (hp.cell 4).trans h4
  have fp4 := hp.frozen 4
  have nmp : bm ≠ p := hm.ne_ hp (by decide)
  have nmx : bm ≠ bx := hm.ne_ hx (by decide)
  have nma : bm ≠ ba := hm.ne_ ha (by decide)
  have nxp : bx ≠ p := hx.ne_ hp (by decide)
  have nap : ba ≠ p := ha.ne_ hp (by decide)
  have lm := hm.lt
  have lx := hx.lt
  have la := ha.lt
  have lp := hp.lt
  refine callsD_of_wpS Try.func60 rfl fun c₀ cs₀ hu => ?_
  have hta := fun w => run_assert_faultI code w
  have hrec : recoverD (c₀ :: cs₀) = some (.iface 93 (.agg #[.int .i64 code, .int .i64 0]), { c₀ with mode := .panicking ({ faultI code with recovered := true } :: older) } :: cs₀) := by simp [recoverD, hu, faultI]
  have HR := Lib.hid hrec
  clear hrec hu hm hx ha hp
  apply wpS_seq
  refine wpS_recover_someI rfl (by simp [go_sem]) HR.out ?_
  clear HR
  generalize hcs : ({ c₀ with mode := .panicking ({ faultI code with recovered := true } :: older) } :: cs₀ : List Frame) = cs'
  have HC := Lib.hid hcs
  clear hcs
  simp only [Try.ntmps60, List.size_toArray, List.length_cons, List.length_nil, Nat.reduceAdd, Nat.reduceSub, Array.replicate_succ, Array.replicate_zero, List.push_toArray, List.append_toArray, List.nil_append, List.cons_append, Act.put]
  go_wp2
  simp only [Exit.thenS]
  refine wpS_of_wp ?_
  go_wp2
  go_region
  all_goals go_wp2
  all_goals exact ⟨rfl, _, HC.out.symm, .tuple #[], by simp [results, Try.results60], rfl, rfl, rfl⟩
set_option maxHeartbeats 1600000 in
set_option maxRecDepth 100000 in
theorem step_idle (p0 p1 p2 : Value) (w : World) :
    CallsD Try.prog 60 #[p0, p1, p2] .returning w fun e u' w' => e = .returned (.tuple #[]) ∧ u' = .returning ∧ w' = w.alloc (.cells #[.int .i64 0, .int .i64 0] 93) := by
  refine callsD_of_wpS Try.func60 rfl fun c₀ cs hu => ?_
  have hta : ∀ w, (Instr.typeAssert .nilIface 20 93 true).run Try.prog w = .ok (.tuple #[.agg #[.int .i64 0, .int .i64 0], .bool false]) w := fun _ => by kernel_rfl
  have hrec : recoverD (c₀ :: cs) = none := by simp [recoverD, hu]
  have HR := Lib.hid hrec
  have HU := Lib.hid hu
  clear hrec hu
  apply wpS_seq
  refine wpS_recover_noneI rfl (by simp [go_sem]) HR.out ?_
  clear HR
  simp only [Try.ntmps60, List.size_toArray, List.length_cons, List.length_nil, Nat.reduceAdd, Nat.reduceSub, Array.replicate_succ, Array.replicate_zero, List.push_toArray, List.append_toArray, List.nil_append, List.cons_append, Act.put]
  go_wp2
  simp only [Exit.thenS]
  refine wpS_of_wp ?_
  go_wp2
  refine ⟨rfl, _, ?_, .tuple #[], by simp [results, Try.results60], rfl, rfl, rfl⟩
  have := HU.out
  cases c₀
  simp_all
end Go.Proofs.Yteknaaijlkenkaa
namespace Go.Proofs.Yteknaaijlkenkaa
open Go.RowKit
attribute [local go_sem] max2i min2i max2t min2t

theorem InfAt.far {S : Nat → Prop} {w w' : World} {B p pw r : Nat} {A : Option Addr} {c : Nat} {vo v9 v10 : Value} {used err : Int} {x : I} (h : InfAt w B p pw r A c vo v9 v10 used err x) (hs : Same S w w')
    (hS : ∀ k, S k → k < w.heap.size → ∃ t cs, Blk w k t cs ∧ t ≠ 91 ∧ t ≠ 105 ∧ t ≠ 5 ∧ t ≠ 130 ∧ t ≠ 134) (hA : ∀ ad, A = some ad → ¬ S ad.block) : InfAt w' B p pw r A c vo v9 v10 used err x := by
  obtain ⟨cr, hrb⟩ := h.win.rblk
  obtain ⟨hpl, hrl⟩ := h.win.lts
  have e1 : ¬ S p := fun e => by
    obtain ⟨t, cs, hb, n1, _⟩ := hS p e (Blk.lt h.cur.pb)
    exact Blk.ne_ hb h.cur.pb n1 rfl
  have e2 : ¬ S pw := fun e => by
    obtain ⟨t, cs, hb, _, n1, _⟩ := hS pw e hpl
    exact Blk.ne_ hb h.win.pblk n1 rfl
  have e3 : ¬ S r := fun e => by
    obtain ⟨t, cs, hb, _, _, n1, _⟩ := hS r e hrl
    exact Blk.ne_ hb hrb n1 rfl
  have e4 : ∀ g, vo.ownBlock = some g → ¬ S g := fun g hg e => by
    obtain ⟨t, cs, hb, _, _, n1, _⟩ := hS g e (h.out.lt g hg)
    exact h.out.blk_ne hb (fun c => n1 c.symm) hg
  exact ⟨h.cur.kept hs e1 hA, h.win.kept hs e2 e3, h.out.kept hs e4, h.tabs.keep hs (fun k e hk => by
    obtain ⟨t, cs, hb, _, _, _, n1, n2⟩ := hS k e hk
    exact ⟨t, cs, hb, n1, n2⟩), h.bp, h.bw, h.br, Nat.le_trans h.bB hs.size, h.voR, h.apart, h.most, h.total, h.outl⟩
/-- Behind the deferred function that has caught a fault. -/
theorem InfAt.caught {w : World} {B p pw r : Nat} {A : Option Addr} {c : Nat} {vo v9 v10 : Value} {used err : Int} {x : I} (h : InfAt w B p pw r A c vo v9 v10 used err x) {bm : Nat} {m0 : Bool} (hm : Blk w bm 4 #[.bool m0]) (hbm : B ≤ bm) (hA : ∀ ad, A = some ad → ad.block ≠ bm) (k : Int) :
    InfAt ((((w.alloc (.cells #[.int .i64 k, .int .i64 0] 93)).setCell ⟨bm, 0, none⟩ (.bool false)).setCell ⟨p, 13, none⟩ (.int .i64 k)).drew) B p pw r A c vo v9 v10 used k x ∧
      Blk ((((w.alloc (.cells #[.int .i64 k, .int .i64 0] 93)).setCell ⟨bm, 0, none⟩ (.bool false)).setCell ⟨p, 13, none⟩ (.int .i64 k)).drew) bm 4 #[.bool false] ∧
      Below B w ((((w.alloc (.cells #[.int .i64 k, .int .i64 0] 93)).setCell ⟨bm, 0, none⟩ (.bool false)).setCell ⟨p, 13, none⟩ (.int .i64 k)).drew) := by
  have hp := h.cur.pb
  have nmp : bm ≠ p := hm.ne_ hp (by decide)
  have hm1 : Blk (w.alloc (.cells #[.int .i64 k, .int .i64 0] 93)) bm 4 #[.bool m0] := hm.alloc _
  have h1 := h.same ((Same.refl (S := fun _ => False) w).alloc (.cells #[.int .i64 k, .int .i64 0] 93))
  have hs2 : Same (fun g => g = bm) (w.alloc (.cells #[.int .i64 k, .int .i64 0] 93)) ((w.alloc (.cells #[.int .i64 k, .int .i64 0] 93)).setCell ⟨bm, 0, none⟩ (.bool false)) := Same.set_ (S := fun g => g = bm) (p := ⟨bm, 0, none⟩) (Same.refl _) (fun _ => rfl) _
  have h2 := h1.far hs2 (fun q e _ => ⟨_, _, (show q = bm from e) ▸ hm1, by decide, by decide, by decide, by decide, by decide⟩) (fun ad e => hA ad e)
  have hs3 : Same (fun g => g = p) ((w.alloc (.cells #[.int .i64 k, .int .i64 0] 93)).setCell ⟨bm, 0, none⟩ (.bool false)) (((w.alloc (.cells #[.int .i64 k, .int .i64 0] 93)).setCell ⟨bm, 0, none⟩ (.bool false)).setCell ⟨p, 13, none⟩ (.int .i64 k)) := Same.set_ (S := fun g => g = p) (p := ⟨p, 13, none⟩) (Same.refl _) (fun _ => rfl) _
  have b3 : Blk (((w.alloc (.cells #[.int .i64 k, .int .i64 0] 93)).setCell ⟨bm, 0, none⟩ (.bool false)).setCell ⟨p, 13, none⟩ (.int .i64 k)) p 91 (infC x pw A c vo v9 v10 used k) := h2.cur.pb.set_ 13 (.int .i64 k)
  have h3 := h2.onP (y := x) hs3 ⟨b3, rfl, rfl, h2.cur.row.same hs3 (fun ad e => h2.cur.ne ad e), h2.cur.ne, h2.cur.le, h2.cur.hi, fun ad e => Nat.lt_of_lt_of_le (h2.cur.lt ad e) hs3.size⟩ rfl rfl rfl rfl (h2.tabsP hs3)
  have m2 : Blk ((w.alloc (.cells #[.int .i64 k, .int .i64 0] 93)).setCell ⟨bm, 0, none⟩ (.bool false)) bm 4 #[.bool false] := by have := hm1.set_ 0 (.bool false); simpa using this
  have m3 : Blk (((w.alloc (.cells #[.int .i64 k, .int .i64 0] 93)).setCell ⟨bm, 0, none⟩ (.bool false)).setCell ⟨p, 13, none⟩ (.int .i64 k)) bm 4 #[.bool false] := m2.far nmp _
  refine ⟨h3.same (Same.refl (S := fun _ => False) _).drew, m3, ?_⟩
  exact (below_set (below_set ((Below.refl B w).alloc h.bB (.cells #[.int .i64 k, .int .i64 0] 93)) (p := ⟨bm, 0, none⟩) hbm (.bool false)) (p := ⟨p, 13, none⟩) h.bp (.int .i64 k)).drew
/-- What one step leaves of the machine. -/
def StepDone (w : World) (B p pw r : Nat) (A : Option Addr) (c : Nat) (used err : Int) (x : I) (res : G I) (e : Ending) (w' : World) : Prop :=
  match res with
    | .ok y => e = .returned (.bool true) ∧ ∃ vo v9 v10, InfAt w' B p pw r A c vo v9 v10 used err y ∧ Below B w w'
    | .bad k => e = .returned (.bool false) ∧ ∃ (vo v9 v10 : Value) (a : Nat), InfAt w' B p pw r A c vo v9 v10 used k { x with at_ := a } ∧ (k = 5 → a = x.at_) ∧ Below B w w'
set_option maxHeartbeats 4000000 in
set_option maxRecDepth 100000 in
theorem inf_step0 {w : World} {B p pw r : Nat} {A : Option Addr} {c : Nat} {vo v9 v10 : Value} {used err : Int} {x : I} (h : InfAt w B p pw r A c vo v9 v10 used err x) (hst : x.st = 0) :
    Calls Try.prog 58 #[.pointer (some ⟨p, 0, none⟩)] w fun e w' => StepDone w B p pw r A c used err x (blockG x) e w' := by
  have hmf : ∀ (fn : Fn) (first cap : Array Value) (w : World), (Instr.makeFunc fn first cap).run Try.prog w = .ok (.func fn first cap) w := fun _ _ _ _ => rfl
  have C0 := fun (W : World) (hI : InfAt W B p pw r A c vo v9 v10 used err x) => inf_block hI
  generalize blockG x = res at *
  have hs3 := (((Same.refl (S := fun _ => False) w).alloc (.cells #[.pointer (some ⟨p, 0, none⟩)] 64)).alloc (.cells #[.bool false] 4)).alloc (.cells #[.int .i64 x.at_] 3)
  have I2 := h.same (((Same.refl (S := fun _ => False) w).alloc (.cells #[.pointer (some ⟨p, 0, none⟩)] 64)).alloc (.cells #[.bool false] 4))
  have I3 := h.same hs3
  have hB3 := (((Below.refl B w).alloc h.bB (.cells #[.pointer (some ⟨p, 0, none⟩)] 64)).alloc (by have := h.bB; simp; omega) (.cells #[.bool false] 4)).alloc (by have := h.bB; simp; omega) (.cells #[.int .i64 x.at_] 3)
  have hBx := ((Blk.new w 64 #[.pointer (some ⟨p, 0, none⟩)]).alloc (.cells #[.bool false] 4)).alloc (.cells #[.int .i64 x.at_] 3)
  have hBm := (Blk.new (w.alloc (.cells #[.pointer (some ⟨p, 0, none⟩)] 64)) 4 #[.bool false]).alloc (.cells #[.int .i64 x.at_] 3)
  have hBa := Blk.new ((w.alloc (.cells #[.pointer (some ⟨p, 0, none⟩)] 64)).alloc (.cells #[.bool false] 4)) 3 #[.int .i64 x.at_]
  rw [World.size_alloc] at hBm
  rw [World.size_alloc, World.size_alloc] at hBa
  have c4 := I2.cur.c4
  have c6 : (((w.alloc (.cells #[.pointer (some ⟨p, 0, none⟩)] 64)).alloc (.cells #[.bool false] 4)).alloc (.cells #[.int .i64 x.at_] 3)).cell? ⟨p, 6, none⟩ = some (.int .i64 x.st) := I3.cur.pb.cell 6
  rw [hst] at c6
  have x0 := hBx.cell 0
  have CC := (C0 _ I3)
  go_enter_defers Try.func58, Try.ntmps58
  go_wp2_with fail
  refine CC.mono ?_
  rintro e w4 hp4
  have hAl : ∀ ad, A = some ad → ad.block < w.heap.size := h.cur.lt
  have hpl := Blk.lt h.cur.pb
  obtain ⟨hwl, hrl⟩ := h.win.lts
  have hol := h.out.lt
  have hB0 := h.bB
  have hMn : ∀ k, w.heap.size ≤ k → ¬ Mine p pw r vo k := fun k hk e => by
    rcases e with e | e | e | e
    · omega
    · omega
    · omega
    · have := hol k e; omega
  clear CC c4 c6 x0 I2 hs3
  generalize (((w.alloc (.cells #[.pointer (some ⟨p, 0, none⟩)] 64)).alloc (.cells #[.bool false] 4)).alloc (.cells #[.int .i64 x.at_] 3)) = W3 at *
  cases res with
  | ok y =>
    obtain ⟨rfl, vo4, v94, v104, I4, hs4⟩ : e = .returned (.tuple #[]) ∧ ∃ vo' v9' v10', InfAt w4 B p pw r A c vo' v9' v10' used err y ∧ Same (Mine p pw r vo) W3 w4 := hp4
    have hBm4 := hBm.same hs4 (hMn _ (by omega))
    have cm := hBm4.cell 0
    have fm := hBm4.frozen 0
    have hB4 := hB3.trans (I3.below hs4)
    have hs5 : Same (fun g => g = w.heap.size + 1) w4 (w4.setCell ⟨w.heap.size + 1, 0, none⟩ (.bool true)) := Same.set_ (S := fun g => g = w.heap.size + 1) (p := ⟨w.heap.size + 1, 0, none⟩) (Same.refl w4) (fun _ => rfl) _
    have I5 := I4.far hs5 (fun q e _ => ⟨_, _, (show q = w.heap.size + 1 from e) ▸ hBm4, by decide, by decide, by decide, by decide, by decide⟩) (fun ad e c => by have := hAl ad e; have c : ad.block = w.heap.size + 1 := c; omega)
    have hBm5 : Blk (w4.setCell ⟨w.heap.size + 1, 0, none⟩ (.bool true)) (w.heap.size + 1) 4 #[.bool true] := by have := hBm4.set_ 0 (.bool true); simpa using this
    have hB5 := below_set hB4 (p := ⟨w.heap.size + 1, 0, none⟩) (by simp only; omega) (.bool true)
    have I6 := Lib.hid (I5.same ((Same.refl (S := fun _ => False) _).alloc (.cells #[.int .i64 0, .int .i64 0] 93)))
    have hB6 := Lib.hid (hB5.alloc (by have := hB5.size; have := h.bB; omega) (.cells #[.int .i64 0, .int .i64 0] 93))
    have r0 := (hBm5.alloc (.cells #[.int .i64 0, .int .i64 0] 93)).cell 0
    clear I4 I5 I3 hs4 hs5 hB3 hB4 hB5 hBx hBa hBm hBm4 hBm5
    go_wp2_with fail
    refine leaves_cons (f := 60) (args := #[.pointer (some ⟨w.heap.size + 1, 0, none⟩), .pointer (some ⟨w.heap.size, 0, none⟩), .pointer (some ⟨w.heap.size + 1 + 1, 0, none⟩)]) (by simp) (by simp [go_sem]) ?_
    refine (step_idle _ _ _ _).mono ?_
    rintro e u' w7 ⟨rfl, rfl, rfl⟩
    simp only [settle]
    refine ⟨.bool true, ?_, rfl, _, _, _, I6.out, hB6.out⟩
    simp [results, Try.results58, go_sem, r0]
  | bad k =>
    obtain ⟨rfl, a, I4, hs4⟩ : e = .panicked [faultI k] ∧ ∃ a, InfAt w4 B p pw r A c vo v9 v10 used err { x with at_ := a } ∧ Same (Mine p pw r vo) W3 w4 := hp4
    have hBm4 := hBm.same hs4 (hMn _ (by omega))
    have hBx4 := hBx.same hs4 (hMn _ (by omega))
    have hBa4 := hBa.same hs4 (hMn _ (by omega))
    have hB4 := hB3.trans (I3.below hs4)
    have m2 : Blk ((w4.alloc (.cells #[.int .i64 (k : Int), .int .i64 0] 93)).setCell ⟨w.heap.size + 1, 0, none⟩ (.bool false)) (w.heap.size + 1) 4 #[.bool false] := by have := (hBm4.alloc (.cells #[.int .i64 (k : Int), .int .i64 0] 93)).set_ 0 (.bool false); simpa using this
    have r1 := m2.cell 0
    obtain ⟨I5, m5, hB5⟩ := I4.caught hBm4 (by omega) (fun ad e => by have := hAl ad e; omega) k
    have hB45 := hB4.trans hB5
    by_cases hk5 : k = 5
    · have hcb := h.cur.le
      have hs6 := Same.set_ (S := fun g => g = p) (p := ⟨p, 4, none⟩) (Same.refl ((((w4.alloc (.cells #[.int .i64 (k : Int), .int .i64 0] 93)).setCell ⟨w.heap.size + 1, 0, none⟩ (.bool false)).setCell ⟨p, 13, none⟩ (.int .i64 (k : Int))).drew)) (fun _ => rfl) (.int .i64 x.at_)
      have I6 := Lib.hid (I5.move hs6 (I5.cur.move (m := x.at_) hcb))
      have nmp : w.heap.size + 1 ≠ p := by omega
      have m6 := m5.far (p := ⟨p, 4, none⟩) nmp (.int .i64 x.at_)
      have r0 := m6.cell 0
      have hB6 := Lib.hid (below_set hB45 (p := ⟨p, 4, none⟩) h.bp (.int .i64 x.at_))
      have CT := Lib.hid (step_catch5 (w.heap.size + 1) w.heap.size (w.heap.size + 1 + 1) p false x.at_ a err _ [] w4 hBm4 hBx4 hBa4 I4.cur.pb rfl rfl k (by omega))
      clear I4 I5 I3 hs4 hs6 hB3 hB4 hB5 hB45 hBx hBa hBm hBm4 hBx4 hBa4 m5 m6 hk5
      go_wp2_with fail
      refine leaves_cons (f := 60) (args := #[.pointer (some ⟨w.heap.size + 1, 0, none⟩), .pointer (some ⟨w.heap.size, 0, none⟩), .pointer (some ⟨w.heap.size + 1 + 1, 0, none⟩)]) (by simp) (by simp [go_sem]) ?_
      refine CT.out.mono ?_
      rintro e u' w7 ⟨rfl, rfl, rfl⟩
      simp only [settle, List.dropWhile_nil]
      refine ⟨.bool false, ?_, rfl, _, _, _, x.at_, I6.out, fun _ => rfl, hB6.out⟩
      simp [results, Try.results58, go_sem, r0, r1]
    · have r0 := m5.cell 0
      have I6 := Lib.hid I5
      have hB6 := Lib.hid hB45
      have CT := Lib.hid (step_catch (w.heap.size + 1) w.heap.size (w.heap.size + 1 + 1) p false x.at_ a err _ [] w4 hBm4 hBx4 hBa4 I4.cur.pb rfl rfl k (by omega))
      clear I4 I5 I3 hs4 hB3 hB4 hB5 hB45 hBx hBa hBm hBm4 hBx4 hBa4 m5
      go_wp2_with fail
      refine leaves_cons (f := 60) (args := #[.pointer (some ⟨w.heap.size + 1, 0, none⟩), .pointer (some ⟨w.heap.size, 0, none⟩), .pointer (some ⟨w.heap.size + 1 + 1, 0, none⟩)]) (by simp) (by simp [go_sem]) ?_
      refine CT.out.mono ?_
      rintro e u' w7 ⟨rfl, rfl, rfl⟩
      simp only [settle, List.dropWhile_nil]
      refine ⟨.bool false, ?_, rfl, _, _, _, a, I6.out, fun c => absurd c hk5, hB6.out⟩
      simp [results, Try.results58, go_sem, r0, r1]
set_option maxHeartbeats 4000000 in
set_option maxRecDepth 100000 in
theorem inf_step1 {w : World} {B p pw r : Nat} {A : Option Addr} {c : Nat} {vo v9 v10 : Value} {used err : Int} {x : I} (h : InfAt w B p pw r A c vo v9 v10 used err x) (hst : x.st = 1) (hraw : x.raw ≤ 65535) :
    Calls Try.prog 58 #[.pointer (some ⟨p, 0, none⟩)] w fun e w' => StepDone w B p pw r A c used err x (rawG x) e w' := by
  have hmf : ∀ (fn : Fn) (first cap : Array Value) (w : World), (Instr.makeFunc fn first cap).run Try.prog w = .ok (.func fn first cap) w := fun _ _ _ _ => rfl
  have C0 := fun (W : World) (hI : InfAt W B p pw r A c vo v9 v10 used err x) => inf_bytes hI hst hraw
  generalize rawG x = res at *
  have hs3 := (((Same.refl (S := fun _ => False) w).alloc (.cells #[.pointer (some ⟨p, 0, none⟩)] 64)).alloc (.cells #[.bool false] 4)).alloc (.cells #[.int .i64 x.at_] 3)
  have I2 := h.same (((Same.refl (S := fun _ => False) w).alloc (.cells #[.pointer (some ⟨p, 0, none⟩)] 64)).alloc (.cells #[.bool false] 4))
  have I3 := h.same hs3
  have hB3 := (((Below.refl B w).alloc h.bB (.cells #[.pointer (some ⟨p, 0, none⟩)] 64)).alloc (by have := h.bB; simp; omega) (.cells #[.bool false] 4)).alloc (by have := h.bB; simp; omega) (.cells #[.int .i64 x.at_] 3)
  have hBx := ((Blk.new w 64 #[.pointer (some ⟨p, 0, none⟩)]).alloc (.cells #[.bool false] 4)).alloc (.cells #[.int .i64 x.at_] 3)
  have hBm := (Blk.new (w.alloc (.cells #[.pointer (some ⟨p, 0, none⟩)] 64)) 4 #[.bool false]).alloc (.cells #[.int .i64 x.at_] 3)
  have hBa := Blk.new ((w.alloc (.cells #[.pointer (some ⟨p, 0, none⟩)] 64)).alloc (.cells #[.bool false] 4)) 3 #[.int .i64 x.at_]
  rw [World.size_alloc] at hBm
  rw [World.size_alloc, World.size_alloc] at hBa
  have c4 := I2.cur.c4
  have c6 : (((w.alloc (.cells #[.pointer (some ⟨p, 0, none⟩)] 64)).alloc (.cells #[.bool false] 4)).alloc (.cells #[.int .i64 x.at_] 3)).cell? ⟨p, 6, none⟩ = some (.int .i64 x.st) := I3.cur.pb.cell 6
  rw [hst] at c6
  have x0 := hBx.cell 0
  have CC := (C0 _ I3)
  go_enter_defers Try.func58, Try.ntmps58
  go_wp2_with fail
  refine CC.mono ?_
  rintro e w4 hp4
  have hAl : ∀ ad, A = some ad → ad.block < w.heap.size := h.cur.lt
  have hpl := Blk.lt h.cur.pb
  obtain ⟨hwl, hrl⟩ := h.win.lts
  have hol := h.out.lt
  have hB0 := h.bB
  have hMn : ∀ k, w.heap.size ≤ k → ¬ Mine p pw r vo k := fun k hk e => by
    rcases e with e | e | e | e
    · omega
    · omega
    · omega
    · have := hol k e; omega
  clear CC c4 c6 x0 I2 hs3
  generalize (((w.alloc (.cells #[.pointer (some ⟨p, 0, none⟩)] 64)).alloc (.cells #[.bool false] 4)).alloc (.cells #[.int .i64 x.at_] 3)) = W3 at *
  cases res with
  | ok y =>
    obtain ⟨rfl, vo4, v94, v104, I4, hs4⟩ : e = .returned (.tuple #[]) ∧ ∃ vo' v9' v10', InfAt w4 B p pw r A c vo' v9' v10' used err y ∧ Same (Mine p pw r vo) W3 w4 := hp4
    have hBm4 := hBm.same hs4 (hMn _ (by omega))
    have cm := hBm4.cell 0
    have fm := hBm4.frozen 0
    have hB4 := hB3.trans (I3.below hs4)
    have hs5 : Same (fun g => g = w.heap.size + 1) w4 (w4.setCell ⟨w.heap.size + 1, 0, none⟩ (.bool true)) := Same.set_ (S := fun g => g = w.heap.size + 1) (p := ⟨w.heap.size + 1, 0, none⟩) (Same.refl w4) (fun _ => rfl) _
    have I5 := I4.far hs5 (fun q e _ => ⟨_, _, (show q = w.heap.size + 1 from e) ▸ hBm4, by decide, by decide, by decide, by decide, by decide⟩) (fun ad e c => by have := hAl ad e; have c : ad.block = w.heap.size + 1 := c; omega)
    have hBm5 : Blk (w4.setCell ⟨w.heap.size + 1, 0, none⟩ (.bool true)) (w.heap.size + 1) 4 #[.bool true] := by have := hBm4.set_ 0 (.bool true); simpa using this
    have hB5 := below_set hB4 (p := ⟨w.heap.size + 1, 0, none⟩) (by simp only; omega) (.bool true)
    have I6 := Lib.hid (I5.same ((Same.refl (S := fun _ => False) _).alloc (.cells #[.int .i64 0, .int .i64 0] 93)))
    have hB6 := Lib.hid (hB5.alloc (by have := hB5.size; have := h.bB; omega) (.cells #[.int .i64 0, .int .i64 0] 93))
    have r0 := (hBm5.alloc (.cells #[.int .i64 0, .int .i64 0] 93)).cell 0
    clear I4 I5 I3 hs4 hs5 hB3 hB4 hB5 hBx hBa hBm hBm4 hBm5
    go_wp2_with fail
    refine leaves_cons (f := 60) (args := #[.pointer (some ⟨w.heap.size + 1, 0, none⟩), .pointer (some ⟨w.heap.size, 0, none⟩), .pointer (some ⟨w.heap.size + 1 + 1, 0, none⟩)]) (by simp) (by simp [go_sem]) ?_
    refine (step_idle _ _ _ _).mono ?_
    rintro e u' w7 ⟨rfl, rfl, rfl⟩
    simp only [settle]
    refine ⟨.bool true, ?_, rfl, _, _, _, I6.out, hB6.out⟩
    simp [results, Try.results58, go_sem, r0]
  | bad k =>
    obtain ⟨rfl, a, I4, hs4⟩ : e = .panicked [faultI k] ∧ ∃ a, InfAt w4 B p pw r A c vo v9 v10 used err { x with at_ := a } ∧ Same (Mine p pw r vo) W3 w4 := hp4
    have hBm4 := hBm.same hs4 (hMn _ (by omega))
    have hBx4 := hBx.same hs4 (hMn _ (by omega))
    have hBa4 := hBa.same hs4 (hMn _ (by omega))
    have hB4 := hB3.trans (I3.below hs4)
    have m2 : Blk ((w4.alloc (.cells #[.int .i64 (k : Int), .int .i64 0] 93)).setCell ⟨w.heap.size + 1, 0, none⟩ (.bool false)) (w.heap.size + 1) 4 #[.bool false] := by have := (hBm4.alloc (.cells #[.int .i64 (k : Int), .int .i64 0] 93)).set_ 0 (.bool false); simpa using this
    have r1 := m2.cell 0
    obtain ⟨I5, m5, hB5⟩ := I4.caught hBm4 (by omega) (fun ad e => by have := hAl ad e; omega) k
    have hB45 := hB4.trans hB5
    by_cases hk5 : k = 5
    · have hcb := h.cur.le
      have hs6 := Same.set_ (S := fun g => g = p) (p := ⟨p, 4, none⟩) (Same.refl ((((w4.alloc (.cells #[.int .i64 (k : Int), .int .i64 0] 93)).setCell ⟨w.heap.size + 1, 0, none⟩ (.bool false)).setCell ⟨p, 13, none⟩ (.int .i64 (k : Int))).drew)) (fun _ => rfl) (.int .i64 x.at_)
      have I6 := Lib.hid (I5.move hs6 (I5.cur.move (m := x.at_) hcb))
      have nmp : w.heap.size + 1 ≠ p := by omega
      have m6 := m5.far (p := ⟨p, 4, none⟩) nmp (.int .i64 x.at_)
      have r0 := m6.cell 0
      have hB6 := Lib.hid (below_set hB45 (p := ⟨p, 4, none⟩) h.bp (.int .i64 x.at_))
      have CT := Lib.hid (step_catch5 (w.heap.size + 1) w.heap.size (w.heap.size + 1 + 1) p false x.at_ a err _ [] w4 hBm4 hBx4 hBa4 I4.cur.pb rfl rfl k (by omega))
      clear I4 I5 I3 hs4 hs6 hB3 hB4 hB5 hB45 hBx hBa hBm hBm4 hBx4 hBa4 m5 m6 hk5
      go_wp2_with fail
      refine leaves_cons (f := 60) (args := #[.pointer (some ⟨w.heap.size + 1, 0, none⟩), .pointer (some ⟨w.heap.size, 0, none⟩), .pointer (some ⟨w.heap.size + 1 + 1, 0, none⟩)]) (by simp) (by simp [go_sem]) ?_
      refine CT.out.mono ?_
      rintro e u' w7 ⟨rfl, rfl, rfl⟩
      simp only [settle, List.dropWhile_nil]
      refine ⟨.bool false, ?_, rfl, _, _, _, x.at_, I6.out, fun _ => rfl, hB6.out⟩
      simp [results, Try.results58, go_sem, r0, r1]
    · have r0 := m5.cell 0
      have I6 := Lib.hid I5
      have hB6 := Lib.hid hB45
      have CT := Lib.hid (step_catch (w.heap.size + 1) w.heap.size (w.heap.size + 1 + 1) p false x.at_ a err _ [] w4 hBm4 hBx4 hBa4 I4.cur.pb rfl rfl k (by omega))
      clear I4 I5 I3 hs4 hB3 hB4 hB5 hB45 hBx hBa hBm hBm4 hBx4 hBa4 m5
      go_wp2_with fail
      refine leaves_cons (f := 60) (args := #[.pointer (some ⟨w.heap.size + 1, 0, none⟩), .pointer (some ⟨w.heap.size, 0, none⟩), .pointer (some ⟨w.heap.size + 1 + 1, 0, none⟩)]) (by simp) (by simp [go_sem]) ?_
      refine CT.out.mono ?_
      rintro e u' w7 ⟨rfl, rfl, rfl⟩
      simp only [settle, List.dropWhile_nil]
      refine ⟨.bool false, ?_, rfl, _, _, _, a, I6.out, fun c => absurd c hk5, hB6.out⟩
      simp [results, Try.results58, go_sem, r0, r1]
set_option maxHeartbeats 4000000 in
set_option maxRecDepth 100000 in
theorem inf_step2 {w : World} {B p pw r : Nat} {A : Option Addr} {c : Nat} {vo v9 v10 : Value} {used err : Int} {x : I} (h : InfAt w B p pw r A c vo v9 v10 used err x) (hst : x.st = 2) :
    Calls Try.prog 58 #[.pointer (some ⟨p, 0, none⟩)] w fun e w' => StepDone w B p pw r A c used err x (tokenG x) e w' := by
  have hmf : ∀ (fn : Fn) (first cap : Array Value) (w : World), (Instr.makeFunc fn first cap).run Try.prog w = .ok (.func fn first cap) w := fun _ _ _ _ => rfl
  have C0 := fun (W : World) (hI : InfAt W B p pw r A c vo v9 v10 used err x) => inf_token hI hst
  generalize tokenG x = res at *
  have hs3 := (((Same.refl (S := fun _ => False) w).alloc (.cells #[.pointer (some ⟨p, 0, none⟩)] 64)).alloc (.cells #[.bool false] 4)).alloc (.cells #[.int .i64 x.at_] 3)
  have I2 := h.same (((Same.refl (S := fun _ => False) w).alloc (.cells #[.pointer (some ⟨p, 0, none⟩)] 64)).alloc (.cells #[.bool false] 4))
  have I3 := h.same hs3
  have hB3 := (((Below.refl B w).alloc h.bB (.cells #[.pointer (some ⟨p, 0, none⟩)] 64)).alloc (by have := h.bB; simp; omega) (.cells #[.bool false] 4)).alloc (by have := h.bB; simp; omega) (.cells #[.int .i64 x.at_] 3)
  have hBx := ((Blk.new w 64 #[.pointer (some ⟨p, 0, none⟩)]).alloc (.cells #[.bool false] 4)).alloc (.cells #[.int .i64 x.at_] 3)
  have hBm := (Blk.new (w.alloc (.cells #[.pointer (some ⟨p, 0, none⟩)] 64)) 4 #[.bool false]).alloc (.cells #[.int .i64 x.at_] 3)
  have hBa := Blk.new ((w.alloc (.cells #[.pointer (some ⟨p, 0, none⟩)] 64)).alloc (.cells #[.bool false] 4)) 3 #[.int .i64 x.at_]
  rw [World.size_alloc] at hBm
  rw [World.size_alloc, World.size_alloc] at hBa
  have c4 := I2.cur.c4
  have c6 : (((w.alloc (.cells #[.pointer (some ⟨p, 0, none⟩)] 64)).alloc (.cells #[.bool false] 4)).alloc (.cells #[.int .i64 x.at_] 3)).cell? ⟨p, 6, none⟩ = some (.int .i64 x.st) := I3.cur.pb.cell 6
  rw [hst] at c6
  have x0 := hBx.cell 0
  have CC := (C0 _ I3)
  go_enter_defers Try.func58, Try.ntmps58
  go_wp2_with fail
  refine CC.mono ?_
  rintro e w4 hp4
  have hAl : ∀ ad, A = some ad → ad.block < w.heap.size := h.cur.lt
  have hpl := Blk.lt h.cur.pb
  obtain ⟨hwl, hrl⟩ := h.win.lts
  have hol := h.out.lt
  have hB0 := h.bB
  have hMn : ∀ k, w.heap.size ≤ k → ¬ Mine p pw r vo k := fun k hk e => by
    rcases e with e | e | e | e
    · omega
    · omega
    · omega
    · have := hol k e; omega
  clear CC c4 c6 x0 I2 hs3
  generalize (((w.alloc (.cells #[.pointer (some ⟨p, 0, none⟩)] 64)).alloc (.cells #[.bool false] 4)).alloc (.cells #[.int .i64 x.at_] 3)) = W3 at *
  cases res with
  | ok y =>
    obtain ⟨rfl, vo4, v94, v104, I4, hs4⟩ : e = .returned (.tuple #[]) ∧ ∃ vo' v9' v10', InfAt w4 B p pw r A c vo' v9' v10' used err y ∧ Same (Mine p pw r vo) W3 w4 := hp4
    have hBm4 := hBm.same hs4 (hMn _ (by omega))
    have cm := hBm4.cell 0
    have fm := hBm4.frozen 0
    have hB4 := hB3.trans (I3.below hs4)
    have hs5 : Same (fun g => g = w.heap.size + 1) w4 (w4.setCell ⟨w.heap.size + 1, 0, none⟩ (.bool true)) := Same.set_ (S := fun g => g = w.heap.size + 1) (p := ⟨w.heap.size + 1, 0, none⟩) (Same.refl w4) (fun _ => rfl) _
    have I5 := I4.far hs5 (fun q e _ => ⟨_, _, (show q = w.heap.size + 1 from e) ▸ hBm4, by decide, by decide, by decide, by decide, by decide⟩) (fun ad e c => by have := hAl ad e; have c : ad.block = w.heap.size + 1 := c; omega)
    have hBm5 : Blk (w4.setCell ⟨w.heap.size + 1, 0, none⟩ (.bool true)) (w.heap.size + 1) 4 #[.bool true] := by have := hBm4.set_ 0 (.bool true); simpa using this
    have hB5 := below_set hB4 (p := ⟨w.heap.size + 1, 0, none⟩) (by simp only; omega) (.bool true)
    have I6 := Lib.hid (I5.same ((Same.refl (S := fun _ => False) _).alloc (.cells #[.int .i64 0, .int .i64 0] 93)))
    have hB6 := Lib.hid (hB5.alloc (by have := hB5.size; have := h.bB; omega) (.cells #[.int .i64 0, .int .i64 0] 93))
    have r0 := (hBm5.alloc (.cells #[.int .i64 0, .int .i64 0] 93)).cell 0
    clear I4 I5 I3 hs4 hs5 hB3 hB4 hB5 hBx hBa hBm hBm4 hBm5
    go_wp2_with fail
    refine leaves_cons (f := 60) (args := #[.pointer (some ⟨w.heap.size + 1, 0, none⟩), .pointer (some ⟨w.heap.size, 0, none⟩), .pointer (some ⟨w.heap.size + 1 + 1, 0, none⟩)]) (by simp) (by simp [go_sem]) ?_
    refine (step_idle _ _ _ _).mono ?_
    rintro e u' w7 ⟨rfl, rfl, rfl⟩
    simp only [settle]
    refine ⟨.bool true, ?_, rfl, _, _, _, I6.out, hB6.out⟩
    simp [results, Try.results58, go_sem, r0]
  | bad k =>
    obtain ⟨rfl, a, I4, hs4⟩ : e = .panicked [faultI k] ∧ ∃ a, InfAt w4 B p pw r A c vo v9 v10 used err { x with at_ := a } ∧ Same (Mine p pw r vo) W3 w4 := hp4
    have hBm4 := hBm.same hs4 (hMn _ (by omega))
    have hBx4 := hBx.same hs4 (hMn _ (by omega))
    have hBa4 := hBa.same hs4 (hMn _ (by omega))
    have hB4 := hB3.trans (I3.below hs4)
    have m2 : Blk ((w4.alloc (.cells #[.int .i64 (k : Int), .int .i64 0] 93)).setCell ⟨w.heap.size + 1, 0, none⟩ (.bool false)) (w.heap.size + 1) 4 #[.bool false] := by have := (hBm4.alloc (.cells #[.int .i64 (k : Int), .int .i64 0] 93)).set_ 0 (.bool false); simpa using this
    have r1 := m2.cell 0
    obtain ⟨I5, m5, hB5⟩ := I4.caught hBm4 (by omega) (fun ad e => by have := hAl ad e; omega) k
    have hB45 := hB4.trans hB5
    by_cases hk5 : k = 5
    · have hcb := h.cur.le
      have hs6 := Same.set_ (S := fun g => g = p) (p := ⟨p, 4, none⟩) (Same.refl ((((w4.alloc (.cells #[.int .i64 (k : Int), .int .i64 0] 93)).setCell ⟨w.heap.size + 1, 0, none⟩ (.bool false)).setCell ⟨p, 13, none⟩ (.int .i64 (k : Int))).drew)) (fun _ => rfl) (.int .i64 x.at_)
      have I6 := Lib.hid (I5.move hs6 (I5.cur.move (m := x.at_) hcb))
      have nmp : w.heap.size + 1 ≠ p := by omega
      have m6 := m5.far (p := ⟨p, 4, none⟩) nmp (.int .i64 x.at_)
      have r0 := m6.cell 0
      have hB6 := Lib.hid (below_set hB45 (p := ⟨p, 4, none⟩) h.bp (.int .i64 x.at_))
      have CT := Lib.hid (step_catch5 (w.heap.size + 1) w.heap.size (w.heap.size + 1 + 1) p false x.at_ a err _ [] w4 hBm4 hBx4 hBa4 I4.cur.pb rfl rfl k (by omega))
      clear I4 I5 I3 hs4 hs6 hB3 hB4 hB5 hB45 hBx hBa hBm hBm4 hBx4 hBa4 m5 m6 hk5
      go_wp2_with fail
      refine leaves_cons (f := 60) (args := #[.pointer (some ⟨w.heap.size + 1, 0, none⟩), .pointer (some ⟨w.heap.size, 0, none⟩), .pointer (some ⟨w.heap.size + 1 + 1, 0, none⟩)]) (by simp) (by simp [go_sem]) ?_
      refine CT.out.mono ?_
      rintro e u' w7 ⟨rfl, rfl, rfl⟩
      simp only [settle, List.dropWhile_nil]
      refine ⟨.bool false, ?_, rfl, _, _, _, x.at_, I6.out, fun _ => rfl, hB6.out⟩
      simp [results, Try.results58, go_sem, r0, r1]
    · have r0 := m5.cell 0
      have I6 := Lib.hid I5
      have hB6 := Lib.hid hB45
      have CT := Lib.hid (step_catch (w.heap.size + 1) w.heap.size (w.heap.size + 1 + 1) p false x.at_ a err _ [] w4 hBm4 hBx4 hBa4 I4.cur.pb rfl rfl k (by omega))
      clear I4 I5 I3 hs4 hB3 hB4 hB5 hB45 hBx hBa hBm hBm4 hBx4 hBa4 m5
      go_wp2_with fail
      refine leaves_cons (f := 60) (args := #[.pointer (some ⟨w.heap.size + 1, 0, none⟩), .pointer (some ⟨w.heap.size, 0, none⟩), .pointer (some ⟨w.heap.size + 1 + 1, 0, none⟩)]) (by simp) (by simp [go_sem]) ?_
      refine CT.out.mono ?_
      rintro e u' w7 ⟨rfl, rfl, rfl⟩
      simp only [settle, List.dropWhile_nil]
      refine ⟨.bool false, ?_, rfl, _, _, _, a, I6.out, fun c => absurd c hk5, hB6.out⟩
      simp [results, Try.results58, go_sem, r0, r1]
set_option maxHeartbeats 4000000 in
set_option maxRecDepth 100000 in
theorem inf_step3 {w : World} {B p pw r : Nat} {A : Option Addr} {c : Nat} {vo v9 v10 : Value} {used err : Int} {x : I} (h : InfAt w B p pw r A c vo v9 v10 used err x) (hst : x.st = 3) :
    Calls Try.prog 58 #[.pointer (some ⟨p, 0, none⟩)] w fun e w' => e = .returned (.bool false) ∧ InfAt w' B p pw r A c vo v9 v10 used 0 x ∧ Below B w w' := by
  have hmf : ∀ (fn : Fn) (first cap : Array Value) (w : World), (Instr.makeFunc fn first cap).run Try.prog w = .ok (.func fn first cap) w := fun _ _ _ _ => rfl
  have hs3 := (((Same.refl (S := fun _ => False) w).alloc (.cells #[.pointer (some ⟨p, 0, none⟩)] 64)).alloc (.cells #[.bool false] 4)).alloc (.cells #[.int .i64 x.at_] 3)
  have I2 := h.same (((Same.refl (S := fun _ => False) w).alloc (.cells #[.pointer (some ⟨p, 0, none⟩)] 64)).alloc (.cells #[.bool false] 4))
  have I3 := h.same hs3
  have hB3 := (((Below.refl B w).alloc h.bB (.cells #[.pointer (some ⟨p, 0, none⟩)] 64)).alloc (by have := h.bB; simp; omega) (.cells #[.bool false] 4)).alloc (by have := h.bB; simp; omega) (.cells #[.int .i64 x.at_] 3)
  have hBx := ((Blk.new w 64 #[.pointer (some ⟨p, 0, none⟩)]).alloc (.cells #[.bool false] 4)).alloc (.cells #[.int .i64 x.at_] 3)
  have hBm := (Blk.new (w.alloc (.cells #[.pointer (some ⟨p, 0, none⟩)] 64)) 4 #[.bool false]).alloc (.cells #[.int .i64 x.at_] 3)
  rw [World.size_alloc] at hBm
  have c4 := I2.cur.c4
  have c6 : (((w.alloc (.cells #[.pointer (some ⟨p, 0, none⟩)] 64)).alloc (.cells #[.bool false] 4)).alloc (.cells #[.int .i64 x.at_] 3)).cell? ⟨p, 6, none⟩ = some (.int .i64 x.st) := I3.cur.pb.cell 6
  rw [hst] at c6
  have x0 := hBx.cell 0
  have c13 : (((w.alloc (.cells #[.pointer (some ⟨p, 0, none⟩)] 64)).alloc (.cells #[.bool false] 4)).alloc (.cells #[.int .i64 x.at_] 3)).cell? ⟨p, 13, none⟩ = some (.int .i64 err) := I3.cur.pb.cell 13
  have f13 := I3.cur.pb.frozen 13
  have cm := hBm.cell 0
  have fm := hBm.frozen 0
  have hpl := Blk.lt h.cur.pb
  have hAl : ∀ ad, A = some ad → ad.block < w.heap.size := h.cur.lt
  have nmp : w.heap.size + 1 ≠ p := by omega
  generalize hW3 : (((w.alloc (.cells #[.pointer (some ⟨p, 0, none⟩)] 64)).alloc (.cells #[.bool false] 4)).alloc (.cells #[.int .i64 x.at_] 3)) = W3 at *
  have hs4 : Same (fun g => g = p) W3 (W3.setCell ⟨p, 13, none⟩ (.int .i64 0)) := Same.set_ (S := fun g => g = p) (p := ⟨p, 13, none⟩) (Same.refl _) (fun _ => rfl) _
  have b4 : Blk (W3.setCell ⟨p, 13, none⟩ (.int .i64 0)) p 91 (infC x pw A c vo v9 v10 used 0) := I3.cur.pb.set_ 13 (.int .i64 0)
  have I4 := I3.onP (y := x) hs4 ⟨b4, rfl, rfl, I3.cur.row.same hs4 (fun ad e => I3.cur.ne ad e), I3.cur.ne, I3.cur.le, I3.cur.hi, fun ad e => Nat.lt_of_lt_of_le (I3.cur.lt ad e) hs4.size⟩ rfl rfl rfl rfl (I3.tabsP hs4)
  have m4 := hBm.far (p := ⟨p, 13, none⟩) nmp (.int .i64 0)
  have cm4 := m4.cell 0
  have fm4 := m4.frozen 0
  have hs5 : Same (fun g => g = w.heap.size + 1) (W3.setCell ⟨p, 13, none⟩ (.int .i64 0)) ((W3.setCell ⟨p, 13, none⟩ (.int .i64 0)).setCell ⟨w.heap.size + 1, 0, none⟩ (.bool false)) := Same.set_ (S := fun g => g = w.heap.size + 1) (p := ⟨w.heap.size + 1, 0, none⟩) (Same.refl _) (fun _ => rfl) _
  have I5 := I4.far hs5 (fun q e _ => ⟨_, _, (show q = w.heap.size + 1 from e) ▸ m4, by decide, by decide, by decide, by decide, by decide⟩) (fun ad e c => by have := hAl ad e; have c : ad.block = w.heap.size + 1 := c; omega)
  have m5 : Blk ((W3.setCell ⟨p, 13, none⟩ (.int .i64 0)).setCell ⟨w.heap.size + 1, 0, none⟩ (.bool false)) (w.heap.size + 1) 4 #[.bool false] := by have := m4.set_ 0 (.bool false); simpa using this
  have hB5 := below_set (below_set hB3 (p := ⟨p, 13, none⟩) h.bp (.int .i64 0)) (p := ⟨w.heap.size + 1, 0, none⟩) (by have := h.bB; simp only; omega) (.bool false)
  have I6 := Lib.hid (I5.same ((Same.refl (S := fun _ => False) _).alloc (.cells #[.int .i64 0, .int .i64 0] 93)))
  have hB6 := Lib.hid (hB5.alloc (by have := hB5.size; have := h.bB; omega) (.cells #[.int .i64 0, .int .i64 0] 93))
  have r0 := (m5.alloc (.cells #[.int .i64 0, .int .i64 0] 93)).cell 0
  clear I4 I5 I3 hs4 hs5 hB3 hB5 hBx hBm m4 m5 b4 I2 hs3
  subst hW3
  go_enter_defers Try.func58, Try.ntmps58
  go_wp2_with fail
  refine leaves_cons (f := 60) (args := #[.pointer (some ⟨w.heap.size + 1, 0, none⟩), .pointer (some ⟨w.heap.size, 0, none⟩), .pointer (some ⟨w.heap.size + 1 + 1, 0, none⟩)]) (by simp) (by simp [go_sem]) ?_
  refine (step_idle _ _ _ _).mono ?_
  rintro e u' w7 ⟨rfl, rfl, rfl⟩
  simp only [settle]
  refine ⟨.bool false, ?_, rfl, I6.out, hB6.out⟩
  simp [results, Try.results58, go_sem, r0]
end Go.Proofs.Yteknaaijlkenkaa
