import Derived.Test.YteknaaijlkenkaaRxC
import Derived.StillTailTactics
namespace Go.Proofs.Yteknaaijlkenkaa
set_option linter.unusedVariables false
set_option linter.unusedSimpArgs false
open Go.RowKit
attribute [local go_sem] max2i min2i max2t min2t

set_option maxHeartbeats 4000000 in
set_option maxRecDepth 100000 in
theorem rx_token {w : World} {B p : Nat} {A : Option Addr} {c : Nat} {vo : Value} {x : I} {code : Int} (h : XAt w B p A c vo x.bs x.at_ x.all x.wide x.size x.most code) (hgl : Good x.lit) (hgd : Good x.dist) (hll : x.lit.length ≤ 300) (hdl : x.dist.length ≤ 32)
    (A1 : Option Addr) (c1 b1 : Nat) (ho1 : Own w b1 9 (.slice A1 x.lit.length c1) (strs x.lit)) (A2 : Option Addr) (c2 b2 : Nat) (ho2 : Own w b2 9 (.slice A2 x.dist.length c2) (strs x.dist)) (hmo : x.all.length ≤ x.most) (hmm : x.most ≤ 1073741824) (hst : x.st = 2) :
    Calls Try.prog 44 #[.pointer (some ⟨p, 0, none⟩), .slice A1 x.lit.length c1, .slice A2 x.dist.length c2] w fun e w' => TokPost w B p A c vo x code (tokenG x) e w' := by
  obtain ⟨res, hres⟩ : ∃ r, tokenG x = r := ⟨_, rfl⟩
  rw [hres]
  rw [tokenG] at hres
  have CL := Lib.hid (rx_look h 0 15 (by omega) (by omega))
  have CF := fun (W : World) (hs : Same (fun _ => False) w W) => rx_find (bs := x.bs) (a := x.at_) hgl (by omega) A1 c1 b1 W (ho1.kept hs (fun _ _ c => c))
  cases hsy : symG x.lit x.bs x.at_ with
  | bad k =>
    rw [hsy] at hres
    obtain ⟨hr, hk⟩ := symR_bad hsy
    rw [hr] at CF
    have CF := fun (W : World) hs => Lib.hid (CF W hs)
    have HR := Lib.hid hres
    have e1 : ((k : Int) == 0) = false := by rw [beq_eq_false_iff_ne]; omega
    have e1' : (k == 0) = false := by rw [beq_eq_false_iff_ne]; exact hk
    clear hres hr hsy
    go_enter Try.func44, Try.ntmps44
    go_wp2_with fail
    refine CL.out.mono ?_
    rintro e w1 ⟨rfl, hB1⟩
    have h1 := h.belo hB1
    have s1 := Below.sameF hB1
    go_wp2_with fail
    refine (CF _ s1).out.mono ?_
    rintro e w2 ⟨rfl, hw⟩
    subst hw
    go_wp2_with fail
    refine (rx_end (h1) _).mono ?_
    rintro en wz ⟨rfl, hz, hsz⟩
    go_wp2_with fail
    go_ret
    show TokPost _ _ _ _ _ _ _ _ _ _ _
    rw [← HR.out]
    exact ⟨rfl, hz, (s1.any).then (hsz.mono (fun _ _ e => .inl e))⟩
  | ok sm =>
  obtain ⟨s, m⟩ := sm
  rw [hsy] at hres
  simp only at hres
  obtain ⟨_, hm1, hm2, hsl, _, _⟩ := symG_ok hsy
  have hs300 : s < 300 := by omega
  rw [symR_ok hsy] at CF
  have CF := fun (W : World) hs => Lib.hid (CF W hs)
  have HRES := Lib.hid hres
  have ham : x.at_ + m ≤ 8 * x.bs.length := by have := h.al; unfold lf at hm1; omega
  have hal := h.al
  have hhl := h.hl
  clear hres hsy
  go_enter Try.func44, Try.ntmps44
  go_upto_region 4 with (first
    | (go_at_call 51; refine CL.out.mono ?_; rintro e w1 ⟨rfl, hB1⟩; have h1 := h.belo hB1; have s1 := Below.sameF hB1)
    | (go_at_call 55; refine (CF _ s1).out.mono ?_; rintro e w2 ⟨rfl, hw⟩; subst hw))
  have hres := HRES.out
  clear CL CF HRES
  have m2 : ∀ d : Ext (fun _ => False) w2, d.world.cell? ⟨p, 2, none⟩ = some vo := fun d => ((h1.same d.same).blk.cell 2)
  have m5 : ∀ d : Ext (fun _ => False) w2, d.world.cell? ⟨p, 5, none⟩ = some (.int .i64 x.most) := fun d => ((h1.same d.same).blk.cell 5)
  obtain ⟨Ao, co, hvo, hoc1, hoc2, _, _⟩ := h1.own.rdb
  by_cases hlt : s < 256
  · have e2 : decide ((s : Int) < 256) = true := by simp; omega
    rw [if_neg (by omega), if_pos hlt] at hres
    subst hvo
    by_cases hfull : x.all.length = x.most
    · rw [if_pos hfull] at hres
      have e3 : decide ((x.most : Int) ≤ (x.all.length : Int)) = true := by simp; omega
      have e3' : decide (x.most ≤ x.all.length) = true := by simp; omega
      have HR := Lib.hid hres
      clear hres hfull
      go_upto_region 5 with fail
      refine wp_region_ext (fun _ => False) (by kernel_rfl) (by kernel_rfl) ?_
      repeat (go_big_quiet_step (fail))
      refine wpQuiet_nil ?_
      rintro _ ⟨d, rfl⟩
      go_wp2_with fail
      refine (rx_end ((h1.same d.same)) _).mono ?_
      rintro en wz ⟨rfl, hz, hsz⟩
      go_wp2_with fail
      go_ret
      show TokPost _ _ _ _ _ _ _ _ _ _ _
      rw [← HR.out]
      exact ⟨rfl, hz, ((s1.then d.same).any).then (hsz.mono (fun _ _ e => .inl e))⟩
    · rw [if_neg hfull] at hres
      have e3 : decide ((x.most : Int) ≤ (x.all.length : Int)) = false := by simp; omega
      have e3' : decide (x.most ≤ x.all.length) = false := by simp; omega
      have hw8 : IntKind.u8.wrap (s : Int) = (s : Int) := by rw [IntKind.wrap_u8]; omega
      have HR := Lib.hid hres
      clear hres
      go_upto_region 5 with fail
      refine wp_region_ext (fun _ => False) (by kernel_rfl) (by kernel_rfl) ?_
      repeat (go_big_quiet_step (fail))
      refine wpQuiet_nil ?_
      rintro _ ⟨d, rfl⟩
      have h3 := h1.same d.same
      have s3 := s1.then d.same
      have k1 : d.world.cell? ⟨p, 1, none⟩ = some (.int .i64 x.at_) := h3.blk.cell 1
      have f1 := h3.blk.frozen 1
      have h4 := h3.move (a' := x.at_ + m) ham
      have hs4 : Same (fun k => k = p) d.world (d.world.setCell ⟨p, 1, none⟩ (.int .i64 ((x.at_ + m : Nat) : Int))) := Same.set_ (S := fun k => k = p) (p := ⟨p, 1, none⟩) (Same.refl d.world) (fun _ => rfl) _
      rw [show ((x.at_ + m : Nat) : Int) = (x.at_ : Int) + m from by omega] at h4 hs4
      have m4 := s3.any (S := Mn p (.slice Ao x.all.length co)) |>.then (hs4.mono (fun _ _ e => .inl e))
      go_upto_region 8 with fail
      generalize (d.world.setCell ⟨p, 1, none⟩ (.int .i64 ((x.at_ : Int) + m))) = W4 at *
      have k2 : W4.cell? ⟨p, 2, none⟩ = some (.slice Ao x.all.length co) := h4.blk.cell 2
      have f2 := h4.blk.frozen 2
      clear k1 f1 m2 m5 h1 h3 s1 s3 hs4 ho1 ho2 h hB1
      have lit : RowOf (W4.alloc (.cells #[.int .u8 (s : Int)] 5)) .u8 (some ⟨W4.heap.size, 0, none⟩) 1 [(s : Int)] := RowOf.lit W4 .u8 5 [(s : Int)] (fun y hy => by rw [List.mem_singleton] at hy; subst hy; simp [Lit.wf, IntKind.min, IntKind.max, IntKind.bits, IntKind.signed]; omega) (by simp)
      have hbB := h4.bB
      have h4a := h4.same ((Same.refl (S := fun _ => False) W4).alloc (.cells #[.int .u8 (s : Int)] 5))
      go_wp2_with (at_builtin; go_loud (refine wpList_catN .u8 B rfl (.tmp 58) (.tmp 61) 22 5 1 rfl Try.underlying22 Try.u8infI _ x.all (some ⟨W4.heap.size, 0, none⟩) 1 1 [(s : Int)] rfl rfl rfl (h4.own.alloc _) lit (by simp; omega) (x.all.length + 1) rfl (by omega) (by omega) h4.outw ?_); intro A9 c9 w9 ho9 hr9 hs9 hat9; obtain ⟨h9, m9⟩ := h4a.grown (b := (s : Int)) ⟨by omega, by omega⟩ hs9 ho9 (fun g hg => by rcases hat9 with e | e <;> rw [e] at hg <;> first | exact .inl hg | (right; simp at hg ⊢; omega)); have kk2 := (h4a.blk.same hs9 (fun e => h4a.np e)).cell 2; have ff2 := (h4a.blk.same hs9 (fun e => h4a.np e)).frozen 2)
      go_ret
      show TokPost _ _ _ _ _ _ _ _ _ _ _
      rw [← HR.out]
      have m9' : Same (Mn p (.slice Ao x.all.length co)) W4 _ := ((Same.refl (S := Mn p (.slice Ao x.all.length co)) W4).alloc (.cells #[.int .u8 (s : Int)] 5)).then m9
      exact ⟨_, by simp [hst], h9, m4.then m9', fun g hg => by
        have hz4 := m4.size
        rcases hat9 with e | e <;> rw [e] at hg <;> first | exact .inl hg | (right; simp at hg; omega)⟩
  have e2 : decide ((s : Int) < 256) = false := by simp; omega
  by_cases h256 : s = 256
  · subst h256
    rw [if_pos rfl] at hres
    have HR := Lib.hid hres
    have k1 : w2.cell? ⟨p, 1, none⟩ = some (.int .i64 x.at_) := h1.blk.cell 1
    have f1 := h1.blk.frozen 1
    have h4 := h1.move (a' := x.at_ + m) ham
    have hs4 : Same (fun k => k = p) w2 (w2.setCell ⟨p, 1, none⟩ (.int .i64 ((x.at_ + m : Nat) : Int))) := Same.set_ (S := fun k => k = p) (p := ⟨p, 1, none⟩) (Same.refl w2) (fun _ => rfl) _
    rw [show ((x.at_ + m : Nat) : Int) = (x.at_ : Int) + m from by omega] at h4 hs4
    have m4 := s1.any (S := Mn p vo) |>.then (hs4.mono (fun _ _ e => .inl e))
    clear hres m2 m5 h1 s1 hs4 ho1 ho2 hB1
    go_wp2_with fail
    go_ret
    show TokPost _ _ _ _ _ _ _ _ _ _ _
    rw [← HR.out]
    refine ⟨vo, ?_, h4, m4, fun g hg => .inl hg⟩
    have : (nextP { x with at_ := x.at_ + m }).st ≠ 2 := by unfold nextP; simp only; split <;> omega
    rw [if_neg this]
    rfl
  rw [if_neg h256, if_neg hlt] at hres
  have e3 : ((s : Int) == 256) = false := by rw [beq_eq_false_iff_ne]; omega
  have e3' : (s == 256) = false := by rw [beq_eq_false_iff_ne]; exact h256
  have k3 : w2.cell? ⟨p, 3, none⟩ = some (.bool x.wide) := h1.blk.cell 3
  have CB := ref_baseP s (by omega) (by omega) x.wide w2
  have hbf := base_fine s hs300 x.wide
  cases hbp : baseP s x.wide with
  | none =>
    rw [hbp] at CB hres
    simp only at hres
    simp only [basV] at CB
    have HR := Lib.hid hres
    clear hres hbp
    go_wp2_with fail
    refine CB.mono ?_
    rintro e w3 ⟨rfl, hw⟩
    subst hw
    go_wp2_with fail
    refine (rx_end (h1) _).mono ?_
    rintro en wz ⟨rfl, hz, hsz⟩
    go_wp2_with fail
    go_ret
    show TokPost _ _ _ _ _ _ _ _ _ _ _
    rw [← HR.out]
    exact ⟨rfl, hz, (s1.any).then (hsz.mono (fun _ _ e => .inl e))⟩
  | some bk =>
  obtain ⟨b, k⟩ := bk
  rw [hbp] at CB hres hbf
  simp only at hres
  obtain ⟨hb3, hk16, hbk⟩ : 3 ≤ b ∧ k ≤ 16 ∧ b + 2 ^ k ≤ 65539 := by simpa using hbf
  simp only [basV] at CB
  obtain ⟨hTb, hTl⟩ := rx_T x.bs (x.at_ + m) k
  have CL := rx_look h1 m k (by omega) (by omega)
  have hpn := pk_num x.bs (x.at_ + m) k
  have hv : pk x.bs (x.at_ + m) k < 2 ^ k := pk_lt x.bs (x.at_ + m) k
  obtain ⟨T, hT⟩ : ∃ T, ((ofB x.bs).drop (x.at_ + m)).take k = T := ⟨_, rfl⟩
  rw [hT] at CL hTb hTl hpn
  have hsz := txt_size T
  have CN := fun W => ref_number T W hTb (by omega)
  rw [← hpn] at CN
  obtain ⟨v, hvv⟩ : ∃ v, pk x.bs (x.at_ + m) k = v := ⟨_, rfl⟩
  rw [hvv] at CN hv
  have CB := Lib.hid CB
  have CL := Lib.hid CL
  by_cases hg2 : lf x.bs (x.at_ + m) < k
  · rw [getG, if_pos hg2] at hres
    obtain ⟨q, hq, hqk⟩ : ∃ q, (txt T).size = q ∧ q < k := ⟨_, rfl, by omega⟩
    have c1 : decide ((q : Int) < k) = true := by simp; omega
    have c1' : decide (q < k) = true := by simp; omega
    have HR := Lib.hid hres
    generalize txt T = S at *
    clear hres hbp hT hTb hTl hpn hsz hvv hv CN hbk hbf
    go_wp2_with (first
      | (go_at_call 57; refine CB.out.mono ?_; rintro e w3 ⟨rfl, hw⟩; subst hw)
      | (go_at_call 51; refine CL.out.mono ?_; rintro e w4 ⟨rfl, hB4⟩))
    refine (rx_end ((h1.belo hB4)) _).mono ?_
    rintro en wz ⟨rfl, hz, hsz⟩
    go_wp2_with fail
    go_ret
    show TokPost _ _ _ _ _ _ _ _ _ _ _
    rw [← HR.out]
    exact ⟨rfl, hz, ((s1.then (Below.sameF hB4)).any).then (hsz.mono (fun _ _ e => .inl e))⟩
  rw [getG, if_neg hg2] at hres
  simp only at hres
  rw [hvv] at hres
  have hTk : (txt T).size = k := by omega
  have HRES := Lib.hid hres
  have CN := fun W => Lib.hid (CN W)
  have hN : b + v ≤ 65538 := by omega
  generalize txt T = S at *
  clear hres hbp hT hTb hTl hpn hsz hvv hbk hbf
  go_upto_region 21 with (first
    | (go_at_call 57; refine CB.out.mono ?_; rintro e w3 ⟨rfl, hw⟩; subst hw)
    | (go_at_call 51; refine CL.out.mono ?_; rintro e w4 ⟨rfl, hB4⟩)
    | (go_at_call 52; refine (CN _).out.mono ?_; rintro e w5 ⟨rfl, hw⟩; subst hw))
  have hres := HRES.out
  have h4 := h1.belo hB4
  have s4 := s1.then (Below.sameF hB4)
  clear CB CL CN HRES hB4 hB1 h1 s1 m2 m5 k3
  have CL := rx_look h4 (m + k) 15 (by omega) (by omega)
  rw [show x.at_ + (m + k) = x.at_ + m + k + 0 from by omega, show ((m + k : Nat) : Int) = (m : Int) + k from by omega] at CL
  obtain ⟨a3, ha3⟩ : ∃ a3, x.at_ + m + k = a3 := ⟨_, rfl⟩
  rw [ha3] at CL hres
  have CF := fun (W : World) (hs : Same (fun _ => False) w W) => rx_find (bs := x.bs) (a := a3) hgd (by omega) A2 c2 b2 W (ho2.kept hs (fun _ _ c => c))
  have CL := Lib.hid CL
  have ha3l : a3 ≤ 8 * x.bs.length := by unfold lf at hg2; omega
  cases hsy : symG x.dist x.bs a3 with
  | bad e =>
    rw [hsy] at hres
    obtain ⟨hr, hk⟩ := symR_bad hsy
    rw [hr] at CF
    have CF := fun (W : World) hs => Lib.hid (CF W hs)
    have HR := Lib.hid hres
    have e4 : ((e : Int) == 0) = false := by rw [beq_eq_false_iff_ne]; omega
    have e4' : (e == 0) = false := by rw [beq_eq_false_iff_ne]; exact hk
    clear hres hr hsy
    go_wp2_with (first
      | (go_at_call 51; refine CL.out.mono ?_; rintro e w6 ⟨rfl, hB6⟩; have h6 := h4.belo hB6; have s6 := s4.then (Below.sameF hB6))
      | (go_at_call 55; refine (CF _ s6).out.mono ?_; rintro e w7 ⟨rfl, hw⟩; subst hw))
    refine (rx_end (h6) _).mono ?_
    rintro en wz ⟨rfl, hz, hsz⟩
    go_wp2_with fail
    go_ret
    show TokPost _ _ _ _ _ _ _ _ _ _ _
    rw [← HR.out]
    exact ⟨rfl, hz, (s6.any).then (hsz.mono (fun _ _ e => .inl e))⟩
  | ok tq =>
  obtain ⟨t, q⟩ := tq
  rw [hsy] at hres
  simp only at hres
  obtain ⟨_, hq1, hq2, htl, _, _⟩ := symG_ok hsy
  have ht32 : t < 32 := by omega
  rw [symR_ok hsy] at CF
  have CF := fun (W : World) hs => Lib.hid (CF W hs)
  have CB := fun W => ref_farP t ht32 x.wide W
  have hff := far_fine t ht32 x.wide
  have HRES := Lib.hid hres
  have k3 : ∀ W, Same (fun _ => False) w W → W.cell? ⟨p, 3, none⟩ = some (.bool x.wide) := fun W hs => (h.same hs).blk.cell 3
  have K3 := Lib.hid k3
  clear hres hsy k3
  go_upto_region 24 with (first
    | (go_at_call 51; refine CL.out.mono ?_; rintro e w6 ⟨rfl, hB6⟩; have h6 := h4.belo hB6; have s6 := s4.then (Below.sameF hB6))
    | (go_at_call 55; refine (CF _ s6).out.mono ?_; rintro e w7 ⟨rfl, hw⟩; subst hw))
  have hres := HRES.out
  have k3 := K3.out _ s6
  clear CL CF HRES K3 hB6 h4 s4
  have ha4l : a3 + q ≤ 8 * x.bs.length := by unfold lf at hq1; omega
  cases hfp : farP t x.wide with
  | none =>
    simp only [hfp, basV] at CB hres
    have CB := fun W => Lib.hid (CB W)
    have HR := Lib.hid hres
    clear hres hfp
    go_wp2_with (go_at_call 27; refine (CB _).out.mono ?_; rintro e w8 ⟨rfl, hw⟩; subst hw)
    refine (rx_end (h6) _).mono ?_
    rintro en wz ⟨rfl, hz, hsz⟩
    go_wp2_with fail
    go_ret
    show TokPost _ _ _ _ _ _ _ _ _ _ _
    rw [← HR.out]
    exact ⟨rfl, hz, (s6.any).then (hsz.mono (fun _ _ e => .inl e))⟩
  | some fj =>
  obtain ⟨f, j⟩ := fj
  rw [hfp] at hff
  simp only [hfp, basV] at CB hres
  obtain ⟨hf1, hj14, hfj⟩ : 1 ≤ f ∧ j ≤ 14 ∧ f + 2 ^ j ≤ 65537 := by simpa using hff
  have CB := fun W => Lib.hid (CB W)
  obtain ⟨hTb, hTl⟩ := rx_T x.bs (a3 + q) j
  have CL := rx_look h6 (m + k + q) j (by omega) (by omega)
  rw [show x.at_ + (m + k + q) = a3 + q from by omega, show ((m + k + q : Nat) : Int) = (m : Int) + k + q from by omega] at CL
  have hpn := pk_num x.bs (a3 + q) j
  have hu : pk x.bs (a3 + q) j < 2 ^ j := pk_lt x.bs (a3 + q) j
  obtain ⟨T, hT⟩ : ∃ T, ((ofB x.bs).drop (a3 + q)).take j = T := ⟨_, rfl⟩
  rw [hT] at CL hTb hTl hpn
  have hsz := txt_size T
  have CN := fun W => ref_number T W hTb (by omega)
  rw [← hpn] at CN
  obtain ⟨u, huu⟩ : ∃ u, pk x.bs (a3 + q) j = u := ⟨_, rfl⟩
  rw [huu] at CN hu
  have CL := Lib.hid CL
  by_cases hg3 : lf x.bs (a3 + q) < j
  · rw [getG, if_pos hg3] at hres
    obtain ⟨r, hr, hrk⟩ : ∃ r, (txt T).size = r ∧ r < j := ⟨_, rfl, by omega⟩
    have c1 : decide ((r : Int) < j) = true := by simp; omega
    have c1' : decide (r < j) = true := by simp; omega
    have HR := Lib.hid hres
    generalize txt T = S2 at *
    clear hres hfp hT hTb hTl hpn hsz huu hu CN hff hfj
    go_wp2_with (first
      | (go_at_call 27; refine (CB _).out.mono ?_; rintro e w8 ⟨rfl, hw⟩; subst hw)
      | (go_at_call 51; refine CL.out.mono ?_; rintro e w9 ⟨rfl, hB9⟩))
    refine (rx_end ((h6.belo hB9)) _).mono ?_
    rintro en wz ⟨rfl, hz, hsz⟩
    go_wp2_with fail
    go_ret
    show TokPost _ _ _ _ _ _ _ _ _ _ _
    rw [← HR.out]
    exact ⟨rfl, hz, ((s6.then (Below.sameF hB9)).any).then (hsz.mono (fun _ _ e => .inl e))⟩
  rw [getG, if_neg hg3] at hres
  simp only at hres
  rw [huu] at hres
  have hTk2 : (txt T).size = j := by omega
  have HRES := Lib.hid hres
  have CN := fun W => Lib.hid (CN W)
  have hD : f + u ≤ 65537 := by omega
  have ha5l : a3 + q + j ≤ 8 * x.bs.length := by unfold lf at hg3; omega
  generalize txt T = S2 at *
  clear hres hfp hT hTb hTl hpn hsz huu hff hfj
  go_upto_region 32 with (first
    | (go_at_call 27; refine (CB _).out.mono ?_; rintro e w8 ⟨rfl, hw⟩; subst hw)
    | (go_at_call 51; refine CL.out.mono ?_; rintro e w9 ⟨rfl, hB9⟩)
    | (go_at_call 52; refine (CN _).out.mono ?_; rintro e wa ⟨rfl, hw⟩; subst hw))
  have hres := HRES.out
  have h9 := h6.belo hB9
  have s9 := s6.then (Below.sameF hB9)
  clear CB CL CN HRES hB9 h6 s6 k3 ho1 ho2
  obtain ⟨N, hNN⟩ : ∃ N, b + v = N := ⟨_, rfl⟩
  obtain ⟨D, hDD⟩ : ∃ D, f + u = D := ⟨_, rfl⟩
  have hNi : (b : Int) + (v : Int) = (N : Int) := by omega
  have hDi : (f : Int) + (u : Int) = (D : Int) := by omega
  rw [hNN] at hres hN
  rw [hDD] at hres hD
  subst hvo
  have k2 : wa.cell? ⟨p, 2, none⟩ = some (.slice Ao x.all.length co) := h9.blk.cell 2
  have k4 : wa.cell? ⟨p, 4, none⟩ = some (.int .i64 x.size) := h9.blk.cell 4
  have hD1 : 1 ≤ D := by omega
  by_cases hw1 : x.all.length < D
  · rw [if_pos (by unfold I.win; omega)] at hres
    have d1 : decide ((x.all.length : Int) < D) = true := by simp; omega
    have d1' : decide (x.all.length < D) = true := by simp; omega
    have HR := Lib.hid hres
    clear hres hNN hDD
    go_wp2_with fail
    refine (rx_end (h9) _).mono ?_
    rintro en wz ⟨rfl, hz, hsz⟩
    go_wp2_with fail
    go_ret
    show TokPost _ _ _ _ _ _ _ _ _ _ _
    rw [← HR.out]
    exact ⟨rfl, hz, (s9.any).then (hsz.mono (fun _ _ e => .inl e))⟩
  have d1 : decide ((x.all.length : Int) < D) = false := by simp; omega
  have d1' : decide (x.all.length < D) = false := by simp; omega
  by_cases hw2 : x.size < D
  · rw [if_pos (by unfold I.win; omega)] at hres
    have d2 : decide ((x.size : Int) < D) = true := by simp; omega
    have d2' : decide (x.size < D) = true := by simp; omega
    have HR := Lib.hid hres
    clear hres hNN hDD
    go_wp2_with fail
    refine (rx_end (h9) _).mono ?_
    rintro en wz ⟨rfl, hz, hsz⟩
    go_wp2_with fail
    go_ret
    show TokPost _ _ _ _ _ _ _ _ _ _ _
    rw [← HR.out]
    exact ⟨rfl, hz, (s9.any).then (hsz.mono (fun _ _ e => .inl e))⟩
  have d2 : decide ((x.size : Int) < D) = false := by simp; omega
  have d2' : decide (x.size < D) = false := by simp; omega
  rw [if_neg (by unfold I.win; omega)] at hres
  have m2 : ∀ d : Ext (fun _ => False) wa, d.world.cell? ⟨p, 2, none⟩ = some (.slice Ao x.all.length co) := fun d => ((h9.same d.same).blk.cell 2)
  have m5 : ∀ d : Ext (fun _ => False) wa, d.world.cell? ⟨p, 5, none⟩ = some (.int .i64 x.most) := fun d => ((h9.same d.same).blk.cell 5)
  by_cases hfit : x.most - x.all.length < N
  · rw [if_pos hfit] at hres
    have d3 : decide ((x.most : Int) - (x.all.length : Int) < (N : Int)) = true := by simp; omega
    have HR := Lib.hid hres
    clear hres hNN hDD hw1 hw2 hfit
    go_upto_region 34 with fail
    refine wp_region_ext (fun _ => False) (by kernel_rfl) (by kernel_rfl) ?_
    repeat (go_big_quiet_step (fail))
    refine wpQuiet_nil ?_
    rintro _ ⟨d, rfl⟩
    go_wp2_with fail
    refine (rx_end ((h9.same d.same)) _).mono ?_
    rintro en wz ⟨rfl, hz, hsz⟩
    go_wp2_with fail
    go_ret
    show TokPost _ _ _ _ _ _ _ _ _ _ _
    rw [← HR.out]
    exact ⟨rfl, hz, ((s9.then d.same).any).then (hsz.mono (fun _ _ e => .inl e))⟩
  rw [if_neg hfit] at hres
  have d3 : decide ((x.most : Int) - (x.all.length : Int) < (N : Int)) = false := by simp; omega
  have HR := Lib.hid hres
  have HNN := Lib.hid hNN
  have HDD := Lib.hid hDD
  clear hres hNN hDD
  go_upto_region 34 with fail
  refine wp_region_ext (fun _ => False) (by kernel_rfl) (by kernel_rfl) ?_
  repeat (go_big_quiet_step (fail))
  refine wpQuiet_nil ?_
  rintro _ ⟨d, rfl⟩
  have h10 := h9.same d.same
  have s10 := s9.then d.same
  obtain ⟨a5, ha5⟩ : ∃ a5, a3 + q + j = a5 := ⟨_, rfl⟩
  rw [ha5] at ha5l
  have HA5 := Lib.hid ha5
  have k1 : d.world.cell? ⟨p, 1, none⟩ = some (.int .i64 x.at_) := h10.blk.cell 1
  have f1 := h10.blk.frozen 1
  have h11 := h10.move (a' := a5) ha5l
  have hs11 : Same (fun k => k = p) d.world (d.world.setCell ⟨p, 1, none⟩ (.int .i64 (a5 : Int))) := Same.set_ (S := fun k => k = p) (p := ⟨p, 1, none⟩) (Same.refl d.world) (fun _ => rfl) _
  have m11 := s10.any (S := Mn p (.slice Ao x.all.length co)) |>.then (hs11.mono (fun _ _ e => .inl e))
  have hat5 : (x.at_ : Int) + ((m : Int) + k + q) + j = (a5 : Int) := by omega
  obtain ⟨i0, hi0, hz0, hz1, hz2⟩ := Try.u8i0
  have hDl : D ≤ x.all.length := by omega
  have hNl : x.all.length + N ≤ x.most := by omega
  clear ha5 m2 m5 k2 k4 h9 s9 h10 s10 hs11 h
  rw [hNi, hDi]
  clear hNi hDi
  go_wp2_with fail
  go_loopg [17] N (CpRel w B p A c (.slice Ao x.all.length co) x code a5 D N)
  case atStart => exact ⟨⟨0, _, by omega, by omega, rfl, h11, m11, fun g hg => .inl hg⟩⟩
  case round =>
    obtain ⟨i, vo', hiN, hg, rfl, hX, hM, hat⟩ := hrel.out_
    clear hrel h11 m11
    rcases Nat.lt_or_ge i N with hlti | hgei
    · have q1 : decide ((i : Int) < N) = true := by simp; omega
      have q1' : decide (i < N) = true := by simp; omega
      obtain ⟨E, hE⟩ : ∃ E, ext x.all D i = E := ⟨_, rfl⟩
      have hEl : E.length = x.all.length + i := by rw [← hE, ext_length]
      rw [hE] at hX
      obtain ⟨Q, hL⟩ : ∃ Q, E.length = Q + D := ⟨E.length - D, by omega⟩
      have hown := hX.own
      have hownr : wr.ownsRow B 5 1 vo' (Q + D) (ints .u8 E) := by have := hown; unfold Own at this; rwa [ints_length, hL] at this
      obtain ⟨g7, cap, hvv7, hgB, hgl⟩ := World.ownsRow.form hownr (by omega)
      subst hvv7
      have kg := hown.cellI (i := Q) (by omega)
      have k2 : wr.cell? ⟨p, 2, none⟩ = some (.slice (some ⟨g7, 0, none⟩) (Q + D) cap) := hX.blk.cell 2
      have f2 := hX.blk.frozen 2
      have hpl := Blk.lt hX.blk
      obtain ⟨u9, hu9⟩ : ∃ u9, E.getD Q 0 = u9 := ⟨_, rfl⟩
      rw [hu9] at kg
      have k2d : wr.drew.cell? ⟨p, 2, none⟩ = some (.slice (some ⟨g7, 0, none⟩) (Q + D) cap) := k2
      have kgd : wr.drew.cell? ⟨g7, Q, none⟩ = some (.int .u8 u9) := kg
      have hwr1 : IntKind.i64.wrap (Q : Int) = (Q : Int) := IntWalk.i64_in _ (by omega)
      have hQ0 : (0 : Int) ≤ (Q : Int) := by omega
      have hQL : (Q : Int) < (Q : Int) + (D : Int) := by omega
      have HEL := Lib.hid hEl
      have HE := Lib.hid hE
      have HL := Lib.hid hL
      have HU := Lib.hid hu9
      clear hEl hE hL hu9 hat5
      go_upto_region 40 with fail
      have hXa := hX.same ((Same.refl (S := fun _ => False) wr).alloc (.cells #[.int .u8 u9] 5))
      have hownA : (wr.alloc (.cells #[.int .u8 u9] 5)).ownsRow B 5 1 (.slice (some ⟨g7, 0, none⟩) (Q + D) cap) (Q + D) (ints .u8 E) := World.ownsRow.alloc hownr _
      have hnc : ∀ j u, ([.int .u8 u9] : List Value)[j]? = some u → (wr.alloc (.cells #[.int .u8 u9] 5)).cell? ((⟨wr.heap.size, 0, none⟩ : Addr).add j) = some u := World.news_of_block (heap_alloc_new wr (.cells #[.int .u8 u9] 5))
      have hone : ∀ u ∈ ([.int .u8 u9] : List Value), u.oneCell' = true := fun u hu => by rw [List.mem_singleton] at hu; subst hu; rfl
      have hlm : Q + D + 1 ≤ maxLen := by simp only [maxLen]; have := HL.out; have := HEL.out; omega
      have hlb : (Q + D + 1) * 1 ≤ 140737488355328 := by have := HL.out; have := HEL.out; omega
      have hbA : B ≤ (wr.alloc (.cells #[.int .u8 u9] 5)).heap.size := by have := hX.bB; simp; omega
      have hH : (wr.alloc (.cells #[.int .u8 u9] 5)).heap.size = wr.heap.size + 1 := by simp
      go_region_law (refine step_append_lies _ (by rfl) (.tmp 205) (.tmp 219) 22 (by rfl) B 5 i0 (.int .u8 0) 1 1 Try.underlying22 hi0 hz0 hz1 hz2 rfl (by decide) (.slice (some ⟨g7, 0, none⟩) (Q + D) cap) (Q + D) (ints .u8 E) (by rfl) hownA ⟨wr.heap.size, 0, none⟩ 1 1 [.int .u8 u9] (by rfl) rfl hnc hone (by decide) hlm hlb hbA (wr.heap.size + 1) hH ?_; intro g9 cap9 w9 ho9 hg9 hat9 hlt9; have hS9 : Same (fun k => (Value.slice (some ⟨g7, 0, none⟩) (Q + D) cap).ownBlock = some k) (wr.alloc (.cells #[.int .u8 u9] 5)) w9 := ⟨hg9.os, hg9.tape, hg9.output, hg9.size, fun k hk hS => hg9.block k hk (fun e => hS e.symm)⟩; have hb9 := hXa.blk.same hS9 (fun e => hXa.np e); have kk2 := hb9.cell 2; have ff2 := hb9.frozen 2)
      all_goals
        go_wp2_with fail
        go_roundg (gk - 1)
        case measure => omega
        case rel => exact CpRel.next hX hM hat HE.out HL.out hD1 HU.out hlti (by omega) ho9 hat9 hS9
    · have hiN' : i = N := by omega
      subst hiN'
      have q1 : decide ((i : Int) < i) = false := by simp
      have hX5 := hX
      rw [← HA5.out] at hX5
      have HX5 := Lib.hid hX5
      clear hX5 hX hat5
      go_wp2_with fail
      go_ret
      show TokPost _ _ _ _ _ _ _ _ _ _ _
      rw [← HR.out]
      exact ⟨vo', by simp [hst], HX5.out, hM, hat⟩
end Go.Proofs.Yteknaaijlkenkaa
