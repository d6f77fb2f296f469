import Derived.Test.YteknaaijlkenkaaRxC
import Derived.Test.YteknaaijlkenkaaInfSt
namespace Go.Proofs.Yteknaaijlkenkaa
set_option linter.unusedVariables false
set_option linter.unusedSimpArgs false
open Go.RowKit
attribute [local go_sem] max2i min2i max2t min2t

/-! ### the reference's inflate: a stored block -/
def storedG (bs : List Int) (at_ : Nat) (all : List Int) (most : Nat) : G (Nat × List Int) :=
  if lf bs ((at_ + 7) / 8 * 8) < 32 then .bad 5
  else if pk bs ((at_ + 7) / 8 * 8) 16 ≠ 65535 - pk bs ((at_ + 7) / 8 * 8 + 16) 16 then .bad 2
  else if pk bs ((at_ + 7) / 8 * 8) 16 ≤ lf bs ((at_ + 7) / 8 * 8 + 32) / 8 ∧ pk bs ((at_ + 7) / 8 * 8) 16 ≤ most - all.length then .ok ((at_ + 7) / 8 * 8 + 32 + 8 * pk bs ((at_ + 7) / 8 * 8) 16, all ++ (bs.drop ((at_ + 7) / 8 + 4)).take (pk bs ((at_ + 7) / 8 * 8) 16))
  else .bad (if lf bs ((at_ + 7) / 8 * 8 + 32) / 8 ≤ most - all.length then 5 else 3)
/-- What a stored block leaves. -/
def StoPost (w : World) (B p : Nat) (A : Option Addr) (c : Nat) (vo : Value) (x : I) (code : Int) (r : G (Nat × List Int)) (en : Ending) (w' : World) : Prop := match r with
  | .bad e => en = .returned (.bool false) ∧ ∃ (vo' : Value) (a' : Nat) (all' : List Int), XAt w' B p A c vo' x.bs a' all' x.wide x.size x.most (e : Nat) ∧ Same (Mn p vo) w w'
  | .ok y => ∃ vo' : Value, en = .returned (.bool true) ∧ XAt w' B p A c vo' x.bs y.1 y.2 x.wide x.size x.most code ∧ Same (Mn p vo) w w' ∧ ∀ g, vo'.ownBlock = some g → vo.ownBlock = some g ∨ w.heap.size ≤ g
structure RsRel (w : World) (B p : Nat) (A : Option Addr) (c : Nat) (vo : Value) (x : I) (code : Int) (q N : Nat) (g : Nat) (v4 : Value) (wr : World) : Prop where mk ::
  out_ : ∃ (i j : Nat) (vo' : Value), i + j = N ∧ j ≤ g ∧ v4 = .int .i64 (j : Int) ∧ q + i ≤ x.bs.length ∧ x.all.length + i ≤ x.most ∧ XAt wr B p A c vo' x.bs (8 * (q + i)) (x.all ++ (x.bs.drop q).take i) x.wide x.size x.most code ∧ Same (Mn p vo) w wr ∧ ∀ g, vo'.ownBlock = some g → vo.ownBlock = some g ∨ w.heap.size ≤ g
set_option maxHeartbeats 4000000 in
set_option maxRecDepth 100000 in
theorem rx_stored {w : World} {B p : Nat} {A : Option Addr} {c : Nat} {vo : Value} {x : I} {code : Int} (h : XAt w B p A c vo x.bs x.at_ x.all x.wide x.size x.most code) (hmo : x.all.length ≤ x.most) (hmm : x.most ≤ 1073741824) :
    Calls Try.prog 42 #[.pointer (some ⟨p, 0, none⟩)] w fun e w' => StoPost w B p A c vo x code (storedG x.bs x.at_ x.all x.most) e w' := by
  obtain ⟨res, hres⟩ : ∃ r, storedG x.bs x.at_ x.all x.most = r := ⟨_, rfl⟩
  rw [hres]
  have hal := h.al
  have hhl := h.hl
  have HW := Lib.hid h.row.wf
  have k0 := h.blk.cell 0
  have k1 := h.blk.cell 1
  have f1 := h.blk.frozen 1
  obtain ⟨q, hq⟩ : ∃ q, (x.at_ + 7) / 8 = q := ⟨_, rfl⟩
  have hqi : ((x.at_ : Int) + 7) / 8 = (q : Int) := by omega
  have hq8 : 8 * q = q * 8 := by omega
  unfold storedG at hres
  rw [hq, ← hq8] at hres
  have HRES := Lib.hid hres
  clear hres hq8
  by_cases h32 : lf x.bs (8 * q) < 32
  · have hres := HRES.out
    rw [if_pos h32] at hres
    have HR := Lib.hid hres
    have d1 : decide (8 * (x.bs.length : Int) - (q : Int) * 8 < 32) = true := by simp; unfold lf at h32; omega
    clear hres HRES h32
    have kk6 := h.blk.cell 6
    have ff6 := h.blk.frozen 6
    have HXF := Lib.hid (h.fail 5)
    have HSF := Lib.hid (Same.set_ (S := fun k => k = p) (p := ⟨p, 6, none⟩) (Same.refl w) (fun _ => rfl) (.int .i64 5))
    go_enter Try.func42, Try.ntmps42
    go_wp2_with fail
    go_ret
    show StoPost _ _ _ _ _ _ _ _ _ _ _
    rw [← HR.out]
    exact ⟨rfl, _, _, _, HXF.out, HSF.out.mono (fun _ _ e => .inl e)⟩
  have d1 : decide (8 * (x.bs.length : Int) - (q : Int) * 8 < 32) = false := by simp; unfold lf at h32; omega
  have hlq : 4 + q ≤ x.bs.length := by unfold lf at h32; omega
  have h1 := h.move (a' := 8 * q) (by omega)
  have s1 : Same (fun k => k = p) w (w.setCell ⟨p, 1, none⟩ (.int .i64 ((8 * q : Nat) : Int))) := Same.set_ (S := fun k => k = p) (p := ⟨p, 1, none⟩) (Same.refl w) (fun _ => rfl) _
  rw [show ((8 * q : Nat) : Int) = (q : Int) * 8 from by omega] at h1 s1
  obtain ⟨N, hN⟩ : ∃ N, pk x.bs (8 * q) 16 = N := ⟨_, rfl⟩
  obtain ⟨M, hM⟩ : ∃ M, pk x.bs (8 * q + 16) 16 = M := ⟨_, rfl⟩
  have hNl : N < 65536 := by rw [← hN]; exact pk_lt _ _ 16
  have hMl : M < 65536 := by rw [← hM]; exact pk_lt _ _ 16
  have CG1 := rx_get h1 16 (by decide) (by unfold lf; omega)
  rw [hN] at CG1
  have CG1 := Lib.hid CG1
  have CG2 := fun (W : World) (hx : XAt W B p A c vo x.bs (8 * q + 16) x.all x.wide x.size x.most code) => rx_get hx 16 (by decide) (by unfold lf; omega)
  rw [hM] at CG2
  have CG2 := Lib.hid CG2
  have S1 := Lib.hid (s1.mono (T := Mn p vo) (fun _ _ e => .inl e))
  have hres := HRES.out
  rw [if_neg h32, hN, hM] at hres
  have HRES := Lib.hid hres
  clear hres h1 s1 h32
  go_enter Try.func42, Try.ntmps42
  go_upto_region 6 with fail
  generalize (w.setCell ⟨p, 1, none⟩ (.int .i64 ((q : Int) * 8))) = W1 at *
  clear k0 k1 f1
  go_upto_region 8 with (first
    | (go_at_call 41; refine CG1.out.mono ?_; rintro e w2 ⟨rfl, h2, s2⟩)
    | (go_at_call 41; refine (CG2.out _ h2).mono ?_; rintro e w3 ⟨rfl, h3, s3⟩))
  have m3 : Same (Mn p vo) w w3 := (S1.out.then (s2.mono (fun _ _ e => .inl e))).then (s3.mono (fun _ _ e => .inl e))
  have hres := HRES.out
  clear HRES CG1 CG2 S1 s2 s3 h2 h
  by_cases hnm : N ≠ 65535 - M
  · rw [if_pos hnm] at hres
    have HR := Lib.hid hres
    have d2 : ((N : Int) != 65535 - (M : Int)) = true := by simp; omega
    clear hres
    have kk6 := (h3).blk.cell 6
    have ff6 := (h3).blk.frozen 6
    have HXF := Lib.hid ((h3).fail 2)
    have HSF := Lib.hid (Same.set_ (S := fun k => k = p) (p := ⟨p, 6, none⟩) (Same.refl w3) (fun _ => rfl) (.int .i64 2))
    go_wp2_with fail
    go_ret
    show StoPost _ _ _ _ _ _ _ _ _ _ _
    rw [← HR.out]
    exact ⟨rfl, _, _, _, HXF.out, (m3).then (HSF.out.mono (fun _ _ e => .inl e))⟩
  rw [if_neg hnm] at hres
  have d2 : ((N : Int) != 65535 - (M : Int)) = false := by simp; omega
  have HRES := Lib.hid hres
  rw [show 8 * q + 16 + 16 = 8 * (q + 4 + 0) from by omega] at h3
  clear hres
  go_wp2_with fail
  go_loopg [4] N (RsRel w B p A c vo x code (q + 4) N)
  case atStart => exact ⟨⟨0, N, vo, by omega, by omega, rfl, by omega, by omega, by rw [List.take_zero, List.append_nil]; exact h3, m3, fun g hg => .inl hg⟩⟩
  case round =>
    obtain ⟨i, j, vo', hij, hg, rfl, hiL, hiM, hX, hSm, hat⟩ := hrel.out_
    clear hrel h3 m3 d1 d2 hM
    rcases Nat.eq_zero_or_pos j with hj0 | hj0
    · subst hj0
      rw [Nat.add_zero] at hij
      subst hij
      have HX := Lib.hid hX
      have hres := HRES.out
      rw [if_pos ⟨by unfold lf; omega, by omega⟩] at hres
      have HR := Lib.hid hres
      clear hres hX
      go_wp2_with fail
      go_ret
      show StoPost _ _ _ _ _ _ _ _ _ _ _
      rw [← HR.out]
      refine ⟨vo', rfl, ?_, hSm, hat⟩
      have := HX.out
      rw [show 8 * (q + 4 + i) = 8 * q + 32 + 8 * i from by omega] at this
      exact this
    · have c1 : decide ((0 : Int) < j) = true := by simp; omega
      obtain ⟨E, hE⟩ : ∃ E, x.all ++ (x.bs.drop (q + 4)).take i = E := ⟨_, rfl⟩
      have hEl : E.length = x.all.length + i := by rw [← hE, List.length_append, List.length_take, List.length_drop]; omega
      rw [hE] at hX
      have hElb : E.length ≤ 1073741824 := by omega
      have HEL := Lib.hid hEl
      obtain ⟨a, ha⟩ : ∃ a, 8 * (q + 4 + i) = a := ⟨_, rfl⟩
      rw [ha] at hX
      have m2 : ∀ d : Ext (fun _ => False) wr, d.world.cell? ⟨p, 2, none⟩ = some vo' := fun d => ((hX.same d.same).blk.cell 2)
      have m5 : ∀ d : Ext (fun _ => False) wr, d.world.cell? ⟨p, 5, none⟩ = some (.int .i64 x.most) := fun d => ((hX.same d.same).blk.cell 5)
      obtain ⟨Ao, co, hvo, hoc1, hoc2, _, _⟩ := hX.own.rdb
      subst hvo
      by_cases hfull : x.most = E.length
      · have c2 : decide ((x.most : Int) ≤ (E.length : Int)) = true := by simp; omega
        have c2' : decide (x.most ≤ E.length) = true := by simp; omega
        have hres := HRES.out
        rw [if_neg (by omega)] at hres
        clear hEl
        go_upto_region 14 with fail
        refine wp_region_ext (fun _ => False) (by kernel_rfl) (by kernel_rfl) ?_
        repeat (go_big_quiet_step (fail))
        refine wpQuiet_nil ?_
        rintro _ ⟨d, rfl⟩
        have hXd := hX.same d.same
        have sd := hSm.then (d.same.any (S := Mn p vo))
        have CL := Lib.hid (rx_left hXd)
        by_cases hl8 : lf x.bs a < 8
        · have c3 : decide ((lf x.bs a : Int) < 8) = true := by simp; omega
          have c3' : decide (lf x.bs a < 8) = true := by simp; omega
          rw [if_pos (by have := HEL.out; unfold lf at *; omega)] at hres
          have HR := Lib.hid hres
          generalize lf x.bs a = L at *
          clear hres HRES m2 m5 hX
          go_upto_region 15 with (go_at_call 53; refine CL.out.mono ?_; rintro e w5 ⟨rfl, hs5⟩)
          have kk6 := ((hXd.same hs5)).blk.cell 6
          have ff6 := ((hXd.same hs5)).blk.frozen 6
          have HXF := Lib.hid (((hXd.same hs5)).fail 5)
          have HSF := Lib.hid (Same.set_ (S := fun k => k = p) (p := ⟨p, 6, none⟩) (Same.refl w5) (fun _ => rfl) (.int .i64 5))
          go_wp2_with fail
          go_ret
          show StoPost _ _ _ _ _ _ _ _ _ _ _
          rw [← HR.out]
          exact ⟨rfl, _, _, _, HXF.out, ((sd.then hs5.any)).then (HSF.out.mono (fun _ _ e => .inl e))⟩
        · have c3 : decide ((lf x.bs a : Int) < 8) = false := by simp; omega
          have c3' : decide (lf x.bs a < 8) = false := by simp; omega
          rw [if_neg (by have := HEL.out; unfold lf at *; omega)] at hres
          have HR := Lib.hid hres
          generalize lf x.bs a = L at *
          clear hres HRES m2 m5 hX
          go_upto_region 16 with (go_at_call 53; refine CL.out.mono ?_; rintro e w5 ⟨rfl, hs5⟩)
          have kk6 := ((hXd.same hs5)).blk.cell 6
          have ff6 := ((hXd.same hs5)).blk.frozen 6
          have HXF := Lib.hid (((hXd.same hs5)).fail 3)
          have HSF := Lib.hid (Same.set_ (S := fun k => k = p) (p := ⟨p, 6, none⟩) (Same.refl w5) (fun _ => rfl) (.int .i64 3))
          go_wp2_with fail
          go_ret
          show StoPost _ _ _ _ _ _ _ _ _ _ _
          rw [← HR.out]
          exact ⟨rfl, _, _, _, HXF.out, ((sd.then hs5.any)).then (HSF.out.mono (fun _ _ e => .inl e))⟩
      · have c2 : decide ((x.most : Int) ≤ (E.length : Int)) = false := by simp; omega
        have c2' : decide (x.most ≤ E.length) = false := by simp; omega
        clear hEl
        go_upto_region 18 with fail
        refine wp_region_ext (fun _ => False) (by kernel_rfl) (by kernel_rfl) ?_
        repeat (go_big_quiet_step (fail))
        refine wpQuiet_nil ?_
        rintro _ ⟨d, rfl⟩
        have hXd := hX.same d.same
        have sd := hSm.then (d.same.any (S := Mn p vo))
        by_cases hl8 : lf x.bs a < 8
        · have CG := Lib.hid (rx_getno hXd 8 (by decide) hl8)
          have hres := HRES.out
          have hEl := HEL.out
          rw [if_neg (by unfold lf at *; omega), if_pos (by unfold lf at *; omega)] at hres
          clear hEl
          have HR := Lib.hid hres
          clear hres HRES m2 m5 hX
          go_upto_region 20 with (go_at_call 41; refine CG.out.mono ?_; rintro e w5 ⟨rfl, h5, hB5⟩)
          have kk6 := (h5).blk.cell 6
          have ff6 := (h5).blk.frozen 6
          have HXF := Lib.hid ((h5).fail 5)
          have HSF := Lib.hid (Same.set_ (S := fun k => k = p) (p := ⟨p, 6, none⟩) (Same.refl w5) (fun _ => rfl) (.int .i64 5))
          go_wp2_with fail
          go_ret
          show StoPost _ _ _ _ _ _ _ _ _ _ _
          rw [← HR.out]
          exact ⟨rfl, _, _, _, HXF.out, ((sd.then (Below.sameF hB5).any)).then (HSF.out.mono (fun _ _ e => .inl e))⟩
        · have hlt : q + 4 + i < x.bs.length := by unfold lf at hl8; omega
          obtain ⟨z, hz⟩ : ∃ z, x.bs[q + 4 + i]? = some z := ⟨_, List.getElem?_eq_getElem hlt⟩
          have hz8 := u8_of' (HW.out z (List.mem_of_getElem? hz))
          obtain ⟨z, rfl⟩ : ∃ y : Nat, z = y := ⟨z.toNat, by omega⟩
          have hpz := pk_byte x.bs (q + 4 + i) hz hz8.1 hz8.2
          rw [ha, Int.toNat_natCast] at hpz
          have CG := rx_get hXd 8 (by decide) (by omega)
          rw [hpz] at CG
          have CG := Lib.hid CG
          have hE2 : E ++ [(z : Int)] = x.all ++ (x.bs.drop (q + 4)).take (i + 1) := by
            rw [← hE, List.append_assoc]
            congr 1
            rw [List.take_add_one, List.getElem?_drop, hz]
            rfl
          have HE2 := Lib.hid hE2
          have hw8 : IntKind.u8.wrap (z : Int) = (z : Int) := by rw [IntKind.wrap_u8]; omega
          clear m2 m5 hX hE2 hE
          go_upto_region 22 with (go_at_call 41; refine CG.out.mono ?_; rintro e w5 ⟨rfl, h5, s5⟩)
          have k2 : w5.cell? ⟨p, 2, none⟩ = some (.slice Ao E.length co) := h5.blk.cell 2
          have f2 := h5.blk.frozen 2
          have m5 := sd.then (s5.mono (T := Mn p vo) (fun _ _ e => .inl e))
          have lit : RowOf (w5.alloc (.cells #[.int .u8 (z : Int)] 5)) .u8 (some ⟨w5.heap.size, 0, none⟩) 1 [(z : Int)] := RowOf.lit w5 .u8 5 [(z : Int)] (fun y hy => by rw [List.mem_singleton] at hy; subst hy; simp [Lit.wf, IntKind.min, IntKind.max, IntKind.bits, IntKind.signed]; omega) (by simp)
          have hbB := h5.bB
          have h5a := h5.same ((Same.refl (S := fun _ => False) w5).alloc (.cells #[.int .u8 (z : Int)] 5))
          go_wp2_with (at_builtin; go_loud (refine wpList_catN .u8 B rfl (.tmp 87) (.tmp 90) 22 5 1 rfl Try.underlying22 Try.u8infI _ E (some ⟨w5.heap.size, 0, none⟩) 1 1 [(z : Int)] rfl rfl rfl (h5.own.alloc _) lit (by simp; omega) (E.length + 1) rfl (by omega) (by omega) h5.outw ?_); intro A9 c9 w9 ho9 hr9 hs9 hat9; obtain ⟨h9, m9⟩ := h5a.grown (b := (z : Int)) ⟨by omega, by omega⟩ hs9 ho9 (fun g hg => by rcases hat9 with e | e <;> rw [e] at hg <;> first | exact .inl hg | (right; simp at hg ⊢; omega)); have kk2 := (h5a.blk.same hs9 (fun e => h5a.np e)).cell 2; have ff2 := (h5a.blk.same hs9 (fun e => h5a.np e)).frozen 2)
          go_roundg (gk - 1)
          case measure => omega
          case rel =>
            rw [HE2.out] at h9
            have hq9 := HEL.out
            have m0 : Same (Mn p (.slice Ao E.length co)) w5 _ := ((Same.refl (S := fun _ => False) w5).alloc (.cells #[.int .u8 (z : Int)] 5)).any.then m9
            refine ⟨⟨i + 1, j - 1, .slice A9 (E.length + 1) c9, by omega, by omega, congrArg (Value.int .i64) (by omega), by omega, by omega, by rw [show 8 * (q + 4 + (i + 1)) = a + 8 from by omega]; exact h9, m5.trans m0 (fun k hk e => ?_), fun k hk => ?_⟩⟩
            · rcases e with e | e
              · exact .inl e
              · rcases hat k e with h | h
                · exact .inr h
                · omega
            · rcases hat9 with e | e
              · rw [e] at hk; exact hat k hk
              · rw [e] at hk
                have e9 : w5.heap.size + 1 = k := by simpa using hk
                right
                have := m5.size
                omega
end Go.Proofs.Yteknaaijlkenkaa
