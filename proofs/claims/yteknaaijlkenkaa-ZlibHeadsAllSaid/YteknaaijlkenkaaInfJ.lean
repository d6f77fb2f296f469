import Derived.Test.YteknaaijlkenkaaInfI
namespace Go.Proofs.Yteknaaijlkenkaa
set_option linter.unusedVariables false
set_option linter.unusedSimpArgs false
open Go.RowKit
attribute [local go_sem] max2i min2i max2t min2t

/-- What a step leaves. -/
def StepPost (w : World) (B p pw r : Nat) (A : Option Addr) (c : Nat) (vo v9 v10 : Value) (used err : Int) (x : I) (res : G I) (e : Ending) (w' : World) : Prop :=
  match res with
  | .ok y => e = .returned (.tuple #[]) ∧ ∃ vo' v9' v10', InfAt w' B p pw r A c vo' v9' v10' used err y ∧ Same (Mine p pw r vo) w w'
  | .bad k => e = .panicked [faultI k] ∧ ∃ a, InfAt w' B p pw r A c vo v9 v10 used err { x with at_ := a } ∧ Same (Mine p pw r vo) w w'
theorem InfAt.move {w w' : World} {B p pw r : Nat} {A : Option Addr} {c : Nat} {vo v9 v10 : Value} {used err : Int} {x : I} (h : InfAt w B p pw r A c vo v9 v10 used err x) (hs : Same (fun g => g = p) w w') {n : Nat}
    (hc : CurAt w' p ((infC x pw A c vo v9 v10 used err).setIfInBounds 4 (.int .i64 n)) A c x.bs n) : InfAt w' B p pw r A c vo v9 v10 used err { x with at_ := n } := h.onP hs hc rfl rfl rfl rfl (h.tabsP hs)
theorem headG_len {wide : Bool} {bs : List Int} {n : Nat} {la ld : List Int} {a : Nat} (h : headG wide bs n = .ok (la, ld, a)) : la.length ≤ 286 ∧ ld.length ≤ 32 := by
  unfold headG at h
  split at h
  · cases h
  · rename_i a1 h1
    split at h
    · cases h
    · rename_i hl1
      split at h
      · cases h
      · rename_i b1 h2
        split at h
        · cases h
        · split at h
          · cases h
          · have hb : b1 < 32 := by
              unfold getG at h2
              split at h2
              · cases h2
              · injection h2 with h2; rw [← h2]; exact pk_lt bs (n + 5) 5
            rename_i c1 h3
            generalize smallG bs (ordL.take (c1 + 4)) (List.replicate 19 0) (n + 5 + 5 + 4) = sg at h
            cases sg with
            | bad e => rw [headK] at h; cases h
            | ok q =>
              obtain ⟨l, a3⟩ := q
              rw [headK] at h
              split at h
              · cases h
              · split at h
                · cases h
                · rename_i row a4 hrow
                  obtain ⟨h5, _⟩ := rowG_fine _ _ _ hrow (by simp) (by simp) (by simp)
                  split at h
                  · cases h
                  · injection h with h
                    simp only [Prod.mk.injEq] at h
                    rw [← h.1, ← h.2.1, List.length_take, List.length_drop]
                    omega
theorem xor_mask {n : Nat} (h : n < 65536) : bits .xor .i64 (n : Int) 65535 = ((65535 - n : Nat) : Int) := by
  have e1 : n ^^^ 65535 = 65535 - n := by
    have h1 : (BitVec.ofNat 16 n ^^^ BitVec.allOnes 16).toNat = n ^^^ 65535 := by
      rw [BitVec.toNat_xor, BitVec.toNat_ofNat, BitVec.toNat_allOnes, Nat.mod_eq_of_lt (by omega)]
    rw [← h1, BitVec.xor_allOnes, BitVec.toNat_not, BitVec.toNat_ofNat, Nat.mod_eq_of_lt (by omega)]
  have e2 : (BitVec.ofInt 64 (n : Int)).toNat = n := by rw [BitVec.ofInt_natCast, BitVec.toNat_ofNat]; exact Nat.mod_eq_of_lt (by omega)
  have e3 : (BitVec.ofInt 64 (65535 : Int)).toNat = 65535 := by decide
  show IntKind.i64.wrap ((BitVec.ofInt 64 (n : Int) ^^^ BitVec.ofInt 64 (65535 : Int)).toNat : Int) = _
  rw [BitVec.toNat_xor, e2, e3, e1]
  exact IntWalk.i64_in _ (by omega)
set_option maxHeartbeats 4000000 in
set_option maxRecDepth 100000 in
theorem inf_block {w : World} {B p pw r : Nat} {A : Option Addr} {c : Nat} {vo v9 v10 : Value} {used err : Int} {x : I} (h : InfAt w B p pw r A c vo v9 v10 used err x) :
    Calls Try.prog 61 #[.pointer (some ⟨p, 0, none⟩)] w fun e w' => StepPost w B p pw r A c vo v9 v10 used err x (blockG x) e w' := by
  obtain ⟨res, hres⟩ : ∃ r, blockG x = r := ⟨_, rfl⟩
  rw [hres]
  rw [blockG] at hres
  by_cases hg1 : lf x.bs x.at_ < 1
  · rw [getG, if_pos hg1] at hres
    have HR := Lib.hid hres
    have C1 := cur_get_bad h.cur 1 (by omega) hg1
    clear hres
    go_enter Try.func61, Try.ntmps61
    go_wp2_with fail
    refine C1.mono ?_
    rintro e w1 ⟨rfl, hs1⟩
    go_wp2_with fail
    refine ⟨rfl, ?_⟩
    show StepPost _ _ _ _ _ _ _ _ _ _ _ _ _ _ _ _
    rw [← HR.out]
    exact ⟨rfl, _, h.same hs1, h.mineP hs1.any⟩
  rw [getG, if_neg hg1] at hres
  simp only at hres
  have C1 := cur_get_ok h.cur 1 (by omega) (by omega)
  have hv1 : pk x.bs x.at_ 1 < 2 := pk_lt x.bs x.at_ 1
  generalize pk x.bs x.at_ 1 = l1 at *
  by_cases hg2 : lf x.bs (x.at_ + 1) < 2
  · rw [getG, if_pos hg2] at hres
    have HR := Lib.hid hres
    clear hres
    go_enter Try.func61, Try.ntmps61
    go_wp2_with fail
    refine C1.mono ?_
    rintro e w1 ⟨rfl, h1, hs1⟩
    have I1 := h.move hs1 h1
    go_wp2_with fail
    refine (cur_get_bad h1 2 (by omega) hg2).mono ?_
    rintro e w2 ⟨rfl, hs2⟩
    go_wp2_with fail
    refine ⟨rfl, ?_⟩
    show StepPost _ _ _ _ _ _ _ _ _ _ _ _ _ _ _ _
    rw [← HR.out]
    exact ⟨rfl, _, I1.same hs2, h.mineP (hs1.then hs2.any)⟩
  rw [getG, if_neg hg2] at hres
  simp only at hres
  have hv2 : pk x.bs (x.at_ + 1) 2 < 4 := pk_lt x.bs (x.at_ + 1) 2
  have C2 := fun (w1 : World) (h1 : CurAt w1 p ((infC x pw A c vo v9 v10 used err).setIfInBounds 4 (.int .i64 ((x.at_ + 1 : Nat) : Int))) A c x.bs (x.at_ + 1)) => cur_get_ok h1 2 (by omega) (by omega)
  generalize pk x.bs (x.at_ + 1) 2 = k2 at *
  go_enter Try.func61, Try.ntmps61
  go_wp2_with fail
  refine C1.mono ?_
  rintro e w1 ⟨rfl, h1, hs1⟩
  go_wp2_with fail
  refine (C2 w1 h1).mono ?_
  rintro e w2 ⟨rfl, h2, hs2⟩
  rw [set44] at h2
  have hs2 := hs1.then hs2
  obtain ⟨lb, hlb⟩ : ∃ lb, decide (l1 = 1) = lb := ⟨_, rfl⟩
  have el1 : ((l1 : Int) == 1) = lb := by
    rw [← hlb]
    by_cases e : l1 = 1
    · simp [e]
    · rw [decide_eq_false e, beq_eq_false_iff_ne]; omega
  have el2 : (l1 == 1) = lb := by
    rw [← hlb]
    by_cases e : l1 = 1
    · simp [e]
    · rw [decide_eq_false e, beq_eq_false_iff_ne]; exact e
  rw [hlb] at hres
  clear hlb C1 C2 h1 hs1
  obtain ⟨a2, ha2⟩ : ∃ a2, x.at_ + 1 + 2 = a2 := ⟨_, rfl⟩
  rw [ha2] at h2
  rw [show x.at_ + 3 = a2 from by omega] at hres
  by_cases hk0 : k2 = 0
  · subst hk0
    rw [if_pos rfl] at hres
    have hz : (((a2 + 7) / 8 * 8 : Nat) : Int) = ((a2 : Int) + 7) / 8 * 8 := by omega
    have hle2 := h2.le
    have hhi2 := h2.hi
    have h3 : CurAt (w2.setCell ⟨p, 4, none⟩ (.int .i64 (((a2 : Int) + 7) / 8 * 8))) p ((infC x pw A c vo v9 v10 used err).setIfInBounds 4 (.int .i64 (((a2 + 7) / 8 * 8 : Nat) : Int))) A c x.bs ((a2 + 7) / 8 * 8) := by
      have := h2.move (m := (a2 + 7) / 8 * 8) (by omega)
      rw [set44, hz] at this
      rw [hz]
      exact this
    have hs3 := hs2.then (Same.set_ (S := fun g => g = p) (p := ⟨p, 4, none⟩) (Same.refl w2) (fun _ => rfl) (.int .i64 (((a2 : Int) + 7) / 8 * 8)))
    have c4 := h2.c4
    have f4 := h2.pb.frozen 4
    clear h2 hs2 hz
    have HRES := Lib.hid hres
    clear hres
    go_wp2_with fail
    generalize w2.setCell ⟨p, 4, none⟩ (.int .i64 (((a2 : Int) + 7) / 8 * 8)) = w3 at *
    have hres := HRES.out
    generalize (a2 + 7) / 8 * 8 = z at *
    have I3 := h.move hs3 h3
    clear HRES c4 f4
    by_cases hg3 : lf x.bs z < 16
    · rw [getG, if_pos hg3] at hres
      have HR := Lib.hid hres
      clear hres
      refine (cur_get_bad h3 16 (by omega) hg3).mono ?_
      rintro e w4 ⟨rfl, hs4⟩
      go_wp2_with fail
      refine ⟨rfl, ?_⟩
      show StepPost _ _ _ _ _ _ _ _ _ _ _ _ _ _ _ _
      rw [← HR.out]
      exact ⟨rfl, _, I3.same hs4, h.mineP (hs3.then hs4.any)⟩
    rw [getG, if_neg hg3] at hres
    simp only at hres
    have hv3 : pk x.bs z 16 < 65536 := pk_lt x.bs z 16
    have C3 := cur_get_ok h3 16 (by omega) (by omega)
    generalize pk x.bs z 16 = n at *
    refine C3.mono ?_
    rintro e w4 ⟨rfl, h4, hs4⟩
    rw [set44] at h4
    have hs4 := hs3.then hs4
    clear C3 h3 hs3
    by_cases hg4 : lf x.bs (z + 16) < 16
    · rw [getG, if_pos hg4] at hres
      have HR := Lib.hid hres
      clear hres
      have I4 := h.move hs4 h4
      go_wp2_with fail
      refine (cur_get_bad h4 16 (by omega) hg4).mono ?_
      rintro e w5 ⟨rfl, hs5⟩
      go_wp2_with fail
      refine ⟨rfl, ?_⟩
      show StepPost _ _ _ _ _ _ _ _ _ _ _ _ _ _ _ _
      rw [← HR.out]
      exact ⟨rfl, _, I4.same hs5, h.mineP (hs4.then hs5.any)⟩
    rw [getG, if_neg hg4] at hres
    simp only at hres
    have hv4 : pk x.bs (z + 16) 16 < 65536 := pk_lt x.bs (z + 16) 16
    have C4 := cur_get_ok h4 16 (by omega) (by omega)
    generalize pk x.bs (z + 16) 16 = m at *
    have hx := xor_mask hv3
    go_wp2_with fail
    refine C4.mono ?_
    rintro e w5 ⟨rfl, h5, hs5⟩
    rw [set44] at h5
    have hs5 := hs4.then hs5
    have I5 := h.move hs5 h5
    clear C4 h4 hs4 I3
    by_cases hmn : m = 65535 - n
    · have e5 : ((m : Int) == ((65535 - n : Nat) : Int)) = true := by rw [hmn]; simp
      have e6 : (m == 65535 - n) = true := by simpa using hmn
      rw [if_neg (fun c => c hmn)] at hres
      have HR := Lib.hid hres
      clear hres hmn
      have b6 : Blk (w5.setCell ⟨p, 6, none⟩ (.int .i64 1)) p 91 (infC { x with at_ := z + 16 + 16, st := 1 } pw A c vo v9 v10 used err) := h5.pb.set_ 6 (.int .i64 1)
      have b8 : Blk ((w5.setCell ⟨p, 6, none⟩ (.int .i64 1)).setCell ⟨p, 8, none⟩ (.int .i64 n)) p 91 (infC { x with at_ := z + 16 + 16, st := 1, raw := n } pw A c vo v9 v10 used err) := b6.set_ 8 (.int .i64 n)
      have b7 : Blk (((w5.setCell ⟨p, 6, none⟩ (.int .i64 1)).setCell ⟨p, 8, none⟩ (.int .i64 n)).setCell ⟨p, 7, none⟩ (.bool lb)) p 91 (infC { x with at_ := z + 16 + 16, st := 1, raw := n, last := lb } pw A c vo v9 v10 used err) := b8.set_ 7 (.bool lb)
      have hs9 : Same (fun g => g = p) w5 (((w5.setCell ⟨p, 6, none⟩ (.int .i64 1)).setCell ⟨p, 8, none⟩ (.int .i64 n)).setCell ⟨p, 7, none⟩ (.bool lb)) := ((Same.set_ (S := fun g => g = p) (p := ⟨p, 6, none⟩) (Same.refl w5) (fun _ => rfl) _).set_ (p := ⟨p, 8, none⟩) (fun _ => rfl) _).set_ (p := ⟨p, 7, none⟩) (fun _ => rfl) _
      have K9 : CurAt (((w5.setCell ⟨p, 6, none⟩ (.int .i64 1)).setCell ⟨p, 8, none⟩ (.int .i64 n)).setCell ⟨p, 7, none⟩ (.bool lb)) p (infC { x with at_ := z + 16 + 16, st := 1, raw := n, last := lb } pw A c vo v9 v10 used err) A c x.bs (z + 16 + 16) := ⟨b7, rfl, rfl, h5.row.same hs9 (fun ad e => h5.ne ad e), h5.ne, h5.le, h5.hi, fun ad e => Nat.lt_of_lt_of_le (h5.lt ad e) hs9.size⟩
      have I9 := Lib.hid (I5.onP (y := { x with at_ := z + 16 + 16, st := 1, raw := n, last := lb }) hs9 K9 rfl rfl rfl rfl (fun e => by cases e))
      have HB9 := Lib.hid (h.mineP (hs5.then hs9))
      have c6 : w5.cell? ⟨p, 6, none⟩ = some (.int .i64 x.st) := h5.pb.cell 6
      have f6 := h5.pb.frozen 6
      have c8 : (w5.setCell ⟨p, 6, none⟩ (.int .i64 1)).cell? ⟨p, 8, none⟩ = some (.int .i64 x.raw) := b6.cell 8
      have f8 := b6.frozen 8
      have c7 : ((w5.setCell ⟨p, 6, none⟩ (.int .i64 1)).setCell ⟨p, 8, none⟩ (.int .i64 n)).cell? ⟨p, 7, none⟩ = some (.bool x.last) := b8.cell 7
      have f7 := b8.frozen 7
      clear b6 b8 b7 hs9 K9 h5 hs5 I5
      go_wp2_with fail
      ((try simp only [Exit.inBlock, Exit.then]); first | refine bodyPost_end (results_none rfl _ _ _) rfl ?_ | refine bodyPost_ret (results_none rfl _ _ _) rfl ?_)
      show StepPost _ _ _ _ _ _ _ _ _ _ _ _ _ _ _ _
      rw [← HR.out]
      exact ⟨rfl, vo, v9, v10, I9.out, HB9.out⟩
    · have e5 : ((m : Int) == ((65535 - n : Nat) : Int)) = false := by rw [beq_eq_false_iff_ne]; omega
      have e6 : (m == 65535 - n) = false := by rw [beq_eq_false_iff_ne]; exact hmn
      rw [if_pos hmn] at hres
      have HR := Lib.hid hres
      clear hres hmn
      go_wp2_with fail
      refine (cur_fail _ _ 2).mono ?_
      rintro e w6 ⟨rfl, rfl⟩
      go_wp2_with fail
      refine ⟨rfl, ?_⟩
      show StepPost _ _ _ _ _ _ _ _ _ _ _ _ _ _ _ _
      rw [← HR.out]
      exact ⟨rfl, _, I5, h.mineP hs5⟩
  rw [if_neg hk0] at hres
  have ek0 : ((k2 : Int) == 0) = false := by rw [beq_eq_false_iff_ne]; omega
  have ek0' : (k2 == 0) = false := by rw [beq_eq_false_iff_ne]; exact hk0
  by_cases hk1 : k2 = 1
  · subst hk1
    rw [if_pos rfl] at hres
    have HR := Lib.hid hres
    clear hres hk0 ek0 ek0'
    go_wp2_with fail
    refine (inf_fixed w2).mono ?_
    rintro e w5 ⟨p1, p2, t1, t2, rfl, T1, T2, _, _, _, _, hb5⟩
    have hsB := Same.of_below (S := fun _ => False) hb5
    have h5 := h2.same hsB
    have hs5 := hs2.then hsB.any
    have hla : fixL.length ≤ 300 := by rw [fixL_len]; decide
    have hld : fixD.length ≤ 32 := by rw [fixD_len]; decide
    clear h2 hs2 hb5 hsB
    have hlp := Blk.lt h5.pb
    have I5 := h.move hs5 h5
    have b9 : Blk (w5.setCell ⟨p, 9, none⟩ (.pointer (some ⟨p1, 0, none⟩))) p 91 (infC { x with at_ := a2 } pw A c vo (.pointer (some ⟨p1, 0, none⟩)) v10 used err) := h5.pb.set_ 9 (.pointer (some ⟨p1, 0, none⟩))
    have b10 : Blk ((w5.setCell ⟨p, 9, none⟩ (.pointer (some ⟨p1, 0, none⟩))).setCell ⟨p, 10, none⟩ (.pointer (some ⟨p2, 0, none⟩))) p 91 (infC { x with at_ := a2 } pw A c vo (.pointer (some ⟨p1, 0, none⟩)) (.pointer (some ⟨p2, 0, none⟩)) used err) := b9.set_ 10 (.pointer (some ⟨p2, 0, none⟩))
    have b6 : Blk (((w5.setCell ⟨p, 9, none⟩ (.pointer (some ⟨p1, 0, none⟩))).setCell ⟨p, 10, none⟩ (.pointer (some ⟨p2, 0, none⟩))).setCell ⟨p, 6, none⟩ (.int .i64 2)) p 91 (infC { x with at_ := a2, st := 2 } pw A c vo (.pointer (some ⟨p1, 0, none⟩)) (.pointer (some ⟨p2, 0, none⟩)) used err) := b10.set_ 6 (.int .i64 2)
    have b7 : Blk ((((w5.setCell ⟨p, 9, none⟩ (.pointer (some ⟨p1, 0, none⟩))).setCell ⟨p, 10, none⟩ (.pointer (some ⟨p2, 0, none⟩))).setCell ⟨p, 6, none⟩ (.int .i64 2)).setCell ⟨p, 7, none⟩ (.bool lb)) p 91 (infC { x with at_ := a2, st := 2, last := lb, lit := fixL, dist := fixD } pw A c vo (.pointer (some ⟨p1, 0, none⟩)) (.pointer (some ⟨p2, 0, none⟩)) used err) := b6.set_ 7 (.bool lb)
    have hs9 : Same (fun g => g = p) w5 ((((w5.setCell ⟨p, 9, none⟩ (.pointer (some ⟨p1, 0, none⟩))).setCell ⟨p, 10, none⟩ (.pointer (some ⟨p2, 0, none⟩))).setCell ⟨p, 6, none⟩ (.int .i64 2)).setCell ⟨p, 7, none⟩ (.bool lb)) := (((Same.set_ (S := fun g => g = p) (p := ⟨p, 9, none⟩) (Same.refl w5) (fun _ => rfl) _).set_ (p := ⟨p, 10, none⟩) (fun _ => rfl) _).set_ (p := ⟨p, 6, none⟩) (fun _ => rfl) _).set_ (p := ⟨p, 7, none⟩) (fun _ => rfl) _
    have K9 : CurAt ((((w5.setCell ⟨p, 9, none⟩ (.pointer (some ⟨p1, 0, none⟩))).setCell ⟨p, 10, none⟩ (.pointer (some ⟨p2, 0, none⟩))).setCell ⟨p, 6, none⟩ (.int .i64 2)).setCell ⟨p, 7, none⟩ (.bool lb)) p (infC { x with at_ := a2, st := 2, last := lb, lit := fixL, dist := fixD } pw A c vo (.pointer (some ⟨p1, 0, none⟩)) (.pointer (some ⟨p2, 0, none⟩)) used err) A c x.bs (a2) := ⟨b7, rfl, rfl, h5.row.same hs9 (fun ad e => h5.ne ad e), h5.ne, h5.le, h5.hi, fun ad e => Nat.lt_of_lt_of_le (h5.lt ad e) hs9.size⟩
    have hTS : ∀ k, (fun g => g = p) k → k < w5.heap.size → ∃ t cs, Blk w5 k t cs ∧ t ≠ 130 ∧ t ≠ 134 := fun k e _ => ⟨_, _, (show k = p from e) ▸ h5.pb, by decide, by decide⟩
    have I9 := Lib.hid (I5.onP (y := { x with at_ := a2, st := 2, last := lb, lit := fixL, dist := fixD }) hs9 K9 rfl rfl rfl rfl (fun _ => ⟨p1, p2, _, _, _, _, rfl, rfl, T1.keep hs9 hTS, T2.keep hs9 hTS, hla, hld⟩))
    have HB9 := Lib.hid (h.mineP (hs5.then hs9))
    have c9 : w5.cell? ⟨p, 9, none⟩ = some v9 := h5.pb.cell 9
    have f9 := h5.pb.frozen 9
    have c10 : (w5.setCell ⟨p, 9, none⟩ (.pointer (some ⟨p1, 0, none⟩))).cell? ⟨p, 10, none⟩ = some v10 := b9.cell 10
    have f10 := b9.frozen 10
    have c6 : ((w5.setCell ⟨p, 9, none⟩ (.pointer (some ⟨p1, 0, none⟩))).setCell ⟨p, 10, none⟩ (.pointer (some ⟨p2, 0, none⟩))).cell? ⟨p, 6, none⟩ = some (.int .i64 x.st) := b10.cell 6
    have f6 := b10.frozen 6
    have c7 : (((w5.setCell ⟨p, 9, none⟩ (.pointer (some ⟨p1, 0, none⟩))).setCell ⟨p, 10, none⟩ (.pointer (some ⟨p2, 0, none⟩))).setCell ⟨p, 6, none⟩ (.int .i64 2)).cell? ⟨p, 7, none⟩ = some (.bool x.last) := b6.cell 7
    have f7 := b6.frozen 7
    clear b9 b10 b6 b7 hs9 K9 h5 hs5 I5 hTS T1 T2
    go_wp2_with fail
    ((try simp only [Exit.inBlock, Exit.then]); first | refine bodyPost_end (results_none rfl _ _ _) rfl ?_ | refine bodyPost_ret (results_none rfl _ _ _) rfl ?_)
    show StepPost _ _ _ _ _ _ _ _ _ _ _ _ _ _ _ _
    rw [← HR.out]
    exact ⟨rfl, vo, _, _, I9.out, HB9.out⟩
  rw [if_neg hk1] at hres
  have ek1 : ((k2 : Int) == 1) = false := by rw [beq_eq_false_iff_ne]; omega
  have ek1' : (k2 == 1) = false := by rw [beq_eq_false_iff_ne]; exact hk1
  by_cases hk2 : k2 = 2
  · subst hk2
    rw [if_pos rfl] at hres
    have c0 : w2.cell? ⟨p, 0, none⟩ = some (.bool x.wide) := h2.pb.cell 0
    have CH := cur_head h2 x.wide
    obtain ⟨hd, hhd⟩ : ∃ r, headG x.wide x.bs a2 = r := ⟨_, rfl⟩
    rw [hhd] at CH hres
    clear hk0 ek0 ek0' hk1 ek1 ek1'
    cases hd with
    | bad k =>
      have HR := Lib.hid hres
      clear hres
      go_wp2_with fail
      refine CH.mono ?_
      rintro e w5 hp5
      obtain ⟨rfl, ⟨a5, h5⟩, hs5⟩ : e = .panicked [faultI k] ∧ (∃ a : Nat, CurAt w5 p (((infC x pw A c vo v9 v10 used err).setIfInBounds 4 (.int .i64 (a2 : Nat))).setIfInBounds 4 (.int .i64 (a : Nat))) A c x.bs a) ∧ Same (fun g => g = p) w2 w5 := hp5
      rw [set44] at h5
      have hs5 := hs2.then hs5
      have I5 := h.move hs5 h5
      go_wp2_with fail
      refine ⟨rfl, ?_⟩
      show StepPost _ _ _ _ _ _ _ _ _ _ _ _ _ _ _ _
      rw [← HR.out]
      exact ⟨rfl, _, I5, h.mineP hs5⟩
    | ok r =>
      obtain ⟨la, ld, q⟩ := r
      simp only at hres
      obtain ⟨hla, hld⟩ := headG_len hhd
      have HR := Lib.hid hres
      clear hres hhd
      go_wp2_with fail
      refine CH.mono ?_
      rintro e w5 hp5
      obtain ⟨⟨p1, p2, t1, t2, rfl, T1, T2, _, _⟩, h5, hs5⟩ : (∃ p1 p2 b1 b2 : Nat, e = .returned (.tuple #[.pointer (some ⟨p1, 0, none⟩), .pointer (some ⟨p2, 0, none⟩)]) ∧ TOk w5 b1 la p1 9 ∧ TOk w5 b2 ld p2 6 ∧ w2.heap.size ≤ p1 ∧ w2.heap.size ≤ p2) ∧ CurAt w5 p (((infC x pw A c vo v9 v10 used err).setIfInBounds 4 (.int .i64 (a2 : Nat))).setIfInBounds 4 (.int .i64 (q : Nat))) A c x.bs q ∧ Same (fun g => g = p) w2 w5 := hp5
      rw [set44] at h5
      have hs5 := hs2.then hs5
      have hla : la.length ≤ 300 := by omega
      clear h2 hs2 CH c0
      have hlp := Blk.lt h5.pb
      have I5 := h.move hs5 h5
      have b9 : Blk (w5.setCell ⟨p, 9, none⟩ (.pointer (some ⟨p1, 0, none⟩))) p 91 (infC { x with at_ := q } pw A c vo (.pointer (some ⟨p1, 0, none⟩)) v10 used err) := h5.pb.set_ 9 (.pointer (some ⟨p1, 0, none⟩))
      have b10 : Blk ((w5.setCell ⟨p, 9, none⟩ (.pointer (some ⟨p1, 0, none⟩))).setCell ⟨p, 10, none⟩ (.pointer (some ⟨p2, 0, none⟩))) p 91 (infC { x with at_ := q } pw A c vo (.pointer (some ⟨p1, 0, none⟩)) (.pointer (some ⟨p2, 0, none⟩)) used err) := b9.set_ 10 (.pointer (some ⟨p2, 0, none⟩))
      have b6 : Blk (((w5.setCell ⟨p, 9, none⟩ (.pointer (some ⟨p1, 0, none⟩))).setCell ⟨p, 10, none⟩ (.pointer (some ⟨p2, 0, none⟩))).setCell ⟨p, 6, none⟩ (.int .i64 2)) p 91 (infC { x with at_ := q, st := 2 } pw A c vo (.pointer (some ⟨p1, 0, none⟩)) (.pointer (some ⟨p2, 0, none⟩)) used err) := b10.set_ 6 (.int .i64 2)
      have b7 : Blk ((((w5.setCell ⟨p, 9, none⟩ (.pointer (some ⟨p1, 0, none⟩))).setCell ⟨p, 10, none⟩ (.pointer (some ⟨p2, 0, none⟩))).setCell ⟨p, 6, none⟩ (.int .i64 2)).setCell ⟨p, 7, none⟩ (.bool lb)) p 91 (infC { x with at_ := q, st := 2, last := lb, lit := la, dist := ld } pw A c vo (.pointer (some ⟨p1, 0, none⟩)) (.pointer (some ⟨p2, 0, none⟩)) used err) := b6.set_ 7 (.bool lb)
      have hs9 : Same (fun g => g = p) w5 ((((w5.setCell ⟨p, 9, none⟩ (.pointer (some ⟨p1, 0, none⟩))).setCell ⟨p, 10, none⟩ (.pointer (some ⟨p2, 0, none⟩))).setCell ⟨p, 6, none⟩ (.int .i64 2)).setCell ⟨p, 7, none⟩ (.bool lb)) := (((Same.set_ (S := fun g => g = p) (p := ⟨p, 9, none⟩) (Same.refl w5) (fun _ => rfl) _).set_ (p := ⟨p, 10, none⟩) (fun _ => rfl) _).set_ (p := ⟨p, 6, none⟩) (fun _ => rfl) _).set_ (p := ⟨p, 7, none⟩) (fun _ => rfl) _
      have K9 : CurAt ((((w5.setCell ⟨p, 9, none⟩ (.pointer (some ⟨p1, 0, none⟩))).setCell ⟨p, 10, none⟩ (.pointer (some ⟨p2, 0, none⟩))).setCell ⟨p, 6, none⟩ (.int .i64 2)).setCell ⟨p, 7, none⟩ (.bool lb)) p (infC { x with at_ := q, st := 2, last := lb, lit := la, dist := ld } pw A c vo (.pointer (some ⟨p1, 0, none⟩)) (.pointer (some ⟨p2, 0, none⟩)) used err) A c x.bs (q) := ⟨b7, rfl, rfl, h5.row.same hs9 (fun ad e => h5.ne ad e), h5.ne, h5.le, h5.hi, fun ad e => Nat.lt_of_lt_of_le (h5.lt ad e) hs9.size⟩
      have hTS : ∀ k, (fun g => g = p) k → k < w5.heap.size → ∃ t cs, Blk w5 k t cs ∧ t ≠ 130 ∧ t ≠ 134 := fun k e _ => ⟨_, _, (show k = p from e) ▸ h5.pb, by decide, by decide⟩
      have I9 := Lib.hid (I5.onP (y := { x with at_ := q, st := 2, last := lb, lit := la, dist := ld }) hs9 K9 rfl rfl rfl rfl (fun _ => ⟨p1, p2, _, _, _, _, rfl, rfl, T1.keep hs9 hTS, T2.keep hs9 hTS, hla, hld⟩))
      have HB9 := Lib.hid (h.mineP (hs5.then hs9))
      have c9 : w5.cell? ⟨p, 9, none⟩ = some v9 := h5.pb.cell 9
      have f9 := h5.pb.frozen 9
      have c10 : (w5.setCell ⟨p, 9, none⟩ (.pointer (some ⟨p1, 0, none⟩))).cell? ⟨p, 10, none⟩ = some v10 := b9.cell 10
      have f10 := b9.frozen 10
      have c6 : ((w5.setCell ⟨p, 9, none⟩ (.pointer (some ⟨p1, 0, none⟩))).setCell ⟨p, 10, none⟩ (.pointer (some ⟨p2, 0, none⟩))).cell? ⟨p, 6, none⟩ = some (.int .i64 x.st) := b10.cell 6
      have f6 := b10.frozen 6
      have c7 : (((w5.setCell ⟨p, 9, none⟩ (.pointer (some ⟨p1, 0, none⟩))).setCell ⟨p, 10, none⟩ (.pointer (some ⟨p2, 0, none⟩))).setCell ⟨p, 6, none⟩ (.int .i64 2)).cell? ⟨p, 7, none⟩ = some (.bool x.last) := b6.cell 7
      have f7 := b6.frozen 7
      clear b9 b10 b6 b7 hs9 K9 h5 hs5 I5 hTS T1 T2
      go_wp2_with fail
      ((try simp only [Exit.inBlock, Exit.then]); first | refine bodyPost_end (results_none rfl _ _ _) rfl ?_ | refine bodyPost_ret (results_none rfl _ _ _) rfl ?_)
      show StepPost _ _ _ _ _ _ _ _ _ _ _ _ _ _ _ _
      rw [← HR.out]
      exact ⟨rfl, vo, _, _, I9.out, HB9.out⟩
  rw [if_neg hk2] at hres
  have ek2 : ((k2 : Int) == 2) = false := by rw [beq_eq_false_iff_ne]; omega
  have ek2' : (k2 == 2) = false := by rw [beq_eq_false_iff_ne]; exact hk2
  have HR := Lib.hid hres
  clear hres
  have I2 := h.move hs2 h2
  go_wp2_with fail
  refine (cur_fail _ _ 2).mono ?_
  rintro e w6 ⟨rfl, rfl⟩
  go_wp2_with fail
  refine ⟨rfl, ?_⟩
  show StepPost _ _ _ _ _ _ _ _ _ _ _ _ _ _ _ _
  rw [← HR.out]
  exact ⟨rfl, _, I2, h.mineP hs2⟩
end Go.Proofs.Yteknaaijlkenkaa
