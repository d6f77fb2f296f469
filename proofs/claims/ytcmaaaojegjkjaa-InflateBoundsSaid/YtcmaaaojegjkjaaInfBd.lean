import Derived.Test.YtcmaaaojegjkjaaInfT
import Derived.Test.YtcmaaaojegjkjaaInfU
namespace Go.Proofs.Ytcmaaaojegjkjaa
set_option linter.unusedVariables false
set_option linter.unusedSimpArgs false
open Go.RowKit
attribute [local go_sem] max2i min2i max2t min2t

theorem restI_all (x : I) (e : Nat) : (restI x e).all = x.all := by unfold restI; split <;> rfl
set_option maxHeartbeats 1600000 in
set_option maxRecDepth 100000 in
theorem inf_endS {w : World} {B p pw r : Nat} {A : Option Addr} {c : Nat} {vo v9 v10 : Value} {U : Int} {x : I} (h : InfAt w B p pw r A c vo v9 v10 U 5 x) :
    Calls Try.prog 28 #[.pointer (some ⟨p, 0, none⟩)] w fun e w' => e = .returned (.tuple #[.slice none 0 0, .int .i64 2]) ∧ InfAt w' B p pw r none 0 vo v9 v10 U 2 { x with bs := [], at_ := 0 } ∧ Below B w w' ∧ Same (fun g => g = p) w w' := by
  have hc := h.cur
  have c13 : w.cell? ⟨p, 13, none⟩ = some (.int .i64 5) := hc.pb.cell 13
  have f13 := hc.pb.frozen 13
  have b1 := hc.pb.set_ 13 (.int .i64 2)
  have d3 : (w.setCell ⟨p, 13, none⟩ (.int .i64 2)).cell? ⟨p, 3, none⟩ = some (.slice A x.bs.length c) := b1.cell 3
  have g3 := b1.frozen 3
  have b2 := b1.set_ 3 (.slice none 0 0)
  have d4 : ((w.setCell ⟨p, 13, none⟩ (.int .i64 2)).setCell ⟨p, 3, none⟩ (.slice none 0 0)).cell? ⟨p, 4, none⟩ = some (.int .i64 x.at_) := b2.cell 4
  have g4 := b2.frozen 4
  have b3 : Blk (((w.setCell ⟨p, 13, none⟩ (.int .i64 2)).setCell ⟨p, 3, none⟩ (.slice none 0 0)).setCell ⟨p, 4, none⟩ (.int .i64 0)) p 69 (infC { x with bs := [], at_ := 0 } pw none 0 vo v9 v10 U 2) := b2.set_ 4 (.int .i64 0)
  have hs3 : Same (fun g => g = p) w (((w.setCell ⟨p, 13, none⟩ (.int .i64 2)).setCell ⟨p, 3, none⟩ (.slice none 0 0)).setCell ⟨p, 4, none⟩ (.int .i64 0)) := ((Same.set_ (S := fun g => g = p) (p := ⟨p, 13, none⟩) (Same.refl w) (fun _ => rfl) _).set_ (p := ⟨p, 3, none⟩) (fun _ => rfl) _).set_ (p := ⟨p, 4, none⟩) (fun _ => rfl) _
  have d13 : (((w.setCell ⟨p, 13, none⟩ (.int .i64 2)).setCell ⟨p, 3, none⟩ (.slice none 0 0)).setCell ⟨p, 4, none⟩ (.int .i64 0)).drew.cell? ⟨p, 13, none⟩ = some (.int .i64 2) := b3.drew.cell 13
  have n1234 := h.pw_ne
  have I3 := Lib.hid ((h.onPA (y := { x with bs := [], at_ := 0 }) hs3 ⟨b3, rfl, rfl, ⟨RdI.nil_, by simp, by simp, by simp, by simp⟩, by simp, Nat.zero_le _, by simp, by simp⟩ rfl rfl rfl (h.out.kept hs3 (fun g hg e => n1234.2.2.1 (by rw [hg, show g = p from e]))) h.voR (fun ad e => by cases e) h.outl (h.tabsP hs3)).same (Same.refl (S := fun _ => False) _).drew)
  have HB := Lib.hid ((h.below (h.mineP hs3)).drew)
  have HS := Lib.hid hs3.drew
  clear b1 b2 b3 hs3
  go_enter Try.func28, Try.ntmps28
  go_wp2_with fail
  go_region
  go_wp2_with fail
  go_ret2
  exact ⟨rfl, I3.out, HB.out, HS.out⟩
structure EndPost (w : World) (B p pw r : Nat) (vo v9 v10 : Value) (U : Int) (e : Nat) (all : List Int) (en : Ending) (w' : World) : Prop where mk ::
  out_ : ∃ (A : Option Addr) (c : Nat) (x : I), en = .returned (.tuple #[.slice none 0 0, .int .i64 (e : Nat)]) ∧ x.all = all ∧ InfAt w' B p pw r A c vo v9 v10 U (e : Nat) x ∧ Below B w w' ∧ Same (fun g => g = p) w w'
set_option maxHeartbeats 1600000 in
set_option maxRecDepth 100000 in
theorem inf_endAny {w : World} {B p pw r : Nat} {A : Option Addr} {c : Nat} {vo v9 v10 : Value} {U : Int} {x : I} {er : Nat} (h : InfAt w B p pw r A c vo v9 v10 U (er : Nat) x) :
    Calls Try.prog 28 #[.pointer (some ⟨p, 0, none⟩)] w fun e w' => EndPost w B p pw r vo v9 v10 U (if er = 5 then 2 else er) x.all e w' := by
  by_cases h5 : er = 5
  · subst h5
    rw [if_pos rfl]
    refine (inf_endS h).mono ?_
    rintro e w' ⟨rfl, hI, hB, hS⟩
    exact ⟨⟨none, 0, { x with bs := [], at_ := 0 }, rfl, rfl, hI, hB, hS⟩⟩
  · rw [if_neg h5]
    have c13 : w.cell? ⟨p, 13, none⟩ = some (.int .i64 (er : Nat)) := h.cur.pb.cell 13
    have e5 : ((er : Int) == 5) = false := by rw [beq_eq_false_iff_ne]; omega
    have e5' : (er == 5) = false := by rw [beq_eq_false_iff_ne]; exact h5
    have H := Lib.hid h
    clear h
    go_enter Try.func28, Try.ntmps28
    go_wp2_with fail
    go_region
    go_wp2_with fail
    go_ret2
    exact ⟨⟨A, c, x, rfl, rfl, H.out.same (Same.refl (S := fun _ => False) _).drew, (Below.refl _ _).drew, (Same.refl _).drew⟩⟩
set_option maxHeartbeats 1600000 in
set_option maxRecDepth 100000 in
theorem inf_total {w : World} {B p pw r : Nat} {A : Option Addr} {c : Nat} {vo v9 v10 : Value} {U E : Int} {x : I} (h : InfAt w B p pw r A c vo v9 v10 U E x) :
    Calls Try.prog 29 #[.pointer (some ⟨p, 0, none⟩)] w fun e w' => e = .returned (.int .i64 (x.all.length : Nat)) ∧ w' = w := by
  have c12 : w.cell? ⟨p, 12, none⟩ = some (.int .i64 (x.all.length : Nat)) := h.cur.pb.cell 12
  go_enter Try.func29, Try.ntmps29
  go_wp2_with fail
  go_ret
  exact ⟨rfl, rfl⟩
set_option maxHeartbeats 8000000 in
set_option maxRecDepth 100000 in
theorem inflateBounds_walk (A : Option Addr) (c : Nat) (bs : List Int) (wide : Bool) (m n : Int) (w : World) (h00 : RowOf w .u8 A c bs) (h02 : (Lit.int .i64 m).wf = true) (h03 : (Lit.int .i64 n).wf = true) :
    Calls Try.prog 8 #[.slice A bs.length c, .bool wide, .int .i64 m, .int .i64 n] w fun e w' => e = .returned (.bool true) ∧ Below w.heap.size w w' := by
  have ht := fun W => Lib.hid (told12 W)
  have hm := h00.most
  have hcap := h00.cap
  by_cases h1 : 400 < bs.length
  · have b1 : decide ((400 : Int) < bs.length) = true := by simp; omega
    go_enter Try.func8, Try.ntmps8
    go_wp2_with (go_at_call 13; refine (ht _).out.mono ?_; rintro e w' ⟨rfl, hb⟩)
    go_ret
    exact ⟨rfl, hb⟩
  · have b1 : decide ((400 : Int) < bs.length) = false := by simp; omega
    obtain ⟨p, hp, ep⟩ := uint_rem m 70001 (by omega) (by omega)
    obtain ⟨q, hq, eq⟩ := uint_rem n 70001 (by omega) (by omega)
    have ep : wrap64 ((IntKind.u64.wrap m).tmod 70001) = (p : Int) := ep
    have eq : wrap64 ((IntKind.u64.wrap n).tmod 70001) = (q : Int) := eq
    by_cases hpq : p ≤ q
    · have e1 : decide ((q : Int) < p) = false := by simp; omega
      have e1' : decide (q < p) = false := by simp; omega
      have hmu : mu (startI bs wide 32768 p) < 16 * bs.length + 2 := by unfold mu startI lf; simp; omega
      have CN := Lib.hid (inf_new wide 32768 p (by decide) (by decide) (by omega) w)
      go_enter Try.func8, Try.ntmps8
      go_wp2_with fail
      refine CN.out.mono ?_
      rintro e w1 ⟨g, pw, r, rfl, I1, hB1⟩
      have CP := inf_push I1 (by omega) (by simp [startI]) (by simp [startI]) A c bs (h00.belo hB1) (by simp [startI]; omega) (16 * bs.length + 2) hmu
      have e9 : runP (16 * bs.length + 2) { startI [] wide 32768 p with bs := (startI [] wide 32768 p).bs ++ bs, out := [] } = runP (16 * bs.length + 2) (startI bs wide 32768 p) := rfl
      rw [e9] at CP
      obtain ⟨⟨y, er⟩, hyr⟩ : ∃ z, runP (16 * bs.length + 2) (startI bs wide 32768 p) = z := ⟨_, rfl⟩
      have hpre : PreOf [] y := by have := run_pre (pre := []) (16 * bs.length + 2) (startI bs wide 32768 p) ⟨rfl, Nat.zero_le _⟩; rwa [hyr] at this
      have hym : y.most = p := by have := run_most (16 * bs.length + 2) (startI bs wide 32768 p) (by simp [startI]) (by simp [startI]); rwa [hyr] at this
      rw [hyr] at CP
      have CP := Lib.hid CP
      have hall : y.all = y.out := hpre.all
      have hle : y.out.length ≤ p := by rw [← hall, ← hym]; exact hpre.cap
      have HYR := Lib.hid hyr
      clear hyr hmu e9 hpre hym
      have g1 : decide ((p : Int) < (y.out.length : Nat)) = false := by simp; omega
      have g1' : decide (p < y.out.length) = false := by simp; omega
      go_wp2_with fail
      refine CP.out.mono ?_
      rintro e w2 ⟨vo2, v92, v102, A9, c9, U2, rfl, hO, hI, hu, hB2⟩
      have hB12 := hB1.trans hB2
      have HU := Lib.hid hu
      have HI := Lib.hid hI
      obtain ⟨e2, he2⟩ : ∃ z, (if er = 5 then 2 else er) = z := ⟨_, rfl⟩
      have CE := inf_endAny hI
      rw [he2] at CE
      have CE := Lib.hid CE
      have HE2 := Lib.hid he2
      clear he2
      clear hu hI I1
      go_wp2_with fail
      refine CE.out.mono ?_
      rintro e w3 ⟨A3, c3, x3, rfl, hx3, hI3, hB3, hS3⟩
      have hB13 := hB12.trans hB3
      rw [restI_all, hall] at hx3
      have CT := inf_total hI3
      rw [hx3] at CT
      have CT := Lib.hid CT
      have hO3 := Lib.hid hO
      obtain ⟨A1, c1, rfl, hlc1, hc1, hR1, hA1⟩ := hO.rdb
      have hR3 := hR1.same hS3 (fun ad e c => (hO.blk_ne HI.out.cur.pb (by decide)) (by rw [← show ad.block = g from c]; exact hA1 ad e))
      clear hO
      go_wp2_with fail
      refine CT.out.mono ?_
      rintro e w4 ⟨rfl, hw⟩
      subst hw
      have hz13 := hB13.size
      have CA := inf_all A c bs wide 32768 q (by decide) (by decide) (by omega) w4 (h00.belo hB13) (by omega)
      by_cases he0 : er = 0
      · subst he0
        have hq5 : allQ bs wide 32768 q = (y.out, (y.at_ + 7) / 8, 0) := by unfold allQ; rw [allQ_up HYR.out (q := q) (by omega)]; rfl
        have hU := HU.out (.inl rfl)
        rw [usedN, if_pos rfl, Nat.zero_add] at hU
        rw [hq5, ← hU] at CA
        have CA := Lib.hid CA
        clear HU hq5 HYR HI hU
        have eu : ((U2 : Int) == (U2 : Int)) = true := beq_self_eq_true _
        go_wp2_with fail
        refine CA.out.mono ?_
        rintro e w5 ⟨v5, rfl, hO5, hB5⟩
        have hB15 := hB13.trans (hB5.mono hz13)
        obtain ⟨A5, c5, rfl, hlc5, hc5, hR5, hA5⟩ := hO5.rdb
        go_wp2_with fail
        refine (ht _).out.mono ?_
        rintro e w6 ⟨rfl, hb6⟩
        have hB16 := hB15.trans (hb6.mono hB15.size)
        have s56 := Same.of_below (S := fun _ => False) hb6
        have s45 := Same.of_below (S := fun _ => False) hB5
        have t5 := (hR5.same s56 (fun _ _ c => c)).to_string (P := Try.prog) (n := y.out.length) (c := c5) rfl Try.underlying26 Try.underlying5 Try.underlying9
        have t3 := ((hR3.same s45 (fun _ _ c => c)).same s56 (fun _ _ c => c)).to_string (P := Try.prog) (n := y.out.length) (c := c1) rfl Try.underlying26 Try.underlying5 Try.underlying9
        have hI6 := (hI3.same s45).same s56
        rw [show e2 = 0 from HE2.out.symm] at hI6
        have CU := Lib.hid (inf_used0 hI6)
        clear hI6 HE2
        generalize strOfNums y.out = S9 at *
        clear hI3 hR3 hR5 s45 s56 hO5 hO3
        go_wp2_with fail
        refine CU.out.mono ?_
        rintro e w7 ⟨rfl, hw⟩
        subst hw
        go_wp2_with fail
        go_ret
        exact ⟨rfl, hB16⟩
      · have g2 : ((er : Int) == 0) = false := by rw [beq_eq_false_iff_ne]; omega
        have g2' : (er == 0) = false := by rw [beq_eq_false_iff_ne]; exact he0
        have CA := Lib.hid CA
        generalize allQ bs wide 32768 q = r5 at *
        clear HU HYR HI
        go_wp2_with fail
        refine CA.out.mono ?_
        rintro e w5 ⟨v5, rfl, hO5, hB5⟩
        have hB15 := hB13.trans (hB5.mono hz13)
        go_wp2_with (go_at_call 13; refine (ht _).out.mono ?_; rintro e w6 ⟨rfl, hb6⟩)
        go_ret
        exact ⟨rfl, hB15.trans (hb6.mono hB15.size)⟩
    · have e1 : decide ((q : Int) < p) = true := by simp; omega
      have e1' : decide (q < p) = true := by simp; omega
      have hmu : mu (startI bs wide 32768 q) < 16 * bs.length + 2 := by unfold mu startI lf; simp; omega
      have CN := Lib.hid (inf_new wide 32768 q (by decide) (by decide) (by omega) w)
      go_enter Try.func8, Try.ntmps8
      go_wp2_with fail
      refine CN.out.mono ?_
      rintro e w1 ⟨g, pw, r, rfl, I1, hB1⟩
      have CP := inf_push I1 (by omega) (by simp [startI]) (by simp [startI]) A c bs (h00.belo hB1) (by simp [startI]; omega) (16 * bs.length + 2) hmu
      have e9 : runP (16 * bs.length + 2) { startI [] wide 32768 q with bs := (startI [] wide 32768 q).bs ++ bs, out := [] } = runP (16 * bs.length + 2) (startI bs wide 32768 q) := rfl
      rw [e9] at CP
      obtain ⟨⟨y, er⟩, hyr⟩ : ∃ z, runP (16 * bs.length + 2) (startI bs wide 32768 q) = z := ⟨_, rfl⟩
      have hpre : PreOf [] y := by have := run_pre (pre := []) (16 * bs.length + 2) (startI bs wide 32768 q) ⟨rfl, Nat.zero_le _⟩; rwa [hyr] at this
      have hym : y.most = q := by have := run_most (16 * bs.length + 2) (startI bs wide 32768 q) (by simp [startI]) (by simp [startI]); rwa [hyr] at this
      rw [hyr] at CP
      have CP := Lib.hid CP
      have hall : y.all = y.out := hpre.all
      have hle : y.out.length ≤ q := by rw [← hall, ← hym]; exact hpre.cap
      have HYR := Lib.hid hyr
      clear hyr hmu e9 hpre hym
      have g1 : decide ((q : Int) < (y.out.length : Nat)) = false := by simp; omega
      have g1' : decide (q < y.out.length) = false := by simp; omega
      go_wp2_with fail
      refine CP.out.mono ?_
      rintro e w2 ⟨vo2, v92, v102, A9, c9, U2, rfl, hO, hI, hu, hB2⟩
      have hB12 := hB1.trans hB2
      have HU := Lib.hid hu
      have HI := Lib.hid hI
      obtain ⟨e2, he2⟩ : ∃ z, (if er = 5 then 2 else er) = z := ⟨_, rfl⟩
      have CE := inf_endAny hI
      rw [he2] at CE
      have CE := Lib.hid CE
      have HE2 := Lib.hid he2
      clear he2
      clear hu hI I1
      go_wp2_with fail
      refine CE.out.mono ?_
      rintro e w3 ⟨A3, c3, x3, rfl, hx3, hI3, hB3, hS3⟩
      have hB13 := hB12.trans hB3
      rw [restI_all, hall] at hx3
      have CT := inf_total hI3
      rw [hx3] at CT
      have CT := Lib.hid CT
      have hO3 := Lib.hid hO
      obtain ⟨A1, c1, rfl, hlc1, hc1, hR1, hA1⟩ := hO.rdb
      have hR3 := hR1.same hS3 (fun ad e c => (hO.blk_ne HI.out.cur.pb (by decide)) (by rw [← show ad.block = g from c]; exact hA1 ad e))
      clear hO
      go_wp2_with fail
      refine CT.out.mono ?_
      rintro e w4 ⟨rfl, hw⟩
      subst hw
      have hz13 := hB13.size
      have CA := inf_all A c bs wide 32768 p (by decide) (by decide) (by omega) w4 (h00.belo hB13) (by omega)
      by_cases he0 : er = 0
      · subst he0
        have hq5 : allQ bs wide 32768 p = (y.out, (y.at_ + 7) / 8, 0) := by unfold allQ; rw [allQ_up HYR.out (q := p) (by omega)]; rfl
        have hU := HU.out (.inl rfl)
        rw [usedN, if_pos rfl, Nat.zero_add] at hU
        rw [hq5, ← hU] at CA
        have CA := Lib.hid CA
        clear HU hq5 HYR HI hU
        have eu : ((U2 : Int) == (U2 : Int)) = true := beq_self_eq_true _
        go_wp2_with fail
        refine CA.out.mono ?_
        rintro e w5 ⟨v5, rfl, hO5, hB5⟩
        have hB15 := hB13.trans (hB5.mono hz13)
        obtain ⟨A5, c5, rfl, hlc5, hc5, hR5, hA5⟩ := hO5.rdb
        go_wp2_with fail
        refine (ht _).out.mono ?_
        rintro e w6 ⟨rfl, hb6⟩
        have hB16 := hB15.trans (hb6.mono hB15.size)
        have s56 := Same.of_below (S := fun _ => False) hb6
        have s45 := Same.of_below (S := fun _ => False) hB5
        have t5 := (hR5.same s56 (fun _ _ c => c)).to_string (P := Try.prog) (n := y.out.length) (c := c5) rfl Try.underlying26 Try.underlying5 Try.underlying9
        have t3 := ((hR3.same s45 (fun _ _ c => c)).same s56 (fun _ _ c => c)).to_string (P := Try.prog) (n := y.out.length) (c := c1) rfl Try.underlying26 Try.underlying5 Try.underlying9
        have hI6 := (hI3.same s45).same s56
        rw [show e2 = 0 from HE2.out.symm] at hI6
        have CU := Lib.hid (inf_used0 hI6)
        clear hI6 HE2
        generalize strOfNums y.out = S9 at *
        clear hI3 hR3 hR5 s45 s56 hO5 hO3
        go_wp2_with fail
        refine CU.out.mono ?_
        rintro e w7 ⟨rfl, hw⟩
        subst hw
        go_wp2_with fail
        go_ret
        exact ⟨rfl, hB16⟩
      · have g2 : ((er : Int) == 0) = false := by rw [beq_eq_false_iff_ne]; omega
        have g2' : (er == 0) = false := by rw [beq_eq_false_iff_ne]; exact he0
        have CA := Lib.hid CA
        generalize allQ bs wide 32768 p = r5 at *
        clear HU HYR HI
        go_wp2_with fail
        refine CA.out.mono ?_
        rintro e w5 ⟨v5, rfl, hO5, hB5⟩
        have hB15 := hB13.trans (hB5.mono hz13)
        go_wp2_with (go_at_call 13; refine (ht _).out.mono ?_; rintro e w6 ⟨rfl, hb6⟩)
        go_ret
        exact ⟨rfl, hB15.trans (hb6.mono hB15.size)⟩
end Go.Proofs.Ytcmaaaojegjkjaa
