import Derived.Test.YteknaaijlkenkaaJInn
import Derived.Test.YteknaaijlkenkaaInfQ
import Derived.Deep.CutBlock
namespace Go.Proofs.Yteknaaijlkenkaa
set_option linter.unusedVariables false
set_option linter.unusedSimpArgs false
open Go.RowKit
attribute [local go_sem] max2i min2i max2t min2t

theorem inf_step {w : World} {B p pw r : Nat} {A : Option Addr} {c : Nat} {vo v9 v10 : Value} {used err : Int} {x : I} (h : InfAt w B p pw r A c vo v9 v10 used err x) (h3 : x.st ≤ 3) (hs : x.st ≠ 3) (hraw : x.raw ≤ 65535) :
    Calls Try.prog 58 #[.pointer (some ⟨p, 0, none⟩)] w fun e w' => StepDone w B p pw r A c used err x (stepG x) e w' := by
  unfold stepG
  by_cases h0 : x.st = 0
  · rw [if_pos h0]; exact inf_step0 h h0
  · rw [if_neg h0]
    by_cases h1 : x.st = 1
    · rw [if_pos h1]; exact inf_step1 h h1 hraw
    · rw [if_neg h1]; exact inf_step2 h (by omega)
theorem InfAt.onPA {w w' : World} {B p pw r : Nat} {A A' : Option Addr} {c c' : Nat} {vo v9 v10 vo' v9' v10' : Value} {used err used' err' : Int} {x y : I} (h : InfAt w B p pw r A c vo v9 v10 used err x) (hs : Same (fun g => g = p) w w')
    (hb : CurAt w' p (infC y pw A' c' vo' v9' v10' used' err') A' c' y.bs y.at_) (h1 : y.size = x.size) (h2 : y.all = x.all) (h4 : y.most = x.most) (ho : Own w' B 5 vo' (ints .u8 y.out)) (hv : vo'.ownBlock ≠ some r) (ha : ∀ ad, A' = some ad → ad.block ≠ pw ∧ ad.block ≠ r ∧ vo'.ownBlock ≠ some ad.block)
    (hl : y.out.length ≤ y.all.length) (ht : Tabs w' y v9' v10') : InfAt w' B p pw r A' c' vo' v9' v10' used' err' y := by
  obtain ⟨n1, n2, n3, n4⟩ := h.pw_ne
  exact ⟨hb, by rw [h1, h2]; exact h.win.kept hs (fun e => n1 e.symm) (fun e => n2 e.symm), ho, ht, h.bp, h.bw, h.br, Nat.le_trans h.bB hs.size, hv, ha, by rw [h4]; exact h.most, by rw [h2, h4]; exact h.total, hl⟩
/-- What stands when all that is there is read. -/
def restI (x : I) (e : Nat) : I := if e = 5 then { x with bs := x.bs.drop (x.at_ / 8), at_ := x.at_ - 8 * (x.at_ / 8), out := [] } else { x with bs := [], at_ := 0, out := [] }
def usedN (x : I) (e : Nat) : Nat := if e = 0 then (x.at_ + 7) / 8 else x.at_ / 8
structure RunRel (w : World) (B p pw r : Nat) (A : Option Addr) (c : Nat) (used : Int) (res : I × Nat) (gk : Nat) (wr : World) : Prop where mk ::
  out_ : ∃ (x : I) (vo v9 v10 : Value), InfAt wr B p pw r A c vo v9 v10 used 5 x ∧ x.st ≤ 3 ∧ x.raw ≤ 65535 ∧ mu x < gk ∧ runP gk x = res ∧ Below B w wr
theorem bad_not0 {bs : List Int} {a n k : Nat} (h : getG bs a n = .bad k) : k ≠ 0 := by
  unfold getG at h
  split at h
  · injection h with h; omega
  · cases h
theorem symG_not0 {l bs : List Int} {a k : Nat} (h : symG l bs a = .bad k) : k ≠ 0 := by
  have := (symG_bad h).2; omega
theorem smallG_not0 {bs : List Int} : ∀ (r : List Nat) (l : List Int) (a k : Nat), smallG bs r l a = .bad k → k ≠ 0
  | [], l, a, k, h => by rw [smallG] at h; cases h
  | s :: r, l, a, k, h => by
    rw [smallG] at h
    split at h
    · rename_i hg; injection h with h; subst h; exact bad_not0 hg
    · exact smallG_not0 r _ _ k h
theorem rowOne_not0 {bs out : List Int} {s a k : Nat} (h : rowOne bs out s a = .bad k) : k ≠ 0 := by
  unfold rowOne at h
  split at h
  · cases h
  · split at h
    · split at h
      · injection h with h; omega
      · split at h
        · rename_i hg; injection h with h; subst h; exact bad_not0 hg
        · cases h
    · split at h
      · split at h
        · rename_i hg; injection h with h; subst h; exact bad_not0 hg
        · cases h
      · split at h
        · rename_i hg; injection h with h; subst h; exact bad_not0 hg
        · cases h
theorem rowG_not0 {l bs : List Int} {m : Nat} : ∀ (n : Nat) (out : List Int) (a k : Nat), rowG l bs m n out a = .bad k → k ≠ 0
  | 0, out, a, k, h => by rw [rowG] at h; cases h
  | n + 1, out, a, k, h => by
    rw [rowG] at h
    split at h
    · cases h
    · split at h
      · rename_i hg; injection h with h; subst h; exact symG_not0 hg
      · split at h
        · rename_i hg; injection h with h; subst h; exact rowOne_not0 hg
        · split at h
          · injection h with h; omega
          · exact rowG_not0 n _ _ k h
theorem headG_not0 {wide : Bool} {bs : List Int} {n k : Nat} (h : headG wide bs n = .bad k) : k ≠ 0 := by
  unfold headG at h
  split at h
  · rename_i hg; injection h with h; subst h; exact bad_not0 hg
  · split at h
    · injection h with h; omega
    · split at h
      · rename_i hg; injection h with h; subst h; exact bad_not0 hg
      · split at h
        · injection h with h; omega
        · split at h
          · rename_i hg; injection h with h; subst h; exact bad_not0 hg
          · rename_i c1 h3
            cases hsg : smallG bs (ordL.take (c1 + 4)) (List.replicate 19 0) (n + 5 + 5 + 4) with
            | bad e => rw [hsg, headK] at h; injection h with h; subst h; exact smallG_not0 _ _ _ _ hsg
            | ok q =>
              obtain ⟨l, a3⟩ := q
              rw [hsg, headK] at h
              split at h
              · injection h with h; omega
              · split at h
                · rename_i hg; injection h with h; subst h; exact rowG_not0 _ _ _ _ hg
                · split at h
                  · injection h with h; omega
                  · cases h
theorem stepG_bad {x : I} {k : Nat} (h : stepG x = .bad k) : k ≠ 0 := by
  unfold stepG at h
  split at h
  · unfold blockG at h
    split at h
    · rename_i hg; injection h with h; subst h; exact bad_not0 hg
    · split at h
      · rename_i hg; injection h with h; subst h; exact bad_not0 hg
      · split at h
        · split at h
          · rename_i hg; injection h with h; subst h; exact bad_not0 hg
          · split at h
            · rename_i hg; injection h with h; subst h; exact bad_not0 hg
            · split at h
              · injection h with h; omega
              · cases h
        · split at h
          · cases h
          · split at h
            · split at h
              · rename_i hg; injection h with h; subst h; exact headG_not0 hg
              · cases h
            · injection h with h; omega
  · split at h
    · unfold rawG at h
      split at h
      · cases h
      · split at h
        · injection h with h; omega
        · split at h
          · injection h with h; omega
          · cases h
    · unfold tokenG at h
      split at h
      · rename_i hg; injection h with h; subst h; exact symG_not0 hg
      · split at h
        · cases h
        · split at h
          · split at h
            · injection h with h; omega
            · cases h
          · split at h
            · injection h with h; omega
            · split at h
              · rename_i hg; injection h with h; subst h; exact bad_not0 hg
              · split at h
                · rename_i hg; injection h with h; subst h; exact symG_not0 hg
                · split at h
                  · injection h with h; omega
                  · split at h
                    · rename_i hg; injection h with h; subst h; exact bad_not0 hg
                    · split at h
                      · injection h with h; omega
                      · split at h
                        · injection h with h; omega
                        · cases h
structure LoopDone (w : World) (B p pw r : Nat) (A : Option Addr) (c : Nat) (used : Int) (y : I) (e : Nat) (wx : World) : Prop where mk ::
  out_ : ∃ (a : Nat) (vo v9 v10 : Value), InfAt wx B p pw r A c vo v9 v10 used e { y with at_ := a } ∧ (e = 5 → a = y.at_) ∧ (e = 0 → a = y.at_) ∧ Below B w wx
structure RunPost (w : World) (B p pw r U : Nat) (y : I) (e : Nat) (en : Ending) (w' : World) : Prop where mk ::
  out_ : ∃ (vo2 v92 v102 : Value) (A2 : Option Addr) (c2 U2 : Nat), en = .returned (.tuple #[vo2, .int .i64 (e : Nat)]) ∧ Own w' B 5 vo2 (ints .u8 y.out) ∧
      InfAt w' B p pw r A2 c2 (.slice none 0 0) v92 v102 (U2 : Nat) (e : Nat) (restI y e) ∧ (e = 0 ∨ e = 5 → U2 = U + usedN y e) ∧ Below B w w'
set_option maxHeartbeats 4000000 in
set_option maxRecDepth 100000 in
theorem inf_run {w : World} {B p pw r : Nat} {A : Option Addr} {c : Nat} {vo v9 v10 : Value} {U : Nat} {x : I} (h : InfAt w B p pw r A c vo v9 v10 U 5 x) (hU : U ≤ 1099511627776) (h3 : x.st ≤ 3) (hraw : x.raw ≤ 65535) (K : Nat) (hK : mu x < K) :
    Calls Try.prog 46 #[.pointer (some ⟨p, 0, none⟩)] w fun e w' => RunPost w B p pw r U (runP K { x with out := [] }).1 (runP K { x with out := [] }).2 e w' := by
  obtain ⟨res, hres⟩ : ∃ s, runP K { x with out := [] } = s := ⟨_, rfl⟩
  rw [hres]
  have hc := h.cur
  have c11 : w.cell? ⟨p, 11, none⟩ = some vo := hc.pb.cell 11
  have f11 := hc.pb.frozen 11
  have hs1 : Same (fun g => g = p) w (w.setCell ⟨p, 11, none⟩ (.slice none 0 0)) := Same.set_ (S := fun g => g = p) (p := ⟨p, 11, none⟩) (Same.refl w) (fun _ => rfl) _
  have b1 : Blk (w.setCell ⟨p, 11, none⟩ (.slice none 0 0)) p 91 (infC { x with out := [] } pw A c (.slice none 0 0) v9 v10 U 5) := hc.pb.set_ 11 (.slice none 0 0)
  have I1 := h.onPA (y := { x with out := [] }) hs1 ⟨b1, rfl, rfl, hc.row.same hs1 (fun ad e => hc.ne ad e), hc.ne, hc.le, hc.hi, fun ad e => Nat.lt_of_lt_of_le (hc.lt ad e) hs1.size⟩ rfl rfl rfl (Own.nil _ _ _) (by simp [Value.ownBlock]) (fun ad e => ⟨(h.apart ad e).1, (h.apart ad e).2.1, by simp [Value.ownBlock]⟩) (Nat.zero_le _) (h.tabsP hs1)
  have hB1 := h.below (h.mineP hs1)
  clear b1 hs1
  obtain ⟨yr, er⟩ := res
  go_enter Try.func46, Try.ntmps46
  go_upto_block 0 with fail
  generalize w.setCell ⟨p, 11, none⟩ (.slice none 0 0) = w1 at *
  go_cut [] (fun wx => LoopDone w B p pw r A c U yr er wx)
  case first =>
    go_wp2_with fail
    go_loopg [] K (RunRel w B p pw r A c U (yr, er))
    case atStart => exact ⟨⟨_, _, _, _, I1, h3, hraw, hK, hres, hB1⟩⟩
    case round =>
      obtain ⟨y, vy, v9y, v10y, I4, hy3, hyr, hmu, hres, hBr⟩ := hrel.out_
      clear hrel I1 hB1
      obtain ⟨k, hk⟩ : ∃ k, gk = k + 1 := ⟨gk - 1, by omega⟩
      rw [hk, runP] at hres
      by_cases hst : y.st = 3
      · rw [if_pos hst] at hres
        simp only [Prod.mk.injEq] at hres
        obtain ⟨hr1, hr2⟩ := hres
        subst hr1 hr2
        have C3 := inf_step3 I4 hst
        clear hst
        go_wp2_with fail
        refine C3.mono ?_
        rintro e w4 ⟨rfl, I5, hB4⟩
        go_wp2_with fail
        go_meet
        exact ⟨⟨y.at_, _, _, _, I5, fun _ => rfl, fun _ => rfl, hBr.trans hB4⟩⟩
      · rw [if_neg hst] at hres
        have CS := inf_step I4 hy3 hst hyr
        cases hsg : stepG y with
        | ok z =>
          rw [hsg] at CS hres
          simp only at hres
          obtain ⟨g1, g2, g3, _, _, _, _⟩ := step_goes hsg hyr hy3 hst
          have HR := Lib.hid hres
          clear hres hsg
          go_wp2_with fail
          refine CS.mono ?_
          rintro e w4 hp4
          obtain ⟨rfl, vz, v9z, v10z, Iz, hBz⟩ : e = .returned (.bool true) ∧ ∃ vo v9 v10, InfAt w4 B p pw r A c vo v9 v10 U 5 z ∧ Below B wr w4 := hp4
          go_wp2_with fail
          go_roundg (gk - 1)
          case measure => omega
          case rel => exact ⟨⟨z, vz, v9z, v10z, Iz, g2, g3, by omega, by rw [show gk - 1 = k from by omega]; exact HR.out, hBr.trans hBz⟩⟩
        | bad ke =>
          rw [hsg] at CS hres
          simp only [Prod.mk.injEq] at hres
          have hke : ke ≠ 0 := stepG_bad hsg
          obtain ⟨hr1, hr2⟩ := hres
          subst hr1 hr2
          have HKE := Lib.hid hke
          clear hsg hke hst
          go_wp2_with fail
          refine CS.mono ?_
          rintro e w4 hp4
          obtain ⟨rfl, vz, v9z, v10z, a, Iz, ha5, hBz⟩ : e = .returned (.bool false) ∧ ∃ (vo v9 v10 : Value) (a : Nat), InfAt w4 B p pw r A c vo v9 v10 U (ke : Nat) { y with at_ := a } ∧ (ke = 5 → a = y.at_) ∧ Below B wr w4 := hp4
          have HA5 := Lib.hid ha5
          clear ha5
          go_wp2_with fail
          go_meet
          exact ⟨⟨a, _, _, _, Iz, HA5.out, fun e => absurd e HKE.out, hBr.trans hBz⟩⟩
  case rest =>
  obtain ⟨a, vz, v9z, v10z, Iz, ha5, ha0, hBz⟩ := hcut.out_
  clear hcut I1 hB1 c11 f11 hres hK
  obtain ⟨y, hy⟩ : ∃ y, y = yr := ⟨_, rfl⟩
  subst hy
  have hle : a ≤ 8 * y.bs.length := Iz.cur.le
  have hhi : y.bs.length ≤ 1099511627776 := Iz.cur.hi
  have c4 : wc.cell? ⟨p, 4, none⟩ = some (.int .i64 a) := Iz.cur.pb.cell 4
  have c13 : wc.cell? ⟨p, 13, none⟩ = some (.int .i64 er) := Iz.cur.pb.cell 13
  have HA5 := Lib.hid ha5
  have HA0 := Lib.hid ha0
  clear ha5 ha0
  by_cases he0 : er = 0
  · have HAY := Lib.hid (HA0.out he0)
    subst he0
    obtain ⟨Q, hQ⟩ : ∃ Q, (a + 7) / 8 = Q := ⟨_, rfl⟩
    obtain ⟨q0, hq0⟩ : ∃ q0, a / 8 = q0 := ⟨_, rfl⟩
    have hQi : ((a : Int) + 7) / 8 = (Q : Int) := by omega
    have hq0i : (a : Int) / 8 = (q0 : Int) := by omega
    have hQl : Q ≤ y.bs.length := by omega
    have HQ := Lib.hid hQ
    have hsub : max (0 : Int) ((a : Int) - 8 * (Q : Int)) = 0 := by omega
    clear hQ hq0
    -- the state Y at the bit a, Q bytes are used; the world wc
    have c5 : wc.cell? ⟨p, 5, none⟩ = some (.int .i64 U) := Iz.cur.pb.cell 5
    have f5 := Iz.cur.pb.frozen 5
    have b5 : Blk (wc.setCell ⟨p, 5, none⟩ (.int .i64 ((U : Int) + Q))) p 91 (infC { y with at_ := a } pw A c vz v9z v10z ((U : Int) + Q) 0) := Iz.cur.pb.set_ 5 (.int .i64 ((U : Int) + Q))
    have hs5 : Same (fun g => g = p) wc (wc.setCell ⟨p, 5, none⟩ (.int .i64 ((U : Int) + Q))) := Same.set_ (S := fun g => g = p) (p := ⟨p, 5, none⟩) (Same.refl wc) (fun _ => rfl) _
    have hrow : RowOf wc .u8 A c y.bs := Iz.cur.row
    have hcap := hrow.cap
    have hcm := hrow.most
    have hQU : (U : Int) + Q ≤ 9223372036854775807 := by omega
    have hb5d := b5.drew
    have c3 : (wc.setCell ⟨p, 5, none⟩ (.int .i64 ((U : Int) + Q))).drew.cell? ⟨p, 3, none⟩ = some (.slice A y.bs.length c) := hb5d.cell 3
    have c4' : (wc.setCell ⟨p, 5, none⟩ (.int .i64 ((U : Int) + Q))).drew.cell? ⟨p, 4, none⟩ = some (.int .i64 a) := hb5d.cell 4
    have f3 := hb5d.frozen 3
    have f4 := hb5d.frozen 4
    have c4w : (wc.setCell ⟨p, 5, none⟩ (.int .i64 ((U : Int) + Q))).cell? ⟨p, 4, none⟩ = some (.int .i64 a) := b5.cell 4
    have f4w := b5.frozen 4
    have l1 : Q ≤ c := by omega
    have l2 : Q ≤ y.bs.length := hQl
    have l3 : y.bs.length ≤ c := hcap
    have k1 : ((Q : Nat) : Int).toNat = Q := by omega
    have n1234 := Iz.pw_ne
    have hap := Iz.apart
    by_cases hcQ : c = Q
    · have eAQ : (if c = Q then A else A.map (fun x => x.add Q)) = A := if_pos hcQ
      clear hcQ
      go_wp2_with fail
      go_region
      have b7 := ((b5.set_ 3 (.slice (A) (y.bs.length - Q) (c - Q))).set_ 4 (.int .i64 0)).drew
      have hs7 : Same (fun g => g = p) wc ((((wc.setCell ⟨p, 5, none⟩ (.int .i64 ((U : Int) + Q))).setCell ⟨p, 3, none⟩ (.slice (A) (y.bs.length - Q) (c - Q))).setCell ⟨p, 4, none⟩ (.int .i64 0)).drew) := ((hs5.set_ (p := ⟨p, 3, none⟩) (fun _ => rfl) _).set_ (p := ⟨p, 4, none⟩) (fun _ => rfl) _).drew
      generalize ((((wc.setCell ⟨p, 5, none⟩ (.int .i64 ((U : Int) + Q))).setCell ⟨p, 3, none⟩ (.slice (A) (y.bs.length - Q) (c - Q))).setCell ⟨p, 4, none⟩ (.int .i64 0)).drew) = W7 at *
      have k13 : W7.cell? ⟨p, 13, none⟩ = some (.int .i64 0) := b7.cell 13
      have eU : ((U + Q : Nat) : Int) = (U : Int) + Q := by omega
      clear b5 hb5d c3 c4' f3 f4 c4w f4w hs5 c5 f5 c4 c13
      have d3 : W7.cell? ⟨p, 3, none⟩ = some (.slice (A) (y.bs.length - Q) (c - Q)) := b7.cell 3
      have g3 := b7.frozen 3
      have b8 := b7.set_ 3 (.slice none 0 0)
      have d4 : (W7.setCell ⟨p, 3, none⟩ (.slice none 0 0)).cell? ⟨p, 4, none⟩ = some (.int .i64 0) := b8.cell 4
      have g4 := b8.frozen 4
      have b9 : Blk ((W7.setCell ⟨p, 3, none⟩ (.slice none 0 0)).setCell ⟨p, 4, none⟩ (.int .i64 0)) p 91 (infC { y with bs := [], at_ := 0 } pw none 0 vz v9z v10z ((U : Int) + Q) 0) := b8.set_ 4 (.int .i64 0)
      have d11 : ((W7.setCell ⟨p, 3, none⟩ (.slice none 0 0)).setCell ⟨p, 4, none⟩ (.int .i64 0)).cell? ⟨p, 11, none⟩ = some vz := b9.cell 11
      have g11 := b9.frozen 11
      have b11 : Blk (((W7.setCell ⟨p, 3, none⟩ (.slice none 0 0)).setCell ⟨p, 4, none⟩ (.int .i64 0)).setCell ⟨p, 11, none⟩ (.slice none 0 0)) p 91 (infC { y with bs := [], at_ := 0, out := [] } pw none 0 (.slice none 0 0) v9z v10z ((U : Int) + Q) 0) := b9.set_ 11 (.slice none 0 0)
      have hs11 : Same (fun g => g = p) wc (((W7.setCell ⟨p, 3, none⟩ (.slice none 0 0)).setCell ⟨p, 4, none⟩ (.int .i64 0)).setCell ⟨p, 11, none⟩ (.slice none 0 0)) := ((hs7.set_ (p := ⟨p, 3, none⟩) (fun _ => rfl) _).set_ (p := ⟨p, 4, none⟩) (fun _ => rfl) _).set_ (p := ⟨p, 11, none⟩) (fun _ => rfl) _
      have d13 : (((W7.setCell ⟨p, 3, none⟩ (.slice none 0 0)).setCell ⟨p, 4, none⟩ (.int .i64 0)).setCell ⟨p, 11, none⟩ (.slice none 0 0)).drew.cell? ⟨p, 13, none⟩ = some (.int .i64 0) := b11.drew.cell 13
      have I11 := Lib.hid ((Iz.onPA (y := { y with bs := [], at_ := 0, out := [] }) hs11 ⟨b11, rfl, rfl, ⟨RdI.nil_, by simp, by simp, by simp, by simp⟩, by simp, Nat.zero_le _, by simp, by simp⟩ rfl rfl rfl (Own.nil _ _ _) (by simp [Value.ownBlock]) (fun ad e => by cases e) (Nat.zero_le _) (Iz.tabsP hs11)).same (Same.refl (S := fun _ => False) _).drew)
      have O11 := Lib.hid (Own.drew (Iz.out.kept hs11 (fun g hg e => n1234.2.2.1 (by rw [hg, show g = p from e]))))
      have B11 := Lib.hid ((hBz.trans (Iz.below (Iz.mineP hs11))).drew)
      clear b7 b8 b9 b11 hs7 hs11 Iz hBz hrow n1234 hap
      go_wp2_with fail
      go_region
      go_wp2_with fail
      go_ret2
      exact ⟨⟨vz, v9z, v10z, none, 0, U + Q, rfl, O11.out, by rw [restI, if_neg (by omega), eU]; exact I11.out, (fun _ => by rw [usedN, if_pos rfl, ← HAY.out, HQ.out]), B11.out⟩⟩
    · have eAQ : (if c = Q then A else A.map (fun x => x.add Q)) = A.map (fun x => x.add Q) := if_neg hcQ
      go_wp2_with fail
      go_region
      have b7 := ((b5.set_ 3 (.slice (Option.map (fun x => x.add Q) A) (y.bs.length - Q) (c - Q))).set_ 4 (.int .i64 0)).drew
      have hs7 : Same (fun g => g = p) wc ((((wc.setCell ⟨p, 5, none⟩ (.int .i64 ((U : Int) + Q))).setCell ⟨p, 3, none⟩ (.slice (Option.map (fun x => x.add Q) A) (y.bs.length - Q) (c - Q))).setCell ⟨p, 4, none⟩ (.int .i64 0)).drew) := ((hs5.set_ (p := ⟨p, 3, none⟩) (fun _ => rfl) _).set_ (p := ⟨p, 4, none⟩) (fun _ => rfl) _).drew
      generalize ((((wc.setCell ⟨p, 5, none⟩ (.int .i64 ((U : Int) + Q))).setCell ⟨p, 3, none⟩ (.slice (Option.map (fun x => x.add Q) A) (y.bs.length - Q) (c - Q))).setCell ⟨p, 4, none⟩ (.int .i64 0)).drew) = W7 at *
      have k13 : W7.cell? ⟨p, 13, none⟩ = some (.int .i64 0) := b7.cell 13
      have eU : ((U + Q : Nat) : Int) = (U : Int) + Q := by omega
      clear b5 hb5d c3 c4' f3 f4 c4w f4w hs5 c5 f5 c4 c13
      have d3 : W7.cell? ⟨p, 3, none⟩ = some (.slice (Option.map (fun x => x.add Q) A) (y.bs.length - Q) (c - Q)) := b7.cell 3
      have g3 := b7.frozen 3
      have b8 := b7.set_ 3 (.slice none 0 0)
      have d4 : (W7.setCell ⟨p, 3, none⟩ (.slice none 0 0)).cell? ⟨p, 4, none⟩ = some (.int .i64 0) := b8.cell 4
      have g4 := b8.frozen 4
      have b9 : Blk ((W7.setCell ⟨p, 3, none⟩ (.slice none 0 0)).setCell ⟨p, 4, none⟩ (.int .i64 0)) p 91 (infC { y with bs := [], at_ := 0 } pw none 0 vz v9z v10z ((U : Int) + Q) 0) := b8.set_ 4 (.int .i64 0)
      have d11 : ((W7.setCell ⟨p, 3, none⟩ (.slice none 0 0)).setCell ⟨p, 4, none⟩ (.int .i64 0)).cell? ⟨p, 11, none⟩ = some vz := b9.cell 11
      have g11 := b9.frozen 11
      have b11 : Blk (((W7.setCell ⟨p, 3, none⟩ (.slice none 0 0)).setCell ⟨p, 4, none⟩ (.int .i64 0)).setCell ⟨p, 11, none⟩ (.slice none 0 0)) p 91 (infC { y with bs := [], at_ := 0, out := [] } pw none 0 (.slice none 0 0) v9z v10z ((U : Int) + Q) 0) := b9.set_ 11 (.slice none 0 0)
      have hs11 : Same (fun g => g = p) wc (((W7.setCell ⟨p, 3, none⟩ (.slice none 0 0)).setCell ⟨p, 4, none⟩ (.int .i64 0)).setCell ⟨p, 11, none⟩ (.slice none 0 0)) := ((hs7.set_ (p := ⟨p, 3, none⟩) (fun _ => rfl) _).set_ (p := ⟨p, 4, none⟩) (fun _ => rfl) _).set_ (p := ⟨p, 11, none⟩) (fun _ => rfl) _
      have d13 : (((W7.setCell ⟨p, 3, none⟩ (.slice none 0 0)).setCell ⟨p, 4, none⟩ (.int .i64 0)).setCell ⟨p, 11, none⟩ (.slice none 0 0)).drew.cell? ⟨p, 13, none⟩ = some (.int .i64 0) := b11.drew.cell 13
      have I11 := Lib.hid ((Iz.onPA (y := { y with bs := [], at_ := 0, out := [] }) hs11 ⟨b11, rfl, rfl, ⟨RdI.nil_, by simp, by simp, by simp, by simp⟩, by simp, Nat.zero_le _, by simp, by simp⟩ rfl rfl rfl (Own.nil _ _ _) (by simp [Value.ownBlock]) (fun ad e => by cases e) (Nat.zero_le _) (Iz.tabsP hs11)).same (Same.refl (S := fun _ => False) _).drew)
      have O11 := Lib.hid (Own.drew (Iz.out.kept hs11 (fun g hg e => n1234.2.2.1 (by rw [hg, show g = p from e]))))
      have B11 := Lib.hid ((hBz.trans (Iz.below (Iz.mineP hs11))).drew)
      clear b7 b8 b9 b11 hs7 hs11 Iz hBz hrow n1234 hap
      go_wp2_with fail
      go_region
      go_wp2_with fail
      go_ret2
      exact ⟨⟨vz, v9z, v10z, none, 0, U + Q, rfl, O11.out, by rw [restI, if_neg (by omega), eU]; exact I11.out, (fun _ => by rw [usedN, if_pos rfl, ← HAY.out, HQ.out]), B11.out⟩⟩
  · have e0 : ((er : Int) == 0) = false := by rw [beq_eq_false_iff_ne]; omega
    have e0' : (er == 0) = false := by rw [beq_eq_false_iff_ne]; exact he0
    obtain ⟨Q, hQ⟩ : ∃ Q, a / 8 = Q := ⟨_, rfl⟩
    have hQi : (a : Int) / 8 = (Q : Int) := by omega
    have hQl : Q ≤ y.bs.length := by omega
    obtain ⟨M, hM⟩ : ∃ M, a - 8 * Q = M := ⟨_, rfl⟩
    have hsub : max (0 : Int) ((a : Int) - 8 * (Q : Int)) = (M : Int) := by omega
    by_cases he5 : er = 5
    · have HAY := Lib.hid (HA5.out he5)
      subst he5
      have HQ := Lib.hid hQ
      have HM := Lib.hid hM
      clear hQ hM
      -- the state Y at the bit a, Q bytes are used; the world wc
      have c5 : wc.cell? ⟨p, 5, none⟩ = some (.int .i64 U) := Iz.cur.pb.cell 5
      have f5 := Iz.cur.pb.frozen 5
      have b5 : Blk (wc.setCell ⟨p, 5, none⟩ (.int .i64 ((U : Int) + Q))) p 91 (infC { y with at_ := a } pw A c vz v9z v10z ((U : Int) + Q) 5) := Iz.cur.pb.set_ 5 (.int .i64 ((U : Int) + Q))
      have hs5 : Same (fun g => g = p) wc (wc.setCell ⟨p, 5, none⟩ (.int .i64 ((U : Int) + Q))) := Same.set_ (S := fun g => g = p) (p := ⟨p, 5, none⟩) (Same.refl wc) (fun _ => rfl) _
      have hrow : RowOf wc .u8 A c y.bs := Iz.cur.row
      have hcap := hrow.cap
      have hcm := hrow.most
      have hQU : (U : Int) + Q ≤ 9223372036854775807 := by omega
      have hb5d := b5.drew
      have c3 : (wc.setCell ⟨p, 5, none⟩ (.int .i64 ((U : Int) + Q))).drew.cell? ⟨p, 3, none⟩ = some (.slice A y.bs.length c) := hb5d.cell 3
      have c4' : (wc.setCell ⟨p, 5, none⟩ (.int .i64 ((U : Int) + Q))).drew.cell? ⟨p, 4, none⟩ = some (.int .i64 a) := hb5d.cell 4
      have f3 := hb5d.frozen 3
      have f4 := hb5d.frozen 4
      have c4w : (wc.setCell ⟨p, 5, none⟩ (.int .i64 ((U : Int) + Q))).cell? ⟨p, 4, none⟩ = some (.int .i64 a) := b5.cell 4
      have f4w := b5.frozen 4
      have l1 : Q ≤ c := by omega
      have l2 : Q ≤ y.bs.length := hQl
      have l3 : y.bs.length ≤ c := hcap
      have k1 : ((Q : Nat) : Int).toNat = Q := by omega
      have n1234 := Iz.pw_ne
      have hap := Iz.apart
      by_cases hcQ : c = Q
      · have eAQ : (if c = Q then A else A.map (fun x => x.add Q)) = A := if_pos hcQ
        clear hcQ
        go_wp2_with fail
        go_region
        have b7 := ((b5.set_ 3 (.slice (A) (y.bs.length - Q) (c - Q))).set_ 4 (.int .i64 M)).drew
        have hs7 : Same (fun g => g = p) wc ((((wc.setCell ⟨p, 5, none⟩ (.int .i64 ((U : Int) + Q))).setCell ⟨p, 3, none⟩ (.slice (A) (y.bs.length - Q) (c - Q))).setCell ⟨p, 4, none⟩ (.int .i64 M)).drew) := ((hs5.set_ (p := ⟨p, 3, none⟩) (fun _ => rfl) _).set_ (p := ⟨p, 4, none⟩) (fun _ => rfl) _).drew
        generalize ((((wc.setCell ⟨p, 5, none⟩ (.int .i64 ((U : Int) + Q))).setCell ⟨p, 3, none⟩ (.slice (A) (y.bs.length - Q) (c - Q))).setCell ⟨p, 4, none⟩ (.int .i64 M)).drew) = W7 at *
        have k13 : W7.cell? ⟨p, 13, none⟩ = some (.int .i64 5) := b7.cell 13
        have eU : ((U + Q : Nat) : Int) = (U : Int) + Q := by omega
        clear b5 hb5d c3 c4' f3 f4 c4w f4w hs5 c5 f5 c4 c13
        have hrl : (y.bs.drop Q).length = y.bs.length - Q := List.length_drop
        have d11 : W7.cell? ⟨p, 11, none⟩ = some vz := b7.cell 11
        have g11 := b7.frozen 11
        have b11 := b7.set_ 11 (.slice none 0 0)
        have hs11 : Same (fun g => g = p) wc (W7.setCell ⟨p, 11, none⟩ (.slice none 0 0)) := hs7.set_ (p := ⟨p, 11, none⟩) (fun _ => rfl) _
        have d13 : (W7.setCell ⟨p, 11, none⟩ (.slice none 0 0)).drew.cell? ⟨p, 13, none⟩ = some (.int .i64 5) := b11.drew.cell 13
        have hrow11 := (hrow.dropI Q hQl).same hs11 (fun ad e9 c9 => by
          rw [eAQ] at e9
          have c9 : ad.block = p := c9
          have := Iz.cur.ne
          cases hA9 : A with
          | none => rw [hA9] at e9; simp at e9
          | some a9 =>
            rw [hA9] at e9
            simp only [Option.map_some, Option.some.injEq] at e9
            refine this a9 hA9 ?_
            rw [← c9, ← e9]
            all_goals first | rfl | (unfold Addr.add; split <;> rfl))
        rw [eAQ] at hrow11
        have hblk : ∀ ad, (A) = some ad → ∃ a9, A = some a9 ∧ a9.block = ad.block := fun ad e9 => by
          cases hA9 : A with
          | none => rw [hA9] at e9; simp at e9
          | some a9 =>
            rw [hA9] at e9
            simp only [Option.map_some, Option.some.injEq] at e9
            refine ⟨a9, rfl, ?_⟩
            rw [← e9]
            all_goals first | rfl | (unfold Addr.add; split <;> rfl)
        have K11 : CurAt (W7.setCell ⟨p, 11, none⟩ (.slice none 0 0)) p (infC { y with bs := y.bs.drop Q, at_ := M, out := [] } pw (A) (c - Q) (.slice none 0 0) v9z v10z ((U : Int) + Q) 5) (A) (c - Q) (y.bs.drop Q) M :=
          ⟨by
            have : infC { y with bs := y.bs.drop Q, at_ := M, out := [] } pw (A) (c - Q) (.slice none 0 0) v9z v10z ((U : Int) + Q) 5 = ((((infC { y with at_ := a } pw A c vz v9z v10z ((U : Int) + Q) 5).setIfInBounds 3 (.slice (A) (y.bs.drop Q).length (c - Q))).setIfInBounds 4 (.int .i64 (M : Nat))).setIfInBounds 11 (.slice none 0 0)) := rfl
            rw [this, hrl]
            exact b11, rfl, rfl, hrow11, fun ad e9 => by
            obtain ⟨a9, h9, h10⟩ := hblk ad e9
            rw [← h10]; exact Iz.cur.ne a9 h9, by
            rw [hrl]
            have := HQ.out
            have := HM.out
            omega, by rw [hrl]; omega, fun ad e9 => by
            obtain ⟨a9, h9, h10⟩ := hblk ad e9
            rw [← h10]; exact Nat.lt_of_lt_of_le (Iz.cur.lt a9 h9) hs11.size⟩
        have I11 := Lib.hid ((Iz.onPA (y := { y with bs := y.bs.drop Q, at_ := M, out := [] }) hs11 K11 rfl rfl rfl (Own.nil _ _ _) (by simp [Value.ownBlock]) (fun ad e9 => by
          obtain ⟨a9, h9, h10⟩ := hblk ad e9
          rw [← h10]; exact ⟨(hap a9 h9).1, (hap a9 h9).2.1, by simp [Value.ownBlock]⟩) (Nat.zero_le _) (Iz.tabsP hs11)).same (Same.refl (S := fun _ => False) _).drew)
        have O11 := Lib.hid (Own.drew (Iz.out.kept hs11 (fun g hg e => n1234.2.2.1 (by rw [hg, show g = p from e]))))
        have B11 := Lib.hid ((hBz.trans (Iz.below (Iz.mineP hs11))).drew)
        clear b7 b11 hs7 hs11 Iz hBz hrow n1234 hap hrow11 K11
        go_wp2_with fail
        go_region
        go_wp2_with fail
        go_ret2
        exact ⟨⟨vz, v9z, v10z, A, c - Q, U + Q, rfl, O11.out, by rw [restI, if_pos rfl, eU, ← HAY.out, HQ.out, HM.out]; exact I11.out, (fun _ => by rw [usedN, if_neg (by decide), ← HAY.out, HQ.out]), B11.out⟩⟩
      · have eAQ : (if c = Q then A else A.map (fun x => x.add Q)) = A.map (fun x => x.add Q) := if_neg hcQ
        go_wp2_with fail
        go_region
        have b7 := ((b5.set_ 3 (.slice (Option.map (fun x => x.add Q) A) (y.bs.length - Q) (c - Q))).set_ 4 (.int .i64 M)).drew
        have hs7 : Same (fun g => g = p) wc ((((wc.setCell ⟨p, 5, none⟩ (.int .i64 ((U : Int) + Q))).setCell ⟨p, 3, none⟩ (.slice (Option.map (fun x => x.add Q) A) (y.bs.length - Q) (c - Q))).setCell ⟨p, 4, none⟩ (.int .i64 M)).drew) := ((hs5.set_ (p := ⟨p, 3, none⟩) (fun _ => rfl) _).set_ (p := ⟨p, 4, none⟩) (fun _ => rfl) _).drew
        generalize ((((wc.setCell ⟨p, 5, none⟩ (.int .i64 ((U : Int) + Q))).setCell ⟨p, 3, none⟩ (.slice (Option.map (fun x => x.add Q) A) (y.bs.length - Q) (c - Q))).setCell ⟨p, 4, none⟩ (.int .i64 M)).drew) = W7 at *
        have k13 : W7.cell? ⟨p, 13, none⟩ = some (.int .i64 5) := b7.cell 13
        have eU : ((U + Q : Nat) : Int) = (U : Int) + Q := by omega
        clear b5 hb5d c3 c4' f3 f4 c4w f4w hs5 c5 f5 c4 c13
        have hrl : (y.bs.drop Q).length = y.bs.length - Q := List.length_drop
        have d11 : W7.cell? ⟨p, 11, none⟩ = some vz := b7.cell 11
        have g11 := b7.frozen 11
        have b11 := b7.set_ 11 (.slice none 0 0)
        have hs11 : Same (fun g => g = p) wc (W7.setCell ⟨p, 11, none⟩ (.slice none 0 0)) := hs7.set_ (p := ⟨p, 11, none⟩) (fun _ => rfl) _
        have d13 : (W7.setCell ⟨p, 11, none⟩ (.slice none 0 0)).drew.cell? ⟨p, 13, none⟩ = some (.int .i64 5) := b11.drew.cell 13
        have hrow11 := (hrow.dropI Q hQl).same hs11 (fun ad e9 c9 => by
          rw [eAQ] at e9
          have c9 : ad.block = p := c9
          have := Iz.cur.ne
          cases hA9 : A with
          | none => rw [hA9] at e9; simp at e9
          | some a9 =>
            rw [hA9] at e9
            simp only [Option.map_some, Option.some.injEq] at e9
            refine this a9 hA9 ?_
            rw [← c9, ← e9]
            all_goals first | rfl | (unfold Addr.add; split <;> rfl))
        rw [eAQ] at hrow11
        have hblk : ∀ ad, (Option.map (fun x => x.add Q) A) = some ad → ∃ a9, A = some a9 ∧ a9.block = ad.block := fun ad e9 => by
          cases hA9 : A with
          | none => rw [hA9] at e9; simp at e9
          | some a9 =>
            rw [hA9] at e9
            simp only [Option.map_some, Option.some.injEq] at e9
            refine ⟨a9, rfl, ?_⟩
            rw [← e9]
            all_goals first | rfl | (unfold Addr.add; split <;> rfl)
        have K11 : CurAt (W7.setCell ⟨p, 11, none⟩ (.slice none 0 0)) p (infC { y with bs := y.bs.drop Q, at_ := M, out := [] } pw (Option.map (fun x => x.add Q) A) (c - Q) (.slice none 0 0) v9z v10z ((U : Int) + Q) 5) (Option.map (fun x => x.add Q) A) (c - Q) (y.bs.drop Q) M :=
          ⟨by
            have : infC { y with bs := y.bs.drop Q, at_ := M, out := [] } pw (Option.map (fun x => x.add Q) A) (c - Q) (.slice none 0 0) v9z v10z ((U : Int) + Q) 5 = ((((infC { y with at_ := a } pw A c vz v9z v10z ((U : Int) + Q) 5).setIfInBounds 3 (.slice (Option.map (fun x => x.add Q) A) (y.bs.drop Q).length (c - Q))).setIfInBounds 4 (.int .i64 (M : Nat))).setIfInBounds 11 (.slice none 0 0)) := rfl
            rw [this, hrl]
            exact b11, rfl, rfl, hrow11, fun ad e9 => by
            obtain ⟨a9, h9, h10⟩ := hblk ad e9
            rw [← h10]; exact Iz.cur.ne a9 h9, by
            rw [hrl]
            have := HQ.out
            have := HM.out
            omega, by rw [hrl]; omega, fun ad e9 => by
            obtain ⟨a9, h9, h10⟩ := hblk ad e9
            rw [← h10]; exact Nat.lt_of_lt_of_le (Iz.cur.lt a9 h9) hs11.size⟩
        have I11 := Lib.hid ((Iz.onPA (y := { y with bs := y.bs.drop Q, at_ := M, out := [] }) hs11 K11 rfl rfl rfl (Own.nil _ _ _) (by simp [Value.ownBlock]) (fun ad e9 => by
          obtain ⟨a9, h9, h10⟩ := hblk ad e9
          rw [← h10]; exact ⟨(hap a9 h9).1, (hap a9 h9).2.1, by simp [Value.ownBlock]⟩) (Nat.zero_le _) (Iz.tabsP hs11)).same (Same.refl (S := fun _ => False) _).drew)
        have O11 := Lib.hid (Own.drew (Iz.out.kept hs11 (fun g hg e => n1234.2.2.1 (by rw [hg, show g = p from e]))))
        have B11 := Lib.hid ((hBz.trans (Iz.below (Iz.mineP hs11))).drew)
        clear b7 b11 hs7 hs11 Iz hBz hrow n1234 hap hrow11 K11
        go_wp2_with fail
        go_region
        go_wp2_with fail
        go_ret2
        exact ⟨⟨vz, v9z, v10z, Option.map (fun x => x.add Q) A, c - Q, U + Q, rfl, O11.out, by rw [restI, if_pos rfl, eU, ← HAY.out, HQ.out, HM.out]; exact I11.out, (fun _ => by rw [usedN, if_neg (by decide), ← HAY.out, HQ.out]), B11.out⟩⟩
    · have e5 : ((er : Int) == 5) = false := by rw [beq_eq_false_iff_ne]; omega
      have e5' : (er == 5) = false := by rw [beq_eq_false_iff_ne]; exact he5
      clear hQ hM
      -- the state Y at the bit a, Q bytes are used; the world wc
      have c5 : wc.cell? ⟨p, 5, none⟩ = some (.int .i64 U) := Iz.cur.pb.cell 5
      have f5 := Iz.cur.pb.frozen 5
      have b5 : Blk (wc.setCell ⟨p, 5, none⟩ (.int .i64 ((U : Int) + Q))) p 91 (infC { y with at_ := a } pw A c vz v9z v10z ((U : Int) + Q) er) := Iz.cur.pb.set_ 5 (.int .i64 ((U : Int) + Q))
      have hs5 : Same (fun g => g = p) wc (wc.setCell ⟨p, 5, none⟩ (.int .i64 ((U : Int) + Q))) := Same.set_ (S := fun g => g = p) (p := ⟨p, 5, none⟩) (Same.refl wc) (fun _ => rfl) _
      have hrow : RowOf wc .u8 A c y.bs := Iz.cur.row
      have hcap := hrow.cap
      have hcm := hrow.most
      have hQU : (U : Int) + Q ≤ 9223372036854775807 := by omega
      have hb5d := b5.drew
      have c3 : (wc.setCell ⟨p, 5, none⟩ (.int .i64 ((U : Int) + Q))).drew.cell? ⟨p, 3, none⟩ = some (.slice A y.bs.length c) := hb5d.cell 3
      have c4' : (wc.setCell ⟨p, 5, none⟩ (.int .i64 ((U : Int) + Q))).drew.cell? ⟨p, 4, none⟩ = some (.int .i64 a) := hb5d.cell 4
      have f3 := hb5d.frozen 3
      have f4 := hb5d.frozen 4
      have c4w : (wc.setCell ⟨p, 5, none⟩ (.int .i64 ((U : Int) + Q))).cell? ⟨p, 4, none⟩ = some (.int .i64 a) := b5.cell 4
      have f4w := b5.frozen 4
      have l1 : Q ≤ c := by omega
      have l2 : Q ≤ y.bs.length := hQl
      have l3 : y.bs.length ≤ c := hcap
      have k1 : ((Q : Nat) : Int).toNat = Q := by omega
      have n1234 := Iz.pw_ne
      have hap := Iz.apart
      by_cases hcQ : c = Q
      · have eAQ : (if c = Q then A else A.map (fun x => x.add Q)) = A := if_pos hcQ
        clear hcQ
        go_wp2_with fail
        go_region
        have b7 := ((b5.set_ 3 (.slice (A) (y.bs.length - Q) (c - Q))).set_ 4 (.int .i64 M)).drew
        have hs7 : Same (fun g => g = p) wc ((((wc.setCell ⟨p, 5, none⟩ (.int .i64 ((U : Int) + Q))).setCell ⟨p, 3, none⟩ (.slice (A) (y.bs.length - Q) (c - Q))).setCell ⟨p, 4, none⟩ (.int .i64 M)).drew) := ((hs5.set_ (p := ⟨p, 3, none⟩) (fun _ => rfl) _).set_ (p := ⟨p, 4, none⟩) (fun _ => rfl) _).drew
        generalize ((((wc.setCell ⟨p, 5, none⟩ (.int .i64 ((U : Int) + Q))).setCell ⟨p, 3, none⟩ (.slice (A) (y.bs.length - Q) (c - Q))).setCell ⟨p, 4, none⟩ (.int .i64 M)).drew) = W7 at *
        have k13 : W7.cell? ⟨p, 13, none⟩ = some (.int .i64 er) := b7.cell 13
        have eU : ((U + Q : Nat) : Int) = (U : Int) + Q := by omega
        clear b5 hb5d c3 c4' f3 f4 c4w f4w hs5 c5 f5 c4 c13
        have d3 : W7.cell? ⟨p, 3, none⟩ = some (.slice (A) (y.bs.length - Q) (c - Q)) := b7.cell 3
        have g3 := b7.frozen 3
        have b8 := b7.set_ 3 (.slice none 0 0)
        have d4 : (W7.setCell ⟨p, 3, none⟩ (.slice none 0 0)).cell? ⟨p, 4, none⟩ = some (.int .i64 M) := b8.cell 4
        have g4 := b8.frozen 4
        have b9 : Blk ((W7.setCell ⟨p, 3, none⟩ (.slice none 0 0)).setCell ⟨p, 4, none⟩ (.int .i64 0)) p 91 (infC { y with bs := [], at_ := 0 } pw none 0 vz v9z v10z ((U : Int) + Q) er) := b8.set_ 4 (.int .i64 0)
        have d11 : ((W7.setCell ⟨p, 3, none⟩ (.slice none 0 0)).setCell ⟨p, 4, none⟩ (.int .i64 0)).cell? ⟨p, 11, none⟩ = some vz := b9.cell 11
        have g11 := b9.frozen 11
        have b11 : Blk (((W7.setCell ⟨p, 3, none⟩ (.slice none 0 0)).setCell ⟨p, 4, none⟩ (.int .i64 0)).setCell ⟨p, 11, none⟩ (.slice none 0 0)) p 91 (infC { y with bs := [], at_ := 0, out := [] } pw none 0 (.slice none 0 0) v9z v10z ((U : Int) + Q) er) := b9.set_ 11 (.slice none 0 0)
        have hs11 : Same (fun g => g = p) wc (((W7.setCell ⟨p, 3, none⟩ (.slice none 0 0)).setCell ⟨p, 4, none⟩ (.int .i64 0)).setCell ⟨p, 11, none⟩ (.slice none 0 0)) := ((hs7.set_ (p := ⟨p, 3, none⟩) (fun _ => rfl) _).set_ (p := ⟨p, 4, none⟩) (fun _ => rfl) _).set_ (p := ⟨p, 11, none⟩) (fun _ => rfl) _
        have d13 : (((W7.setCell ⟨p, 3, none⟩ (.slice none 0 0)).setCell ⟨p, 4, none⟩ (.int .i64 0)).setCell ⟨p, 11, none⟩ (.slice none 0 0)).drew.cell? ⟨p, 13, none⟩ = some (.int .i64 er) := b11.drew.cell 13
        have I11 := Lib.hid ((Iz.onPA (y := { y with bs := [], at_ := 0, out := [] }) hs11 ⟨b11, rfl, rfl, ⟨RdI.nil_, by simp, by simp, by simp, by simp⟩, by simp, Nat.zero_le _, by simp, by simp⟩ rfl rfl rfl (Own.nil _ _ _) (by simp [Value.ownBlock]) (fun ad e => by cases e) (Nat.zero_le _) (Iz.tabsP hs11)).same (Same.refl (S := fun _ => False) _).drew)
        have O11 := Lib.hid (Own.drew (Iz.out.kept hs11 (fun g hg e => n1234.2.2.1 (by rw [hg, show g = p from e]))))
        have B11 := Lib.hid ((hBz.trans (Iz.below (Iz.mineP hs11))).drew)
        clear b7 b8 b9 b11 hs7 hs11 Iz hBz hrow n1234 hap
        go_wp2_with fail
        go_region
        go_wp2_with fail
        go_ret2
        exact ⟨⟨vz, v9z, v10z, none, 0, U + Q, rfl, O11.out, by rw [restI, if_neg (by omega), eU]; exact I11.out, (fun h => absurd h (by omega)), B11.out⟩⟩
      · have eAQ : (if c = Q then A else A.map (fun x => x.add Q)) = A.map (fun x => x.add Q) := if_neg hcQ
        go_wp2_with fail
        go_region
        have b7 := ((b5.set_ 3 (.slice (Option.map (fun x => x.add Q) A) (y.bs.length - Q) (c - Q))).set_ 4 (.int .i64 M)).drew
        have hs7 : Same (fun g => g = p) wc ((((wc.setCell ⟨p, 5, none⟩ (.int .i64 ((U : Int) + Q))).setCell ⟨p, 3, none⟩ (.slice (Option.map (fun x => x.add Q) A) (y.bs.length - Q) (c - Q))).setCell ⟨p, 4, none⟩ (.int .i64 M)).drew) := ((hs5.set_ (p := ⟨p, 3, none⟩) (fun _ => rfl) _).set_ (p := ⟨p, 4, none⟩) (fun _ => rfl) _).drew
        generalize ((((wc.setCell ⟨p, 5, none⟩ (.int .i64 ((U : Int) + Q))).setCell ⟨p, 3, none⟩ (.slice (Option.map (fun x => x.add Q) A) (y.bs.length - Q) (c - Q))).setCell ⟨p, 4, none⟩ (.int .i64 M)).drew) = W7 at *
        have k13 : W7.cell? ⟨p, 13, none⟩ = some (.int .i64 er) := b7.cell 13
        have eU : ((U + Q : Nat) : Int) = (U : Int) + Q := by omega
        clear b5 hb5d c3 c4' f3 f4 c4w f4w hs5 c5 f5 c4 c13
        have d3 : W7.cell? ⟨p, 3, none⟩ = some (.slice (Option.map (fun x => x.add Q) A) (y.bs.length - Q) (c - Q)) := b7.cell 3
        have g3 := b7.frozen 3
        have b8 := b7.set_ 3 (.slice none 0 0)
        have d4 : (W7.setCell ⟨p, 3, none⟩ (.slice none 0 0)).cell? ⟨p, 4, none⟩ = some (.int .i64 M) := b8.cell 4
        have g4 := b8.frozen 4
        have b9 : Blk ((W7.setCell ⟨p, 3, none⟩ (.slice none 0 0)).setCell ⟨p, 4, none⟩ (.int .i64 0)) p 91 (infC { y with bs := [], at_ := 0 } pw none 0 vz v9z v10z ((U : Int) + Q) er) := b8.set_ 4 (.int .i64 0)
        have d11 : ((W7.setCell ⟨p, 3, none⟩ (.slice none 0 0)).setCell ⟨p, 4, none⟩ (.int .i64 0)).cell? ⟨p, 11, none⟩ = some vz := b9.cell 11
        have g11 := b9.frozen 11
        have b11 : Blk (((W7.setCell ⟨p, 3, none⟩ (.slice none 0 0)).setCell ⟨p, 4, none⟩ (.int .i64 0)).setCell ⟨p, 11, none⟩ (.slice none 0 0)) p 91 (infC { y with bs := [], at_ := 0, out := [] } pw none 0 (.slice none 0 0) v9z v10z ((U : Int) + Q) er) := b9.set_ 11 (.slice none 0 0)
        have hs11 : Same (fun g => g = p) wc (((W7.setCell ⟨p, 3, none⟩ (.slice none 0 0)).setCell ⟨p, 4, none⟩ (.int .i64 0)).setCell ⟨p, 11, none⟩ (.slice none 0 0)) := ((hs7.set_ (p := ⟨p, 3, none⟩) (fun _ => rfl) _).set_ (p := ⟨p, 4, none⟩) (fun _ => rfl) _).set_ (p := ⟨p, 11, none⟩) (fun _ => rfl) _
        have d13 : (((W7.setCell ⟨p, 3, none⟩ (.slice none 0 0)).setCell ⟨p, 4, none⟩ (.int .i64 0)).setCell ⟨p, 11, none⟩ (.slice none 0 0)).drew.cell? ⟨p, 13, none⟩ = some (.int .i64 er) := b11.drew.cell 13
        have I11 := Lib.hid ((Iz.onPA (y := { y with bs := [], at_ := 0, out := [] }) hs11 ⟨b11, rfl, rfl, ⟨RdI.nil_, by simp, by simp, by simp, by simp⟩, by simp, Nat.zero_le _, by simp, by simp⟩ rfl rfl rfl (Own.nil _ _ _) (by simp [Value.ownBlock]) (fun ad e => by cases e) (Nat.zero_le _) (Iz.tabsP hs11)).same (Same.refl (S := fun _ => False) _).drew)
        have O11 := Lib.hid (Own.drew (Iz.out.kept hs11 (fun g hg e => n1234.2.2.1 (by rw [hg, show g = p from e]))))
        have B11 := Lib.hid ((hBz.trans (Iz.below (Iz.mineP hs11))).drew)
        clear b7 b8 b9 b11 hs7 hs11 Iz hBz hrow n1234 hap
        go_wp2_with fail
        go_region
        go_wp2_with fail
        go_ret2
        exact ⟨⟨vz, v9z, v10z, none, 0, U + Q, rfl, O11.out, by rw [restI, if_neg (by omega), eU]; exact I11.out, (fun h => absurd h (by omega)), B11.out⟩⟩
end Go.Proofs.Yteknaaijlkenkaa
namespace Go.Proofs.Yteknaaijlkenkaa
open Go.RowKit
attribute [local go_sem] max2i min2i max2t min2t

set_option maxHeartbeats 1600000 in
set_option maxRecDepth 100000 in
theorem inf_new (wide : Bool) (size most : Nat) (h1 : 1 ≤ size) (h2 : size ≤ 65536) (h3 : most ≤ 1073741824) (w : World) :
    Calls Try.prog 33 #[.bool wide, .int .i64 size, .int .i64 most] w fun e w' => ∃ p pw r : Nat, e = .returned (.tuple #[.pointer (some ⟨p, 0, none⟩), .int .i64 0]) ∧ InfAt w' w.heap.size p pw r none 0 (.slice none 0 0) (.pointer none) (.pointer none) ((0 : Nat) : Int) 5 (startI [] wide size most) ∧ Below w.heap.size w w' := by
  have e1 : decide ((most : Int) < 0) = false := by simp
  have e2 : decide ((1073741824 : Int) < most) = false := by simp; omega
  have CW := win_new (w := w) h1 h2
  go_enter Try.func33, Try.ntmps33
  go_wp2_with fail
  refine CW.mono ?_
  rintro e w1 ⟨pw, r, rfl, hw, hpw, hr, hs⟩
  go_wp2_with fail
  go_ret2
  have hB1 : Below w.heap.size w w1 := hs.below (fun _ _ c => c)
  have hbk : Blk (w1.alloc (.cells (infC (startI [] wide size most) pw none 0 (.slice none 0 0) (.pointer none) (.pointer none) ((0 : Nat) : Int) 5) 91)) w1.heap.size 91 (infC (startI [] wide size most) pw none 0 (.slice none 0 0) (.pointer none) (.pointer none) ((0 : Nat) : Int) 5) := Blk.new w1 91 _
  refine ⟨w1.heap.size, pw, r, rfl, ⟨⟨hbk, rfl, rfl, ⟨RdI.nil_, by simp [startI], by simp, by simp [startI], by simp⟩, by simp, Nat.zero_le _, by simp [startI], by simp⟩, hw.kept ((Same.refl (S := fun _ => False) w1).alloc _) (fun c => c) (fun c => c), Own.nil _ _ _, fun e => (by cases e), hB1.size, hpw, hr, by have := hB1.size; simp; omega, by simp [Value.ownBlock], by simp, h3, Nat.zero_le _, Nat.zero_le _⟩, ?_⟩
  exact hB1.alloc hB1.size _
set_option maxHeartbeats 4000000 in
set_option maxRecDepth 100000 in
theorem inf_push {w : World} {B p pw r : Nat} {A : Option Addr} {c : Nat} {vo v9 v10 : Value} {U : Nat} {x : I} (h : InfAt w B p pw r A c vo v9 v10 U 5 x) (hU : U ≤ 1099511627776) (h3 : x.st ≤ 3) (hraw : x.raw ≤ 65535) (Ab : Option Addr) (cb : Nat) (b : List Int) (hb : RowOf w .u8 Ab cb b) (hbl : x.bs.length + b.length ≤ 1000000000) (K : Nat) (hK : mu { x with bs := x.bs ++ b } < K) :
    Calls Try.prog 34 #[.pointer (some ⟨p, 0, none⟩), .slice Ab b.length cb] w fun e w' => RunPost w B p pw r U (runP K { x with bs := x.bs ++ b, out := [] }).1 (runP K { x with bs := x.bs ++ b, out := [] }).2 e w' := by
  obtain ⟨y, hy⟩ : ∃ y, (runP K { x with bs := x.bs ++ b, out := [] }).1 = y := ⟨_, rfl⟩
  obtain ⟨er, her⟩ : ∃ y, (runP K { x with bs := x.bs ++ b, out := [] }).2 = y := ⟨_, rfl⟩
  rw [hy, her]
  have HY := Lib.hid hy
  have HE := Lib.hid her
  clear hy her
  have hc := h.cur
  have c13 : w.cell? ⟨p, 13, none⟩ = some (.int .i64 5) := hc.pb.cell 13
  have hcA := h.same ((Same.refl (S := fun _ => False) w).alloc (.cells #[] 5))
  have c3 := hcA.cur.c3
  have hpl := Blk.lt hc.pb
  have hbB := h.bB
  have hrow : RowOf w .u8 A c x.bs := hc.row
  go_enter Try.func34, Try.ntmps34
  go_wp2_with (first
    | (at_builtin; refine wpList_freshG w.heap.size rfl .u8 rfl (.tmp 20) (.tmp 25) 22 5 1 rfl Try.underlying22 Try.u8infI A c x.bs rfl rfl hrow (by omega) (by omega) ?_; intro A2 c2 w2 ho2 hr2 hbb2 hat2; have hb2 := hb.belo hbb2)
    | (at_builtin; refine wpList_cat .u8 w.heap.size rfl (.tmp 26) (.tmp 27) 22 5 1 rfl Try.underlying22 Try.u8infI _ x.bs Ab cb b rfl rfl ho2 hb2 hbb2.size (x.bs.length + b.length) rfl (by omega) (by omega) hrow.wf ?_; intro A3 c3' w3 ho3 hr3 hs3 hat3; have hbb3 := hs3.below_of hbb2 hbb2.size (fun k hk e => by have := ho2.base_le k e; omega); have I3 := h.same (Same.of_below (S := fun _ => False) hbb3); have d3 := I3.cur.c3; have g3 := I3.cur.pb.frozen 3))
  have hAv := h.apart
  have n1234 := h.pw_ne
  obtain ⟨hwl, hrl⟩ := h.win.lts
  have hvl := h.out.lt
  have hz3 := hbb3.size
  have hlen : (x.bs ++ b).length = x.bs.length + b.length := List.length_append
  have hA3 : ∀ ad, A3 = some ad → w.heap.size ≤ ad.block ∧ ad.block < w3.heap.size := fun ad e => by
    subst e
    exact ⟨ho3.base_le _ rfl, ho3.lt _ rfl⟩
  have hs4 : Same (fun g => g = p) w3 (w3.setCell ⟨p, 3, none⟩ (.slice A3 (x.bs.length + b.length) c3')) := Same.set_ (S := fun g => g = p) (p := ⟨p, 3, none⟩) (Same.refl w3) (fun _ => rfl) _
  have b4 : Blk (w3.setCell ⟨p, 3, none⟩ (.slice A3 (x.bs.length + b.length) c3')) p 91 (infC { x with bs := x.bs ++ b } pw A3 c3' vo v9 v10 U 5) := by
    have := I3.cur.pb.set_ 3 (.slice A3 (x.bs.length + b.length) c3')
    rw [← hlen] at this ⊢
    exact this
  have K4 : CurAt (w3.setCell ⟨p, 3, none⟩ (.slice A3 (x.bs.length + b.length) c3')) p (infC { x with bs := x.bs ++ b } pw A3 c3' vo v9 v10 U 5) A3 c3' (x.bs ++ b) x.at_ :=
    ⟨b4, rfl, rfl, hr3.same hs4 (fun ad e c => by have := (hA3 ad e).1; have c : ad.block = p := c; omega), fun ad e => by have := (hA3 ad e).1; omega, by have := hc.le; rw [hlen]; omega, by rw [hlen]; omega, fun ad e => Nat.lt_of_lt_of_le (hA3 ad e).2 hs4.size⟩
  have I4 := I3.onPA (y := { x with bs := x.bs ++ b }) hs4 K4 rfl rfl rfl (I3.out.kept hs4 (fun g hg e => n1234.2.2.1 (by rw [hg, show g = p from e]))) h.voR (fun ad e => by
    have := (hA3 ad e).1
    exact ⟨by omega, by omega, fun e2 => by have := hvl _ e2; omega⟩) h.outl (I3.tabsP hs4)
  have hB4 := (h.below (Same.of_below (S := Mine p pw r vo) hbb3)).trans (I3.below (I3.mineP hs4))
  have CR := inf_run I4 hU h3 hraw K hK
  have e9 : (runP K { ({ x with bs := x.bs ++ b } : I) with out := [] }) = (y, er) := Prod.ext HY.out HE.out
  rw [e9] at CR
  refine CR.mono ?_
  rintro e w5 ⟨vo2, v92, v102, A9, c9, U2, rfl, hO, hI, hu, hB⟩
  have HO := Lib.hid hO
  have HI := Lib.hid hI
  have HU := Lib.hid hu
  have HB := Lib.hid (hB4.trans hB)
  clear hO hI hu hB
  go_wp2_with fail
  go_ret2
  exact ⟨⟨vo2, v92, v102, A9, c9, U2, rfl, HO.out, HI.out, HU.out, HB.out⟩⟩
set_option maxHeartbeats 1600000 in
set_option maxRecDepth 100000 in
theorem inf_end {w : World} {B p pw r : Nat} {A : Option Addr} {c : Nat} {vo v9 v10 : Value} {U : Int} {x : I} (h : InfAt w B p pw r A c vo v9 v10 U 5 x) :
    Calls Try.prog 35 #[.pointer (some ⟨p, 0, none⟩)] w fun e w' => e = .returned (.tuple #[.slice none 0 0, .int .i64 2]) ∧ InfAt w' B p pw r none 0 vo v9 v10 U 2 { x with bs := [], at_ := 0 } ∧ Below B w w' := by
  have hc := h.cur
  have c13 : w.cell? ⟨p, 13, none⟩ = some (.int .i64 5) := hc.pb.cell 13
  have f13 := hc.pb.frozen 13
  have b1 := hc.pb.set_ 13 (.int .i64 2)
  have d3 : (w.setCell ⟨p, 13, none⟩ (.int .i64 2)).cell? ⟨p, 3, none⟩ = some (.slice A x.bs.length c) := b1.cell 3
  have g3 := b1.frozen 3
  have b2 := b1.set_ 3 (.slice none 0 0)
  have d4 : ((w.setCell ⟨p, 13, none⟩ (.int .i64 2)).setCell ⟨p, 3, none⟩ (.slice none 0 0)).cell? ⟨p, 4, none⟩ = some (.int .i64 x.at_) := b2.cell 4
  have g4 := b2.frozen 4
  have b3 : Blk (((w.setCell ⟨p, 13, none⟩ (.int .i64 2)).setCell ⟨p, 3, none⟩ (.slice none 0 0)).setCell ⟨p, 4, none⟩ (.int .i64 0)) p 91 (infC { x with bs := [], at_ := 0 } pw none 0 vo v9 v10 U 2) := b2.set_ 4 (.int .i64 0)
  have hs3 : Same (fun g => g = p) w (((w.setCell ⟨p, 13, none⟩ (.int .i64 2)).setCell ⟨p, 3, none⟩ (.slice none 0 0)).setCell ⟨p, 4, none⟩ (.int .i64 0)) := ((Same.set_ (S := fun g => g = p) (p := ⟨p, 13, none⟩) (Same.refl w) (fun _ => rfl) _).set_ (p := ⟨p, 3, none⟩) (fun _ => rfl) _).set_ (p := ⟨p, 4, none⟩) (fun _ => rfl) _
  have d13 : (((w.setCell ⟨p, 13, none⟩ (.int .i64 2)).setCell ⟨p, 3, none⟩ (.slice none 0 0)).setCell ⟨p, 4, none⟩ (.int .i64 0)).drew.cell? ⟨p, 13, none⟩ = some (.int .i64 2) := b3.drew.cell 13
  have n1234 := h.pw_ne
  have I3 := Lib.hid ((h.onPA (y := { x with bs := [], at_ := 0 }) hs3 ⟨b3, rfl, rfl, ⟨RdI.nil_, by simp, by simp, by simp, by simp⟩, by simp, Nat.zero_le _, by simp, by simp⟩ rfl rfl rfl (h.out.kept hs3 (fun g hg e => n1234.2.2.1 (by rw [hg, show g = p from e]))) h.voR (fun ad e => by cases e) h.outl (h.tabsP hs3)).same (Same.refl (S := fun _ => False) _).drew)
  have HB := Lib.hid ((h.below (h.mineP hs3)).drew)
  clear b1 b2 b3 hs3
  go_enter Try.func35, Try.ntmps35
  go_wp2_with fail
  go_region
  go_wp2_with fail
  go_ret2
  exact ⟨rfl, I3.out, HB.out⟩
set_option maxHeartbeats 1600000 in
set_option maxRecDepth 100000 in
theorem inf_used0 {w : World} {B p pw r : Nat} {A : Option Addr} {c : Nat} {vo v9 v10 : Value} {U : Int} {x : I} (h : InfAt w B p pw r A c vo v9 v10 U 0 x) :
    Calls Try.prog 36 #[.pointer (some ⟨p, 0, none⟩)] w fun e w' => e = .returned (.int .i64 U) ∧ w' = w := by
  have c13 : w.cell? ⟨p, 13, none⟩ = some (.int .i64 0) := h.cur.pb.cell 13
  have c5 : w.cell? ⟨p, 5, none⟩ = some (.int .i64 U) := h.cur.pb.cell 5
  go_enter Try.func36, Try.ntmps36
  go_wp2_with fail
  go_ret
  exact ⟨rfl, rfl⟩
/-- What comes out of a stream that is there, how many bytes it has, the error. -/
def allQ (bs : List Int) (wide : Bool) (size most : Nat) : List Int × Nat × Nat :=
  let r := runP (16 * bs.length + 2) (startI bs wide size most)
  if r.2 = 0 then (r.1.out, (r.1.at_ + 7) / 8, 0) else ([], 0, if r.2 = 5 then 2 else r.2)
structure AllPost (w : World) (r : List Int × Nat × Nat) (en : Ending) (w' : World) : Prop where mk ::
  out_ : ∃ v : Value, en = .returned (.tuple #[v, .int .i64 (r.2.1 : Nat), .int .i64 (r.2.2 : Nat)]) ∧ Own w' w.heap.size 5 v (ints .u8 r.1) ∧ Below w.heap.size w w'
set_option maxHeartbeats 4000000 in
set_option maxRecDepth 100000 in
theorem inf_all (A : Option Addr) (c : Nat) (bs : List Int) (wide : Bool) (size most : Nat) (h1 : 1 ≤ size) (h2 : size ≤ 65536) (h3 : most ≤ 1073741824) (w : World) (hr : RowOf w .u8 A c bs) (hl : bs.length ≤ 1000000000) :
    Calls Try.prog 22 #[.slice A bs.length c, .bool wide, .int .i64 size, .int .i64 most] w fun e w' => AllPost w (allQ bs wide size most) e w' := by
  obtain ⟨res, hres⟩ : ∃ r, allQ bs wide size most = r := ⟨_, rfl⟩
  rw [hres]
  have hmu : mu (startI bs wide size most) < 16 * bs.length + 2 := by unfold mu startI lf; simp; omega
  have CN := inf_new wide size most h1 h2 h3 w
  go_enter Try.func22, Try.ntmps22
  go_wp2_with fail
  refine CN.mono ?_
  rintro e w1 ⟨p, pw, r, rfl, I1, hB1⟩
  have CP := inf_push I1 (by omega) (by simp [startI]) (by simp [startI]) A c bs (hr.belo hB1) (by simp [startI]; omega) (16 * bs.length + 2) hmu
  have e9 : runP (16 * bs.length + 2) { startI [] wide size most with bs := (startI [] wide size most).bs ++ bs, out := [] } = runP (16 * bs.length + 2) (startI bs wide size most) := rfl
  rw [e9] at CP
  obtain ⟨⟨y, er⟩, hyr⟩ : ∃ q, runP (16 * bs.length + 2) (startI bs wide size most) = q := ⟨_, rfl⟩
  rw [hyr] at CP
  simp only at CP
  have hres2 : res = if er = 0 then (y.out, (y.at_ + 7) / 8, 0) else ([], 0, if er = 5 then 2 else er) := by rw [← hres]; unfold allQ; rw [hyr]
  have HR := Lib.hid hres2
  clear hres hres2 hyr e9 CN
  go_wp2_with fail
  refine CP.mono ?_
  rintro e w2 ⟨vo2, v92, v102, A9, c9, U2, rfl, hO, hI, hu, hB2⟩
  have hB12 := hB1.trans hB2
  by_cases he0 : er = 0
  · subst he0
    have hU := hu (.inl rfl)
    rw [if_pos rfl] at HR
    have CU := inf_used0 hI
    rw [hU, usedN, if_pos rfl, Nat.zero_add] at CU
    have HO := Lib.hid hO
    clear hu hI hU CP
    go_wp2_with fail
    refine CU.mono ?_
    rintro e w3 ⟨rfl, rfl⟩
    go_wp2_with fail
    go_ret3
    rw [HR.out]
    exact ⟨⟨vo2, rfl, HO.out, hB12⟩⟩
  · rw [if_neg he0] at HR
    have e0 : ((er : Int) == 0) = false := by rw [beq_eq_false_iff_ne]; omega
    have e0' : (er == 0) = false := by rw [beq_eq_false_iff_ne]; exact he0
    by_cases he5 : er = 5
    · subst he5
      rw [if_pos rfl] at HR
      have CE := inf_end hI
      clear hu CP e0 e0' he0
      go_wp2_with fail
      refine CE.mono ?_
      rintro e w3 ⟨rfl, _, hB3⟩
      go_wp2_with fail
      go_ret3
      rw [HR.out]
      exact ⟨⟨.slice none 0 0, rfl, Own.nil _ _ _, hB12.trans hB3⟩⟩
    · rw [if_neg he5] at HR
      have e5 : ((er : Int) == 5) = false := by rw [beq_eq_false_iff_ne]; omega
      have e5' : (er == 5) = false := by rw [beq_eq_false_iff_ne]; exact he5
      clear hu CP hI
      go_wp2_with fail
      go_ret3
      rw [HR.out]
      exact ⟨⟨.slice none 0 0, rfl, Own.nil _ _ _, hB12⟩⟩
end Go.Proofs.Yteknaaijlkenkaa
