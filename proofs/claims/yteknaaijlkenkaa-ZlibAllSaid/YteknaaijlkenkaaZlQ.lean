import Derived.Test.YteknaaijlkenkaaNuC
import Derived.Test.YteknaaijlkenkaaNumS
import Derived.Test.YteknaaijlkenkaaZlT
namespace Go.Proofs.Yteknaaijlkenkaa
set_option linter.unusedVariables false
set_option linter.unusedSimpArgs false
open Go.RowKit Ieee
attribute [local go_sem] max2i min2i max2t min2t

/-- A head: the window's size and the error. -/
def zH (bs : List Int) : Nat × Nat := if bs.length < 2 then (0, 5) else if zok (bs.getD 0 0).toNat (bs.getD 1 0).toNat then (2 ^ ((bs.getD 0 0).toNat / 16 + 8), 0) else (0, 2)
theorem zH_ok {bs : List Int} (h : (zH bs).2 = 0) : 1 ≤ (zH bs).1 ∧ (zH bs).1 ≤ 65536 := by
  unfold zH at *
  split at h
  · cases h
  · rename_i h2
    rw [if_neg h2]
    split at h
    · rename_i hz
      rw [if_pos hz]
      have : (bs.getD 0 0).toNat / 16 ≤ 7 := by
        have := hz
        simp only [zok, decide_eq_true_eq] at this
        exact this.2.1
      have h1 : 2 ^ ((bs.getD 0 0).toNat / 16 + 8) ≤ 2 ^ 15 := Nat.pow_le_pow_right (by decide) (by omega)
      have h3 : 0 < 2 ^ ((bs.getD 0 0).toNat / 16 + 8) := Nat.pow_pos (by decide)
      simp only
      omega
    · cases h
set_option maxHeartbeats 1600000 in
set_option maxRecDepth 100000 in
theorem zlib_readG {A : Option Addr} {c : Nat} {bs : List Int} (w : World) (h : RowOf w .u8 A c bs) :
    Calls Try.prog 11 #[.slice A bs.length c] w fun e w' => e = .returned (.tuple #[.int .i64 (zH bs).1, .int .i64 (zH bs).2]) ∧ Same (fun _ => False) w w' := by
  rcases Nat.lt_or_ge bs.length 2 with h2 | h2
  · have hz : zH bs = (0, 5) := by unfold zH; rw [if_pos h2]
    rw [hz]
    have e1 : decide ((bs.length : Int) < 2) = true := by simp; omega
    clear hz
    go_enter Try.func11, Try.ntmps11
    go_wp2_with fail
    go_ret2
    exact ⟨rfl, Same.refl _⟩
  · obtain ⟨bk, o, rfl⟩ := h.addr (fun e => by rw [e] at h2; simp at h2)
    have hx : ∀ i, i < 2 → ∃ x : Nat, x < 256 ∧ bs.getD i 0 = x ∧ w.cell? ⟨bk, o + i, none⟩ = some (.int .u8 (x : Int)) := fun i hi => by
      have hil : i < bs.length := by omega
      have hg : bs[i]? = some (bs.getD i 0) := by rw [List.getD_eq_getElem?_getD, List.getElem?_eq_getElem hil]; rfl
      have hw := h.wf _ (List.mem_of_getElem? hg)
      simp [Lit.wf, IntKind.min, IntKind.max, IntKind.bits, IntKind.signed] at hw
      obtain ⟨ad, e, hc⟩ := h.rd i _ hg
      cases e
      rw [Addr.add_lit] at hc
      rw [List.getD_eq_getElem?_getD] at *
      exact ⟨(bs[i]?.getD 0).toNat, by omega, by omega, by rw [hc, show (((bs[i]?.getD 0).toNat : Nat) : Int) = bs[i]?.getD 0 from by omega]⟩
    obtain ⟨a, ha, ea, ca⟩ := hx 0 (by omega)
    obtain ⟨b, hb, eb, cb⟩ := hx 1 (by omega)
    have hz : zH bs = if zok a b then (2 ^ (a / 16 + 8), 0) else (0, 2) := by unfold zH; rw [if_neg (by omega), ea, eb]; simp only [Int.toNat_natCast]
    have CR := zlib_read bk o c bs a b ha hb h2 w h.cap h.most ca cb
    refine CR.mono ?_
    rintro e w' ⟨rfl, hs⟩
    refine ⟨?_, hs⟩
    rw [hz]
    split <;> rfl
set_option maxHeartbeats 1600000 in
set_option maxRecDepth 100000 in
theorem ref_readzG {A : Option Addr} {c : Nat} {bs : List Int} (w : World) (h : RowOf w .u8 A c bs) :
    Calls Try.prog 18 #[.slice A bs.length c] w fun e w' => e = .returned (.tuple #[.int .i64 (zH bs).1, .int .i64 (zH bs).2]) ∧ Same (fun _ => False) w w' := by
  rcases Nat.lt_or_ge bs.length 2 with h2 | h2
  · have hz : zH bs = (0, 5) := by unfold zH; rw [if_pos h2]
    rw [hz]
    have e1 : decide ((bs.length : Int) < 2) = true := by simp; omega
    clear hz
    go_enter Try.func18, Try.ntmps18
    go_wp2_with fail
    go_ret2
    exact ⟨rfl, Same.refl _⟩
  · obtain ⟨bk, o, rfl⟩ := h.addr (fun e => by rw [e] at h2; simp at h2)
    have hx : ∀ i, i < 2 → ∃ x : Nat, x < 256 ∧ bs.getD i 0 = x ∧ w.cell? ⟨bk, o + i, none⟩ = some (.int .u8 (x : Int)) := fun i hi => by
      have hil : i < bs.length := by omega
      have hg : bs[i]? = some (bs.getD i 0) := by rw [List.getD_eq_getElem?_getD, List.getElem?_eq_getElem hil]; rfl
      have hw := h.wf _ (List.mem_of_getElem? hg)
      simp [Lit.wf, IntKind.min, IntKind.max, IntKind.bits, IntKind.signed] at hw
      obtain ⟨ad, e, hc⟩ := h.rd i _ hg
      cases e
      rw [Addr.add_lit] at hc
      rw [List.getD_eq_getElem?_getD] at *
      exact ⟨(bs[i]?.getD 0).toNat, by omega, by omega, by rw [hc, show (((bs[i]?.getD 0).toNat : Nat) : Int) = bs[i]?.getD 0 from by omega]⟩
    obtain ⟨a, ha, ea, ca⟩ := hx 0 (by omega)
    obtain ⟨b, hb, eb, cb⟩ := hx 1 (by omega)
    have hz : zH bs = if zok a b then (2 ^ (a / 16 + 8), 0) else (0, 2) := by unfold zH; rw [if_neg (by omega), ea, eb]; simp only [Int.toNat_natCast]
    have CR := ref_readz bk o c bs a b ha hb h2 w h.cap h.most ca cb
    refine CR.mono ?_
    rintro e w' ⟨rfl, hs⟩
    refine ⟨?_, hs⟩
    rw [hz]
    split <;> rfl
/-- Are n bytes too many for m packed ones? -/
def overZ (n m ratio : Nat) : Bool := match FloatKind.f64.format.mul ratio (floatOfInt .f64 (m : Int)) with
  | none => false
  | some p => FloatKind.f64.format.order (floatOfInt .f64 (n : Int)) p == some .gt
theorem mul_none {b y : Nat} (e : FloatKind.f64.format.mul b y = none) (w : World) : ∃ c, nanB c = true ∧ (binOp .mul 23 (.float .f64 b) (.float .f64 y)).run Try.prog w = .ok (.float .f64 c) w.drew := by
  refine ⟨_, nan_cut b y (w.tape w.drawn (.nanBits .f64 b y)), ?_⟩
  simp [binOp, Op.floatArith, e, Question.forced]
theorem mul_some {b y p : Nat} (e : FloatKind.f64.format.mul b y = some p) (w : World) : (binOp .mul 23 (.float .f64 b) (.float .f64 y)).run Try.prog w = .ok (.float .f64 p) w := by
  simp [binOp, Op.floatArith, e]
/-- All of a stream. -/
def zQ (bs : List Int) (most : Int) (ratio : Nat) : List Int × Nat × Nat :=
  if most < 0 ∨ 1073741824 < most then ([], 0, 1)
  else if (zH bs).2 ≠ 0 then ([], 0, 2)
  else if (allQ (bs.drop 2) false (zH bs).1 most.toNat).2.2 ≠ 0 then ([], 0, (allQ (bs.drop 2) false (zH bs).1 most.toNat).2.2)
  else if overZ (allQ (bs.drop 2) false (zH bs).1 most.toNat).1.length (allQ (bs.drop 2) false (zH bs).1 most.toNat).2.1 ratio then ([], 0, 3)
  else if bs.length ≠ (allQ (bs.drop 2) false (zH bs).1 most.toNat).2.1 + 6 ∨ beN bs (2 + (allQ (bs.drop 2) false (zH bs).1 most.toNat).2.1) 4 ≠ adlN (allQ (bs.drop 2) false (zH bs).1 most.toNat).1 then ([], 0, 2)
  else ((allQ (bs.drop 2) false (zH bs).1 most.toNat).1, (allQ (bs.drop 2) false (zH bs).1 most.toNat).2.1, 0)
theorem allPost_nil {w w' : World} {k : Nat} (h : Below w.heap.size w w') : AllPost w ([], 0, k) (.returned (.tuple #[.slice none 0 0, .int .i64 0, .int .i64 (k : Int)])) w' := ⟨⟨.slice none 0 0, rfl, Own.nil _ _ _, h⟩⟩
theorem Own.lower {w : World} {b b' : Nat} {e : TypeId} {v : Value} {xs : List Value} (h : Own w b e v xs) (hb : b' ≤ b) : Own w b' e v xs := by
  obtain ⟨h1, h2⟩ := h
  refine ⟨h1, ?_⟩
  rcases h2 with h2 | ⟨g, cap, cur, e1, e2, e3⟩
  · exact .inl h2
  · exact .inr ⟨g, cap, cur, e1, Nat.le_trans hb e2, e3⟩
theorem over_run (n m ratio : Nat) (W : World) : ∃ c9 W', (binOp .mul 23 (.float .f64 ratio) (.float .f64 (floatOfInt .f64 (m : Int)))).run Try.prog W = .ok (.float .f64 c9) W' ∧ Same (fun _ => False) W W' ∧ (FloatKind.f64.format.order (floatOfInt .f64 (n : Int)) c9 == some .gt) = overZ n m ratio := by
  cases e : FloatKind.f64.format.mul ratio (floatOfInt .f64 (m : Int)) with
  | none =>
    obtain ⟨c, hc, hm⟩ := mul_none e W
    exact ⟨c, W.drew, hm, (Same.refl W).drew, by rw [order_nan2 hc]; simp [overZ, e]⟩
  | some p => exact ⟨p, W, mul_some e W, Same.refl W, by simp [overZ, e]⟩
set_option maxHeartbeats 1600000 in
set_option maxRecDepth 100000 in
theorem num_bigS (A : Option Addr) (c len : Nat) (from_ n : Nat) (h1 : 1 ≤ n) (h8 : n ≤ 8) (hf : len < from_ + n) (hl : len ≤ 1000000000) (hfr : from_ ≤ 2000000000) (w : World) :
    Calls Try.prog 23 #[.slice A len c, .int .i64 from_, .int .i64 n] w fun e w' => e = .returned (.tuple #[.int .u64 0, .int .i64 5]) ∧ Below w.heap.size w w' := by
  have HC := fun pl => Lib.hid (num_readS A c len from_ n h1 h8 hf hl hfr pl w)
  go_enter Try.func23, Try.ntmps23
  go_wp2_with fail
  refine (HC _).out.mono ?_
  rintro e w' ⟨rfl, hB⟩
  go_wp2_with fail
  go_ret2
  exact ⟨rfl, hB⟩
theorem allPost_eq {w w' : World} {r R : List Int × Nat × Nat} {e : Ending} (h : r = R) (k : AllPost w r e w') : AllPost w R e w' := h ▸ k
set_option maxHeartbeats 4000000 in
set_option maxRecDepth 100000 in
theorem zlib_all {A : Option Addr} {c : Nat} {bs : List Int} (most : Int) (ratio : Nat) (hl : bs.length ≤ 100000000) (hub : (allQ (bs.drop 2) false (zH bs).1 most.toNat).2.1 ≤ 1000000000) (hol : (allQ (bs.drop 2) false (zH bs).1 most.toNat).1.length ≤ 1099511627776) (hwo : ∀ x ∈ (allQ (bs.drop 2) false (zH bs).1 most.toNat).1, (Lit.int .u8 x).wf = true) (w : World) (h : RowOf w .u8 A c bs) :
    Calls Try.prog 9 #[.slice A bs.length c, .int .i64 most, .float .f64 ratio] w fun e w' => AllPost w (zQ bs most ratio) e w' := by
  have hm := h.most
  have hcap := h.cap
  by_cases hlo : most < 0
  · have e1 : decide (most < 0) = true := by simpa using hlo
    have hz : zQ bs most ratio = ([], 0, 1) := by unfold zQ; rw [if_pos (.inl hlo)]
    rw [hz]
    clear hz hub hol hwo
    go_enter Try.func9, Try.ntmps9
    go_wp2_with fail
    go_ret3
    exact allPost_nil (Below.refl _ _)
  have e1 : decide (most < 0) = false := by simpa using hlo
  by_cases hhi : 1073741824 < most
  · have e2 : decide (1073741824 < most) = true := by simpa using hhi
    have hz : zQ bs most ratio = ([], 0, 1) := by unfold zQ; rw [if_pos (.inr hhi)]
    rw [hz]
    clear hz hub hol hwo
    go_enter Try.func9, Try.ntmps9
    go_wp2_with fail
    go_ret3
    exact allPost_nil (Below.refl _ _)
  have e2 : decide (1073741824 < most) = false := by simpa using hhi
  have CR := zlib_readG w h
  obtain ⟨m, rfl⟩ : ∃ m : Nat, most = m := ⟨most.toNat, by omega⟩
  rw [Int.toNat_natCast] at hub hol hwo
  obtain ⟨sz, er, hzh⟩ : ∃ sz er, zH bs = (sz, er) := ⟨_, _, rfl⟩
  rw [hzh] at CR hub hol hwo
  by_cases her : er ≠ 0
  · have hz : zQ bs m ratio = ([], 0, 2) := by unfold zQ; rw [if_neg (by omega), hzh, if_pos her]
    rw [hz]
    have e3 : ((er : Int) == 0) = false := by rw [beq_eq_false_iff_ne]; omega
    have e3' : (er == 0) = false := by rw [beq_eq_false_iff_ne]; exact her
    have CR := Lib.hid CR
    clear hz hub hol hwo hzh
    go_enter Try.func9, Try.ntmps9
    go_wp2_with fail
    refine CR.out.mono ?_
    rintro e w1 ⟨rfl, hs1⟩
    go_wp2_with fail
    go_ret3
    exact allPost_nil (hs1.below (fun _ _ c => c))
  have her : er = 0 := by omega
  subst her
  have hsz := zH_ok (bs := bs) (by rw [hzh])
  rw [hzh] at hsz
  simp only at hsz hub hol hwo CR
  have hb2 : 2 ≤ bs.length := by
    rcases Nat.lt_or_ge bs.length 2 with h2 | h2
    · rw [zH, if_pos h2] at hzh; cases hzh
    · exact h2
  obtain ⟨bk, o, rfl⟩ := h.addr (fun e => by rw [e] at hb2; simp at hb2)
  obtain ⟨⟨out, used, e⟩, hr⟩ : ∃ r, allQ (bs.drop 2) false sz m = r := ⟨_, rfl⟩
  obtain ⟨A2, hA2⟩ : ∃ A2 : Option Addr, (if c = 2 then some ⟨bk, o, none⟩ else some ⟨bk, o + 2, none⟩) = A2 := ⟨_, rfl⟩
  have hrow2 : ∀ W, Same (fun _ => False) w W → RowOf W .u8 A2 (c - 2) (bs.drop 2) := fun W hs => by
    rw [← hA2]
    have hd := (h.same hs (fun _ _ c => c)).dropK 2 hb2
    split
    · have e0 : bs.drop 2 = [] := List.drop_eq_nil_of_le (by omega)
      rw [e0] at hd ⊢
      exact ⟨fun i x hi => by simp at hi, hd.cap, hd.most, fun x hx => by simp at hx, by simp⟩
    · exact hd
  have CA := fun (W : World) (hs : Same (fun _ => False) w W) => inf_all A2 (c - 2) (bs.drop 2) false sz m hsz.1 hsz.2 (by omega) W (hrow2 W hs) (by rw [List.length_drop]; omega)
  have hZQ : zQ bs m ratio = if e ≠ 0 then ([], 0, e) else if overZ out.length used ratio then ([], 0, 3) else if bs.length ≠ used + 6 ∨ beN bs (2 + used) 4 ≠ adlN out then ([], 0, 2) else (out, used, 0) := by
    unfold zQ; rw [if_neg (by omega), hzh, if_neg (by simp), Int.toNat_natCast, hr]
  rw [hZQ]
  have hdl : (bs.drop 2).length = bs.length - 2 := List.length_drop
  rw [hr, hdl] at CA
  rw [hr] at hub hol hwo
  simp only at hub hol hwo
  have CA := Lib.hid CA
  have CR := Lib.hid CR
  clear hZQ hr hzh hdl hrow2
  have l2 : (2 : Int) ≤ (bs.length : Int) := by omega
  have l3 : (2 : Int) ≤ (c : Int) := by omega
  by_cases he0 : e ≠ 0
  · rw [if_pos he0]
    have e3 : ((e : Int) == 0) = false := by rw [beq_eq_false_iff_ne]; omega
    have e3' : (e == 0) = false := by rw [beq_eq_false_iff_ne]; exact he0
    go_enter Try.func9, Try.ntmps9
    go_wp2_with (first
      | (go_at_call 11; refine CR.out.mono ?_; rintro e w1 ⟨rfl, hs1⟩)
      | (go_at_call 22; go_loud (refine (CA.out _ hs1).mono ?_); rintro en w2 ⟨v2, rfl, ho2, hB2⟩; have B2 := (hs1.below (fun _ _ c => c)).trans (hB2.mono hs1.size)))
    go_ret3
    exact allPost_nil B2
  have he0 : e = 0 := by omega
  subst he0
  rw [if_neg (by simp)]
  have HWO := Lib.hid hwo
  have hOV := fun W => over_run out.length used ratio W
  have c0 : ∀ W, (convert 3 23 (.int .i64 (out.length : Int))).run Try.prog W = .ok (.float .f64 (floatOfInt .f64 (out.length : Int))) W := fun W => by kernel_rfl
  have c1 : ∀ W, (convert 3 23 (.int .i64 (used : Int))).run Try.prog W = .ok (.float .f64 (floatOfInt .f64 (used : Int))) W := fun W => by kernel_rfl
  generalize floatOfInt .f64 (out.length : Int) = x at *
  generalize floatOfInt .f64 (used : Int) = y at *
  have hbw := beN_lt bs (2 + used) h.wf 4
  obtain ⟨f, hf⟩ : ∃ f, 2 + used = f := ⟨_, rfl⟩
  have ef : (2 : Int) + (used : Int) = (f : Int) := by omega
  rw [hf] at hbw ⊢
  clear hwo
  cases hov : overZ out.length used ratio with
  | true =>
    rw [if_pos rfl]
    rw [hov] at hOV
    have HOV := Lib.hid hOV
    clear hOV hov hbw
    go_enter Try.func9, Try.ntmps9
    go_wp2_with (first
      | (go_at_call 11; refine CR.out.mono ?_; rintro e w1 ⟨rfl, hs1⟩)
      | (go_at_call 22; go_loud (refine (CA.out _ hs1).mono ?_); rintro en w2 ⟨v2, rfl, ho2, hB2⟩; have B2 := (hs1.below (fun _ _ c => c)).trans (hB2.mono hs1.size); obtain ⟨A5, c5, rfl, hr5, ha5⟩ := ho2.row HWO.out; obtain ⟨c9, W9, hm9, hs9, hg9⟩ := HOV.out w2; have B9 := hs9.below_of B2 B2.size (fun _ _ c => c))
      | fail)
    go_ret3
    exact allPost_nil B9
  | false =>
    rw [if_neg (by simp)]
    rw [hov] at hOV
    have HOV := Lib.hid hOV
    obtain ⟨R, hR⟩ : ∃ R, (if bs.length ≠ used + 6 ∨ beN bs f 4 ≠ adlN out then (([] : List Int), 0, 2) else (out, used, 0)) = R := ⟨_, rfl⟩
    rw [hR]
    have HR := Lib.hid hR
    clear hOV hR
    go_enter Try.func9, Try.ntmps9
    go_upto_region 11 with (first
      | (go_at_call 11; refine CR.out.mono ?_; rintro e w1 ⟨rfl, hs1⟩)
      | (go_at_call 22; go_loud (refine (CA.out _ hs1).mono ?_); rintro en w2 ⟨v2, rfl, ho2, hB2⟩; have B2 := (hs1.below (fun _ _ c => c)).trans (hB2.mono hs1.size); obtain ⟨A5, c5, rfl, hr5, ha5⟩ := ho2.row HWO.out; obtain ⟨c9, W9, hm9, hs9, hg9⟩ := HOV.out w2; have B9 := hs9.below_of B2 B2.size (fun _ _ c => c))
      | fail)
    clear CR CA HWO HOV hA2
    by_cases hsh : bs.length < f + 4
    · have hR := HR.out
      rw [if_pos (.inl (by omega))] at hR
      have HRN := Lib.hid hR
      clear hR HR
      have CN := Lib.hid (fun W => num_bigS (some ⟨bk, o, none⟩) c bs.length f 4 (by decide) (by decide) hsh (by omega) (by omega) W)
      clear hsh hbw hf
      go_wp2_with (first
        | (go_at_call 23; refine (CN.out W9).mono ?_; rintro e w3 ⟨rfl, hB3⟩; have B3 := B9.trans (hB3.mono B9.size))
        | fail)
      go_ret3
      exact allPost_eq HRN.out (allPost_nil B3)
    · have CN := Lib.hid (fun W (hr : RowOf W .u8 (some ⟨bk, o, none⟩) c bs) => num_big (some ⟨bk, o, none⟩) c bs f 4 (by decide) (by decide) (by omega) (by omega) W hr)
      have hbw2 : beN bs f 4 < 4294967296 := by simpa using hbw
      have hw3 : IntKind.u32.wrap ((beN bs f 4 : Nat) : Int) = ((beN bs f 4 : Nat) : Int) := by rw [IntKind.wrap_u32]; omega
      by_cases hle : bs.length = used + 6
      · have CS := Lib.hid (fun A5 c5 W (hr : RowOf W .u8 A5 c5 out) => adler_sum A5 c5 out hol W hr)
        have hle1 : ((bs.length : Int) != (used : Int) + 6) = false := by simp; omega
        by_cases had : beN bs f 4 = adlN out
        · have hR := HR.out
          rw [if_neg (by rw [had]; simp; exact hle)] at hR
          have HRN := Lib.hid hR
          clear hR HR
          rw [had] at CN hw3 hbw2
          generalize adlN out = X at *
          have e5 : ((X : Int) != (X : Int)) = false := by simp
          clear had hbw hf hsh hov hle
          go_wp2_with (first
            | (go_at_call 23; refine (CN.out W9 (h.belo B9)).mono ?_; rintro e w3 ⟨rfl, hB3⟩; have B3 := B9.trans (hB3.mono B9.size); have hr6 := (hr5.same hs9 (fun _ _ c => c)).belo hB3)
            | (go_at_call 24; refine (CS.out A5 c5 w3 hr6).mono ?_; rintro e w4 ⟨rfl, rfl⟩)
            | fail)
          go_ret3
          exact allPost_eq HRN.out ⟨⟨_, rfl, ((ho2.kept hs9 (fun _ _ c => c)).kept (Same.of_below (S := fun _ => False) hB3) (fun _ _ c => c)).lower hs1.size, B3⟩⟩
        · have hR := HR.out
          rw [if_pos (.inr had)] at hR
          have HRN := Lib.hid hR
          clear hR HR
          generalize adlN out = X at *
          generalize beN bs f 4 = B at *
          have e5 : ((B : Int) != (X : Int)) = true := by simp; omega
          have e5' : (B != X) = true := by simp; exact had
          clear had hbw hf hsh hov hle
          go_wp2_with (first
            | (go_at_call 23; refine (CN.out W9 (h.belo B9)).mono ?_; rintro e w3 ⟨rfl, hB3⟩; have B3 := B9.trans (hB3.mono B9.size); have hr6 := (hr5.same hs9 (fun _ _ c => c)).belo hB3)
            | (go_at_call 24; refine (CS.out A5 c5 w3 hr6).mono ?_; rintro e w4 ⟨rfl, rfl⟩)
            | fail)
          go_ret3
          exact allPost_eq HRN.out (allPost_nil B3)
      · have hR := HR.out
        rw [if_pos (.inl hle)] at hR
        have HRN := Lib.hid hR
        clear hR HR
        have hle1 : ((bs.length : Int) != (used : Int) + 6) = true := by simp; omega
        have hle2 : (bs.length != used + 6) = true := by simp; exact hle
        generalize beN bs f 4 = B at *
        clear hbw hf hsh hle hov
        go_wp2_with (first
          | (go_at_call 23; refine (CN.out W9 (h.belo B9)).mono ?_; rintro e w3 ⟨rfl, hB3⟩; have B3 := B9.trans (hB3.mono B9.size); have hr6 := (hr5.same hs9 (fun _ _ c => c)).belo hB3)
          | fail)
        go_ret3
        exact allPost_eq HRN.out (allPost_nil B3)
end Go.Proofs.Yteknaaijlkenkaa
