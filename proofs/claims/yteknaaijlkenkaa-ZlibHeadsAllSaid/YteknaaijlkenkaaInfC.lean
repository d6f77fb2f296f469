import Derived.Test.YteknaaijlkenkaaInfB
import Derived.Test.YteknaaijlkenkaaTabT
import Derived.Recover
namespace Go.Proofs.Yteknaaijlkenkaa
set_option linter.unusedVariables false
set_option linter.unusedSimpArgs false
open Go.RowKit
attribute [local go_sem] max2i min2i max2t min2t

theorem u8_ofI {x : Int} (h : (Lit.int .u8 x).wf = true) : 0 ≤ x ∧ x < 256 := by
  simp [Lit.wf, IntKind.min, IntKind.max, IntKind.bits, IntKind.signed] at h; omega
def faultI (code : Int) : PanicEntry := { v := .iface 93 (.agg #[.int .i64 code, .int .i64 0]), recovered := false }
/-- The cursor of the inflate at p stands at the bit n of the bytes bs. -/
structure CurAt (w : World) (p : Nat) (cs : Array Value) (A : Option Addr) (c : Nat) (bs : List Int) (n : Nat) : Prop where
  pb : Blk w p 91 cs
  sl : cs[3]? = some (.slice A bs.length c)
  at_ : cs[4]? = some (.int .i64 n)
  row : RowOf w .u8 A c bs
  ne : ∀ ad, A = some ad → ad.block ≠ p
  le : n ≤ 8 * bs.length
  hi : bs.length ≤ 1099511627776
  lt : ∀ ad, A = some ad → ad.block < w.heap.size
section
variable {w w' : World} {p : Nat} {cs : Array Value} {A : Option Addr} {c : Nat} {bs : List Int} {n : Nat}
theorem CurAt.kept {S : Nat → Prop} (h : CurAt w p cs A c bs n) (hs : Same S w w') (hp : ¬ S p) (hA : ∀ ad, A = some ad → ¬ S ad.block) : CurAt w' p cs A c bs n := ⟨h.pb.same hs hp, h.sl, h.at_, h.row.same hs hA, h.ne, h.le, h.hi, fun ad e => Nat.lt_of_lt_of_le (h.lt ad e) hs.size⟩
theorem CurAt.same (h : CurAt w p cs A c bs n) (hs : Same (fun _ => False) w w') : CurAt w' p cs A c bs n := h.kept hs (fun c => c) (fun _ _ c => c)
theorem CurAt.c3 (h : CurAt w p cs A c bs n) : w.cell? ⟨p, 3, none⟩ = some (.slice A bs.length c) := (h.pb.cell 3).trans h.sl
theorem CurAt.c4 (h : CurAt w p cs A c bs n) : w.cell? ⟨p, 4, none⟩ = some (.int .i64 n) := (h.pb.cell 4).trans h.at_
theorem CurAt.move (h : CurAt w p cs A c bs n) {m : Nat} (hm : m ≤ 8 * bs.length) : CurAt (w.setCell ⟨p, 4, none⟩ (.int .i64 (m : Int))) p (cs.setIfInBounds 4 (.int .i64 (m : Int))) A c bs m := by
  have hs : Same (fun k => k = p) w (w.setCell ⟨p, 4, none⟩ (.int .i64 (m : Int))) := Same.set_ (S := fun k => k = p) (p := ⟨p, 4, none⟩) (Same.refl w) (fun _ => rfl) _
  have h4 : 4 < cs.size := (Array.getElem?_eq_some_iff.1 h.at_).1
  exact ⟨h.pb.set_ 4 _, by rw [Array.getElem?_setIfInBounds_ne (by decide)]; exact h.sl, by rw [Array.getElem?_setIfInBounds_self]; simp [h4], h.row.same hs (fun ad e => h.ne ad e), h.ne, hm, h.hi, fun ad e => Nat.lt_of_lt_of_le (h.lt ad e) hs.size⟩
end
/-- A table stays where blocks of other types are written. -/
theorem TOk.keep {S : Nat → Prop} {w w' : World} {base pt F : Nat} {l : List Int} (h : TOk w base l pt F) (hs : Same S w w') (hS : ∀ k, S k → k < w.heap.size → ∃ t cs, Blk w k t cs ∧ t ≠ 130 ∧ t ≠ 134) : TOk w' base l pt F := by
  obtain ⟨v, P, fr, ct, h1, h2⟩ := h.ex
  refine ⟨v, P, fr, ct, h1.kept hs (fun c => ?_) (fun g hg c => ?_), h2⟩
  · obtain ⟨t, cs, hb, hn, _⟩ := hS _ c (Blk.lt h1.pb)
    exact Blk.ne_ hb h1.pb hn rfl
  · rcases h1.row.2 with ⟨rfl, _⟩ | ⟨g', cap, cur, rfl, _, hh, _⟩
    · simp [Value.ownBlock] at hg
    · have : g' = g := by simpa [Value.ownBlock] using hg
      subst this
      obtain ⟨t, cs, hb, _, hn⟩ := hS _ c (Array.getElem?_eq_some_iff.1 hh).1
      exact Blk.ne_ (t' := 134) hb hh hn rfl
theorem cur_fail (w : World) (a : Option Addr) (code : Int) :
    Calls Try.prog 65 #[.pointer a, .int .i64 code] w fun e w' => e = .panicked [faultI code] ∧ w' = w := by
  go_enter Try.func65, Try.ntmps65
  go_wp2_with fail
  exact ⟨rfl, rfl, rfl⟩
set_option maxHeartbeats 1600000 in
set_option maxRecDepth 100000 in
theorem cur_left {w : World} {p : Nat} {cs : Array Value} {A : Option Addr} {c : Nat} {bs : List Int} {n : Nat} (h : CurAt w p cs A c bs n) :
    Calls Try.prog 69 #[.pointer (some ⟨p, 3, none⟩)] w fun e w' => e = .returned (.int .i64 (lf bs n)) ∧ Same (fun _ => False) w w' := by
  have c3 := fun d : Ext (fun _ => False) w => (h.same d.same).c3
  have c4 := fun d : Ext (fun _ => False) w => (h.same d.same).c4
  have hl := h.le
  have hh := h.hi
  have e1 : ((lf bs n : Nat) : Int) = 8 * (bs.length : Int) - n := by unfold lf; omega
  rw [e1]
  go_enter Try.func69, Try.ntmps69
  go_wp2_with fail
  refine wp_region_ext (fun _ => False) (by kernel_rfl) (by kernel_rfl) ?_
  repeat (go_big_quiet_step (fail))
  refine wpQuiet_nil ?_
  rintro _ ⟨d, rfl⟩
  go_wp2_with fail
  go_ret
  exact ⟨rfl, d.same⟩
structure PkRel (w : World) (bs : List Int) (q : Nat) (g : Nat) (s5 s7 s8 : Value) (wr : World) : Prop where mk ::
  out_ : ∃ i : Nat, i ≤ 5 ∧ g = 5 - i ∧ (i = 0 ∨ q + i ≤ bs.length) ∧ s5 = .int .u64 (pk bs (8 * q) (8 * i)) ∧ s7 = .int .i64 i ∧ s8 = .int .i64 i ∧ Same (fun _ => False) w wr
theorem or_u64 {b x r : Nat} (hb : b < 2 ^ r) (hx : x < 256) (hr : r ≤ 32) : bits .or .u64 (b : Int) (IntKind.u64.wrap ((x : Int) * 2 ^ r)) = ((b + x * 2 ^ r : Nat) : Int) := by
  have hp : (2 : Nat) ^ r ≤ 2 ^ 32 := Nat.pow_le_pow_right (by decide) hr
  have h1 : x * 2 ^ r ≤ 255 * 2 ^ 32 := Nat.mul_le_mul (by omega) hp
  have e0 : ((x : Int) * 2 ^ r) = ((x * 2 ^ r : Nat) : Int) := by rw [Int.natCast_mul, Int.natCast_pow]; rfl
  have e : IntKind.u64.wrap ((x : Int) * 2 ^ r) = (x : Int) * 2 ^ r := by
    rw [e0]
    generalize x * 2 ^ r = y at *
    exact IntWalk.u64_in _ (by omega)
  rw [e, or_addK .u64 (.inr (.inl rfl)) b x r hb (by simp only [IntKind.bits]; generalize x * 2 ^ r = y at *; generalize 2 ^ r = z at *; omega)]
  rw [e0]
  rfl
set_option maxHeartbeats 1600000 in
set_option maxRecDepth 100000 in
theorem cur_peek {w : World} {p : Nat} {cs : Array Value} {A : Option Addr} {c : Nat} {bs : List Int} {n : Nat} (h : CurAt w p cs A c bs n) (k : Nat) (hk : k ≤ 16) :
    Calls Try.prog 76 #[.pointer (some ⟨p, 3, none⟩), .int .i64 k] w fun e w' => e = .returned (.int .u32 (pk bs n k)) ∧ Same (fun _ => False) w w' := by
  have c3 := fun d : Ext (fun _ => False) w => (h.same d.same).c3
  have c4 := fun d : Ext (fun _ => False) w => (h.same d.same).c4
  have hl := h.le
  have hh := h.hi
  have hcap := h.row.cap
  have hmost := h.row.most
  have h5 := pk_five bs n k (by omega)
  have hdq : ((n : Nat) : Int) / 8 = ((n / 8 : Nat) : Int) := by omega
  have hdr : ((n : Nat) : Int) % 8 = ((n % 8 : Nat) : Int) := by omega
  obtain ⟨q, hq⟩ : ∃ q, n / 8 = q := ⟨_, rfl⟩
  obtain ⟨r, hr⟩ : ∃ r, n % 8 = r := ⟨_, rfl⟩
  have hr8 : r < 8 := by omega
  have hql : q ≤ bs.length := by omega
  have hnb : (n : Int) ≤ 8796093022208 := by omega
  rw [hq, hr] at h5
  rw [hq] at hdq
  rw [hr] at hdr
  obtain ⟨R, hR⟩ : ∃ R, pk bs n k = R := ⟨_, rfl⟩
  rw [hR] at h5
  rw [hR]
  have H5 := Lib.hid h5
  have HQ := Lib.hid hq
  have HD := Lib.hid hdr
  clear h5 hR hq hr hdr
  go_enter Try.func76, Try.ntmps76
  go_wp2_with fail
  refine wp_region_ext (fun _ => False) (by kernel_rfl) (by kernel_rfl) ?_
  repeat (go_big_quiet_step (fail))
  refine wpQuiet_nil ?_
  rintro _ ⟨d, rfl⟩
  have hd := d.same
  generalize d.world = w1 at *
  clear c3 c4 d hdq
  go_wp2_with fail
  go_loopg [5, 7, 8] 5 (PkRel w bs q)
  case atStart => exact ⟨⟨0, by omega, by omega, .inl rfl, rfl, rfl, rfl, hd⟩⟩
  case round =>
    obtain ⟨i, hi, hg, hqi, rfl, rfl, rfl, hs⟩ := hrel.out_
    clear hrel
    have hc := h.same hs
    have c3 := hc.c3
    have c4 := hc.c4
    by_cases h1 : i < 5
    · have e1 : decide ((i : Int) < 5) = true := by simp; omega
      by_cases h2 : q + i < bs.length
      · have e2 : decide ((q : Int) + i < bs.length) = true := by simp; omega
        obtain ⟨x, hx⟩ : ∃ x, bs[q + i]? = some x := ⟨_, List.getElem?_eq_getElem h2⟩
        have hx8 := u8_ofI (hc.row.wf x (List.mem_of_getElem? hx))
        obtain ⟨ad, rfl, hcx⟩ := hc.row.rd _ _ hx
        have hstep := pk_step bs q i hx hx8.1 hx8.2
        have hlt := pk_lt bs (8 * q) (8 * i)
        obtain ⟨x, rfl⟩ : ∃ y : Nat, x = y := ⟨x.toNat, by omega⟩
        rw [Int.toNat_natCast] at hstep
        obtain ⟨s, hs8⟩ : ∃ s, 8 * i = s := ⟨_, rfl⟩
        have h8 : (8 : Int) * (i : Int) = (s : Int) := by omega
        have hsb : s ≤ 32 := by omega
        have k1 : ((q : Int) + i).toNat = q + i := by omega
        rw [hs8] at hstep hlt ⊢
        have hor := or_u64 (b := pk bs (8 * q) s) (x := x) (r := s) hlt (by omega) hsb
        rw [← hstep] at hor
        have HS8 := Lib.hid hs8
        generalize pk bs (8 * q) s = b at *
        generalize hB2 : pk bs (8 * q) (s + 8) = b2 at *
        have HB2 := Lib.hid hB2
        clear hstep hlt hs8 hB2 hx
        go_wp2_with fail
        go_roundg (gk - 1)
        case measure => omega
        case rel => exact ⟨⟨i + 1, by omega, by omega, .inr (by omega), by rw [show 8 * (i + 1) = s + 8 from by have := HS8.out; omega, HB2.out], by go_num, by go_num, hs⟩⟩
      · have e2 : decide ((q : Int) + i < bs.length) = false := by simp; omega
        have hp := pk_past bs q i 5 (by omega) (by omega)
        rw [← hp]
        clear hp
        have hlt := pk_lt bs (8 * q) (8 * 5)
        have h5 := H5.out
        have hd5 := HD.out
        rw [show 8 * 5 = 40 from rfl] at hlt ⊢
        have hlt2 : pk bs (8 * q) 40 < 1099511627776 := by simpa using hlt
        have hdv : pk bs (8 * q) 40 / 2 ^ r ≤ pk bs (8 * q) 40 := Nat.div_le_self _ _
        have m1 := mask_u32 (pk bs (8 * q) 40 / 2 ^ r % 4294967296) k (by omega)
        have hmm : pk bs (8 * q) 40 / 2 ^ r % 4294967296 % 2 ^ k = R := by
          rw [← h5]
          exact Nat.mod_mod_of_dvd _ (Nat.pow_dvd_pow 2 (show k ≤ 32 by omega))
        rw [hmm] at m1
        have hde : ((pk bs (8 * q) 40 : Nat) : Int) / 2 ^ r = ((pk bs (8 * q) 40 / 2 ^ r : Nat) : Int) := by rw [Int.natCast_ediv, Int.natCast_pow]; rfl
        have hwr2 : ((pk bs (8 * q) 40 / 2 ^ r : Nat) : Int) % 4294967296 = ((pk bs (8 * q) 40 / 2 ^ r % 4294967296 : Nat) : Int) := by rw [Int.natCast_emod]; rfl
        have hwr : IntKind.u32.wrap ((pk bs (8 * q) 40 / 2 ^ r : Nat) : Int) = ((pk bs (8 * q) 40 / 2 ^ r % 4294967296 : Nat) : Int) := by rw [IntKind.wrap_u32]; exact hwr2
        clear hlt h5 hmm hdv
        generalize pk bs (8 * q) 40 / 2 ^ r % 4294967296 = z1 at *
        generalize pk bs (8 * q) 40 / 2 ^ r = z at *
        generalize pk bs (8 * q) 40 = y at *
        go_wp2_with fail
        go_ret
        exact ⟨rfl, hs⟩
    · have e1 : decide ((i : Int) < 5) = false := by simp; omega
      have hi5 : i = 5 := by omega
      subst hi5
      have hlt := pk_lt bs (8 * q) (8 * 5)
      have h5 := H5.out
      have hd5 := HD.out
      rw [show 8 * 5 = 40 from rfl] at hlt ⊢
      have hlt2 : pk bs (8 * q) 40 < 1099511627776 := by simpa using hlt
      have hdv : pk bs (8 * q) 40 / 2 ^ r ≤ pk bs (8 * q) 40 := Nat.div_le_self _ _
      have m1 := mask_u32 (pk bs (8 * q) 40 / 2 ^ r % 4294967296) k (by omega)
      have hmm : pk bs (8 * q) 40 / 2 ^ r % 4294967296 % 2 ^ k = R := by
        rw [← h5]
        exact Nat.mod_mod_of_dvd _ (Nat.pow_dvd_pow 2 (show k ≤ 32 by omega))
      rw [hmm] at m1
      have hde : ((pk bs (8 * q) 40 : Nat) : Int) / 2 ^ r = ((pk bs (8 * q) 40 / 2 ^ r : Nat) : Int) := by rw [Int.natCast_ediv, Int.natCast_pow]; rfl
      have hwr2 : ((pk bs (8 * q) 40 / 2 ^ r : Nat) : Int) % 4294967296 = ((pk bs (8 * q) 40 / 2 ^ r % 4294967296 : Nat) : Int) := by rw [Int.natCast_emod]; rfl
      have hwr : IntKind.u32.wrap ((pk bs (8 * q) 40 / 2 ^ r : Nat) : Int) = ((pk bs (8 * q) 40 / 2 ^ r % 4294967296 : Nat) : Int) := by rw [IntKind.wrap_u32]; exact hwr2
      clear hlt h5 hmm hdv
      generalize pk bs (8 * q) 40 / 2 ^ r % 4294967296 = z1 at *
      generalize pk bs (8 * q) 40 / 2 ^ r = z at *
      generalize pk bs (8 * q) 40 = y at *
      go_wp2_with fail
      go_ret
      exact ⟨rfl, hs⟩
theorem set4_fix {cs : Array Value} {v : Value} (h : cs[4]? = some v) : cs.setIfInBounds 4 v = cs := by
  have h4 : 4 < cs.size := (Array.getElem?_eq_some_iff.1 h).1
  apply Array.ext'
  rw [Array.toList_setIfInBounds]
  apply List.ext_getElem?
  intro i
  rw [List.getElem?_set]
  split
  · rename_i e
    subst e
    simp only [Array.getElem?_toList, Array.length_toList, h, h4, if_true]
  · rfl
set_option maxHeartbeats 1600000 in
set_option maxRecDepth 100000 in
theorem cur_get_ok {w : World} {p : Nat} {cs : Array Value} {A : Option Addr} {c : Nat} {bs : List Int} {n : Nat} (h : CurAt w p cs A c bs n) (k : Nat) (hk : k ≤ 16) (hs : k ≤ lf bs n) :
    Calls Try.prog 64 #[.pointer (some ⟨p, 3, none⟩), .int .i64 k] w fun e w' => e = .returned (.int .i64 (pk bs n k)) ∧ CurAt w' p (cs.setIfInBounds 4 (.int .i64 ((n + k : Nat) : Int))) A c bs (n + k) ∧ Same (fun g => g = p) w w' := by
  have hl := h.le
  have hh := h.hi
  have e1 : decide (lf bs n < k) = false := by simp; omega
  have hlt := pk_lt bs n k
  have hlt2 : pk bs n k < 65536 := Nat.lt_of_lt_of_le hlt (Nat.pow_le_pow_right (n := 2) (by decide) hk)
  have hsl : n + k ≤ 8 * bs.length := by unfold lf at hs; omega
  have hlfb : lf bs n ≤ 8796093022208 := by unfold lf; omega
  go_enter Try.func64, Try.ntmps64
  go_wp2_with fail
  refine (cur_left h).mono ?_
  rintro e w1 ⟨rfl, hs1⟩
  have h1 := h.same hs1
  go_wp2_with fail
  refine (cur_peek h1 k hk).mono ?_
  rintro e w2 ⟨rfl, hs2⟩
  have h2 := h1.same hs2
  have c4 := h2.c4
  have f4 := h2.pb.frozen 4
  have hm : CurAt (w2.setCell ⟨p, 4, none⟩ (.int .i64 ((n : Int) + k))) p (cs.setIfInBounds 4 (.int .i64 ((n + k : Nat) : Int))) A c bs (n + k) := by
    have e : ((n + k : Nat) : Int) = (n : Int) + k := by omega
    have := h2.move hsl
    rw [e] at this ⊢
    exact this
  have HM := Lib.hid hm
  have hs12 := hs1.then hs2
  clear hm h h1 h2 hs hlt
  go_wp2_with fail
  go_ret
  exact ⟨rfl, HM.out, hs12.any.then (Same.set_ (S := fun g => g = p) (p := ⟨p, 4, none⟩) (Same.refl w2) (fun _ => rfl) _)⟩
set_option maxHeartbeats 1600000 in
set_option maxRecDepth 100000 in
theorem cur_get_bad {w : World} {p : Nat} {cs : Array Value} {A : Option Addr} {c : Nat} {bs : List Int} {n : Nat} (h : CurAt w p cs A c bs n) (k : Nat) (hk : k ≤ 16) (hs : lf bs n < k) :
    Calls Try.prog 64 #[.pointer (some ⟨p, 3, none⟩), .int .i64 k] w fun e w' => e = .panicked [faultI 5] ∧ Same (fun _ => False) w w' := by
  have e1 : decide (lf bs n < k) = true := by simpa using hs
  go_enter Try.func64, Try.ntmps64
  go_wp2_with fail
  refine (cur_left h).mono ?_
  rintro e w1 ⟨rfl, hs1⟩
  go_wp2_with fail
  refine (cur_fail w1 _ 5).mono ?_
  rintro e w2 ⟨rfl, rfl⟩
  go_wp2_with fail
  exact ⟨rfl, rfl, hs1⟩
theorem symG_ok {l bs : List Int} {n s m : Nat} (h : symG l bs n = .ok (s, m)) : findN l (pk bs n 15 % 2 ^ min (lf bs n) 15) (min (lf bs n) 15) = (s, m, 0) ∧ m ≤ lf bs n ∧ m ≤ 15 ∧ s < l.length ∧ ln l s = m ∧ 1 ≤ m := by
  unfold symG at h
  simp only at h
  split at h
  · rename_i h0
    injection h with h
    have h9 : findN l (pk bs n 15 % 2 ^ min (lf bs n) 15) (min (lf bs n) 15) = (s, m, 0) := by
      rw [← h0]; simp only [Prod.mk.injEq] at h; rw [← h.1, ← h.2]
    refine ⟨h9, ?_⟩
    unfold findN at h9
    split at h9
    · rename_i j hj
      obtain ⟨h1, h2⟩ := hit_some hj
      simp only [Prod.mk.injEq] at h9
      obtain ⟨rfl, rfl, _⟩ := h9
      refine ⟨by omega, by omega, ?_, rfl, h1.1⟩
      rcases Nat.lt_or_ge j l.length with h | h
      · exact h
      · have := h1.1
        rw [ln, List.getD_eq_getElem?_getD, List.getElem?_eq_none h] at this
        simp at this
    · split at h9 <;> simp at h9
  · cases h
theorem symG_bad {l bs : List Int} {n e : Nat} (h : symG l bs n = .bad e) : findN l (pk bs n 15 % 2 ^ min (lf bs n) 15) (min (lf bs n) 15) = (0, 0, e) ∧ (e = 2 ∨ e = 5) := by
  unfold symG at h
  simp only at h
  split at h
  · cases h
  · rename_i h0
    injection h with h
    generalize hf : findN l (pk bs n 15 % 2 ^ min (lf bs n) 15) (min (lf bs n) 15) = r at *
    unfold findN at hf
    split at hf
    · subst hf; exact absurd rfl h0
    · split at hf
      · subst hf; subst h; exact ⟨rfl, .inr rfl⟩
      · subst hf; subst h; exact ⟨rfl, .inl rfl⟩
set_option maxHeartbeats 1600000 in
set_option maxRecDepth 100000 in
theorem cur_sym_ok {w : World} {p : Nat} {cs : Array Value} {A : Option Addr} {c : Nat} {bs : List Int} {n : Nat} (h : CurAt w p cs A c bs n) {base pt F : Nat} {l : List Int} (hT : TOk w base l pt F) {s m : Nat} (hsym : symG l bs n = .ok (s, m)) :
    Calls Try.prog 71 #[.pointer (some ⟨p, 3, none⟩), .pointer (some ⟨pt, 0, none⟩)] w fun e w' => e = .returned (.int .i64 s) ∧ CurAt w' p (cs.setIfInBounds 4 (.int .i64 ((n + m : Nat) : Int))) A c bs (n + m) ∧ Same (fun g => g = p) w w' := by
  obtain ⟨hf, hm1, hm2, hsl, _, _⟩ := symG_ok hsym
  clear hsym
  have hl := h.le
  have hh := h.hi
  have hlfb : lf bs n ≤ 8796093022208 := by unfold lf; omega
  have hlt := pk_lt bs n 15
  have hlt2 : pk bs n 15 < 4294967296 := Nat.lt_of_lt_of_le hlt (by decide)
  go_enter Try.func71, Try.ntmps71
  go_wp2_with fail
  refine (cur_peek h 15 (by omega)).mono ?_
  rintro e w1 ⟨rfl, hs1⟩
  have h1 := h.same hs1
  go_wp2_with fail
  refine (cur_left h1).mono ?_
  rintro e w2 ⟨rfl, hs2⟩
  have h2 := h1.same hs2
  have hs12 := hs1.then hs2
  have hmn : min (max ((min (lf bs n : Int) 15)) 0) 15 = ((min (lf bs n) 15 : Nat) : Int) := by omega
  have hT2 := (hT.below (hs12.below (fun _ _ c => c))).find (pk bs n 15) hlt2 (min (lf bs n : Int) 15) (min (lf bs n) 15) hmn
  rw [hf] at hT2
  have HT := Lib.hid hT2
  clear hT hf hmn hlt h h1 hT2
  generalize pk bs n 15 = v at *
  go_wp2_with fail
  refine HT.out.mono ?_
  rintro e w3 ⟨rfl, hb3⟩
  have hs3 := hs12.then (Same.of_below (S := fun _ => False) hb3)
  have h3 := h2.same (Same.of_below (S := fun _ => False) hb3)
  clear HT h2
  have hml : n + m ≤ 8 * bs.length := by unfold lf at hm1; omega
  have c4 := h3.c4
  have f4 := h3.pb.frozen 4
  have hmv : CurAt (w3.setCell ⟨p, 4, none⟩ (.int .i64 ((n : Int) + m))) p (cs.setIfInBounds 4 (.int .i64 ((n + m : Nat) : Int))) A c bs (n + m) := by
    have e : ((n + m : Nat) : Int) = (n : Int) + m := by omega
    have := h3.move hml
    rw [e] at this ⊢
    exact this
  have HM := Lib.hid hmv
  clear hmv h3 hm1
  go_wp2_with fail
  go_ret
  exact ⟨rfl, HM.out, hs3.any.then (Same.set_ (S := fun g => g = p) (p := ⟨p, 4, none⟩) (Same.refl w3) (fun _ => rfl) _)⟩
set_option maxHeartbeats 1600000 in
set_option maxRecDepth 100000 in
theorem cur_sym_bad {w : World} {p : Nat} {cs : Array Value} {A : Option Addr} {c : Nat} {bs : List Int} {n : Nat} (h : CurAt w p cs A c bs n) {base pt F : Nat} {l : List Int} (hT : TOk w base l pt F) {x : Nat} (hsym : symG l bs n = .bad x) :
    Calls Try.prog 71 #[.pointer (some ⟨p, 3, none⟩), .pointer (some ⟨pt, 0, none⟩)] w fun e w' => e = .panicked [faultI x] ∧ Same (fun _ => False) w w' := by
  obtain ⟨hf, hx⟩ := symG_bad hsym
  have hx0 : (((x : Nat) : Int) == 0) = false := by rw [beq_eq_false_iff_ne]; omega
  have hx1 : (x == 0) = false := by rw [beq_eq_false_iff_ne]; omega
  clear hsym
  have hl := h.le
  have hh := h.hi
  have hlfb : lf bs n ≤ 8796093022208 := by unfold lf; omega
  have hlt := pk_lt bs n 15
  have hlt2 : pk bs n 15 < 4294967296 := Nat.lt_of_lt_of_le hlt (by decide)
  go_enter Try.func71, Try.ntmps71
  go_wp2_with fail
  refine (cur_peek h 15 (by omega)).mono ?_
  rintro e w1 ⟨rfl, hs1⟩
  have h1 := h.same hs1
  go_wp2_with fail
  refine (cur_left h1).mono ?_
  rintro e w2 ⟨rfl, hs2⟩
  have h2 := h1.same hs2
  have hs12 := hs1.then hs2
  have hmn : min (max ((min (lf bs n : Int) 15)) 0) 15 = ((min (lf bs n) 15 : Nat) : Int) := by omega
  have hT2 := (hT.below (hs12.below (fun _ _ c => c))).find (pk bs n 15) hlt2 (min (lf bs n : Int) 15) (min (lf bs n) 15) hmn
  rw [hf] at hT2
  have HT := Lib.hid hT2
  clear hT hf hmn hlt h h1 hT2
  generalize pk bs n 15 = v at *
  go_wp2_with fail
  refine HT.out.mono ?_
  rintro e w3 ⟨rfl, hb3⟩
  have hs3 := hs12.then (Same.of_below (S := fun _ => False) hb3)
  have h3 := h2.same (Same.of_below (S := fun _ => False) hb3)
  clear HT h2
  go_wp2_with fail
  refine (cur_fail w3 _ x).mono ?_
  rintro e w4 ⟨rfl, rfl⟩
  go_wp2_with fail
  exact ⟨rfl, rfl, hs3⟩
end Go.Proofs.Yteknaaijlkenkaa
