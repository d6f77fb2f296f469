import Derived.Test.YteknaaijlkenkaaJInp
import Derived.Test.YteknaaijlkenkaaJTat
import Derived.Recover
import Derived.Test.YteknaaijlkenkaaBas2
import Derived.Deep.Cut
import Derived.Deep.DeepCutAuto
import Derived.Deep.CutBlock
import Derived.Deep.RegionWith
import Derived.RegionDies
namespace Go.Proofs.Yteknaaijlkenkaa
set_option linter.unusedVariables false
set_option linter.unusedSimpArgs false
open Go.RowKit
attribute [local go_sem] max2i min2i max2t min2t

theorem u8_ofI {x : Int} (h : (Lit.int .u8 x).wf = true) : 0 ≤ x ∧ x < 256 := by
  simp [Lit.wf, IntKind.min, IntKind.max, IntKind.bits, IntKind.signed] at h; omega
def faultI (code : Int) : PanicEntry := { v := .iface 93 (.agg #[.int .i64 code, .int .i64 0]), recovered := false }
/-- The cursor of the inflate at p stands at the bit n of the bytes bs. -/
structure CurAt (w : World) (p : Nat) (cs : Array Value) (A : Option Addr) (c : Nat) (bs : List Int) (n : Nat) : Prop where
  pb : Blk w p 91 cs
  sl : cs[3]? = some (.slice A bs.length c)
  at_ : cs[4]? = some (.int .i64 n)
  row : RowOf w .u8 A c bs
  ne : ∀ ad, A = some ad → ad.block ≠ p
  le : n ≤ 8 * bs.length
  hi : bs.length ≤ 1099511627776
  lt : ∀ ad, A = some ad → ad.block < w.heap.size
section
variable {w w' : World} {p : Nat} {cs : Array Value} {A : Option Addr} {c : Nat} {bs : List Int} {n : Nat}
theorem CurAt.kept {S : Nat → Prop} (h : CurAt w p cs A c bs n) (hs : Same S w w') (hp : ¬ S p) (hA : ∀ ad, A = some ad → ¬ S ad.block) : CurAt w' p cs A c bs n := ⟨h.pb.same hs hp, h.sl, h.at_, h.row.same hs hA, h.ne, h.le, h.hi, fun ad e => Nat.lt_of_lt_of_le (h.lt ad e) hs.size⟩
theorem CurAt.same (h : CurAt w p cs A c bs n) (hs : Same (fun _ => False) w w') : CurAt w' p cs A c bs n := h.kept hs (fun c => c) (fun _ _ c => c)
theorem CurAt.c3 (h : CurAt w p cs A c bs n) : w.cell? ⟨p, 3, none⟩ = some (.slice A bs.length c) := (h.pb.cell 3).trans h.sl
theorem CurAt.c4 (h : CurAt w p cs A c bs n) : w.cell? ⟨p, 4, none⟩ = some (.int .i64 n) := (h.pb.cell 4).trans h.at_
theorem CurAt.move (h : CurAt w p cs A c bs n) {m : Nat} (hm : m ≤ 8 * bs.length) : CurAt (w.setCell ⟨p, 4, none⟩ (.int .i64 (m : Int))) p (cs.setIfInBounds 4 (.int .i64 (m : Int))) A c bs m := by
  have hs : Same (fun k => k = p) w (w.setCell ⟨p, 4, none⟩ (.int .i64 (m : Int))) := Same.set_ (S := fun k => k = p) (p := ⟨p, 4, none⟩) (Same.refl w) (fun _ => rfl) _
  have h4 : 4 < cs.size := (Array.getElem?_eq_some_iff.1 h.at_).1
  exact ⟨h.pb.set_ 4 _, by rw [Array.getElem?_setIfInBounds_ne (by decide)]; exact h.sl, by rw [Array.getElem?_setIfInBounds_self]; simp [h4], h.row.same hs (fun ad e => h.ne ad e), h.ne, hm, h.hi, fun ad e => Nat.lt_of_lt_of_le (h.lt ad e) hs.size⟩
end
/-- A table stays where blocks of other types are written. -/
theorem TOk.keep {S : Nat → Prop} {w w' : World} {base pt F : Nat} {l : List Int} (h : TOk w base l pt F) (hs : Same S w w') (hS : ∀ k, S k → k < w.heap.size → ∃ t cs, Blk w k t cs ∧ t ≠ 130 ∧ t ≠ 134) : TOk w' base l pt F := by
  obtain ⟨v, P, fr, ct, h1, h2⟩ := h.ex
  refine ⟨v, P, fr, ct, h1.kept hs (fun c => ?_) (fun g hg c => ?_), h2⟩
  · obtain ⟨t, cs, hb, hn, _⟩ := hS _ c (Blk.lt h1.pb)
    exact Blk.ne_ hb h1.pb hn rfl
  · rcases h1.row.2 with ⟨rfl, _⟩ | ⟨g', cap, cur, rfl, _, hh, _⟩
    · simp [Value.ownBlock] at hg
    · have : g' = g := by simpa [Value.ownBlock] using hg
      subst this
      obtain ⟨t, cs, hb, _, hn⟩ := hS _ c (Array.getElem?_eq_some_iff.1 hh).1
      exact Blk.ne_ (t' := 134) hb hh hn rfl
theorem cur_fail (w : World) (a : Option Addr) (code : Int) :
    Calls Try.prog 65 #[.pointer a, .int .i64 code] w fun e w' => e = .panicked [faultI code] ∧ w' = w := by
  go_enter Try.func65, Try.ntmps65
  go_wp2_with fail
  exact ⟨rfl, rfl, rfl⟩
set_option maxHeartbeats 1600000 in
set_option maxRecDepth 100000 in
theorem cur_left {w : World} {p : Nat} {cs : Array Value} {A : Option Addr} {c : Nat} {bs : List Int} {n : Nat} (h : CurAt w p cs A c bs n) :
    Calls Try.prog 69 #[.pointer (some ⟨p, 3, none⟩)] w fun e w' => e = .returned (.int .i64 (lf bs n)) ∧ Same (fun _ => False) w w' := by
  have c3 := fun d : Ext (fun _ => False) w => (h.same d.same).c3
  have c4 := fun d : Ext (fun _ => False) w => (h.same d.same).c4
  have hl := h.le
  have hh := h.hi
  have e1 : ((lf bs n : Nat) : Int) = 8 * (bs.length : Int) - n := by unfold lf; omega
  rw [e1]
  go_enter Try.func69, Try.ntmps69
  go_wp2_with fail
  refine wp_region_ext (fun _ => False) (by kernel_rfl) (by kernel_rfl) ?_
  repeat (go_big_quiet_step (fail))
  refine wpQuiet_nil ?_
  rintro _ ⟨d, rfl⟩
  go_wp2_with fail
  go_ret
  exact ⟨rfl, d.same⟩
structure PkRel (w : World) (bs : List Int) (q : Nat) (g : Nat) (s5 s7 s8 : Value) (wr : World) : Prop where mk ::
  out_ : ∃ i : Nat, i ≤ 5 ∧ g = 5 - i ∧ (i = 0 ∨ q + i ≤ bs.length) ∧ s5 = .int .u64 (pk bs (8 * q) (8 * i)) ∧ s7 = .int .i64 i ∧ s8 = .int .i64 i ∧ Same (fun _ => False) w wr
theorem or_u64 {b x r : Nat} (hb : b < 2 ^ r) (hx : x < 256) (hr : r ≤ 32) : bits .or .u64 (b : Int) (IntKind.u64.wrap ((x : Int) * 2 ^ r)) = ((b + x * 2 ^ r : Nat) : Int) := by
  have hp : (2 : Nat) ^ r ≤ 2 ^ 32 := Nat.pow_le_pow_right (by decide) hr
  have h1 : x * 2 ^ r ≤ 255 * 2 ^ 32 := Nat.mul_le_mul (by omega) hp
  have e0 : ((x : Int) * 2 ^ r) = ((x * 2 ^ r : Nat) : Int) := by rw [Int.natCast_mul, Int.natCast_pow]; rfl
  have e : IntKind.u64.wrap ((x : Int) * 2 ^ r) = (x : Int) * 2 ^ r := by
    rw [e0]
    generalize x * 2 ^ r = y at *
    exact IntWalk.u64_in _ (by omega)
  rw [e, or_addK .u64 (.inr (.inl rfl)) b x r hb (by simp only [IntKind.bits]; generalize x * 2 ^ r = y at *; generalize 2 ^ r = z at *; omega)]
  rw [e0]
  rfl
set_option maxHeartbeats 1600000 in
set_option maxRecDepth 100000 in
theorem cur_peek {w : World} {p : Nat} {cs : Array Value} {A : Option Addr} {c : Nat} {bs : List Int} {n : Nat} (h : CurAt w p cs A c bs n) (k : Nat) (hk : k ≤ 16) :
    Calls Try.prog 76 #[.pointer (some ⟨p, 3, none⟩), .int .i64 k] w fun e w' => e = .returned (.int .u32 (pk bs n k)) ∧ Same (fun _ => False) w w' := by
  have c3 := fun d : Ext (fun _ => False) w => (h.same d.same).c3
  have c4 := fun d : Ext (fun _ => False) w => (h.same d.same).c4
  have hl := h.le
  have hh := h.hi
  have hcap := h.row.cap
  have hmost := h.row.most
  have h5 := pk_five bs n k (by omega)
  have hdq : ((n : Nat) : Int) / 8 = ((n / 8 : Nat) : Int) := by omega
  have hdr : ((n : Nat) : Int) % 8 = ((n % 8 : Nat) : Int) := by omega
  obtain ⟨q, hq⟩ : ∃ q, n / 8 = q := ⟨_, rfl⟩
  obtain ⟨r, hr⟩ : ∃ r, n % 8 = r := ⟨_, rfl⟩
  have hr8 : r < 8 := by omega
  have hql : q ≤ bs.length := by omega
  have hnb : (n : Int) ≤ 8796093022208 := by omega
  rw [hq, hr] at h5
  rw [hq] at hdq
  rw [hr] at hdr
  obtain ⟨R, hR⟩ : ∃ R, pk bs n k = R := ⟨_, rfl⟩
  rw [hR] at h5
  rw [hR]
  have H5 := Lib.hid h5
  have HQ := Lib.hid hq
  have HD := Lib.hid hdr
  clear h5 hR hq hr hdr
  go_enter Try.func76, Try.ntmps76
  go_wp2_with fail
  refine wp_region_ext (fun _ => False) (by kernel_rfl) (by kernel_rfl) ?_
  repeat (go_big_quiet_step (fail))
  refine wpQuiet_nil ?_
  rintro _ ⟨d, rfl⟩
  have hd := d.same
  generalize d.world = w1 at *
  clear c3 c4 d hdq
  go_wp2_with fail
  go_loopg [5, 7, 8] 5 (PkRel w bs q)
  case atStart => exact ⟨⟨0, by omega, by omega, .inl rfl, rfl, rfl, rfl, hd⟩⟩
  case round =>
    obtain ⟨i, hi, hg, hqi, rfl, rfl, rfl, hs⟩ := hrel.out_
    clear hrel
    have hc := h.same hs
    have c3 := hc.c3
    have c4 := hc.c4
    by_cases h1 : i < 5
    · have e1 : decide ((i : Int) < 5) = true := by simp; omega
      by_cases h2 : q + i < bs.length
      · have e2 : decide ((q : Int) + i < bs.length) = true := by simp; omega
        obtain ⟨x, hx⟩ : ∃ x, bs[q + i]? = some x := ⟨_, List.getElem?_eq_getElem h2⟩
        have hx8 := u8_ofI (hc.row.wf x (List.mem_of_getElem? hx))
        obtain ⟨ad, rfl, hcx⟩ := hc.row.rd _ _ hx
        have hstep := pk_step bs q i hx hx8.1 hx8.2
        have hlt := pk_lt bs (8 * q) (8 * i)
        obtain ⟨x, rfl⟩ : ∃ y : Nat, x = y := ⟨x.toNat, by omega⟩
        rw [Int.toNat_natCast] at hstep
        obtain ⟨s, hs8⟩ : ∃ s, 8 * i = s := ⟨_, rfl⟩
        have h8 : (8 : Int) * (i : Int) = (s : Int) := by omega
        have hsb : s ≤ 32 := by omega
        have k1 : ((q : Int) + i).toNat = q + i := by omega
        rw [hs8] at hstep hlt ⊢
        have hor := or_u64 (b := pk bs (8 * q) s) (x := x) (r := s) hlt (by omega) hsb
        rw [← hstep] at hor
        have HS8 := Lib.hid hs8
        generalize pk bs (8 * q) s = b at *
        generalize hB2 : pk bs (8 * q) (s + 8) = b2 at *
        have HB2 := Lib.hid hB2
        clear hstep hlt hs8 hB2 hx
        go_wp2_with fail
        go_roundg (gk - 1)
        case measure => omega
        case rel => exact ⟨⟨i + 1, by omega, by omega, .inr (by omega), by rw [show 8 * (i + 1) = s + 8 from by have := HS8.out; omega, HB2.out], by go_num, by go_num, hs⟩⟩
      · have e2 : decide ((q : Int) + i < bs.length) = false := by simp; omega
        have hp := pk_past bs q i 5 (by omega) (by omega)
        rw [← hp]
        clear hp
        have hlt := pk_lt bs (8 * q) (8 * 5)
        have h5 := H5.out
        have hd5 := HD.out
        rw [show 8 * 5 = 40 from rfl] at hlt ⊢
        have hlt2 : pk bs (8 * q) 40 < 1099511627776 := by simpa using hlt
        have hdv : pk bs (8 * q) 40 / 2 ^ r ≤ pk bs (8 * q) 40 := Nat.div_le_self _ _
        have m1 := mask_u32 (pk bs (8 * q) 40 / 2 ^ r % 4294967296) k (by omega)
        have hmm : pk bs (8 * q) 40 / 2 ^ r % 4294967296 % 2 ^ k = R := by
          rw [← h5]
          exact Nat.mod_mod_of_dvd _ (Nat.pow_dvd_pow 2 (show k ≤ 32 by omega))
        rw [hmm] at m1
        have hde : ((pk bs (8 * q) 40 : Nat) : Int) / 2 ^ r = ((pk bs (8 * q) 40 / 2 ^ r : Nat) : Int) := by rw [Int.natCast_ediv, Int.natCast_pow]; rfl
        have hwr2 : ((pk bs (8 * q) 40 / 2 ^ r : Nat) : Int) % 4294967296 = ((pk bs (8 * q) 40 / 2 ^ r % 4294967296 : Nat) : Int) := by rw [Int.natCast_emod]; rfl
        have hwr : IntKind.u32.wrap ((pk bs (8 * q) 40 / 2 ^ r : Nat) : Int) = ((pk bs (8 * q) 40 / 2 ^ r % 4294967296 : Nat) : Int) := by rw [IntKind.wrap_u32]; exact hwr2
        clear hlt h5 hmm hdv
        generalize pk bs (8 * q) 40 / 2 ^ r % 4294967296 = z1 at *
        generalize pk bs (8 * q) 40 / 2 ^ r = z at *
        generalize pk bs (8 * q) 40 = y at *
        go_wp2_with fail
        go_ret
        exact ⟨rfl, hs⟩
    · have e1 : decide ((i : Int) < 5) = false := by simp; omega
      have hi5 : i = 5 := by omega
      subst hi5
      have hlt := pk_lt bs (8 * q) (8 * 5)
      have h5 := H5.out
      have hd5 := HD.out
      rw [show 8 * 5 = 40 from rfl] at hlt ⊢
      have hlt2 : pk bs (8 * q) 40 < 1099511627776 := by simpa using hlt
      have hdv : pk bs (8 * q) 40 / 2 ^ r ≤ pk bs (8 * q) 40 := Nat.div_le_self _ _
      have m1 := mask_u32 (pk bs (8 * q) 40 / 2 ^ r % 4294967296) k (by omega)
      have hmm : pk bs (8 * q) 40 / 2 ^ r % 4294967296 % 2 ^ k = R := by
        rw [← h5]
        exact Nat.mod_mod_of_dvd _ (Nat.pow_dvd_pow 2 (show k ≤ 32 by omega))
      rw [hmm] at m1
      have hde : ((pk bs (8 * q) 40 : Nat) : Int) / 2 ^ r = ((pk bs (8 * q) 40 / 2 ^ r : Nat) : Int) := by rw [Int.natCast_ediv, Int.natCast_pow]; rfl
      have hwr2 : ((pk bs (8 * q) 40 / 2 ^ r : Nat) : Int) % 4294967296 = ((pk bs (8 * q) 40 / 2 ^ r % 4294967296 : Nat) : Int) := by rw [Int.natCast_emod]; rfl
      have hwr : IntKind.u32.wrap ((pk bs (8 * q) 40 / 2 ^ r : Nat) : Int) = ((pk bs (8 * q) 40 / 2 ^ r % 4294967296 : Nat) : Int) := by rw [IntKind.wrap_u32]; exact hwr2
      clear hlt h5 hmm hdv
      generalize pk bs (8 * q) 40 / 2 ^ r % 4294967296 = z1 at *
      generalize pk bs (8 * q) 40 / 2 ^ r = z at *
      generalize pk bs (8 * q) 40 = y at *
      go_wp2_with fail
      go_ret
      exact ⟨rfl, hs⟩
theorem set4_fix {cs : Array Value} {v : Value} (h : cs[4]? = some v) : cs.setIfInBounds 4 v = cs := by
  have h4 : 4 < cs.size := (Array.getElem?_eq_some_iff.1 h).1
  apply Array.ext'
  rw [Array.toList_setIfInBounds]
  apply List.ext_getElem?
  intro i
  rw [List.getElem?_set]
  split
  · rename_i e
    subst e
    simp only [Array.getElem?_toList, Array.length_toList, h, h4, if_true]
  · rfl
set_option maxHeartbeats 1600000 in
set_option maxRecDepth 100000 in
theorem cur_get_ok {w : World} {p : Nat} {cs : Array Value} {A : Option Addr} {c : Nat} {bs : List Int} {n : Nat} (h : CurAt w p cs A c bs n) (k : Nat) (hk : k ≤ 16) (hs : k ≤ lf bs n) :
    Calls Try.prog 64 #[.pointer (some ⟨p, 3, none⟩), .int .i64 k] w fun e w' => e = .returned (.int .i64 (pk bs n k)) ∧ CurAt w' p (cs.setIfInBounds 4 (.int .i64 ((n + k : Nat) : Int))) A c bs (n + k) ∧ Same (fun g => g = p) w w' := by
  have hl := h.le
  have hh := h.hi
  have e1 : decide (lf bs n < k) = false := by simp; omega
  have hlt := pk_lt bs n k
  have hlt2 : pk bs n k < 65536 := Nat.lt_of_lt_of_le hlt (Nat.pow_le_pow_right (n := 2) (by decide) hk)
  have hsl : n + k ≤ 8 * bs.length := by unfold lf at hs; omega
  have hlfb : lf bs n ≤ 8796093022208 := by unfold lf; omega
  go_enter Try.func64, Try.ntmps64
  go_wp2_with fail
  refine (cur_left h).mono ?_
  rintro e w1 ⟨rfl, hs1⟩
  have h1 := h.same hs1
  go_wp2_with fail
  refine (cur_peek h1 k hk).mono ?_
  rintro e w2 ⟨rfl, hs2⟩
  have h2 := h1.same hs2
  have c4 := h2.c4
  have f4 := h2.pb.frozen 4
  have hm : CurAt (w2.setCell ⟨p, 4, none⟩ (.int .i64 ((n : Int) + k))) p (cs.setIfInBounds 4 (.int .i64 ((n + k : Nat) : Int))) A c bs (n + k) := by
    have e : ((n + k : Nat) : Int) = (n : Int) + k := by omega
    have := h2.move hsl
    rw [e] at this ⊢
    exact this
  have HM := Lib.hid hm
  have hs12 := hs1.then hs2
  clear hm h h1 h2 hs hlt
  go_wp2_with fail
  go_ret
  exact ⟨rfl, HM.out, hs12.any.then (Same.set_ (S := fun g => g = p) (p := ⟨p, 4, none⟩) (Same.refl w2) (fun _ => rfl) _)⟩
set_option maxHeartbeats 1600000 in
set_option maxRecDepth 100000 in
theorem cur_get_bad {w : World} {p : Nat} {cs : Array Value} {A : Option Addr} {c : Nat} {bs : List Int} {n : Nat} (h : CurAt w p cs A c bs n) (k : Nat) (hk : k ≤ 16) (hs : lf bs n < k) :
    Calls Try.prog 64 #[.pointer (some ⟨p, 3, none⟩), .int .i64 k] w fun e w' => e = .panicked [faultI 5] ∧ Same (fun _ => False) w w' := by
  have e1 : decide (lf bs n < k) = true := by simpa using hs
  go_enter Try.func64, Try.ntmps64
  go_wp2_with fail
  refine (cur_left h).mono ?_
  rintro e w1 ⟨rfl, hs1⟩
  go_wp2_with fail
  refine (cur_fail w1 _ 5).mono ?_
  rintro e w2 ⟨rfl, rfl⟩
  go_wp2_with fail
  exact ⟨rfl, rfl, hs1⟩
theorem symG_ok {l bs : List Int} {n s m : Nat} (h : symG l bs n = .ok (s, m)) : findN l (pk bs n 15 % 2 ^ min (lf bs n) 15) (min (lf bs n) 15) = (s, m, 0) ∧ m ≤ lf bs n ∧ m ≤ 15 ∧ s < l.length ∧ ln l s = m ∧ 1 ≤ m := by
  unfold symG at h
  simp only at h
  split at h
  · rename_i h0
    injection h with h
    have h9 : findN l (pk bs n 15 % 2 ^ min (lf bs n) 15) (min (lf bs n) 15) = (s, m, 0) := by
      rw [← h0]; simp only [Prod.mk.injEq] at h; rw [← h.1, ← h.2]
    refine ⟨h9, ?_⟩
    unfold findN at h9
    split at h9
    · rename_i j hj
      obtain ⟨h1, h2⟩ := hit_some hj
      simp only [Prod.mk.injEq] at h9
      obtain ⟨rfl, rfl, _⟩ := h9
      refine ⟨by omega, by omega, ?_, rfl, h1.1⟩
      rcases Nat.lt_or_ge j l.length with h | h
      · exact h
      · have := h1.1
        rw [ln, List.getD_eq_getElem?_getD, List.getElem?_eq_none h] at this
        simp at this
    · split at h9 <;> simp at h9
  · cases h
theorem symG_bad {l bs : List Int} {n e : Nat} (h : symG l bs n = .bad e) : findN l (pk bs n 15 % 2 ^ min (lf bs n) 15) (min (lf bs n) 15) = (0, 0, e) ∧ (e = 2 ∨ e = 5) := by
  unfold symG at h
  simp only at h
  split at h
  · cases h
  · rename_i h0
    injection h with h
    generalize hf : findN l (pk bs n 15 % 2 ^ min (lf bs n) 15) (min (lf bs n) 15) = r at *
    unfold findN at hf
    split at hf
    · subst hf; exact absurd rfl h0
    · split at hf
      · subst hf; subst h; exact ⟨rfl, .inr rfl⟩
      · subst hf; subst h; exact ⟨rfl, .inl rfl⟩
set_option maxHeartbeats 1600000 in
set_option maxRecDepth 100000 in
theorem cur_sym_ok {w : World} {p : Nat} {cs : Array Value} {A : Option Addr} {c : Nat} {bs : List Int} {n : Nat} (h : CurAt w p cs A c bs n) {base pt F : Nat} {l : List Int} (hT : TOk w base l pt F) {s m : Nat} (hsym : symG l bs n = .ok (s, m)) :
    Calls Try.prog 71 #[.pointer (some ⟨p, 3, none⟩), .pointer (some ⟨pt, 0, none⟩)] w fun e w' => e = .returned (.int .i64 s) ∧ CurAt w' p (cs.setIfInBounds 4 (.int .i64 ((n + m : Nat) : Int))) A c bs (n + m) ∧ Same (fun g => g = p) w w' := by
  obtain ⟨hf, hm1, hm2, hsl, _, _⟩ := symG_ok hsym
  clear hsym
  have hl := h.le
  have hh := h.hi
  have hlfb : lf bs n ≤ 8796093022208 := by unfold lf; omega
  have hlt := pk_lt bs n 15
  have hlt2 : pk bs n 15 < 4294967296 := Nat.lt_of_lt_of_le hlt (by decide)
  go_enter Try.func71, Try.ntmps71
  go_wp2_with fail
  refine (cur_peek h 15 (by omega)).mono ?_
  rintro e w1 ⟨rfl, hs1⟩
  have h1 := h.same hs1
  go_wp2_with fail
  refine (cur_left h1).mono ?_
  rintro e w2 ⟨rfl, hs2⟩
  have h2 := h1.same hs2
  have hs12 := hs1.then hs2
  have hmn : min (max ((min (lf bs n : Int) 15)) 0) 15 = ((min (lf bs n) 15 : Nat) : Int) := by omega
  have hT2 := (hT.below (hs12.below (fun _ _ c => c))).find (pk bs n 15) hlt2 (min (lf bs n : Int) 15) (min (lf bs n) 15) hmn
  rw [hf] at hT2
  have HT := Lib.hid hT2
  clear hT hf hmn hlt h h1 hT2
  generalize pk bs n 15 = v at *
  go_wp2_with fail
  refine HT.out.mono ?_
  rintro e w3 ⟨rfl, hb3⟩
  have hs3 := hs12.then (Same.of_below (S := fun _ => False) hb3)
  have h3 := h2.same (Same.of_below (S := fun _ => False) hb3)
  clear HT h2
  have hml : n + m ≤ 8 * bs.length := by unfold lf at hm1; omega
  have c4 := h3.c4
  have f4 := h3.pb.frozen 4
  have hmv : CurAt (w3.setCell ⟨p, 4, none⟩ (.int .i64 ((n : Int) + m))) p (cs.setIfInBounds 4 (.int .i64 ((n + m : Nat) : Int))) A c bs (n + m) := by
    have e : ((n + m : Nat) : Int) = (n : Int) + m := by omega
    have := h3.move hml
    rw [e] at this ⊢
    exact this
  have HM := Lib.hid hmv
  clear hmv h3 hm1
  go_wp2_with fail
  go_ret
  exact ⟨rfl, HM.out, hs3.any.then (Same.set_ (S := fun g => g = p) (p := ⟨p, 4, none⟩) (Same.refl w3) (fun _ => rfl) _)⟩
set_option maxHeartbeats 1600000 in
set_option maxRecDepth 100000 in
theorem cur_sym_bad {w : World} {p : Nat} {cs : Array Value} {A : Option Addr} {c : Nat} {bs : List Int} {n : Nat} (h : CurAt w p cs A c bs n) {base pt F : Nat} {l : List Int} (hT : TOk w base l pt F) {x : Nat} (hsym : symG l bs n = .bad x) :
    Calls Try.prog 71 #[.pointer (some ⟨p, 3, none⟩), .pointer (some ⟨pt, 0, none⟩)] w fun e w' => e = .panicked [faultI x] ∧ Same (fun _ => False) w w' := by
  obtain ⟨hf, hx⟩ := symG_bad hsym
  have hx0 : (((x : Nat) : Int) == 0) = false := by rw [beq_eq_false_iff_ne]; omega
  have hx1 : (x == 0) = false := by rw [beq_eq_false_iff_ne]; omega
  clear hsym
  have hl := h.le
  have hh := h.hi
  have hlfb : lf bs n ≤ 8796093022208 := by unfold lf; omega
  have hlt := pk_lt bs n 15
  have hlt2 : pk bs n 15 < 4294967296 := Nat.lt_of_lt_of_le hlt (by decide)
  go_enter Try.func71, Try.ntmps71
  go_wp2_with fail
  refine (cur_peek h 15 (by omega)).mono ?_
  rintro e w1 ⟨rfl, hs1⟩
  have h1 := h.same hs1
  go_wp2_with fail
  refine (cur_left h1).mono ?_
  rintro e w2 ⟨rfl, hs2⟩
  have h2 := h1.same hs2
  have hs12 := hs1.then hs2
  have hmn : min (max ((min (lf bs n : Int) 15)) 0) 15 = ((min (lf bs n) 15 : Nat) : Int) := by omega
  have hT2 := (hT.below (hs12.below (fun _ _ c => c))).find (pk bs n 15) hlt2 (min (lf bs n : Int) 15) (min (lf bs n) 15) hmn
  rw [hf] at hT2
  have HT := Lib.hid hT2
  clear hT hf hmn hlt h h1 hT2
  generalize pk bs n 15 = v at *
  go_wp2_with fail
  refine HT.out.mono ?_
  rintro e w3 ⟨rfl, hb3⟩
  have hs3 := hs12.then (Same.of_below (S := fun _ => False) hb3)
  have h3 := h2.same (Same.of_below (S := fun _ => False) hb3)
  clear HT h2
  go_wp2_with fail
  refine (cur_fail w3 _ x).mono ?_
  rintro e w4 ⟨rfl, rfl⟩
  go_wp2_with fail
  exact ⟨rfl, rfl, hs3⟩
end Go.Proofs.Yteknaaijlkenkaa
namespace Go.Proofs.Yteknaaijlkenkaa
open Go.RowKit
attribute [local go_sem] max2i min2i max2t min2t

structure IkRel (w : World) (ks : List Int) (kd : Int) (g : Nat) (s12 : Value) (wr : World) : Prop where mk ::
  out_ : ∃ i : Nat, i ≤ ks.length ∧ g = ks.length - i ∧ s12 = .int .i64 i ∧ (∀ j, j < i → ks.getD j 0 ≠ kd) ∧ wr = w
set_option maxHeartbeats 1600000 in
set_option maxRecDepth 100000 in
theorem inf_kinds (A : Option Addr) (c : Nat) (l : List Int) (B : Option Addr) (d : Nat) (ks : List Int) (w : World) (hr : RowOf w .i64 A c l) (hk : RowOf w .i64 B d ks) (hkl : ks.length ≤ 100) :
    Calls Try.prog 79 #[.slice A l.length c, .slice B ks.length d] w fun e w' => e = .returned (.bool (decide (kind l ∈ ks))) ∧ w' = w := by
  obtain ⟨kd, hkd⟩ : ∃ kd, kind l = kd := ⟨_, rfl⟩
  have hck := can_kind A c l w hr
  rw [hkd] at hck ⊢
  obtain ⟨b, hb⟩ : ∃ b, decide (kd ∈ ks) = b := ⟨_, rfl⟩
  rw [hb]
  have HB := Lib.hid hb
  have hcap := hk.cap
  have hmost := hk.most
  clear hb hkd
  go_enter Try.func79, Try.ntmps79
  go_wp2_with fail
  refine hck.mono ?_
  rintro e w1 ⟨rfl, rfl⟩
  go_wp2_with fail
  go_loopg [12] ks.length (IkRel w1 ks kd)
  case atStart => exact ⟨⟨0, by omega, by omega, rfl, fun j hj => by omega, rfl⟩⟩
  case round =>
    obtain ⟨i, hi, hg, rfl, hno, rfl⟩ := hrel.out_
    clear hrel
    by_cases hlt : i < ks.length
    · have e1 : decide (i < ks.length) = true := by simpa using hlt
      obtain ⟨x, hx⟩ : ∃ x, ks[i]? = some x := ⟨_, List.getElem?_eq_getElem hlt⟩
      obtain ⟨ad, rfl, hc⟩ := hk.rd i x hx
      have hxd : ks.getD i 0 = x := by rw [List.getD_eq_getElem?_getD, hx]; rfl
      have HX := Lib.hid hx
      have HXD := Lib.hid hxd
      have HNO := Lib.hid hno
      clear hx hxd hno
      by_cases he : x = kd
      · have e2 : (x == kd) = true := by simpa using he
        have hbt : b = true := by rw [← HB.out, ← he]; simp only [decide_eq_true_eq]; exact List.mem_of_getElem? HX.out
        subst hbt
        clear he
        go_wp2_with fail
        go_ret
        exact ⟨rfl, rfl⟩
      · have e2 : (x == kd) = false := by simpa using he
        have HE := Lib.hid he
        clear he
        go_wp2_with fail
        go_roundg (gk - 1)
        case measure => omega
        case rel => exact ⟨⟨i + 1, by omega, by omega, by go_num, fun j hj => by
          by_cases hji : j = i
          · rw [hji, HXD.out]; exact HE.out
          · exact HNO.out j (by omega), rfl⟩⟩
    · have e1 : decide (i < ks.length) = false := by simpa using hlt
      have hbf : b = false := by
        rw [← HB.out, decide_eq_false_iff_not]
        intro hm
        obtain ⟨j, hj⟩ := List.getElem?_of_mem hm
        have hjl := (List.getElem?_eq_some_iff.1 hj).1
        exact hno j (by omega) (by rw [List.getD_eq_getElem?_getD, hj]; rfl)
      subst hbf
      clear hno
      go_wp2_with fail
      go_ret
      exact ⟨rfl, rfl⟩
theorem someGo_ge : ∀ (l : List Int) (s : Nat) (d : Int), s ≤ (someGo l s d).1
  | [], s, d => Nat.le_refl _
  | n :: l, s, d => by
    rw [someGo]
    split
    · exact Nat.le_trans (Nat.le_succ s) (someGo_ge l (s + 1) n)
    · exact someGo_ge l s d
theorem someGo_none : ∀ (l : List Int) (d : Int), (someGo l 0 d).1 = 0 → ∀ x ∈ l, x = 0
  | [], d, _, x, hx => by simp at hx
  | n :: l, d, h, x, hx => by
    rw [someGo] at h
    split at h
    · have := someGo_ge l (0 + 1) n; omega
    · rename_i hn
      rcases List.mem_cons.1 hx with rfl | hx
      · simpa using hn
      · exact someGo_none l d h x hx
theorem kraftGo_none : ∀ (l : List Int) (s : Int), (∀ x ∈ l, x = 0) → kraftGo l s = s
  | [], s, _ => rfl
  | n :: l, s, h => by
    have hn := h n (by simp)
    subst hn
    rw [kraftGo, if_neg (by omega), kraftGo_none l _ (fun x hx => h x (by simp [hx]))]
    simp [kr]
theorem code_ok {l : List Int} (hl : l.length ≤ 65536) (h : kind l = 1 ∨ kind l = 2 ∨ kind l = 0) : codesErr l = 0 := by
  have h4 : kind l ≠ 4 := by omega
  have hk : 0 ≤ kraft l := by
    unfold kind kindOf at h
    split at h
    · rename_i h0
      unfold kraft
      rw [if_neg (by omega), kraftGo_none l 0 (someGo_none l 0 h0)]
      decide
    · split at h
      · rename_i h1; omega
      · split at h
        · omega
        · omega
  unfold codesErr
  rw [if_neg (by omega), if_neg h4]
/-! ### the lengths of a head -/
def RowPost (w : World) (p : Nat) (cs : Array Value) (A : Option Addr) (c : Nat) (bs : List Int) (res : G (List Int × Nat)) (e : Ending) (w' : World) : Prop :=
  match res with
  | .ok (row, a) => (∃ v, e = .returned v ∧ Own w' w.heap.size 3 v (ints .i64 row)) ∧ CurAt w' p (cs.setIfInBounds 4 (.int .i64 (a : Nat))) A c bs a ∧ Same (fun g => g = p) w w'
  | .bad x => e = .panicked [faultI x] ∧ (∃ a : Nat, CurAt w' p (cs.setIfInBounds 4 (.int .i64 (a : Nat))) A c bs a) ∧ Same (fun g => g = p) w w'
structure IrRel (w : World) (p : Nat) (cs : Array Value) (A : Option Addr) (c : Nat) (l bs : List Int) (m : Nat) (res : G (List Int × Nat)) (g : Nat) (s7 : Value) (wr : World) : Prop where mk ::
  out_ : ∃ (out : List Int) (a : Nat), m - out.length ≤ g ∧ out.length ≤ m ∧ (∀ x ∈ out, 0 ≤ x ∧ x ≤ 15) ∧ Own wr w.heap.size 3 s7 (ints .i64 out) ∧ CurAt wr p (cs.setIfInBounds 4 (.int .i64 (a : Nat))) A c bs a ∧ Same (fun g => g = p) w wr ∧ rowG l bs m g out a = res
structure IsRel (w wr : World) (p : Nat) (cs : Array Value) (A : Option Addr) (c : Nat) (bs : List Int) (out : List Int) (v : Int) (t a : Nat) (g : Nat) (s7 s57 : Value) (w2 : World) : Prop where mk ::
  out_ : ∃ i : Nat, i ≤ t ∧ g = t - i ∧ s57 = .int .i64 i ∧ Own w2 w.heap.size 3 s7 (ints .i64 (out ++ List.replicate i v)) ∧ CurAt w2 p (cs.setIfInBounds 4 (.int .i64 (a : Nat))) A c bs a ∧ Same (fun g => g = p) w w2
theorem i64w {x : Int} (h : 0 ≤ x ∧ x ≤ 15) : (Lit.int .i64 x).wf = true := by
  simp [Lit.wf, IntKind.min, IntKind.max, IntKind.bits, IntKind.signed]; omega
theorem Try.intinf : (Try.prog.info? 3).map (fun i => (i.zero, i.size, i.bytes)) = some (some (.int .i64 0), 1, 8) := by kernel_rfl
theorem set44 (cs : Array Value) (a b : Value) : (cs.setIfInBounds 4 a).setIfInBounds 4 b = cs.setIfInBounds 4 b := by simp
structure RowMid (w : World) (p : Nat) (cs : Array Value) (A : Option Addr) (c : Nat) (l bs : List Int) (m k : Nat) (res : G (List Int × Nat)) (out : List Int) (v7 : Value) (s9 s10 : Value) (wx : World) : Prop where mk ::
  out_ : ∃ (v : Int) (t a : Nat), s9 = .int .i64 v ∧ s10 = .int .i64 t ∧ 0 ≤ v ∧ v ≤ 15 ∧ 1 ≤ t ∧ t ≤ 200 ∧ CurAt wx p (cs.setIfInBounds 4 (.int .i64 (a : Nat))) A c bs a ∧ Own wx w.heap.size 3 v7 (ints .i64 out) ∧ Same (fun g => g = p) w wx ∧ (if m - out.length < t then G.bad 2 else rowG l bs m k (out ++ List.replicate t v) a) = res
set_option maxHeartbeats 4000000 in
set_option maxRecDepth 100000 in
theorem cur_row {w : World} {p : Nat} {cs : Array Value} {A : Option Addr} {c : Nat} {bs : List Int} {n : Nat} (h : CurAt w p cs A c bs n) {base pt F : Nat} {l : List Int} (hT : TOk w base l pt F) (hl : l.length ≤ 19) (m : Nat) (hm : m ≤ 1000) :
    Calls Try.prog 80 #[.pointer (some ⟨p, 3, none⟩), .pointer (some ⟨pt, 0, none⟩), .int .i64 m] w fun e w' => RowPost w p cs A c bs (rowG l bs m m [] n) e w' := by
  obtain ⟨res, hres⟩ : ∃ r, rowG l bs m m [] n = r := ⟨_, rfl⟩
  rw [hres]
  have hlt0 := Blk.lt h.pb
  have h0 : CurAt w p (cs.setIfInBounds 4 (.int .i64 (n : Nat))) A c bs n := by rw [set4_fix h.at_]; exact h
  go_enter Try.func80, Try.ntmps80
  go_wp2_with fail
  go_loopg [7] m (IrRel w p cs A c l bs m res)
  case atStart => exact ⟨⟨[], n, by simp, by simp, by simp, Own.nil _ _ _, h0, Same.refl _, hres⟩⟩
  case round =>
    obtain ⟨out, a, hg, hol, hwf, ho, hcur, hs, hres⟩ := hrel.out_
    clear hrel
    have hrow := ho
    obtain ⟨A7, c7, rfl, hr7, ha7⟩ := ho.row (fun x hx => i64w (hwf x hx))
    have hcap7 := hr7.cap
    by_cases hlt : out.length < m
    · have e1 : decide (out.length < m) = true := by simpa using hlt
      have hTk := hT.keep hs (fun k hk _ => ⟨_, _, hk ▸ h.pb, by decide, by decide⟩)
      obtain ⟨k, hk⟩ : ∃ k, gk = k + 1 := ⟨gk - 1, by omega⟩
      rw [hk, rowG, if_neg (by omega)] at hres
      have hoA := fun g hg => ho.base_le g hg
      cases hsy : symG l bs a with
      | bad x =>
        rw [hsy] at hres
        have HR := Lib.hid hres
        clear hres
        go_wp2_with fail
        refine (cur_sym_bad hcur hTk hsy).mono ?_
        rintro e w5 ⟨rfl, hs5⟩
        go_wp2_with fail
        refine ⟨rfl, ?_⟩
        show RowPost _ _ _ _ _ _ _ _ _
        rw [← HR.out]
        exact ⟨rfl, ⟨_, hcur.same hs5⟩, hs.then hs5.any⟩
      | ok sq =>
        obtain ⟨s, q⟩ := sq
        rw [hsy] at hres
        simp only at hres
        obtain ⟨_, hq1, hq2, hsl, _, hq3⟩ := symG_ok hsy
        have hs19 : s < 19 := by omega
        have HRES := Lib.hid hres
        have CS := cur_sym_ok hcur hTk hsy
        clear hres
        go_wp2_with fail
        refine CS.mono ?_
        rintro e w5 ⟨rfl, hcur5, hs5⟩
        rw [set44] at hcur5
        have hs5' := hs5
        have hs5 := hs.then hs5
        have ho5 : Own w5 w.heap.size 3 (.slice A7 out.length c7) (ints .i64 out) := ho.kept hs5' (fun g hg e => by have := ho.base_le g hg; omega)
        obtain ⟨a5, ha5⟩ : ∃ a5, a + q = a5 := ⟨_, rfl⟩
        have hres := HRES.out
        rw [ha5] at hcur5 hres
        clear CS HRES hcur hs ho hTk hsy
        go_upto_block 2 with fail
        go_cut [9, 10] (fun s9 s10 wx => RowMid w p cs A c l bs m k res out (.slice A7 out.length c7) s9 s10 wx)
        case first =>
          by_cases h16 : s < 16
          · have e2 : decide ((s : Int) < 16) = true := by simp; omega
            rw [rowOne, if_pos h16] at hres
            have HR := Lib.hid hres
            clear hres
            go_wp2_with fail
            go_meet
            exact ⟨⟨s, 1, a5, rfl, rfl, by omega, by omega, by omega, by omega, hcur5, ho5, hs5, HR.out⟩⟩
          have e2 : decide ((s : Int) < 16) = false := by simp; omega
          rw [rowOne, if_neg h16] at hres
          by_cases h17 : s = 16
          · subst h17
            rw [if_pos rfl] at hres
            by_cases hz : out.length = 0
            · have e3 : (out.length == 0) = true := by simpa using hz
              have e3' : (((out.length : Nat) : Int) == 0) = true := by simp [hz]
              rw [if_pos hz] at hres
              have HR := Lib.hid hres
              clear hres hz
              go_wp2_with fail
              refine (cur_fail w5 _ 2).mono ?_
              rintro e w6 ⟨rfl, rfl⟩
              go_wp2_with fail
              refine ⟨rfl, ?_⟩
              show RowPost _ _ _ _ _ _ _ _ _
              rw [← HR.out]
              exact ⟨rfl, ⟨_, hcur5⟩, hs5⟩
            · rw [if_neg hz] at hres
              have e3 : (out.length == 0) = false := by simpa using hz
              have e3' : (((out.length : Nat) : Int) == 0) = false := by rw [beq_eq_false_iff_ne]; omega
              obtain ⟨z, hzz⟩ : ∃ z, out.length - 1 = z := ⟨_, rfl⟩
              rw [hzz] at hres
              obtain ⟨y, hy⟩ : ∃ y, out[z]? = some y := ⟨_, List.getElem?_eq_getElem (by omega)⟩
              have hyd : out.getD z 0 = y := by rw [List.getD_eq_getElem?_getD, hy]; rfl
              have hyw := hwf y (List.mem_of_getElem? hy)
              rw [hyd] at hres
              have hr5 : RowOf w5 .i64 A7 c7 out := hr7.same hs5' (fun ad e c => by have := hoA _ (ha7 ad e); have c : ad.block = p := c; omega)
              obtain ⟨ad, hA7, hcy⟩ := hr5.rd _ y hy
              have had : (Value.slice A7 out.length c7).ownBlock = some ad.block := ha7 ad hA7
              subst hA7
              have k1 : (out.length : Int) - 1 = (z : Int) := by omega
              have k2 : decide (z < out.length) = true := by simp; omega
              have kw : IntKind.i64.wrap (z : Int) = z := IntWalk.i64_in _ (by omega)
              have k3 : z < out.length := by omega
              have hadw : ad.block ≠ p := by have := hoA _ had; omega
              have hcyW := fun (W : World) (hs : Same (fun _ => False) w5 W) => hs.cell hcy (fun c => c)
              have y1 := hcyW _ (Same.refl w5).drew
              by_cases hgt : lf bs a5 < 2
              · rw [getG, if_pos hgt] at hres
                have HR := Lib.hid hres
                have HG := Lib.hid (fun (W : World) (hs : Same (fun _ => False) w5 W) => (cur_get_bad (hcur5.same hs) 2 (by omega) hgt).mono (R' := fun e w' => e = .panicked [faultI 5] ∧ CurAt w' p (cs.setIfInBounds 4 (.int .i64 (a5 : Nat))) A c bs a5 ∧ Same (fun g => g = p) w w') (fun e w' ⟨he, h6⟩ => ⟨he, (hcur5.same hs).same h6, (hs5.then hs.any).then h6.any⟩))
                clear hres hy hyd hz hzz
                go_wp2_with fail
                go_region_dies
                all_goals
                  refine (HG.out _ ?_).mono ?_
                  first | exact (Same.refl _).drew | exact Same.refl _ | assumption
                  rintro e w6 ⟨rfl, hc6, hs6⟩
                  go_wp2_with fail
                  refine ⟨rfl, ?_⟩
                  show RowPost _ _ _ _ _ _ _ _ _
                  rw [← HR.out]
                  exact ⟨rfl, ⟨_, hc6⟩, hs6⟩
              · rw [getG, if_neg hgt] at hres
                have HR := Lib.hid hres
                have hlt2 : pk bs a5 2 < 4 := pk_lt bs a5 2
                have HG := Lib.hid (fun (W : World) (hs : Same (fun _ => False) w5 W) => (cur_get_ok (hcur5.same hs) 2 (by omega) (by omega)).mono (R' := fun e w' => e = .returned (.int .i64 (pk bs a5 2)) ∧ CurAt w' p (cs.setIfInBounds 4 (.int .i64 ((a5 + 2 : Nat) : Int))) A c bs (a5 + 2) ∧ Same (fun g => g = p) w w' ∧ Own w' w.heap.size 3 (.slice (some ad) out.length c7) (ints .i64 out) ∧ w'.cell? (ad.add z) = some (.int .i64 y)) (fun e w' ⟨he, h5, h6⟩ => ⟨he, by rw [set44] at h5; exact h5, (hs5.then hs.any).then h6, (ho5.kept hs (fun _ _ c => c)).kept h6 (fun g hg e => by have := ho5.base_le g hg; omega), h6.cell (hcyW W hs) (by unfold Addr.add; split <;> exact hadw)⟩))
                clear hres hy hyd hz hzz
                go_wp2_with fail
                go_region_with (first
                  | (go_at_call 64; refine (HG.out _ ?_).mono ?_; (first | exact (Same.refl _).drew | exact Same.refl _ | assumption); rintro e w6 ⟨rfl, hcur6, hs6, ho6, y2⟩))
                all_goals
                  go_wp2_with fail
                  go_meet
                  exact ⟨⟨y, 3 + pk bs a5 2, a5 + 2, rfl, by rw [IntWalk.i64_in _ (show -9223372036854775808 ≤ (3 : Int) + (pk bs a5 2 : Nat) ∧ (3 : Int) + (pk bs a5 2 : Nat) ≤ 9223372036854775807 by omega)]; rfl, by omega, by omega, by omega, by omega, hcur6, ho6, hs6, HR.out⟩⟩
          · rw [if_neg h17] at hres
            have e4 : ((s : Int) == 16) = false := by rw [beq_eq_false_iff_ne]; omega
            have e4' : (s == 16) = false := by rw [beq_eq_false_iff_ne]; omega
            by_cases h18 : s = 17
            · subst h18
              rw [if_pos rfl] at hres
              -- after a get of 3 bits in the world w5, at the bit a5
              by_cases hgt : lf bs a5 < 3
              · rw [getG, if_pos hgt] at hres
                have HR := Lib.hid hres
                clear hres
                go_wp2_with fail
                refine (cur_get_bad hcur5 3 (by omega) hgt).mono ?_
                rintro e w6 ⟨rfl, hs6⟩
                go_wp2_with fail
                refine ⟨rfl, ?_⟩
                show RowPost _ _ _ _ _ _ _ _ _
                rw [← HR.out]
                exact ⟨rfl, ⟨_, hcur5.same hs6⟩, hs5.then hs6.any⟩
              · rw [getG, if_neg hgt] at hres
                have HR := Lib.hid hres
                clear hres
                have hlt2 := pk_lt bs a5 3
                go_wp2_with fail
                refine (cur_get_ok hcur5 3 (by omega) (by omega)).mono ?_
                rintro e w6 ⟨rfl, hcur6, hs6⟩
                rw [set44] at hcur6
                have ho6 := ho5.kept hs6 (fun g hg e => by have := ho5.base_le g hg; omega)
                go_wp2_with fail
                go_meet
                exact ⟨⟨0, 3 + pk bs a5 3, a5 + 3, rfl, by go_num, by omega, by omega, by omega, by omega, hcur6, ho6, hs5.then hs6, HR.out⟩⟩
            · rw [if_neg h18] at hres
              have e5 : ((s : Int) == 17) = false := by rw [beq_eq_false_iff_ne]; omega
              have e5' : (s == 17) = false := by rw [beq_eq_false_iff_ne]; omega
              -- after a get of 7 bits in the world w5, at the bit a5
              by_cases hgt : lf bs a5 < 7
              · rw [getG, if_pos hgt] at hres
                have HR := Lib.hid hres
                clear hres
                go_wp2_with fail
                refine (cur_get_bad hcur5 7 (by omega) hgt).mono ?_
                rintro e w6 ⟨rfl, hs6⟩
                go_wp2_with fail
                refine ⟨rfl, ?_⟩
                show RowPost _ _ _ _ _ _ _ _ _
                rw [← HR.out]
                exact ⟨rfl, ⟨_, hcur5.same hs6⟩, hs5.then hs6.any⟩
              · rw [getG, if_neg hgt] at hres
                have HR := Lib.hid hres
                clear hres
                have hlt2 := pk_lt bs a5 7
                go_wp2_with fail
                refine (cur_get_ok hcur5 7 (by omega) (by omega)).mono ?_
                rintro e w6 ⟨rfl, hcur6, hs6⟩
                rw [set44] at hcur6
                have ho6 := ho5.kept hs6 (fun g hg e => by have := ho5.base_le g hg; omega)
                go_wp2_with fail
                go_meet
                exact ⟨⟨0, 11 + pk bs a5 7, a5 + 7, rfl, by go_num, by omega, by omega, by omega, by omega, hcur6, ho6, hs5.then hs6, HR.out⟩⟩
        case rest =>
          obtain ⟨v, t, a6, rfl, rfl, hv0, hv1, ht1, ht2, hcur6, ho6, hs6, hres⟩ := hcut.out_
          clear hcur5 ho5 hs5 hcut hs5' hr7 ha7 hoA hcap7
          by_cases htm : m - out.length < t
          · have e9 : decide ((m : Int) - out.length < t) = true := by simp; omega
            rw [if_pos htm] at hres
            have HR := Lib.hid hres
            clear hres htm
            go_wp2_with fail
            refine (cur_fail _ _ 2).mono ?_
            rintro e w9 ⟨rfl, rfl⟩
            go_wp2_with fail
            refine ⟨rfl, ?_⟩
            show RowPost _ _ _ _ _ _ _ _ _
            rw [← HR.out]
            exact ⟨rfl, ⟨_, hcur6⟩, hs6⟩
          · have e9 : decide ((m : Int) - out.length < t) = false := by simp; omega
            rw [if_neg htm] at hres
            have HR := Lib.hid hres
            clear hres
            obtain ⟨go, hgo⟩ : ∃ g, g = gk := ⟨_, rfl⟩
            go_wp2_with fail
            go_loopg [7, 57] t (IsRel w wc p cs A c bs out v t a6)
            case atStart => exact ⟨⟨0, by omega, by omega, rfl, by simpa using ho6, hcur6, hs6⟩⟩
            case round =>
              obtain ⟨i, hi, hg', rfl, ho, hcur, hs⟩ := hrel.out_
              clear hrel
              by_cases hit : i < t
              · have e2 : decide (i < t) = true := by simpa using hit
                have hbl : w.heap.size ≤ wr.heap.size := hs.size
                have hlen : (ints .i64 (out ++ List.replicate i v)).length + 1 = out.length + i + 1 := by simp [ints]
                have hpne : ∀ g, u7.ownBlock = some g → g ≠ p ∧ ∀ ad, A = some ad → ad.block ≠ g := fun g hg => by
                  have h1 := ho.base_le g hg
                  exact ⟨by omega, fun ad e => by have := h.lt ad e; omega⟩
                have hcurA := hcur.same ((Same.refl (S := fun _ => False) wr).alloc (.cells #[.int .i64 v] 3))
                go_wp2_with (at_builtin; refine wpList_push w.heap.size rfl (.tmp 59) (.tmp 61) 97 3 (.int .i64 0) 8 rfl Try.underlying97 Try.intinf rfl _ _ (.int .i64 v) ⟨wr.heap.size, 0, none⟩ 1 (out.length + i + 1) hlen rfl rfl (by simp) rfl (ho.alloc _) (by simp; omega) (by omega) (by omega) ?_; intro g7 cap7 w7 ho7 hs7 hgb7 hgl7 hat7)
                have hs8 : Same (fun g => g = p) w w7 := ⟨(hs.os ▸ hs7.alloc_left.os : _), hs7.alloc_left.tape.trans hs.tape, hs7.alloc_left.output.trans hs.output, Nat.le_trans hs.size hs7.alloc_left.size, fun k hk hkp => (hs7.alloc_left.block k (by omega) (fun e => by have := ho.base_le k e; omega)).trans (hs.block k hk hkp)⟩
                have hcur7 := hcurA.kept hs7 (fun e => (hpne p e).1 rfl) (fun ad e1 e2 => (hpne _ e2).2 ad e1 rfl)
                go_roundg (gk - 1)
                case measure => omega
                case rel => exact ⟨⟨i + 1, by omega, by omega, by go_num, by
                  rw [List.replicate_succ', ← List.append_assoc, ints_append]
                  exact ho7, hcur7, hs8⟩⟩
              · have e2 : decide (i < t) = false := by simpa using hit
                have hit2 : i = t := by omega
                subst hit2
                go_wp2_with fail
                go_roundg (go - 1)
                case measure => omega
                case rel => exact ⟨⟨out ++ List.replicate i v, a6, by simp; omega, by simp; omega, fun x hx => by
                  rcases List.mem_append.1 hx with hx | hx
                  · exact hwf x hx
                  · have := List.eq_of_mem_replicate hx; omega, ho, hcur, hs, by rw [show go - 1 = k from by omega]; exact HR.out⟩⟩
    · have e1 : decide (out.length < m) = false := by simpa using hlt
      have hr2 : rowG l bs m gk out a = .ok (out, a) := by
        cases gk with
        | zero => rfl
        | succ k => rw [rowG, if_pos (by omega)]
      rw [hr2] at hres
      subst hres
      go_wp2_with fail
      go_ret
      exact ⟨⟨_, rfl, ho⟩, hcur, hs⟩
end Go.Proofs.Yteknaaijlkenkaa
