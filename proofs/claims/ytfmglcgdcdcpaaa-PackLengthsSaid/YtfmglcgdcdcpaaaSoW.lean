import Derived.Test.YtfmglcgdcdcpaaaSoP
import Derived.Test.YtfmglcgdcdcpaaaBas2
import Derived.Test.YtfmglcgdcdcpaaaRows
import Derived.Deep.Cut
import Derived.Deep.DeepCutAuto
import Derived.Deep.CutBlock
namespace Go.Proofs.Ytfmglcgdcdcpaaa
set_option linter.unusedVariables false
set_option linter.unusedSimpArgs false
open Go.RowKit
attribute [local go_sem] max2i min2i max2t min2t

/-! ### slices.SortStableFunc by counts (pack.Lengths) -/
/-- The counts, held by the function that compares. -/
structure CmpOk (w : World) (B bx : Nat) (A : Option Addr) (c : Nat) (cs : List Int) : Prop where
  blk : Blk w bx 22 #[.slice A cs.length c]
  row : RowOf w .i64 A c cs
  bxB : bx < B
  adB : cs ≠ [] → ∀ ad, A = some ad → ad.block < B
  rng : ∀ x ∈ cs, 0 ≤ x ∧ x ≤ 1073741824
def keyc (cs : List Int) (x : Int) : Int := cs.getD x.toNat 0
theorem CmpOk.kept {w w' : World} {B bx : Nat} {A : Option Addr} {c : Nat} {cs : List Int} (h : CmpOk w B bx A c cs) {S : Nat → Prop} (hs : Same S w w') (hS : ∀ k, S k → B ≤ k) : CmpOk w' B bx A c cs := by
  refine ⟨h.blk.same hs (fun e => ?_), ?_, h.bxB, h.adB, h.rng⟩
  · have := hS _ e; have := h.bxB; omega
  · by_cases h0 : cs = []
    · subst h0; exact h.row.empty
    · exact h.row.same hs (fun ad e k => by have := h.adB h0 ad e; have := hS _ k; omega)
theorem CmpOk.at_ {w : World} {B bx : Nat} {A : Option Addr} {c : Nat} {cs : List Int} (h : CmpOk w B bx A c cs) (x : Nat) : 0 ≤ cs.getD x 0 ∧ cs.getD x 0 ≤ 1073741824 := by
  rcases Nat.lt_or_ge x cs.length with hx | hx
  · have := h.rng (cs.getD x 0) (by rw [List.getD_eq_getElem?_getD, List.getElem?_eq_getElem hx]; exact List.getElem_mem hx)
    exact this
  · rw [List.getD_eq_getElem?_getD, List.getElem?_eq_none hx]; simp
set_option maxHeartbeats 1600000 in
set_option maxRecDepth 100000 in
theorem cmp_calls {w : World} {B bx : Nat} {A : Option Addr} {c : Nat} {cs : List Int} (h : CmpOk w B bx A c cs) (x y : Nat) (hx : x < cs.length) (hy : y < cs.length) :
    Calls Try.prog 17 #[.int .i64 x, .int .i64 y, .pointer (some ⟨bx, 0, none⟩)] w fun e w' => e = .returned (.int .i64 (cs.getD x 0 - cs.getD y 0)) ∧ Same (fun _ => False) w w' := by
  have h1 := h.at_ x
  have h2 := h.at_ y
  have hcap := h.row.cap
  have hmost := h.row.most
  have gx : cs[x]? = some (cs.getD x 0) := by rw [List.getD_eq_getElem?_getD, List.getElem?_eq_getElem hx]; rfl
  have gy : cs[y]? = some (cs.getD y 0) := by rw [List.getD_eq_getElem?_getD, List.getElem?_eq_getElem hy]; rfl
  obtain ⟨ad, rfl, cx⟩ := h.row.rd x _ gx
  obtain ⟨ad2, e2, cy⟩ := h.row.rd y _ gy
  cases e2
  generalize cs.getD x 0 = u at *
  generalize cs.getD y 0 = v at *
  have m0 := fun d : Ext (fun _ => False) w => (h.blk.same d.same (fun c => c)).cell 0
  have m1 := fun d : Ext (fun _ => False) w => d.same.cell cx (fun c => c)
  have m2 := fun d : Ext (fun _ => False) w => d.same.cell cy (fun c => c)
  clear gx gy h cx cy
  go_enter Try.func17, Try.ntmps17
  go_upto_region 1 with fail
  refine wp_region_ext (fun _ => False) (by kernel_rfl) (by kernel_rfl) ?_
  repeat (go_big_quiet_step (fail))
  refine wpQuiet_nil ?_
  rintro _ ⟨d, rfl⟩
  go_wp2_with fail
  go_ret
  exact ⟨rfl, d.same⟩
/-- A row that is sorted: its cells, its numbers. -/
theorem mem_at0 {L : List Int} {p : Nat} (hp : p < L.length) : at0 L p ∈ L := by
  unfold at0
  rw [List.getD_eq_getElem?_getD, List.getElem?_eq_getElem hp]; exact List.getElem_mem hp
structure RowIn (w : World) (B g n cap : Nat) (m : Nat) (L : List Int) : Prop where
  own : Own w B 3 (.slice (some ⟨g, 0, none⟩) n cap) (ints .i64 L)
  len : L.length = n
  cap_ : n ≤ cap
  rng : ∀ x ∈ L, 0 ≤ x ∧ x < (m : Int)
section
variable {w w' : World} {B g n cap m : Nat} {L L' : List Int}
theorem RowIn.nat (h : RowIn w B g n cap m L) {p : Nat} (hp : p < n) : ∃ x : Nat, at0 L p = x ∧ x < m := by
  have := h.rng _ (mem_at0 (by rw [h.len]; exact hp))
  exact ⟨(at0 L p).toNat, by omega, by omega⟩
theorem RowIn.cell (h : RowIn w B g n cap m L) {p : Nat} (hp : p < n) : w.cell? ⟨g, p, none⟩ = some (.int .i64 (at0 L p)) := h.own.cellI (by rw [h.len]; exact hp)
theorem RowIn.same (h : RowIn w B g n cap m L) (hs : Same (fun _ => False) w w') : RowIn w' B g n cap m L := ⟨h.own.kept hs (fun _ _ c => c), h.len, h.cap_, h.rng⟩
theorem RowIn.swap (h : RowIn w B g n cap m L) {i j : Nat} (hi : i < n) (hj : j < n) : RowIn ((w.setCell ⟨g, i, none⟩ (.int .i64 (at0 L j))).setCell ⟨g, j, none⟩ (.int .i64 (at0 L i))) B g n cap m (swp L i j) :=
  ⟨(h.own.set_ i (at0 L j)).set_ j (at0 L i), by rw [swp_len]; exact h.len, h.cap_, fun x hx => h.rng x ((swp_perm (by rw [h.len]; exact hi) (by rw [h.len]; exact hj)).mem_iff.1 hx)⟩
theorem RowIn.ge (h : RowIn w B g n cap m L) : B ≤ g := h.own.base_le g rfl
end
def cmpV (bx : Nat) : Value := .func (.func 17) #[] #[.pointer (some ⟨bx, 0, none⟩)]
structure InsO (w : World) (B bx : Nat) (A : Option Addr) (c : Nat) (cs : List Int) (g n cap : Nat) (a b : Nat) (L0 : List Int) (gk : Nat) (v8 v9 : Value) (wr : World) : Prop where mk ::
  out_ : ∃ (i : Nat) (L : List Int), a + 1 ≤ i ∧ (i ≤ b ∨ i = a + 1) ∧ b ≤ gk + i ∧ v8 = .int .i64 (i : Int) ∧ RowIn wr B g n cap cs.length L ∧ CmpOk wr B bx A c cs ∧ Shuf (keyc cs) a b L0 L ∧ SortK (keyc cs) L a i ∧ Same (fun k => k = g) w wr
structure InsI (w : World) (B bx : Nat) (A : Option Addr) (c : Nat) (cs : List Int) (g n cap : Nat) (a i : Nat) (L0 : List Int) (gk : Nat) (v9 : Value) (wr : World) : Prop where mk ::
  out_ : ∃ (j : Nat) (L : List Int), j ≤ gk ∧ v9 = .int .i64 (j : Int) ∧ RowIn wr B g n cap cs.length L ∧ CmpOk wr B bx A c cs ∧ Ins (keyc cs) a i L0 j L ∧ Same (fun k => k = g) w wr
set_option maxHeartbeats 4000000 in
set_option maxRecDepth 100000 in
theorem ins_sort {w : World} {B bx : Nat} {A : Option Addr} {c : Nat} {cs : List Int} (hc : CmpOk w B bx A c cs) {g n cap : Nat} {L : List Int} (hr : RowIn w B g n cap cs.length L) (a b : Nat) (hab : a ≤ b) (hb : b ≤ n) (hn : n ≤ 100000) :
    Calls Try.prog 23 #[.slice (some ⟨g, 0, none⟩) n cap, .int .i64 a, .int .i64 b, cmpV bx] w fun e w' => e = .returned (.tuple #[]) ∧ ∃ L', RowIn w' B g n cap cs.length L' ∧ Shuf (keyc cs) a b L L' ∧ SortK (keyc cs) L' a b ∧ Same (fun k => k = g) w w' := by
  unfold cmpV
  have hBg := hr.ge
  have hcap := hr.cap_
  go_enter Try.func23, Try.ntmps23
  go_wp2_with fail
  go_loopg [8, 9] b (InsO w B bx A c cs g n cap a b L)
  case atStart => exact ⟨⟨a + 1, L, by omega, .inr rfl, by omega, by go_num, hr, hc, Shuf.refl _ _ _ _, fun p q h1 h2 h3 => by rw [show p = q from by omega]; exact Int.le_refl _, Same.refl _⟩⟩
  case round =>
    rename World => wo
    rename Nat => gk
    obtain ⟨i, L1, hi1, hi2, hg1, rfl, hr1, hc1, hsh, hso, hs1⟩ := hrel.out_
    clear hrel
    by_cases hib : i < b
    · have d1 : decide (i < b) = true := by simp; omega
      go_wp2_with fail
      go_loopg [9] i (InsI wo B bx A c cs g n cap a i L1)
      case atStart => exact ⟨⟨i, L1, by omega, rfl, hr1, hc1, Ins.start hso (by omega), Same.refl _⟩⟩
      case round =>
        rename World => wi
        rename Nat => gq
        obtain ⟨j, L2, hg2, rfl, hr2, hc2, hin, hs2⟩ := hrel.out_
        clear hrel
        have haj := hin.aj
        have hji := hin.ji
        by_cases hja : a < j
        · have d2 : decide (a < j) = true := by simp; omega
          obtain ⟨q, hq⟩ : ∃ q, q + 1 = j := ⟨j - 1, by omega⟩
          have hjq : (j : Int) - 1 = (q : Int) := by omega
          have hjq2 : j - 1 = q := by omega
          obtain ⟨x, ex, hx⟩ := hr2.nat (p := j) (by omega)
          obtain ⟨y, ey, hy⟩ := hr2.nat (p := q) (by omega)
          have m0 := fun d : Ext (fun _ => False) wi => (hr2.same d.same).cell (p := j) (by omega)
          have m1 := fun d : Ext (fun _ => False) wi => (hr2.same d.same).cell (p := q) (by omega)
          have m2 := fun d : Ext (fun _ => False) wi => Lib.hid (ext_call (d := d) (cmp_calls (hc2.kept d.same (fun _ c => c.elim)) x y hx hy))
          rw [ex] at m0
          rw [ey] at m1
          have hk : keyc cs (at0 L2 j) - keyc cs (at0 L2 q) = cs.getD x 0 - cs.getD y 0 := by rw [ex, ey]; rfl
          obtain ⟨X, hX⟩ : ∃ X, cs.getD x 0 - cs.getD y 0 = X := ⟨_, rfl⟩
          rw [hX] at m2 hk
          have hjn : j < n := by omega
          have hqn : q < n := by omega
          have HIN := Lib.hid hin
          have HK := Lib.hid hk
          clear hX hk hin hq
          by_cases hX0 : X < 0
          · have d3 : decide (X < 0) = true := by simpa using hX0
            go_upto_region 4 with fail
            refine wp_region_ext (fun _ => False) (by kernel_rfl) (by kernel_rfl) ?_
            repeat (go_big_quiet_step (exact (m2 _).out))
            refine wpQuiet_nil ?_
            rintro _ ⟨d, rfl⟩
            have hr3 := (hr2.same d.same)
            have hc3 := hc2.kept d.same (fun _ c => c.elim)
            have hr4 := (hr3.same (Same.refl _).drew).swap hjn hqn
            have hlen2 := hr3.len
            have hc4 := hc2.kept (((d.same.any (S := fun k => k = g)).drew.set_ (p := ⟨g, j, none⟩) (fun _ => rfl) (.int .i64 (at0 L2 q))).set_ (p := ⟨g, q, none⟩) (fun _ => rfl) (.int .i64 (at0 L2 j))) (fun k e => by rw [e]; exact hBg)
            have hs4 : Same (fun k => k = g) wo ((d.world.drew.setCell ⟨g, j, none⟩ (.int .i64 (at0 L2 q))).setCell ⟨g, q, none⟩ (.int .i64 (at0 L2 j))) := ((hs2.then (d.same.any).drew).set_ (p := ⟨g, j, none⟩) (fun _ => rfl) _).set_ (p := ⟨g, q, none⟩) (fun _ => rfl) _
            have k0 := (hr3.same (Same.refl _).drew).cell hjn
            have k1 := (hr3.same (Same.refl _).drew).cell hqn
            have f0 := (hr3.same (Same.refl _).drew).own.frozenI j
            have f1 := (hr3.same (Same.refl _).drew).own.frozenI q
            have o5 := (hr3.own.set_ j (at0 L2 q)).drew
            have k2 := o5.cellI (i := q) (by rw [List.length_set, hr3.len]; exact hqn)
            have f2 := o5.frozenI q
            rw [ey] at k2 f2
            generalize ((L2.set j (y : Int)).getD q 0) = old at *
            clear o5
            rw [ex] at k0 hr4 hs4 hc4
            rw [ey] at k1 hr4 hs4 hc4
            clear hr2 hc2 hs2 m0 m1 m2 hr3
            go_upto_region 6 with fail
            go_region
            go_wp2_with fail
            have hst := HIN.out.step (by rw [hlen2]; omega) hja (by rw [hjq2]; have := HK.out; omega)
            rw [hjq2] at hst
            go_roundg (gq - 1)
            case measure => omega
            case rel => exact ⟨⟨q, swp L2 j q, by omega, by go_num, hr4, hc4, hst, hs4⟩⟩
          · have d3 : decide (X < 0) = false := by simpa using hX0
            go_upto_region 4 with fail
            refine wp_region_ext (fun _ => False) (by kernel_rfl) (by kernel_rfl) ?_
            repeat (go_big_quiet_step (exact (m2 _).out))
            refine wpQuiet_nil ?_
            rintro _ ⟨d, rfl⟩
            have hr3 := (hr2.same d.same)
            have hc3 := hc2.kept d.same (fun _ c => c.elim)
            have hs3 := hs2.then (d.same.any)
            clear hr2 hc2 hs2 m0 m1 m2
            have hso3 := HIN.out.done (.inr (by rw [hjq2]; have := HK.out; omega))
            have hsh3 := HIN.out.shuf
            go_wp2_with fail
            go_roundg (gk - 1)
            case measure => omega
            case rel => exact ⟨⟨i + 1, L2, by omega, by omega, by omega, by go_num, hr3, hc3, hsh.trans (hsh3.mono (by omega) (by omega)), hso3, hs1.then hs3⟩⟩
        · have d2 : decide (a < j) = false := by simp; omega
          have hso3 := hin.done (.inl (by omega))
          have hsh3 := hin.shuf
          clear hin
          go_upto_region 4 with fail
          refine wp_region_ext (fun _ => False) (by kernel_rfl) (by kernel_rfl) ?_
          repeat (go_big_quiet_step (fail))
          refine wpQuiet_nil ?_
          rintro _ ⟨d, rfl⟩
          have hr3 := (hr2.same d.same)
          have hc3 := hc2.kept d.same (fun _ c => c.elim)
          have hs3 := hs2.then (d.same.any)
          clear hr2 hc2 hs2
          go_wp2_with fail
          go_roundg (gk - 1)
          case measure => omega
          case rel => exact ⟨⟨i + 1, L2, by omega, by omega, by omega, by go_num, hr3, hc3, hsh.trans (hsh3.mono (by omega) (by omega)), hso3, hs1.then hs3⟩⟩
    · have d1 : decide (i < b) = false := by simp; omega
      go_wp2_with fail
      ((try simp only [Exit.inBlock, Exit.then]); first | refine bodyPost_end (results_none rfl _ _ _) rfl ?_ | refine bodyPost_ret (results_none rfl _ _ _) rfl ?_)
      exact ⟨rfl, L1, hr1, hsh, fun p q h1 h2 h3 => hso p q h1 h2 (by omega), hs1⟩
end Go.Proofs.Ytfmglcgdcdcpaaa
