import Derived.Test.YtlmmbiabjpgilaaBitY
namespace Go.Proofs.Ytlmmbiabjpgilaa
set_option linter.unusedVariables false
set_option linter.unusedSimpArgs false
open Go.RowKit

/-- Block p is a reader of the bytes bs, n bits on. -/
structure RdAt (w : World) (p : Nat) (A : Option Addr) (c : Nat) (bs : List Int) (n : Nat) : Prop where
  pb : Blk w p 50 #[.slice A bs.length c, .int .i64 n]
  row : RowOf w .u8 A c bs
  ne : ∀ ad, A = some ad → ad.block ≠ p
  hi : bs.length ≤ 1099511627776
  at_ : n ≤ 8 * bs.length
section
variable {w w' : World} {p : Nat} {A : Option Addr} {c : Nat} {bs : List Int} {n : Nat}
theorem RdAt.kept {S : Nat → Prop} (h : RdAt w p A c bs n) (hs : Same S w w') (hp : ¬ S p) (hA : ∀ ad, A = some ad → ¬ S ad.block) : RdAt w' p A c bs n := ⟨h.pb.same hs hp, h.row.same hs hA, h.ne, h.hi, h.at_⟩
theorem RdAt.below (h : RdAt w p A c bs n) (hb : Below w.heap.size w w') : RdAt w' p A c bs n := h.kept (Same.of_below (S := fun _ => False) hb) (fun c => c) (fun _ _ c => c)
theorem RdAt.move (h : RdAt w p A c bs n) {m : Nat} (hm : m ≤ 8 * bs.length) : RdAt (w.setCell ⟨p, 1, none⟩ (.int .i64 (m : Int))) p A c bs m := by
  refine ⟨?_, h.row.same (Same.set_ (S := fun k => k = p) (p := ⟨p, 1, none⟩) (Same.refl _) (fun _ => rfl) _) (fun ad e k => h.ne ad e k), h.ne, h.hi, hm⟩
  have := h.pb.set_ 1 (.int .i64 (m : Int))
  simpa using this
end
set_option maxHeartbeats 1600000 in
set_option maxRecDepth 100000 in
theorem rd_new {w : World} {A : Option Addr} {c : Nat} {bs : List Int} (hr : RowOf w .u8 A c bs) (hl : bs.length ≤ 1099511627776) :
    Calls Try.prog 8 #[.slice A bs.length c] w fun e w' => ∃ p A' c', e = .returned (.pointer (some ⟨p, 0, none⟩)) ∧ RdAt w' p A' c' bs 0 ∧ Below w.heap.size w w' ∧ w.heap.size ≤ p ∧ (∀ ad, A' = some ad → w.heap.size ≤ ad.block) := by
  go_enter Try.func8, Try.ntmps8
  go_wp2_with (at_builtin; refine wpList_fresh .u8 rfl (.tmp 3) (.tmp 4) 22 5 1 rfl Try.underlying22 Try.u8inf A c bs rfl rfl hr (by omega) (by omega) ?_; intro A' c' w1 ho hr' hb ha)
  go_ret
  refine ⟨w1.heap.size, A', c', rfl, ⟨?_, hr'.same ((Same.refl (S := fun _ => False) w1).alloc _) (fun _ _ c => c), fun ad e => ?_, hl, by omega⟩, hb.alloc hb.size _, hb.size, fun ad e => (ha ad e).1⟩
  · have := Blk.new w1 50 #[.slice A' bs.length c', .int .i64 0]
    simpa using this
  · have := (ha ad e).2; omega
set_option maxHeartbeats 1600000 in
set_option maxRecDepth 100000 in
theorem rd_at {w : World} {p : Nat} {A : Option Addr} {c : Nat} {bs : List Int} {n : Nat} (h : RdAt w p A c bs n) :
    Calls Try.prog 13 #[.pointer (some ⟨p, 0, none⟩)] w fun e w' => e = .returned (.int .i64 (n : Int)) ∧ w' = w := by
  have c1 := h.pb.cell 1
  go_enter Try.func13, Try.ntmps13
  go_wp2_with fail
  go_ret
  exact ⟨rfl, rfl⟩
set_option maxHeartbeats 1600000 in
set_option maxRecDepth 100000 in
theorem rd_align {w : World} {p : Nat} {A : Option Addr} {c : Nat} {bs : List Int} {n : Nat} (h : RdAt w p A c bs n) :
    Calls Try.prog 10 #[.pointer (some ⟨p, 0, none⟩)] w fun e w' => e = .returned (.tuple #[]) ∧ RdAt w' p A c bs ((n + 7) / 8 * 8) ∧ Same (fun k => k = p) w w' := by
  have c1 := h.pb.cell 1
  have fp := h.pb.frozen 1
  have ha := h.at_
  have hh := h.hi
  have HM := Lib.hid (h.move (m := (n + 7) / 8 * 8) (by omega))
  have e : (((n + 7) / 8 * 8 : Nat) : Int) = ((n : Int) + 7) / 8 * 8 := by omega
  rw [e] at HM
  clear e h
  go_enter Try.func10, Try.ntmps10
  go_wp2_with fail
  ((try simp only [Exit.inBlock, Exit.then]); first | refine bodyPost_end (results_none rfl _ _ _) rfl ?_ | refine bodyPost_ret (results_none rfl _ _ _) rfl ?_)
  exact ⟨rfl, HM.out, Same.set_ (S := fun k => k = p) (p := ⟨p, 1, none⟩) (Same.refl w) (fun _ => rfl) _⟩
set_option maxHeartbeats 1600000 in
set_option maxRecDepth 100000 in
theorem rd_arg {w : World} {p : Nat} {A : Option Addr} {c : Nat} {bs : List Int} {n : Nat} {k : Int} (h : RdAt w p A c bs n) (hk : k < 0 ∨ 32 < k) :
    Calls Try.prog 11 #[.pointer (some ⟨p, 0, none⟩), .int .i64 k] w fun e w' => e = .returned (.tuple #[.int .u32 0, .int .i64 1]) ∧ RdAt w' p A c bs n ∧ Same (fun k => k = p) w w' := by
  by_cases h1 : k < 0
  · have e1 : decide (k < 0) = true := by simpa using h1
    go_enter Try.func11, Try.ntmps11
    go_wp2_with fail
    go_ret2
    exact ⟨rfl, h, Same.refl _⟩
  · have e1 : decide (k < 0) = false := by simp; omega
    have e2 : decide (32 < k) = true := by simp; omega
    clear hk
    go_enter Try.func11, Try.ntmps11
    go_wp2_with fail
    go_ret2
    exact ⟨rfl, h, Same.refl _⟩
set_option maxHeartbeats 1600000 in
set_option maxRecDepth 100000 in
theorem rd_short {w : World} {p : Nat} {A : Option Addr} {c : Nat} {bs : List Int} {n k : Nat} (h : RdAt w p A c bs n) (hk : k ≤ 32) (hs : 8 * bs.length < n + k) :
    Calls Try.prog 11 #[.pointer (some ⟨p, 0, none⟩), .int .i64 k] w fun e w' => e = .returned (.tuple #[.int .u32 0, .int .i64 5]) ∧ RdAt w' p A c bs n ∧ Same (fun k => k = p) w w' := by
  have e1 : decide ((k : Int) < 0) = false := by simp
  have e2 : decide ((32 : Int) < k) = false := by simp; omega
  have c0 := fun d : Ext (fun _ => False) w => (h.pb.same d.same (fun c => c)).cell 0
  have c1 := fun d : Ext (fun _ => False) w => (h.pb.same d.same (fun c => c)).cell 1
  have ha := h.at_
  have hh := h.hi
  have e3 : decide (8 * (bs.length : Int) - (n : Int) < k) = true := by simp; omega
  go_enter Try.func11, Try.ntmps11
  go_wp2_with fail
  refine wp_region_ext (fun _ => False) (by kernel_rfl) (by kernel_rfl) ?_
  repeat (go_big_quiet_step (fail))
  refine wpQuiet_nil ?_
  rintro _ ⟨d, rfl⟩
  go_wp2_with fail
  go_ret2
  exact ⟨rfl, h.kept d.same (fun c => c) (fun _ _ c => c), d.same.any⟩

theorem or_u32 {b z r : Nat} (hb : b < 2 ^ r) (hz : z < 2) (hr : r < 32) : bits .or .u32 (b : Int) ((z : Int) * 2 ^ r % 4294967296) = (b : Int) + z * 2 ^ r := by
  have hp : 2 ^ (r + 1) ≤ 2 ^ 32 := Nat.pow_le_pow_right (by decide) (by omega)
  rw [Nat.pow_succ] at hp
  have h1 : z * 2 ^ r ≤ 1 * 2 ^ r := Nat.mul_le_mul_right _ (by omega)
  have e : (z : Int) * 2 ^ r % 4294967296 = (z : Int) * 2 ^ r := by
    have : ((z : Int) * 2 ^ r) = ((z * 2 ^ r : Nat) : Int) := by rw [Int.natCast_mul, Int.natCast_pow]; rfl
    rw [this]
    generalize z * 2 ^ r = y at *
    generalize 2 ^ r = x at *
    omega
  rw [e]
  exact or_addK .u32 (.inl rfl) b z r hb (by simp only [IntKind.bits]; omega)
structure GtRel (w : World) (p : Nat) (A : Option Addr) (c : Nat) (bs : List Int) (n k : Nat) (g : Nat) (v6 v34 : Value) (wr : World) : Prop where mk ::
  out_ : ∃ (i : Nat), i ≤ k ∧ k ≤ g + i ∧ v6 = .int .u32 (numT (((ofB bs).drop n).take i)) ∧ v34 = .int .i64 (i : Int) ∧ RdAt wr p A c bs (n + i) ∧ Same (fun k => k = p) w wr
set_option maxHeartbeats 1600000 in
set_option maxRecDepth 100000 in
theorem rd_get {w : World} {p : Nat} {A : Option Addr} {c : Nat} {bs : List Int} {n k : Nat} (h : RdAt w p A c bs n) (hk : k ≤ 32) (hs : n + k ≤ 8 * bs.length) :
    Calls Try.prog 11 #[.pointer (some ⟨p, 0, none⟩), .int .i64 k] w fun e w' => e = .returned (.tuple #[.int .u32 (numT (((ofB bs).drop n).take k)), .int .i64 0]) ∧ RdAt w' p A c bs (n + k) ∧ Same (fun k => k = p) w w' := by
  have e1 : decide ((k : Int) < 0) = false := by simp
  have e2 : decide ((32 : Int) < k) = false := by simp; omega
  have c0 := fun d : Ext (fun _ => False) w => (h.pb.same d.same (fun c => c)).cell 0
  have c1 := fun d : Ext (fun _ => False) w => (h.pb.same d.same (fun c => c)).cell 1
  have ha := h.at_
  have hh := h.hi
  have e3 : decide (8 * (bs.length : Int) - (n : Int) < k) = false := by simp; omega
  go_enter Try.func11, Try.ntmps11
  go_wp2_with fail
  refine wp_region_ext (fun _ => False) (by kernel_rfl) (by kernel_rfl) ?_
  repeat (go_big_quiet_step (fail))
  refine wpQuiet_nil ?_
  rintro _ ⟨d, rfl⟩
  clear c0 c1
  go_wp2_with fail
  go_loopg [6, 34] k (GtRel w p A c bs n k)
  case atStart => exact ⟨0, by omega, by omega, by simp [numT], rfl, h.kept d.same (fun c => c) (fun _ _ c => c), d.same.any⟩
  case round =>
    obtain ⟨i, hi, hg, rfl, rfl, hr, hsm⟩ := hrel
    by_cases hlt : i < k
    · have hq : (n + i) / 8 < bs.length := by omega
      obtain ⟨x, hx⟩ : ∃ x, bs[(n + i) / 8]? = some x := ⟨_, List.getElem?_eq_getElem hq⟩
      have hx8 := u8_of (hr.row.wf x (List.mem_of_getElem? hx))
      obtain ⟨ad, rfl, hc⟩ := hr.row.rd _ _ hx
      have hbit := ofB_at bs (n + i) hx
      have hnum : numT (((ofB bs).drop n).take (i + 1)) = numT (((ofB bs).drop n).take i) + x / 2 ^ ((n + i) % 8) % 2 * 2 ^ i := by
        have hd : ((ofB bs).drop n)[i]? = some (x / 2 ^ ((n + i) % 8) % 2) := by rw [List.getElem?_drop]; exact hbit
        obtain ⟨hl, e⟩ := List.getElem?_eq_some_iff.1 hd
        rw [List.take_succ_eq_append_getElem hl, e, numT_snoc, List.length_take, Nat.min_eq_left (by omega)]
      have hrange := numT_range (bin_take (bin_drop (bin_ofB bs) n) i)
      rw [List.length_take, Nat.min_eq_left (by rw [List.length_drop, ofB_length]; omega)] at hrange
      generalize hV : numT (((ofB bs).drop n).take i) = V at *
      obtain ⟨b, rfl⟩ : ∃ b : Nat, V = b := ⟨V.toNat, by omega⟩
      obtain ⟨x, rfl⟩ : ∃ y : Nat, x = y := ⟨x.toNat, by omega⟩
      obtain ⟨q, hqe⟩ : ∃ q, q = (n + i) / 8 := ⟨_, rfl⟩
      obtain ⟨r, hre⟩ : ∃ r, r = (n + i) % 8 := ⟨_, rfl⟩
      rw [← hqe] at hc hq
      rw [← hre] at hnum
      obtain ⟨z, hz, ez⟩ := nat_of_mod ((x : Int) / 2 ^ r) 2 (by omega)
      rw [show ((2 : Nat) : Int) = 2 from rfl] at ez
      have hand := and_u8_1 ((x : Int) / 2 ^ r)
      rw [ez] at hand hnum
      have hor := or_u32 (b := b) (z := z) (r := i) (by exact_mod_cast hrange.2) hz (by omega)
      rw [← hnum] at hor
      obtain ⟨m, hm⟩ : ∃ m, m = n + i := ⟨_, rfl⟩
      rw [← hm] at hqe hre hr
      have dq : (m : Int) / 8 = q := by omega
      have dr : (m : Int) % 8 = r := by omega
      have hr8 : r < 8 := by omega
      have hmb : (m : Int) ≤ 8796093022208 := by omega
      have c0 := fun d : Ext (fun _ => False) wr => (hr.pb.same d.same (fun c => c)).cell 0
      have c1 := fun d : Ext (fun _ => False) wr => (hr.pb.same d.same (fun c => c)).cell 1
      have c2 := fun d : Ext (fun _ => False) wr => d.same.cell hc (fun c => c)
      have HM := Lib.hid hm
      have HH := Lib.hid hr
      clear hm hqe hre hbit hV hx ez hnum hc hr h ha hh e3
      generalize hU : numT (((ofB bs).drop n).take (i + 1)) = U at *
      have HU := Lib.hid hU
      clear hU
      go_wp2_with fail
      refine wp_region_ext (fun _ => False) (by kernel_rfl) (by kernel_rfl) ?_
      repeat (go_big_quiet_step (fail))
      refine wpQuiet_nil ?_
      rintro _ ⟨d, rfl⟩
      have hr := HH.out.kept d.same (fun c => c) (fun _ _ c => c)
      have hs2 := hsm.then d.same.any
      have hmu : m + 1 ≤ 8 * bs.length := by have := HM.out; omega
      clear c0 c1 c2 HH dq dr hor hand hsm
      generalize d.world = wx at *
      clear d
      have c1 := hr.pb.cell 1
      have f1 := hr.pb.frozen 1
      have HW := Lib.hid (hr.move (m := m + 1) hmu)
      clear hr hmu
      go_wp2_with fail
      go_roundg (gk - 1)
      case measure => omega
      case rel =>
        refine ⟨i + 1, by omega, by omega, by rw [HU.out], by go_num, ?_, hs2.then (Same.set_ (S := fun k => k = p) (p := ⟨p, 1, none⟩) (Same.refl _) (fun _ => rfl) _)⟩
        rw [show n + (i + 1) = m + 1 from by have := HM.out; omega]
        exact HW.out
    · have hik : i = k := by omega
      subst hik
      go_wp2_with fail
      go_ret2
      exact ⟨rfl, hr, hsm⟩
end Go.Proofs.Ytlmmbiabjpgilaa
