import Derived.Test.YteknaaijlkenkaaNuC
import Derived.Test.YteknaaijlkenkaaZlU
import Derived.Deep.RegionHeldLaw
namespace Go.Proofs.Yteknaaijlkenkaa
set_option linter.unusedVariables false
set_option linter.unusedSimpArgs false
open Go.RowKit
attribute [local go_sem] max2i min2i max2t min2t

theorem strs_app (a b : List Int) : strOfNums (a ++ b) = strOfNums a ++ strOfNums b := strOfNums_app a b
set_option maxHeartbeats 1600000 in
set_option maxRecDepth 100000 in
theorem ref_wrapz {A : Option Addr} {c : Nat} {l : List Int} (v : Nat) (hv : v < 4294967296) (hl : l.length ≤ 1000000) (w : World) (h : RowOf w .u8 A c l) :
    Calls Try.prog 20 #[.slice A l.length c, .int .u32 v] w fun e w' => e = .returned (.string (strOfNums (120 :: 156 :: (l ++ beB v 4)))) ∧ Same (fun _ => False) w w' := by
  have HB := fun W => Lib.hid (ref_bytes1 v 4 (by decide) (by decide) W)
  have t0 : ∀ d : Ext (fun _ => False) w, (convert 22 9 (.slice A l.length c)).run Try.prog d.world = .ok (.string (strOfNums l)) d.world := fun d => (h.strAt rfl) d.world d.same
  have e0 : strOfNums (120 :: 156 :: (l ++ beB v 4)) = strOfNums [120, 156] ++ strOfNums l ++ strOfNums (beB v 4) := by rw [← strs_app, ← strs_app]; rfl
  have E0 := Lib.hid e0
  clear e0
  rw [E0.out]
  have hS1 : (strOfNums l).size ≤ 1000000 := by rw [strOfNums_size]; exact hl
  have hS2 : (strOfNums (beB v 4)).size ≤ 4 := by rw [strOfNums_size, beB_len]; omega
  have hS0 : strOfNums [120, 156] = ⟨#[120, 156]⟩ := by decide
  rw [hS0]
  generalize strOfNums l = S at *
  generalize strOfNums (beB v 4) = T at *
  clear E0 hS0
  go_enter Try.func20, Try.ntmps20
  go_upto_region 1 with fail
  refine wp_region_ext (fun _ => False) (by kernel_rfl) (by kernel_rfl) ?_
  repeat (go_big_quiet_step (exact ext_call_below (v := .string T) (HB _).out))
  refine wpQuiet_nil ?_
  rintro _ ⟨d, rfl⟩
  go_wp2_with fail
  go_ret
  exact ⟨rfl, d.same⟩
set_option maxHeartbeats 1600000 in
set_option maxRecDepth 100000 in
theorem zlibHeads_walk (a' b' : Int) (A : Option Addr) (c : Nat) (l : List Int) (v' : Int) (w : World) (h00 : (Lit.int .u8 a').wf = true) (h01 : (Lit.int .u8 b').wf = true) (h02 : RowOf w .u8 A c l) (h03 : (Lit.int .u32 v').wf = true) :
    Calls Try.prog 6 #[.int .u8 a', .int .u8 b', .slice A l.length c, .int .u32 v'] w fun e w' => e = .returned (.bool true) ∧ Below w.heap.size w w' := by
  have hT := fun W => Lib.hid (told18 W)
  obtain ⟨a, rfl⟩ : ∃ a : Nat, a' = (a : Int) := ⟨a'.toNat, by simp [Lit.wf, IntKind.min, IntKind.max, IntKind.bits, IntKind.signed] at h00; omega⟩
  have ha : a < 256 := by simp [Lit.wf, IntKind.min, IntKind.max, IntKind.bits, IntKind.signed] at h00; omega
  obtain ⟨b, rfl⟩ : ∃ b : Nat, b' = (b : Int) := ⟨b'.toNat, by simp [Lit.wf, IntKind.min, IntKind.max, IntKind.bits, IntKind.signed] at h01; omega⟩
  have hb : b < 256 := by simp [Lit.wf, IntKind.min, IntKind.max, IntKind.bits, IntKind.signed] at h01; omega
  obtain ⟨v, rfl⟩ : ∃ v : Nat, v' = (v : Int) := ⟨v'.toNat, by simp [Lit.wf, IntKind.min, IntKind.max, IntKind.bits, IntKind.signed] at h03; omega⟩
  have hv : v < 4294967296 := by simp [Lit.wf, IntKind.min, IntKind.max, IntKind.bits, IntKind.signed] at h03; omega
  clear h00 h01 h03
  rcases Nat.lt_or_ge 100 l.length with h | h
  · have b1 : decide ((100 : Int) < l.length) = true := by simp; omega
    go_enter Try.func6, Try.ntmps6
    go_wp2_with (go_at_call 8; refine (hT _).out.mono ?_; rintro e w6 ⟨rfl, hb6⟩)
    go_ret
    exact ⟨rfl, hb6⟩
  · have b1 : decide ((100 : Int) < l.length) = false := by simp; omega
    have hbk := Blk.new w 5 #[.int .u8 a, .int .u8 b]
    have B1 := (Below.refl w.heap.size w).alloc (Nat.le_refl _) (.cells #[.int .u8 a, .int .u8 b] 5)
    have CR := zlib_read w.heap.size 0 2 [(a : Int), b] a b ha hb (by simp) _ (by simp) (by decide) (hbk.cell 0) (hbk.cell 1)
    have CZ := fun (W : World) h0 h1 => ref_readz W.heap.size 0 2 [(a : Int), b] a b ha hb (by simp) (W.alloc (.cells #[.int .u8 a, .int .u8 b] 5)) (by simp) (by decide) h0 h1
    obtain ⟨r, hr⟩ : ∃ r : Value, (if zok a b then (.tuple #[.int .i64 (2 ^ (a / 16 + 8) : Nat), .int .i64 0] : Value) else .tuple #[.int .i64 0, .int .i64 2]) = r := ⟨_, rfl⟩
    rw [hr] at CR
    simp only [hr] at CZ
    obtain ⟨x, y, hxy⟩ : ∃ x y : Int, r = .tuple #[.int .i64 x, .int .i64 y] := by
      rw [← hr]
      split
      · exact ⟨_, 0, rfl⟩
      · exact ⟨0, 2, rfl⟩
    rw [hxy] at CR
    simp only [hxy] at CZ
    have CR := Lib.hid CR
    clear hr hxy hbk
    go_enter Try.func6, Try.ntmps6
    go_upto_region 4 with (go_at_call 11; refine CR.out.mono ?_; rintro e w2 ⟨rfl, hs2⟩; have B2 := hs2.below_of B1 B1.size (fun _ _ c => c); have CZ2 := Lib.hid (CZ w2 ((Blk.new w2 5 #[.int .u8 a, .int .u8 b]).cell 0) ((Blk.new w2 5 #[.int .u8 a, .int .u8 b]).cell 1)))
    go_upto_region 5 with (go_at_call 18; refine CZ2.out.mono ?_; rintro e w3 ⟨rfl, hs3⟩; have B3 := hs3.below_of (B2.alloc B2.size (.cells #[.int .u8 a, .int .u8 b] 5)) (by have := B2.size; simp; omega) (fun _ _ c => c))
    have r3 := h02.belo B3
    have HB0 := Lib.hid (fun W (hb : Below w3.heap.size w3 W) => (hT W).out.mono (R' := fun e w' => e = .returned (.bool true) ∧ Below w3.heap.size w3 w') (fun e w' ⟨he, hb'⟩ => ⟨he, hb.trans (hb'.mono hb.size)⟩))
    have hln : (120 :: 156 :: (l ++ beB v 4)).length = l.length + 6 := by simp [beB_len]
    have HB1 := Lib.hid (fun W (hb : Below w3.heap.size w3 W) => (zlib_wrap v hv (by omega) W (r3.belo hb)).mono (R' := fun e w' => ∃ A c, e = .returned (.slice A (l.length + 6) c) ∧ Hid (StrAt w' A (l.length + 6) c (strOfNums (120 :: 156 :: (l ++ beB v 4)))) ∧ Same (fun _ => False) W w' ∧ Below w3.heap.size w3 w') (fun e w' ⟨A, c, he, hr, hb'⟩ => ⟨A, c, he, Lib.hid (hr.strAt hln.symm), Below.sameF hb', hb.trans (hb'.mono hb.size)⟩))
    have HB2 := Lib.hid (fun W (hb : Below w3.heap.size w3 W) => (ref_wrapz v hv (by omega) W (r3.belo hb)).mono (R' := fun e w' => e = .returned (.string (strOfNums (120 :: 156 :: (l ++ beB v 4)))) ∧ Same (fun _ => False) W w' ∧ Below w3.heap.size w3 w') (fun e w' ⟨he, hs'⟩ => ⟨he, hs', hs'.below_of hb hb.size (fun _ _ c => c)⟩))
    generalize strOfNums (120 :: 156 :: (l ++ beB v 4)) = S at *
    clear CR CZ CZ2 hln
    go_region_held_law (fun W : World => Below w3.heap.size w3 W) (first | exact Below.refl _ _ | exact (Below.refl _ _).drew | assumption) (first
      | (go_at_call 8; refine (HB0.out _ ?_).mono ?_; (first | exact Below.refl _ _ | exact (Below.refl _ _).drew | assumption); rintro e w4 ⟨rfl, hb4⟩; dsimp only)
      | (go_at_call 19; refine (HB1.out _ ?_).mono ?_; (first | exact Below.refl _ _ | exact (Below.refl _ _).drew | assumption); rintro e wA ⟨A5, cA, rfl, hcA, hsA, hbA⟩; have cA1 := hcA.out.here; dsimp only)
      | (go_at_call 20; refine (HB2.out _ ?_).mono ?_; (first | exact Below.refl _ _ | exact (Below.refl _ _).drew | assumption); rintro e wB ⟨rfl, hsB, hbB⟩; try (have cB2 := (hcA.out.later hsB).here); dsimp only)
      | fail)
    all_goals (go_wp2_with fail; go_ret; first | exact ⟨rfl, B3.trans (hbA.mono B3.size)⟩ | exact ⟨rfl, B3.trans (hbB.mono B3.size)⟩)
end Go.Proofs.Yteknaaijlkenkaa
