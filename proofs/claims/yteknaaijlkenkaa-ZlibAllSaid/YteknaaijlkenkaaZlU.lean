import Derived.Test.YteknaaijlkenkaaZlT
namespace Go.Proofs.Yteknaaijlkenkaa
set_option linter.unusedVariables false
set_option linter.unusedSimpArgs false
open Go.RowKit Ieee

set_option maxHeartbeats 400000 in
set_option maxRecDepth 100000 in
theorem told18 (w : World) : Calls Try.prog 8 #[] w fun e w' => e = .returned (.bool true) ∧ Below w.heap.size w w' := by
  have R1 := RowOf.lit w .u8 5 [120, 156, 3, 0, 0, 0, 0, 1] (by decide) (by decide)
  have B1 := (Below.refl w.heap.size w).alloc (Nat.le_refl _) (.cells (ints .u8 [120, 156, 3, 0, 0, 0, 0, 1]).toArray 5)
  go_enter Try.func8, Try.ntmps8
  go_wp2_with fail
  refine (ref_none _).mono ?_
  rintro e w1 ⟨b, rfl, hb, hw⟩
  have R1' := R1.drew
  have B1' := B1.drew
  have CZ := zlib_told w.heap.size _ b hb R1'
  have CZ := Lib.hid CZ
  subst hw
  clear R1 R1'
  go_wp2_with fail
  refine CZ.out.mono ?_
  rintro e w2 ⟨⟨A2, c2, rfl⟩, hB2⟩
  have B2 := B1'.trans (hB2.mono B1'.size)
  have B3 := B2.alloc B2.size (.cells (ints .u8 [120]).toArray 5)
  clear CZ
  go_wp2_with fail
  refine (zlib_read1 _ _ _).mono ?_
  rintro e w3 ⟨rfl, hw⟩
  have B3 : Below w.heap.size w w3 := by rw [hw]; exact B3
  clear hw
  have B4 := B3.alloc B3.size (.cells (ints .u8 [120, 156]).toArray 5)
  have R4 := RowOf.lit w3 .u8 5 [120, 156] (by decide) (by decide)
  have h0 : (w3.alloc (.cells (ints .u8 [120, 156]).toArray 5)).cell? ⟨w3.heap.size, 0, none⟩ = some (.int .u8 ((120 : Nat) : Int)) := by obtain ⟨ad, e, hc⟩ := R4.rd 0 120 rfl; cases e; exact hc
  have h1 : (w3.alloc (.cells (ints .u8 [120, 156]).toArray 5)).cell? ⟨w3.heap.size, 0 + 1, none⟩ = some (.int .u8 ((156 : Nat) : Int)) := by obtain ⟨ad, e, hc⟩ := R4.rd 1 156 rfl; cases e; exact hc
  have CR := zlib_read w3.heap.size 0 2 [120, 156] 120 156 (by decide) (by decide) (by decide) _ (by decide) (by decide) h0 h1
  rw [if_pos (show zok 120 156 = true from by decide)] at CR
  have CR := Lib.hid CR
  clear R4 h0 h1
  go_wp2_with fail
  refine CR.out.mono ?_
  rintro e w5 ⟨rfl, hs5⟩
  have B5 := hs5.below_of B4 B4.size (fun _ _ c => c)
  go_wp2_with fail
  go_ret
  exact ⟨rfl, B5⟩
end Go.Proofs.Yteknaaijlkenkaa
