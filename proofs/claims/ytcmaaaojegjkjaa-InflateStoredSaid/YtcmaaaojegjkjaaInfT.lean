import Derived.Test.YtcmaaaojegjkjaaJInr
import Derived.Lib.SlBytesConst
namespace Go.Proofs.Ytcmaaaojegjkjaa
set_option linter.unusedVariables false
set_option linter.unusedSimpArgs false
open Go.RowKit

theorem allQ_a : allQ [1, 1, 0, 254, 255, 97] false 32768 9 = ([97], 6, 0) := by decide +kernel
theorem allQ_b : allQ [3, 0] false 32768 0 = ([], 2, 0) := by decide +kernel
theorem allQ_c : allQ [7] false 32768 9 = ([], 0, 2) := by decide +kernel
theorem RowOf.markB (w : World) (k : IntKind) (e : TypeId) (m : Nat × Nat) (xs : List Int) (hwf : ∀ x ∈ xs, (Lit.int k x).wf = true) (hl : xs.length ≤ 9223372036854775807) :
    RowOf (w.alloc (.cells (ints k xs).toArray e m)) k (some ⟨w.heap.size, 0, none⟩) xs.length xs := by
  refine ⟨fun i x hx => ⟨_, rfl, ?_⟩, Nat.le_refl _, hl, hwf, by simp⟩
  rw [Addr.add_lit, Nat.zero_add, World.cell?_alloc_mark]
  simp [ints, hx]
theorem Below.mark {w0 : World} {b : Nat} {w : World} (h : Below b w0 w) (hb : b ≤ w.heap.size) (k : IntKind) (e : TypeId) (m : Nat × Nat) (xs : List Int) : Below b w0 (w.alloc (.cells (ints k xs).toArray e m)) := h.alloc hb _
set_option maxHeartbeats 1600000 in
set_option maxRecDepth 100000 in
theorem told12 (w : World) : Calls Try.prog 13 #[] w fun e w' => e = .returned (.bool true) ∧ Below w.heap.size w w' := by
  have H1 := fun (W : World) hr => Lib.hid (inf_all (some ⟨W.heap.size, 0, none⟩) 6 [1, 1, 0, 254, 255, 97] false 32768 9 (by decide) (by decide) (by decide) (W.alloc (.cells (ints .u8 [1, 1, 0, 254, 255, 97]).toArray 5)) hr (by decide))
  have H2 := fun (W : World) hr => Lib.hid (inf_all (some ⟨W.heap.size, 0, none⟩) 2 [3, 0] false 32768 0 (by decide) (by decide) (by decide) (W.alloc (.cells (ints .u8 [3, 0]).toArray 5)) hr (by decide))
  have H3 := fun (W : World) hr => Lib.hid (inf_all (some ⟨W.heap.size, 0, none⟩) 1 [7] false 32768 9 (by decide) (by decide) (by decide) (W.alloc (.cells (ints .u8 [7]).toArray 5)) hr (by decide))
  rw [allQ_a] at H1
  rw [allQ_b] at H2
  rw [allQ_c] at H3
  have B1 := (Below.refl w.heap.size w).alloc (Nat.le_refl _) (.cells (ints .u8 [1, 1, 0, 254, 255, 97]).toArray 5)
  have R1 := RowOf.markB w .u8 5 (0, 0) [1, 1, 0, 254, 255, 97] (by decide) (by decide)
  have D1 := Lib.hid (H1 w R1).out
  go_enter Try.func13, Try.ntmps13
  go_wp2_with fail
  refine D1.out.mono ?_
  rintro e w1 ⟨v1, rfl, ho1, hb1⟩
  have B2 := B1.trans (hb1.mono B1.size)
  have B2' := B2.alloc B2.size (.cells (ints .u8 [3, 0]).toArray 5)
  have D2 := Lib.hid (H2 w1 (RowOf.markB w1 .u8 5 (0, 0) [3, 0] (by decide) (by decide))).out
  go_wp2_with fail
  refine D2.out.mono ?_
  rintro e w2 ⟨v2, rfl, ho2, hb2⟩
  have B3 := B2'.trans (hb2.mono B2'.size)
  have B3' := B3.alloc B3.size (.cells (ints .u8 [7]).toArray 5)
  have D3 := Lib.hid (H3 w2 (RowOf.markB w2 .u8 5 (0, 0) [7] (by decide) (by decide))).out
  go_wp2_with fail
  refine D3.out.mono ?_
  rintro e w3 ⟨v3, rfl, ho3, hb3⟩
  have B4 := B3'.trans (hb3.mono B3'.size)
  obtain ⟨A1, c1, rfl, hlc1, hc1, hR1, _⟩ := ho1.rdb
  obtain ⟨A2, c2, rfl, hlc2, hc2, hR2, _⟩ := ho2.rdb
  have bA := (Below.refl w1.heap.size w1).alloc (Nat.le_refl _) (.cells (ints .u8 [3, 0]).toArray 5)
  have bB := bA.trans (hb2.mono bA.size)
  have bC := bB.alloc bB.size (.cells (ints .u8 [7]).toArray 5)
  have bD := bC.trans (hb3.mono bC.size)
  have hstr := (hR1.same (Same.of_below (S := fun _ => False) bD) (fun _ _ c => c)).to_string (P := Try.prog) (n := 1) (c := c1) rfl Try.underlying26 Try.underlying5 Try.underlying9
  rw [show strOfNums [97] = ⟨#[97]⟩ from by decide] at hstr
  clear H1 H2 H3 D1 D2 D3
  go_wp2_with fail
  go_ret
  exact ⟨rfl, B4⟩
end Go.Proofs.Ytcmaaaojegjkjaa
