import Derived.Test.YtfmglcgdcdcpaaaPkX
namespace Go.Proofs.Ytfmglcgdcdcpaaa
set_option linter.unusedVariables false
set_option linter.unusedSimpArgs false
open Go.RowKit
attribute [local go_sem] max2i min2i max2t min2t

/-! ### told9 -/
theorem told9_srt : SrtS [1, 1, 2, 4] [0, 1, 2, 3] := ⟨⟨by decide, by decide⟩, by decide⟩
theorem told9_may : mayCs [1, 1, 2, 4] 15 = true := by decide
theorem told9_may1 : mayCs [1, 1, 2, 4] 1 = true := by decide
theorem told9_len : (idx [1, 1, 2, 4]).length = 4 := by decide
theorem told9_out : outL [1, 1, 2, 4] [0, 1, 2, 3] 15 = [3, 3, 2, 1] := by decide +kernel
theorem told9_good {w w' : World} {e : Ending} (h : LenPost [1, 1, 2, 4] 15 w e w') : Below w.heap.size w w' ∧ ∃ A c, e = .returned (.tuple #[.slice A 4 c, .int .i64 0]) ∧ RowOf w' .i64 A c [3, 3, 2, 1] := by
  obtain ⟨hb, h⟩ := h
  rw [if_pos ⟨told9_may, by rw [told9_len]; decide⟩] at h
  obtain ⟨A, c, l, rfl, hl, hr, _, hv⟩ := h
  rw [if_neg (by rw [told9_len]; decide)] at hv
  obtain ⟨ss, hss, rfl⟩ := hv
  rw [srtS_one hss told9_srt, show ((15 : Int)).toNat = 15 from rfl, told9_out] at hr
  exact ⟨hb, A, c, rfl, hr⟩
theorem told9_bad {w w' : World} {e : Ending} (h : LenPost [1, 1, 2, 4] 1 w e w') : Below w.heap.size w w' ∧ e = .returned (.tuple #[.slice none 0 0, .int .i64 1]) := by
  obtain ⟨hb, h⟩ := h
  rw [if_neg (fun c => by have := c.2; rw [told9_len] at this; revert this; decide)] at h
  exact ⟨hb, h⟩
set_option maxHeartbeats 4000000 in
set_option maxRecDepth 100000 in
theorem told9 (w : World) : Calls Try.prog 8 #[] w fun e w' => e = .returned (.bool true) ∧ Below w.heap.size w w' := by
  have lit : ∀ W : World, RowOf (W.alloc (.cells #[.int .i64 1, .int .i64 1, .int .i64 2, .int .i64 4] 3)) .i64 (some ⟨W.heap.size, 0, none⟩) 4 [1, 1, 2, 4] := fun W => RowOf.lit W .i64 3 [1, 1, 2, 4] (by decide) (by decide)
  have lit2 : ∀ W : World, RowOf (W.alloc (.cells #[.int .i64 2, .int .i64 3] 3)) .i64 (some ⟨W.heap.size, 0, none⟩) 2 [2, 3] := fun W => RowOf.lit W .i64 3 [2, 3] (by decide) (by decide)
  have lit3 : ∀ W : World, RowOf (W.alloc (.cells #[.int .i64 5, .int .i64 7] 3)) .i64 (some ⟨W.heap.size, 0, none⟩) 2 [5, 7] := fun W => RowOf.lit W .i64 3 [5, 7] (by decide) (by decide)
  have C1 : ∀ W : World, Calls Try.prog 11 #[.slice (some ⟨W.heap.size, 0, none⟩) 4 4, .int .i64 15] (W.alloc (.cells #[.int .i64 1, .int .i64 1, .int .i64 2, .int .i64 4] 3)) fun e w' => LenPost [1, 1, 2, 4] 15 (W.alloc (.cells #[.int .i64 1, .int .i64 1, .int .i64 2, .int .i64 4] 3)) e w' := fun W => pack_lengths 15 (by decide) _ (lit W)
  have C2 : ∀ W : World, Calls Try.prog 11 #[.slice (some ⟨W.heap.size, 0, none⟩) 4 4, .int .i64 1] (W.alloc (.cells #[.int .i64 1, .int .i64 1, .int .i64 2, .int .i64 4] 3)) fun e w' => LenPost [1, 1, 2, 4] 1 (W.alloc (.cells #[.int .i64 1, .int .i64 1, .int .i64 2, .int .i64 4] 3)) e w' := fun W => pack_lengths 1 (by decide) _ (lit W)
  have C1 := Lib.hid C1
  have C2 := Lib.hid C2
  have h31 : costN [2, 3] [5, 7] 2 = 31 := by decide
  have C3 : ∀ W : World, Calls Try.prog 9 #[.slice (some ⟨W.heap.size, 0, none⟩) 2 2, .slice (some ⟨W.heap.size + 1, 0, none⟩) 2 2] ((W.alloc (.cells #[.int .i64 2, .int .i64 3] 3)).alloc (.cells #[.int .i64 5, .int .i64 7] 3)) fun e w' => e = .returned (.int .i64 31) ∧ Same (fun _ => False) ((W.alloc (.cells #[.int .i64 2, .int .i64 3] 3)).alloc (.cells #[.int .i64 5, .int .i64 7] 3)) w' := fun W => by
    have l3 := lit3 (W.alloc (.cells #[.int .i64 2, .int .i64 3] 3))
    rw [show (W.alloc (.cells #[.int .i64 2, .int .i64 3] 3)).heap.size = W.heap.size + 1 from by simp] at l3
    have := pack_cost _ ((lit2 W).same ((Same.refl (S := fun _ => False) _).alloc (.cells #[.int .i64 5, .int .i64 7] 3)) (fun _ _ c => c)) l3 (by decide) (by decide) (by decide)
    rw [show min ([2, 3] : List Int).length ([5, 7] : List Int).length = 2 from rfl, h31] at this
    exact this
  have C3 := Lib.hid C3
  clear lit lit2 lit3 h31
  go_enter Try.func8, Try.ntmps8
  go_upto_region 2 with (go_at_call 11; refine (C1.out w).mono ?_; intro e w1 h1; obtain ⟨b1, A1, c1, rfl, r1⟩ := told9_good h1; clear h1)
  have B1 := ((Below.refl w.heap.size w).alloc (Nat.le_refl _) (.cells #[.int .i64 1, .int .i64 1, .int .i64 2, .int .i64 4] 3))
  have B1 := B1.trans (b1.mono B1.size)
  go_upto_region 3 with (go_at_call 11; refine (C2.out w1).mono ?_; intro e w2 h1; obtain ⟨b2, rfl⟩ := told9_bad h1; clear h1)
  have B2 := ((Below.refl w1.heap.size w1).alloc (Nat.le_refl _) (.cells #[.int .i64 1, .int .i64 1, .int .i64 2, .int .i64 4] 3))
  have B2 := B2.trans (b2.mono B2.size)
  have B12 := B1.trans (B2.mono B1.size)
  have r2 := r1.belo B2
  obtain ⟨bb, o, rfl⟩ := r2.addr (by simp)
  have cell : ∀ k x, ([3, 3, 2, 1] : List Int)[k]? = some x → w2.cell? ⟨bb, o + k, none⟩ = some (.int .i64 x) := fun k x hk => by
    obtain ⟨ad, e, hc⟩ := r2.rd k x hk
    cases e
    rwa [Addr.add_lit] at hc
  have k0 : w2.cell? ⟨bb, o, none⟩ = some (.int .i64 3) := cell 0 3 rfl
  have k1 := cell 1 3 rfl
  have k2 := cell 2 2 rfl
  have k3 := cell 3 1 rfl
  clear cell r1 b1 b2 B1 B2
  go_wp2_with (go_at_call 9; refine (C3.out w2).mono ?_; rintro e w3 ⟨rfl, hs3⟩)
  go_ret
  refine ⟨rfl, ?_⟩
  have q := ((B12.alloc B12.size (.cells #[.int .i64 2, .int .i64 3] 3)))
  have q := q.alloc q.size (.cells #[.int .i64 5, .int .i64 7] 3)
  exact hs3.below_of q q.size (fun _ _ c => c)
end Go.Proofs.Ytfmglcgdcdcpaaa
