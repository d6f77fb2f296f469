import Derived.Test.YtnnjpbghnfohaaaMapT
namespace Go.Proofs.Ytnnjpbghnfohaaa
set_option linter.unusedVariables false
set_option linter.unusedSimpArgs false
open Go.RowKit Go.MapKept
def abc9 : List Int := [97, 98, 99, 97, 98, 99, 97, 98, 99]
theorem abc_toks : tokL abc9 258 32768 8 100 false 0 = [⟨0, 0, 97⟩, ⟨0, 0, 98⟩, ⟨0, 0, 99⟩, ⟨6, 3, 0⟩] := by kernel_rfl
theorem abc_find : findQ abc9 258 32768 1 1 6 = (3, 3) := by kernel_rfl
theorem RowOf.mark (w : World) (k : IntKind) (e : TypeId) (m : Nat × Nat) (xs : List Int) (hwf : ∀ x ∈ xs, (Lit.int k x).wf = true) (hl : xs.length ≤ 9223372036854775807) :
    RowOf (w.alloc (.cells (ints k xs).toArray e m)) k (some ⟨w.heap.size, 0, none⟩) xs.length xs := by
  refine ⟨fun i x hx => ⟨_, rfl, ?_⟩, Nat.le_refl _, hl, hwf, by simp⟩
  rw [Addr.add_lit, Nat.zero_add, World.cell?_alloc_mark]
  simp [ints, hx]
set_option maxHeartbeats 1600000 in
set_option maxRecDepth 100000 in
theorem told13 (w : World) : Calls Try.prog 8 #[] w fun e w' => e = .returned (.bool true) ∧ Below w.heap.size w w' := by
  have kc := fun (w : World) (C : Array Value) (n c : Nat) => Lib.run_convert_bytes_const (P := Try.prog) w 22 5 C n c Try.underlying22 Try.underlying5
  have hr := RowOf.mark w .u8 5 (9, 10) abc9 (by decide) (by decide)
  have hB0 := (Below.refl w.heap.size w).alloc (Nat.le_refl _) (.cells (ints .u8 abc9).toArray 5 (9, 10))
  go_enter Try.func8, Try.ntmps8
  go_wp2_with fail
  refine (match_tokens (some ⟨w.heap.size, 0, none⟩) 9 abc9 false false 8 100 258 32768 rfl rfl _ hr (by decide)).mono ?_
  rintro e w1 ⟨v1, base, rfl, hbs, ho, hB1⟩
  rw [show (max 100 1 : Int) = 100 from by decide, abc_toks] at ho
  have hB1 := hB0.trans (hB1.mono hB0.size)
  obtain ⟨g1, cc1, rfl, hc1⟩ : ∃ g1 c1, v1 = .slice (some ⟨g1, 0, none⟩) 4 c1 ∧ ∀ j u, (([⟨0, 0, 97⟩, ⟨0, 0, 98⟩, ⟨0, 0, 99⟩, ⟨6, 3, 0⟩] : List Tk).flatMap Tk.enc)[j]? = some u → w1.cell? ⟨g1, j, none⟩ = some u := by
    rcases ho.2 with ⟨_, e⟩ | ⟨g, cap, cur, e, _⟩
    · simp [Tk.enc] at e
    · subst e
      exact ⟨g, cap, rfl, fun j u hu => by have := World.ownsRow.cells ho (g := g) rfl j u hu; rwa [Addr.add_lit, Nat.zero_add] at this⟩
  have x0 := hc1 9 _ rfl
  have x1 := hc1 10 _ rfl
  have x2 := hc1 11 _ rfl
  have hr2 := RowOf.mark w1 .u8 5 (9, 10) abc9 (by decide) (by decide)
  have hB2 := hB1.alloc hB1.size (.cells (ints .u8 abc9).toArray 5 (9, 10))
  have hD2 := (Below.refl w1.heap.size w1).alloc (Nat.le_refl _) (.cells (ints .u8 abc9).toArray 5 (9, 10))
  clear hc1 ho
  go_wp2_with fail
  refine (match_new (some ⟨w1.heap.size, 0, none⟩) 9 abc9 false false false 1 1 _ hr2 (by decide)).mono ?_
  rintro e w2 ⟨f, rfl, ⟨base2, m, Af, cf, es, clock, hbase, hF, hE, hB3⟩⟩
  rw [show (max 1 1 : Int) = 1 from by decide] at hF
  have hB3' := hB2.trans (hB3.mono hB2.size)
  have hD3 := hD2.trans (hB3.mono hD2.size)
  go_wp2_with fail
  refine (match_findQ (M := 258) hF hE (by decide) 6 (by decide) (by decide)).mono ?_
  rintro e w3 ⟨rfl, hs3⟩
  rw [show (if false = true then (65536 : Int) else 32768) = 32768 from rfl, abc_find]
  have hB4 := hs3.below_of hB3' hB3'.size (fun _ _ c => c)
  have hD4 := hs3.below_of hD3 hD3.size (fun _ _ c => c)
  have y0 := (hD4.cell (p := ⟨g1, 9, none⟩) (World.block_lt_of_cell? w1 _ x0)).trans x0
  have y1 := (hD4.cell (p := ⟨g1, 10, none⟩) (World.block_lt_of_cell? w1 _ x1)).trans x1
  have y2 := (hD4.cell (p := ⟨g1, 11, none⟩) (World.block_lt_of_cell? w1 _ x2)).trans x2
  go_wp2_with fail
  go_ret
  exact ⟨rfl, hB4⟩
end Go.Proofs.Ytnnjpbghnfohaaa
