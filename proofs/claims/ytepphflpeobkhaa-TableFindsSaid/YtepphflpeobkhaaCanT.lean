import Derived.Test.YtepphflpeobkhaaCanC
namespace Go.Proofs.Ytepphflpeobkhaa
set_option linter.unusedVariables false
set_option linter.unusedSimpArgs false
open Go.RowKit

def codesErr (l : List Int) : Int := if kraft l < 0 then 7 else if kind l = 4 then 2 else 0
def codesOut (l : List Int) : List Int := if codesErr l = 0 then codes l else []
theorem kraftGo_all : ∀ {l : List Int} {s : Int}, 0 ≤ s → 0 ≤ kraftGo l s → ∀ n ∈ l, 0 ≤ n ∧ n ≤ 15
  | [], _, _, _, n, hn => by simp at hn
  | x :: l, s, hs, h, n, hn => by
    rw [kraftGo] at h
    split at h
    · omega
    · rcases List.mem_cons.1 hn with e | hn
      · subst e; omega
      · have := kr_range x
        exact kraftGo_all (by omega) h n hn
theorem kraft_good {l : List Int} (h : 0 ≤ kraft l) : l.length ≤ 65536 ∧ ∀ n ∈ l, 0 ≤ n ∧ n ≤ 15 := by
  unfold kraft at h
  split at h
  · omega
  · exact ⟨by omega, kraftGo_all (Int.le_refl _) h⟩

theorem canon_codes (A : Option Addr) (c : Nat) (l : List Int) (w : World) (hr : RowOf w .i64 A c l) :
    Calls Try.prog 11 #[.slice A l.length c] w fun e w' =>
      ∃ v, e = .returned (.tuple #[v, .int .i64 (codesErr l)]) ∧ Own w' w.heap.size 33 v (ints .u32 (codesOut l)) ∧ Below w.heap.size w w' := by
  by_cases h0 : kraft l < 0
  · have e : codesErr l = 7 := by rw [codesErr, if_pos h0]
    have e2 : codesOut l = [] := by rw [codesOut, e]; rfl
    refine (can_codes_neg A c l w hr h0).mono ?_
    rintro e w' ⟨rfl, rfl⟩
    rw [e, e2]
    exact ⟨_, rfl, Own.nil _ _ _, Below.refl _ _⟩
  · by_cases h1 : kind l = 4
    · have e : codesErr l = 2 := by rw [codesErr, if_neg h0, if_pos h1]
      have e2 : codesOut l = [] := by rw [codesOut, e]; rfl
      refine (can_codes_over A c l w hr (by omega) h1).mono ?_
      rintro e w' ⟨rfl, rfl⟩
      rw [e, e2]
      exact ⟨_, rfl, Own.nil _ _ _, Below.refl _ _⟩
    · have e : codesErr l = 0 := by rw [codesErr, if_neg h0, if_neg h1]
      have e2 : codesOut l = codes l := by rw [codesOut, e]; rfl
      obtain ⟨g1, g2⟩ := kraft_good (l := l) (by omega)
      refine (can_codes A c l w hr (by omega) h1 g1 g2).mono ?_
      rintro e w' ⟨v, rfl, ho, hb⟩
      rw [e, e2]
      exact ⟨v, rfl, ho, hb⟩

theorem RowOf.of_blk {w : World} {k : IntKind} {g : Nat} {t : TypeId} {xs : List Int} {n : Nat} (h : Blk w g t (ints k xs).toArray) (hn : xs.length = n) (hm : n ≤ 9223372036854775807) (hwf : ∀ x ∈ xs, (Lit.int k x).wf = true) : RowOf w k (some ⟨g, 0, none⟩) n xs := by
  refine ⟨fun i x hx => ⟨_, rfl, ?_⟩, by omega, hm, hwf, by simp⟩
  rw [Addr.add_lit, h.cell]
  simp [ints, hx]
theorem RowOf.below {w w' : World} {k : IntKind} {A : Option Addr} {c : Nat} {xs : List Int} (h : RowOf w k A c xs) (hb : Below w.heap.size w w') : RowOf w' k A c xs :=
  ⟨h.rd.below hb (Nat.le_refl _), h.cap, h.most, h.wf, h.nil⟩

set_option maxHeartbeats 1600000 in
set_option maxRecDepth 100000 in
theorem told7 (w : World) : Calls Try.prog 10 #[] w fun e w' => e = .returned (.bool true) ∧ Below w.heap.size w w' := by
  have x1 : codesErr [2, 1, 3, 3] = 0 := by decide
  have x2 : codesOut [2, 1, 3, 3] = [2, 0, 6, 7] := by decide
  have x3 : kind [2, 1, 3, 3] = 1 := by decide
  have x4 : kind [1, 1, 1] = 4 := by decide
  have x5 : kraft [16] = -1 := by decide
  go_enter Try.func10, Try.ntmps10
  go_wp2_with fail
  refine (canon_codes (some ⟨w.heap.size, 0, none⟩) 4 [2, 1, 3, 3] _ (RowOf.of_blk (t := 3) (Blk.new w 3 _) rfl (by decide) (by decide))).mono ?_
  rw [x1, x2]
  rintro e w1 ⟨v1, rfl, ho1, hb1⟩
  have B1 : Below w.heap.size w w1 := ((Below.refl _ w).alloc (Nat.le_refl _) _).trans (hb1.mono (by simp))
  rcases ho1.2 with ⟨rfl, hn⟩ | ⟨g, cap, cur, rfl, hg, _, hnc, hcm, _, _⟩
  · simp [ints] at hn
  have c0 : w1.cell? ⟨g, 0, none⟩ = some (.int .u32 2) := by simpa [Addr.add_lit] using World.ownsRow.cells ho1 (g := g) rfl 0 _ rfl
  have c1 : w1.cell? ⟨g, 1, none⟩ = some (.int .u32 0) := by simpa [Addr.add_lit] using World.ownsRow.cells ho1 (g := g) rfl 1 _ rfl
  have c2 : w1.cell? ⟨g, 2, none⟩ = some (.int .u32 6) := by simpa [Addr.add_lit] using World.ownsRow.cells ho1 (g := g) rfl 2 _ rfl
  have c3 : w1.cell? ⟨g, 3, none⟩ = some (.int .u32 7) := by simpa [Addr.add_lit] using World.ownsRow.cells ho1 (g := g) rfl 3 _ rfl
  have hl4 : (ints .u32 [2, 0, 6, 7]).length = 4 := rfl
  rw [hl4] at hnc ⊢
  clear ho1 hb1 hl4
  go_wp2_with fail
  refine (can_kind (some ⟨w1.heap.size, 0, none⟩) 4 [2, 1, 3, 3] _ (RowOf.of_blk (t := 3) (Blk.new w1 3 _) rfl (by decide) (by decide))).mono ?_
  rw [x3]
  rintro e w2 ⟨rfl, rfl⟩
  go_wp2_with fail
  refine (can_kind (some ⟨w1.heap.size + 1, 0, none⟩) 3 [1, 1, 1] _ (RowOf.of_blk (t := 3) (by have := Blk.new (w1.alloc (.cells (ints .i64 [2, 1, 3, 3]).toArray 3)) 3 (ints .i64 [1, 1, 1]).toArray; simp only [World.size_alloc] at this; exact this) rfl (by decide) (by decide))).mono ?_
  rw [x4]
  rintro e w2 ⟨rfl, rfl⟩
  go_wp2_with fail
  refine (can_kraft (some ⟨w1.heap.size + 2, 0, none⟩) 1 [16] _ (RowOf.of_blk (t := 3) (by have := Blk.new ((w1.alloc (.cells (ints .i64 [2, 1, 3, 3]).toArray 3)).alloc (.cells #[.int .i64 1, .int .i64 1, .int .i64 1] 3)) 3 (ints .i64 [16]).toArray; simp only [World.size_alloc] at this; exact this) rfl (by decide) (by decide))).mono ?_
  rw [x5]
  rintro e w2 ⟨rfl, rfl⟩
  go_wp2_with fail
  go_ret
  exact ⟨rfl, ((B1.alloc B1.size _).alloc (by have := B1.size; simp; omega) _).alloc (by have := B1.size; simp; omega) _⟩
end Go.Proofs.Ytepphflpeobkhaa
