import Derived.Test.YteknaaijlkenkaaCanC
namespace Go.Proofs.Yteknaaijlkenkaa
set_option linter.unusedVariables false
set_option linter.unusedSimpArgs false
open Go.RowKit

def codesErr (l : List Int) : Int := if kraft l < 0 then 7 else if kind l = 4 then 2 else 0
def codesOut (l : List Int) : List Int := if codesErr l = 0 then codes l else []
theorem kraftGo_all : ∀ {l : List Int} {s : Int}, 0 ≤ s → 0 ≤ kraftGo l s → ∀ n ∈ l, 0 ≤ n ∧ n ≤ 15
  | [], _, _, _, n, hn => by simp at hn
  | x :: l, s, hs, h, n, hn => by
    rw [kraftGo] at h
    split at h
    · omega
    · rcases List.mem_cons.1 hn with e | hn
      · subst e; omega
      · have := kr_range x
        exact kraftGo_all (by omega) h n hn
theorem kraft_good {l : List Int} (h : 0 ≤ kraft l) : l.length ≤ 65536 ∧ ∀ n ∈ l, 0 ≤ n ∧ n ≤ 15 := by
  unfold kraft at h
  split at h
  · omega
  · exact ⟨by omega, kraftGo_all (Int.le_refl _) h⟩

theorem canon_codes (A : Option Addr) (c : Nat) (l : List Int) (w : World) (hr : RowOf w .i64 A c l) :
    Calls Try.prog 83 #[.slice A l.length c] w fun e w' =>
      ∃ v, e = .returned (.tuple #[v, .int .i64 (codesErr l)]) ∧ Own w' w.heap.size 42 v (ints .u32 (codesOut l)) ∧ Below w.heap.size w w' := by
  by_cases h0 : kraft l < 0
  · have e : codesErr l = 7 := by rw [codesErr, if_pos h0]
    have e2 : codesOut l = [] := by rw [codesOut, e]; rfl
    refine (can_codes_neg A c l w hr h0).mono ?_
    rintro e w' ⟨rfl, rfl⟩
    rw [e, e2]
    exact ⟨_, rfl, Own.nil _ _ _, Below.refl _ _⟩
  · by_cases h1 : kind l = 4
    · have e : codesErr l = 2 := by rw [codesErr, if_neg h0, if_pos h1]
      have e2 : codesOut l = [] := by rw [codesOut, e]; rfl
      refine (can_codes_over A c l w hr (by omega) h1).mono ?_
      rintro e w' ⟨rfl, rfl⟩
      rw [e, e2]
      exact ⟨_, rfl, Own.nil _ _ _, Below.refl _ _⟩
    · have e : codesErr l = 0 := by rw [codesErr, if_neg h0, if_neg h1]
      have e2 : codesOut l = codes l := by rw [codesOut, e]; rfl
      obtain ⟨g1, g2⟩ := kraft_good (l := l) (by omega)
      refine (can_codes A c l w hr (by omega) h1 g1 g2).mono ?_
      rintro e w' ⟨v, rfl, ho, hb⟩
      rw [e, e2]
      exact ⟨v, rfl, ho, hb⟩

theorem RowOf.of_blk {w : World} {k : IntKind} {g : Nat} {t : TypeId} {xs : List Int} {n : Nat} (h : Blk w g t (ints k xs).toArray) (hn : xs.length = n) (hm : n ≤ 9223372036854775807) (hwf : ∀ x ∈ xs, (Lit.int k x).wf = true) : RowOf w k (some ⟨g, 0, none⟩) n xs := by
  refine ⟨fun i x hx => ⟨_, rfl, ?_⟩, by omega, hm, hwf, by simp⟩
  rw [Addr.add_lit, h.cell]
  simp [ints, hx]
theorem RowOf.below {w w' : World} {k : IntKind} {A : Option Addr} {c : Nat} {xs : List Int} (h : RowOf w k A c xs) (hb : Below w.heap.size w w') : RowOf w' k A c xs :=
  ⟨h.rd.below hb (Nat.le_refl _), h.cap, h.most, h.wf, h.nil⟩

end Go.Proofs.Yteknaaijlkenkaa
