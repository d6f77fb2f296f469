import Derived.Test.YtlmmbiabjpgilaaBitR
import Derived.Test.YtlmmbiabjpgilaaRefC
namespace Go.Proofs.Ytlmmbiabjpgilaa
set_option linter.unusedVariables false
set_option linter.unusedSimpArgs false
open Go.RowKit

set_option maxHeartbeats 1600000 in
set_option maxRecDepth 100000 in
theorem told5 (w : World) : Calls Try.prog 7 #[] w fun e w' => e = .returned (.bool true) ∧ Below w.heap.size w w' := by
  go_enter Try.func7, Try.ntmps7
  go_wp2_with fail
  refine wr_new.mono ?_
  rintro e w1 ⟨rfl, h1, B1⟩
  go_wp2_with fail
  refine (wr_put 5 3 h1 (by have := B1.size; omega) (by omega) (by omega) (by simp)).mono ?_
  rintro e w2 ⟨rfl, v2, h2⟩
  rw [show ([] : List Int) ++ putT 5 3 = [1, 0, 1] from by decide] at h2
  go_wp2_with fail
  refine (wr_code 6 3 h2.at_ (by have := B1.size; have := h2.size; omega) (by omega) (by omega) (by simp)).mono ?_
  rintro e w3 ⟨rfl, v3, h3⟩
  rw [show ([1, 0, 1] : List Int) ++ codeT 6 3 = [1, 0, 1, 1, 1, 0] from by decide] at h3
  have h13 := h2.trans h3
  have B3 : Below w.heap.size w w3 := h13.below B1 B1.size (Nat.le_refl _) (fun g hg => by simp [Value.ownBlock] at hg)
  have hA := h13.at_
  clear h1 h2 h3 h13 B1
  have hr := RowOf.lit w3 .u8 5 [29] (by decide) (by decide)
  go_wp2_with fail
  refine (rd_new (A := some ⟨w3.heap.size, 0, none⟩) (c := 1) hr (by decide)).mono ?_
  rintro e w4 ⟨p, A4, c4, rfl, h4, B4, hp, hA4⟩
  have B4' : Below w3.heap.size w3 w4 := ((Below.refl _ _).alloc (Nat.le_refl _) _).trans (B4.mono (by simp))
  have hvl := hA.row.lt
  have hpl := hA.pb.lt
  simp at hp
  have hA := hA.below B4'
  have B := B3.trans (B4'.mono B3.size)
  have hz := B.size
  clear hr B3 B4 B4'
  go_wp2_with fail
  refine (rd_get (k := 3) h4 (by omega) (by decide)).mono ?_
  rintro e w5 ⟨rfl, h5, s5⟩
  rw [show numT (((ofB [29]).drop 0).take 3) = 5 from by decide]
  have hA := hA.kept s5 (fun e => by omega) (fun g hg e => by have := hvl g hg; omega)
  have B := s5.below_of B hz (fun k hk e => by omega)
  clear h4 s5
  go_wp2_with fail
  refine (rd_short (k := 6) h5 (by omega) (by decide)).mono ?_
  rintro e w6 ⟨rfl, h6, s6⟩
  have hA := hA.kept s6 (fun e => by omega) (fun g hg e => by have := hvl g hg; omega)
  have B := s6.below_of B B.size (fun k hk e => by omega)
  clear h5 s6
  go_wp2_with fail
  refine (wr_bytes hA).mono ?_
  rintro e w7 ⟨A7, c7, rfl, ho7, _, B7, hA7⟩
  rw [show (packB [1, 0, 1, 1, 1, 0]) = [29] from by decide] at *
  have hstr := ho7.to_string (P := Try.prog) Try.underlying22 Try.underlying5 Try.underlying9
  rw [show strOfNums [29] = ⟨#[29]⟩ from by decide, show ([29] : List Int).length = 1 from rfl] at hstr
  have hA := hA.below B7
  have h7 := h6.below B7
  have B := B.trans (B7.mono B.size)
  clear ho7 h6 B7
  go_wp2_with fail
  refine (wr_len hA).mono ?_
  rintro e w8 ⟨rfl, rfl⟩
  go_wp2_with fail
  refine (rd_at h7).mono ?_
  rintro e w8 ⟨rfl, rfl⟩
  go_wp2_with fail
  go_ret
  exact ⟨rfl, B⟩
end Go.Proofs.Ytlmmbiabjpgilaa
