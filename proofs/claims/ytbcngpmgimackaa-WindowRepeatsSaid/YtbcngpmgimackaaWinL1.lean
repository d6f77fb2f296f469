import Derived.Test.YtbcngpmgimackaaWinT
namespace Go.Proofs.Ytbcngpmgimackaa
open Go.RowKit

structure RepRel1 (w : World) (p r : Nat) (xs : List Int) (g : Nat) (v9 : Value) (wr : World) : Prop where mk ::
  out : ∃ k, k ≤ xs.length ∧ xs.length ≤ g + k ∧ v9 = .int .i64 (k : Int) ∧ Win wr p r 65536 (xs.take k) ∧ Below w.heap.size w wr

structure RepRel2 (w2 : World) (m : Nat) (g : Nat) (v14 : Value) (wr : World) : Prop where mk ::
  out : ∃ k : Nat, k ≤ m ∧ m ≤ g + k ∧ v14 = .int .i64 (k : Int) ∧ Same (fun _ => False) w2 wr

set_option maxHeartbeats 800000 in
theorem windowRepeats_walk (A : Option Addr) (c : Nat) (xs : List Int) (dist n : Int) (w : World) (h00 : RowOf w .u8 A c xs) (_ : (Lit.int .i64 dist).wf = true) (_ : (Lit.int .i64 n).wf = true) :
    Calls Try.prog 4 #[.slice A xs.length c, .int .i64 dist, .int .i64 n] w fun e w' => e = .returned (.bool true) ∧ Below w.heap.size w w' := by
  have hr := h00.rd
  clear h00
  have ht := fun W => Lib.hid (told10 W)
  by_cases h0 : xs.length = 0
  · have h0' : ((xs.length : Int) == 0) = true := by simp [h0]
    go_enter Try.func4, Try.ntmps4
    go_wp2_with (go_at_call 11; refine (ht _).out.mono ?_; rintro e w' ⟨rfl, hb⟩)
    go_ret
    exact ⟨rfl, hb⟩
  · have h0' : ((xs.length : Int) == 0) = false := by simp; intro e; simp [e] at h0
    by_cases h1 : 100 < xs.length
    · have h1' : decide ((100 : Int) < xs.length) = true := by simp; omega
      go_enter Try.func4, Try.ntmps4
      go_wp2_with (go_at_call 11; refine (ht _).out.mono ?_; rintro e w' ⟨rfl, hb⟩)
      go_ret
      exact ⟨rfl, hb⟩
    · have h1' : decide ((100 : Int) < xs.length) = false := by simp; omega
      have hl : xs.length ≤ 100 := by omega
      obtain ⟨D, hD0, hD, eD⟩ := uint_rem1 dist xs.length (by omega) (by omega)
      obtain ⟨m, hm, em⟩ := uint_rem n 301 (by omega) (by omega)
      have ED := Lib.hid eD
      have EM := Lib.hid em
      clear eD em
      go_enter Try.func4, Try.ntmps4
      go_wp2_with fail
      refine (win_new (n := 65536) (by omega) (by omega)).mono ?_
      rintro e w1 ⟨p, r, rfl, hw1, hp, hr1, s1⟩
      have B1 : Below w.heap.size w w1 := s1.below (fun _ _ c => c)
      go_wp2_with fail
      go_loopg [9] xs.length (RepRel1 w p r xs)
      case atStart => exact ⟨0, Nat.zero_le _, by omega, rfl, hw1, B1⟩
      case round =>
        obtain ⟨k, hk, hg, rfl, hw, hb⟩ := hrel
        by_cases hlt : k < xs.length
        · obtain ⟨ad, rfl, hc⟩ := hr.at_ hlt
          have hc' := (hb.cell (World.block_lt_of_cell? w _ hc)).trans hc
          generalize hx : xs.getD k 0 = x at hc'
          have Hx := Lib.hid hx
          clear hx hc
          go_wp2_with fail
          refine (win_put x hw (by simp; omega)).mono ?_
          rintro e w2 ⟨rfl, hw2, s2⟩
          go_wp2_with fail
          go_roundg (gk - 1)
          case measure => omega
          case rel =>
            refine ⟨k + 1, by omega, by omega, by go_num, ?_, s2.below_of hb hb.size (fun i hi c => by rcases c with rfl | rfl <;> omega)⟩
            rw [take_next xs k 0 hlt, Hx.out]
            exact hw2
        · have hkl : k = xs.length := by omega
          subst hkl
          rw [List.take_length] at hw
          go_wp2_with fail
          rw [ED.out, show (301 : Int) = ((301 : Nat) : Int) from rfl, EM.out]
          have hl2 := ext_length xs D m
          have hx := ext_split xs D m
          refine (win_copy hw (d := D) (n := m) (by omega) (by omega) (by omega) (by omega)).mono ?_
          rintro e w2 ⟨v, rfl, hw2, ho2, s2⟩
          obtain ⟨A2, c2, rfl, hc2, hr2⟩ := ho2.rd
          have hl3 : ((ext xs D m).drop xs.length).length = m := by simp; omega
          rw [hl3] at hc2
          have hb2 : Below w.heap.size w w2 := s2.below_of hb hb.size (fun i hi c => by rcases c with rfl | rfl <;> omega)
          have HL2 := Lib.hid hl2
          have HL3 := Lib.hid hl3
          rw [hl3]
          clear hl2 hl3 hx
          have e1 : ((m : Int) != m) = false := by simp
          go_wp2_with fail
          have HR2 := Lib.hid hr2
          have HRX := Lib.hid hr
          clear hr2 hr hc2
          go_loopg [14] m (RepRel2 w2 m)
          case atStart => exact ⟨0, Nat.zero_le _, by omega, rfl, Same.refl _⟩
          case round =>
            obtain ⟨k, hk, hg2, rfl, sr⟩ := hrel
            have hbr : Below w.heap.size w wr := sr.below_of hb2 hb2.size (fun i hi c => c)
            by_cases hlt2 : k < m
            · have hmod := Nat.mod_lt k (show 0 < D by omega)
              have hrep := ext_repeats xs D m (by omega) (by omega) k hlt2
              have hxl : xs.length - D + k % D < xs.length := by omega
              have hy : ((ext xs D m).drop xs.length)[k]? = some (xs.getD (xs.length - D + k % D) 0) := by
                rw [List.getElem?_drop, hrep, List.getD_eq_getElem?_getD, List.getElem?_eq_getElem hxl]; rfl
              obtain ⟨ad2, rfl, hc2⟩ := HR2.out k _ hy
              obtain ⟨ad, rfl, hc⟩ := HRX.out.at_ hxl
              have hc2' := sr.cell hc2 (fun c => c)
              have hc' := (hbr.cell (World.block_lt_of_cell? w _ hc)).trans hc
              generalize xs.getD (xs.length - D + k % D) 0 = y at hc2' hc'
              have e2 : (y != y) = false := by simp
              clear hc2 hc hy hrep
              go_wp2_with fail
              go_region
              all_goals go_wp2
              go_roundg (gk - 1)
              case measure => omega
              case rel => exact ⟨k + 1, by omega, by omega, by go_num, sr.drew⟩
            · have hkm : k = m := by omega
              subst hkm
              have hwr := hw2.kept sr (fun c => c) (fun c => c)
              have e3 : (((ext xs D k).length : Int) == (xs.length : Int) + k) = true := by rw [beq_iff_eq]; have := HL2.out; omega
              go_wp2_with fail
              refine (ht _).out.mono ?_
              rintro e w3 ⟨rfl, hb3⟩
              have hw3 := hwr.kept (Same.of_below (S := fun _ => False) hb3) (fun c => c) (fun c => c)
              go_wp2_with fail
              refine (win_total hw3).mono ?_
              rintro e w4 ⟨rfl, rfl⟩
              go_wp2_with fail
              go_ret
              exact ⟨rfl, hbr.trans (hb3.mono hbr.size)⟩
end Go.Proofs.Ytbcngpmgimackaa
