import Derived.Test.YtbcngpmgimackaaWin
import Derived.Test.YtbcngpmgimackaaWinT
import Derived.Deep.RegionWith
namespace Go.Proofs.Ytbcngpmgimackaa
open Go.RowKit
attribute [local go_sem] max2i min2i max2t min2t

structure ForgetRel (w : World) (p r n : Nat) (xs : List Int) (g : Nat) (v8 : Value) (wr : World) : Prop where mk ::
  out : ∃ k, k ≤ xs.length ∧ xs.length ≤ g + k ∧ v8 = .int .i64 (k : Int) ∧ Win wr p r n (xs.take k) ∧ Below w.heap.size w wr

theorem ext_zero (all : List Int) (d : Nat) : ext all d 0 = all := rfl

set_option maxHeartbeats 800000 in
theorem windowForgets_walk (size : Int) (A : Option Addr) (c : Nat) (xs : List Int) (w : World) (_ : (Lit.int .i64 size).wf = true) (h00 : RowOf w .u8 A c xs) :
    Calls Try.prog 5 #[.int .i64 size, .slice A xs.length c] w fun e w' => e = .returned (.bool true) ∧ Below w.heap.size w w' := by
  have hr := h00.rd
  clear h00
  have ht := fun W => Lib.hid (told10 W)
  by_cases h1 : 300 < xs.length
  · have h1' : decide ((300 : Int) < xs.length) = true := by simp; omega
    go_enter Try.func5, Try.ntmps5
    go_wp2_with (go_at_call 11; refine (ht _).out.mono ?_; rintro e w' ⟨rfl, hb⟩)
    go_ret
    exact ⟨rfl, hb⟩
  · have h1' : decide ((300 : Int) < xs.length) = false := by simp; omega
    have hl : xs.length ≤ 300 := by omega
    obtain ⟨n, hn0, hn, en⟩ := uint_rem1 size 64 (by omega) (by omega)
    have EN := Lib.hid en
    clear en
    go_enter Try.func5, Try.ntmps5
    go_wp2_with fail
    rw [show (64 : Int) = ((64 : Nat) : Int) from rfl, EN.out]
    refine (win_new (n := n) hn0 (by omega)).mono ?_
    rintro e w1 ⟨p, r, rfl, hw1, hp, hr1, s1⟩
    have B1 : Below w.heap.size w w1 := s1.below (fun _ _ c => c)
    go_wp2_with fail
    go_loopg [8] xs.length (ForgetRel w p r n xs)
    case atStart => exact ⟨0, Nat.zero_le _, by omega, rfl, hw1, B1⟩
    case round =>
      obtain ⟨k, hk, hg, rfl, hw, hb⟩ := hrel
      clear s1 B1 hw1
      by_cases hlt : k < xs.length
      · obtain ⟨ad, rfl, hc⟩ := hr.at_ hlt
        have hc' := (hb.cell (World.block_lt_of_cell? w _ hc)).trans hc
        generalize hx : xs.getD k 0 = x at hc'
        have Hx := Lib.hid hx
        clear hx hc
        go_wp2_with fail
        refine (win_put x hw (by simp; omega)).mono ?_
        rintro e w2 ⟨rfl, hw2, s2⟩
        have hb2 := s2.below_of hb hb.size (fun i hi c => by rcases c with rfl | rfl <;> omega)
        have e2 : xs.take k ++ [x] = xs.take (k + 1) := by rw [take_next xs k 0 hlt, Hx.out]
        rw [e2] at hw2
        clear hw hb s2 e2 hc'
        go_wp2_with fail
        have hlen : (xs.take (k + 1)).length = k + 1 := by rw [List.length_take]; omega
        rw [show min ((k : Int) + 1) (n : Int) = ((min (k + 1) n : Nat) : Int) from by omega]
        generalize hM : min (k + 1) n = M
        refine (win_form hw2 (by omega) (by omega) (by rw [hlen]; omega)).mono ?_
        rintro e w3 ⟨rfl, s3⟩
        have hw3 := hw2.kept s3 (fun c => c) (fun c => c)
        have hb3 := s3.below_of hb2 hb2.size (fun i hi c => c)
        clear hw2 hb2 s3
        have HM := Lib.hid hM
        have HL := Lib.hid hlen
        clear hM hlen
        go_wp2_with fail
        refine (win_copy (d := M) (n := 0) hw3 (by omega) (by have := HM.out; omega) (by have := HM.out; have := HL.out; omega) (by have := HL.out; omega)).mono ?_
        rintro e w4 ⟨v, rfl, hw4, ho4, s4⟩
        have hb4 := s4.below_of hb3 hb3.size (fun i hi c => by rcases c with rfl | rfl <;> omega)
        rw [ext_zero] at hw4
        obtain ⟨A4, c4, rfl, _, _⟩ := ho4.rd
        rw [ext_zero, List.drop_length]
        clear hw3 hb3 s4 ho4
        go_wp2_with fail
        go_roundg (gk - 1)
        case measure => omega
        case rel => exact ⟨k + 1, by omega, by omega, by go_num, hw4, hb4⟩
      · have hkl : k = xs.length := by omega
        subst hkl
        rw [List.take_length] at hw
        by_cases h0 : xs.length = 0
        · have h0' : ((xs.length : Int) == 0) = true := by simp [h0]
          go_wp2_with (go_at_call 11; refine (ht _).out.mono ?_; rintro e w' ⟨rfl, hb'⟩)
          go_ret
          exact ⟨rfl, hb.trans (hb'.mono hb.size)⟩
        · have h0' : ((xs.length : Int) == 0) = false := by simp; intro e; simp [e] at h0
          go_wp2_with fail
          rw [show min (xs.length : Int) (n : Int) = ((min xs.length n : Nat) : Int) from by omega]
          generalize hM : min xs.length n = M
          refine (win_copy (d := M) (n := 1) hw (by omega) (by omega) (by omega) (by omega)).mono ?_
          rintro e w4 ⟨v, rfl, hw4, ho4, s4⟩
          have hb4 := s4.below_of hb hb.size (fun i hi c => by rcases c with rfl | rfl <;> omega)
          have hl4 : ((ext xs M 1).drop xs.length).length = 1 := by rw [List.length_drop, ext_length]; omega
          obtain ⟨A4, c4, rfl, hc4, hr4⟩ := ho4.rd
          rw [hl4]
          have hx : xs.length - M < xs.length := by omega
          have hy : ((ext xs M 1).drop xs.length)[0]? = some (xs.getD (xs.length - M) 0) := by
            rw [List.getElem?_drop, ext_repeats xs M 1 (by omega) (by omega) 0 (by omega), List.getD_eq_getElem?_getD]
            simp [List.getElem?_eq_getElem hx]
          obtain ⟨ad4, rfl, hc5⟩ := hr4 0 _ hy
          obtain ⟨ad, rfl, hc⟩ := hr.at_ hx
          have hc' := (hb4.cell (World.block_lt_of_cell? w _ hc)).trans hc
          have hMl : M ≤ xs.length := by omega
          have hM1 : 1 ≤ M := by omega
          have HM := Lib.hid hM
          clear hM hc hy hr4 hl4 hw hb hw4 ho4 s4
          rw [Addr.add_zero'] at hc5
          go_wp2_with fail
          have e9 : (xs.getD (xs.length - M) 0 == xs.getD (xs.length - M) 0) = true := by simp
          generalize xs.getD (xs.length - M) 0 = y at hc5 hc' e9
          have k5 : ∀ d : Ext (fun _ => False) w4, d.world.cell? ad4 = some (.int .u8 y) := fun d => d.same.cell hc5 (fun c => c)
          have k6 : ∀ d : Ext (fun _ => False) w4, d.world.cell? (ad.add (xs.length - M)) = some (.int .u8 y) := fun d => d.same.cell hc' (fun c => c)
          clear hc5 hc'
          refine wp_region_ext (fun _ => False) (by kernel_rfl) (by kernel_rfl) ?_
          repeat (go_big_quiet_step (exact ext_call_below (v := .bool true) (ht _).out))
          refine wpQuiet_nil ?_
          rintro _ ⟨d, rfl⟩
          go_wp2
          go_ret
          exact ⟨rfl, d.same.below_of hb4 hb4.size (fun _ _ c => c)⟩
end Go.Proofs.Ytbcngpmgimackaa
