import Derived.Test.YtbcngpmgimackaaArgs
import Derived.Test.YtbcngpmgimackaaWin
import Derived.Test.YtbcngpmgimackaaWinT
namespace Go.Proofs.Ytbcngpmgimackaa
open Go.RowKit
attribute [local go_sem] max2i min2i max2t min2t

structure LikeRel (w : World) (p r p' r' n : Nat) (L : Nat) (g : Nat) (v10 : Value) (wr : World) : Prop where mk ::
  out : ∃ k all, k ≤ L ∧ k ≤ 60 ∧ 60 ≤ g + k ∧ v10 = .int .i64 (k : Int) ∧ Win wr p r n all ∧ p < wr.heap.size ∧ r < wr.heap.size ∧ p' < wr.heap.size ∧ r' < wr.heap.size ∧ Win wr p' r' 65536 all ∧ all.length ≤ k * 64 ∧ Below w.heap.size w wr

set_option maxHeartbeats 1600000 in
set_option maxRecDepth 100000 in
theorem windowLike_walk (size : Int) (A : Option Addr) (c : Nat) (l : List S30) (w : World) (_ : (Lit.int .i64 size).wf = true) (h00 : RowS w 5 A c l S30.enc (S30.ok w)) :
    Calls Try.prog 6 #[.int .i64 size, .slice A l.length c] w fun e w' => e = .returned (.bool true) ∧ Below w.heap.size w w' := by
  have ht := fun W => Lib.hid (told10 W)
  have hm := h00.most
  have hcap := h00.cap
  obtain ⟨n, hn0, hn, en⟩ := uint_rem1 size 300 (by omega) (by omega)
  have EN := Lib.hid en
  clear en
  go_enter Try.func6, Try.ntmps6
  go_wp2_with fail
  rw [show (300 : Int) = ((300 : Nat) : Int) from rfl, EN.out]
  refine (win_new (n := n) hn0 (by omega)).mono ?_
  rintro e w1 ⟨p, r, rfl, hw1, hp, hr, s1⟩
  have B1 : Below w.heap.size w w1 := s1.below (fun _ _ c => c)
  go_wp2_with fail
  refine (win_new (n := 65536) (by omega) (by omega)).mono ?_
  rintro e w2 ⟨p', r', rfl, hw2, hp', hr', s2⟩
  have B2 : Below w.heap.size w w2 := s2.below_of B1 B1.size (fun _ _ c => c)
  have hd : w1.heap.size ≤ p' ∧ w1.heap.size ≤ r' ∧ p < w1.heap.size ∧ r < w1.heap.size := ⟨hp', hr', by obtain ⟨_, x⟩ := hw1; exact x.pb.lt, by obtain ⟨_, x⟩ := hw1; exact x.rb.lt⟩
  have hw1' := hw1.kept s2 (fun c => c) (fun c => c)
  have hsz := B1.size
  have s2z := s2.size
  clear s1 B1 s2 hw1
  go_wp2_with fail
  go_loopg [10] 60 (LikeRel w p r p' r' n l.length)
  case atStart => exact ⟨0, [], by omega, by omega, by omega, rfl, hw1', by have := s2z; omega, by have := s2z; omega, by obtain ⟨_, x⟩ := hw2; exact x.pb.lt, by obtain ⟨_, x⟩ := hw2; exact x.rb.lt, hw2, by simp, B2⟩
  case round =>
    clear hw1' hw2 B2
    obtain ⟨k, all, hk, hk6, hg, rfl, hw1, hpl, hrl, hpl', hrl', hw2, hall, hb⟩ := hrel
    by_cases hlt : k < l.length
    · by_cases h60 : k < 60
      · obtain ⟨x, hx⟩ : ∃ x, l[k]? = some x := ⟨_, List.getElem?_eq_getElem hlt⟩
        obtain ⟨b, off, rfl, c0, c1, c2, c3, c4⟩ := S30.at_ h00 hb hx
        clear hx
        by_cases hkind : (wrap64 (x.f0.tmod 3 + 3)).tmod 3 < 2
        · go_wp2_with fail
          have f3 := Blk.new wr 30 #[.int .i64 x.f0, .int .i64 x.f1, .int .i64 x.f2, .int .u8 x.f3, .bool x.f4]
          have g1 := hw1.kept ((Same.refl (S := fun _ => False) wr).alloc (.cells #[.int .i64 x.f0, .int .i64 x.f1, .int .i64 x.f2, .int .u8 x.f3, .bool x.f4] 30)) (fun c => c) (fun c => c)
          have g2 := hw2.kept ((Same.refl (S := fun _ => False) wr).alloc (.cells #[.int .i64 x.f0, .int .i64 x.f1, .int .i64 x.f2, .int .u8 x.f3, .bool x.f4] 30)) (fun c => c) (fun c => c)
          have gb := hb.alloc hb.size (.cells #[.int .i64 x.f0, .int .i64 x.f1, .int .i64 x.f2, .int .u8 x.f3, .bool x.f4] 30)
          have gs : wr.heap.size < (wr.alloc (.cells #[.int .i64 x.f0, .int .i64 x.f1, .int .i64 x.f2, .int .u8 x.f3, .bool x.f4] 30)).heap.size := by simp
          have hws := hb.size
          clear hw1 hw2 hb c0 c1 c2 c3 c4
          generalize wr.alloc (.cells #[.int .i64 x.f0, .int .i64 x.f1, .int .i64 x.f2, .int .u8 x.f3, .bool x.f4] 30) = W0 at *
          generalize wr.heap.size = o at *
          refine (win_put x.f3 g1 (by omega)).mono ?_
          rintro e w3 ⟨rfl, g3, s3⟩
          have f4 := (f3.same s3 (by rintro (rfl | rfl) <;> omega)).cell 3
          have g4 := g2.kept s3 (by rintro (rfl | rfl) <;> omega) (by rintro (rfl | rfl) <;> omega)
          have hb3 := s3.below_of gb gb.size (fun i hi c => by rcases c with rfl | rfl <;> omega)
          have hz3 := s3.size
          clear g1 g2 gb s3
          go_wp2_with fail
          refine (win_put x.f3 g4 (by omega)).mono ?_
          rintro e w4 ⟨rfl, g5, s4⟩
          have g6 := g3.kept s4 (by rintro (rfl | rfl) <;> omega) (by rintro (rfl | rfl) <;> omega)
          have hb4 := s4.below_of hb3 hb3.size (fun i hi c => by rcases c with rfl | rfl <;> omega)
          have hz4 := s4.size
          go_wp2_with fail
          go_roundg (gk - 1)
          case measure => omega
          case rel => exact ⟨k + 1, all ++ [x.f3], by omega, by omega, by omega, by go_num, g6, by omega, by omega, by omega, by omega, g5, by simp; omega, hb4⟩
        · have hk2 : 2 ≤ (wrap64 (x.f0.tmod 3 + 3)).tmod 3 := by omega
          go_wp2_with fail
          have f3 := Blk.new wr 30 #[.int .i64 x.f0, .int .i64 x.f1, .int .i64 x.f2, .int .u8 x.f3, .bool x.f4]
          have g1 := hw1.kept ((Same.refl (S := fun _ => False) wr).alloc (.cells #[.int .i64 x.f0, .int .i64 x.f1, .int .i64 x.f2, .int .u8 x.f3, .bool x.f4] 30)) (fun c => c) (fun c => c)
          have g2 := hw2.kept ((Same.refl (S := fun _ => False) wr).alloc (.cells #[.int .i64 x.f0, .int .i64 x.f1, .int .i64 x.f2, .int .u8 x.f3, .bool x.f4] 30)) (fun c => c) (fun c => c)
          have gb := hb.alloc hb.size (.cells #[.int .i64 x.f0, .int .i64 x.f1, .int .i64 x.f2, .int .u8 x.f3, .bool x.f4] 30)
          have gs : wr.heap.size < (wr.alloc (.cells #[.int .i64 x.f0, .int .i64 x.f1, .int .i64 x.f2, .int .u8 x.f3, .bool x.f4] 30)).heap.size := by simp
          have hws := hb.size
          clear hw1 hw2 hb c0 c1 c2 c3 c4
          generalize wr.alloc (.cells #[.int .i64 x.f0, .int .i64 x.f1, .int .i64 x.f2, .int .u8 x.f3, .bool x.f4] 30) = W0 at *
          generalize wr.heap.size = o at *
          refine (win_have g1).mono ?_
          rintro e w3 ⟨rfl, rfl⟩
          have hln := g1.lo
          by_cases hem : all.length = 0
          · have hm0 : (((min all.length n : Nat) : Int) == 0) = true := by rw [beq_iff_eq]; omega
            go_wp2_with fail
            go_roundg (gk - 1)
            case measure => omega
            case rel => exact ⟨k + 1, all, by omega, by omega, by omega, by go_num, g1.drew, by simp; omega, by simp; omega, by simp; omega, by simp; omega, g2.drew, by omega, gb.drew⟩
          · have hm0 : (((min all.length n : Nat) : Int) == 0) = false := by rw [beq_eq_false_iff_ne]; omega
            obtain ⟨D, hD0, hD, eD⟩ := uint_rem1 x.f1 (min all.length n) (by omega) (by omega)
            have ED := Lib.hid eD
            clear eD
            obtain ⟨m, hm6, em⟩ := nat_of_mod x.f2 64 (by omega)
            have EM := Lib.hid ((and_63 x.f2).trans em)
            clear em
            go_wp2_with fail
            have k1 : ∀ d : Ext (fun _ => False) W0.drew, d.world.cell? ⟨o, 1, none⟩ = some (.int .i64 x.f1) := fun d => d.same.cell (f3.drew.cell 1) (fun c => c)
            have kh : ∀ d : Ext (fun _ => False) W0.drew, Calls Try.prog 14 #[.pointer (some ⟨p, 0, none⟩)] d.world fun e u => e = .returned (.int .i64 ((min all.length n : Nat) : Int)) ∧ ∃ d' : Ext (fun _ => False) W0.drew, u = d'.world :=
              fun d => ext_call ((win_have (g1.drew.kept d.same (fun c => c) (fun c => c))).mono fun e w' ⟨he, hw⟩ => ⟨he, by rw [hw]; exact (Same.refl _).drew⟩)
            have KH := fun d => Lib.hid (kh d)
            clear kh
            have hMle : min all.length n ≤ 300 := by omega
            have hMpos : 1 ≤ min all.length n := by omega
            generalize hM : min all.length n = M at *
            have HM := Lib.hid hM
            clear hM
            refine wp_region_ext (fun _ => False) (by kernel_rfl) (by kernel_rfl) ?_
            repeat (go_big_quiet_step (exact (KH _).out))
            refine wpQuiet_nil ?_
            rintro _ ⟨d, rfl⟩
            clear k1 KH
            have f5 := f3.drew.same d.same (fun c => c)
            have f6 := f5.cell 2
            have g3 := g1.drew.kept d.same (fun c => c) (fun c => c)
            have g4 := g2.drew.kept d.same (fun c => c) (fun c => c)
            have hb3 := d.same.below_of gb.drew (by simpa using gb.size) (fun _ _ c => c)
            have hz3 := d.same.size
            rw [World.size_drew] at hz3
            clear g1 g2 gb f3
            generalize d.world = w3 at *
            clear d
            go_wp2_with fail
            rw [ED.out, EM.out]
            have hD2 : D ≤ min all.length n := by have := HM.out; omega
            refine (win_copy (d := D) (n := m) g3 (by omega) hD0 hD2 (by omega)).mono ?_
            rintro e w4 ⟨v4, rfl, g5, o4, s4⟩
            have f7 := f5.same s4 (by rintro (rfl | rfl) <;> omega)
            have f8 := f7.cell 2
            have g6 := g4.kept s4 (by rintro (rfl | rfl) <;> omega) (by rintro (rfl | rfl) <;> omega)
            have hb4 := s4.below_of hb3 hb3.size (fun i hi c => by rcases c with rfl | rfl <;> omega)
            have hz4 := s4.size
            clear g3 g4 hb3 s4 f5 f6
            go_wp2_with fail
            rw [EM.out]
            refine (win_copy (d := D) (n := m) g6 (by omega) hD0 (by omega) (by omega)).mono ?_
            rintro e w5 ⟨v5, rfl, g7, o5, s5⟩
            have g8 := g5.kept s5 (by rintro (rfl | rfl) <;> omega) (by rintro (rfl | rfl) <;> omega)
            have hb5 := s5.below_of hb4 hb4.size (fun i hi c => by rcases c with rfl | rfl <;> omega)
            have o6 := o4.kept s5 (fun g hg c => by have := o4.base_le g hg; rcases c with rfl | rfl <;> omega)
            have hz5 := s5.size
            have t4 := o6.to_string (P := Try.prog) Try.underlying28 Try.underlying5 Try.underlying9
            have t5 := o5.to_string (P := Try.prog) Try.underlying28 Try.underlying5 Try.underlying9
            generalize strOfNums ((ext all D m).drop all.length) = str at *
            have hxl := ext_length all D m
            have G8 := Lib.hid g8
            have G7 := Lib.hid g7
            have hnl := Lib.hid hxl
            clear g5 g6 g7 g8 hb4 s5 f7 f8 o4 o5 o6 hxl
            go_wp2_with (first | (go_at_call 15; refine (win_total G8.out).mono ?_; rintro e w' ⟨rfl, rfl⟩) | (go_at_call 15; refine (win_total G7.out).mono ?_; rintro e w' ⟨rfl, rfl⟩))
            go_roundg (gk - 1)
            case measure => omega
            case rel => exact ⟨k + 1, ext all D m, by omega, by omega, by omega, by go_num, G8.out, by omega, by omega, by omega, by omega, G7.out, by have := hnl.out; omega, hb5⟩
      · have hx60 : ¬ (k : Int) < 60 := by omega
        have e9 : (((min all.length n : Nat) : Int) == min (n : Int) (all.length : Int)) = true := by rw [beq_iff_eq]; omega
        go_wp2_with fail
        refine (ht _).out.mono ?_
        rintro e w3 ⟨rfl, hb3⟩
        have g3 := hw1.kept (Same.of_below (S := fun _ => False) hb3) (fun c => c) (fun c => c)
        go_wp2_with fail
        refine (win_have g3).mono ?_
        rintro e w4 ⟨rfl, rfl⟩
        go_wp2_with fail
        refine (win_total g3.drew).mono ?_
        rintro e w4 ⟨rfl, rfl⟩
        go_wp2_with fail
        go_ret
        exact ⟨rfl, (hb.trans (hb3.mono hb.size)).drew⟩
    · have hxl : ¬ (k : Int) < l.length := by omega
      have e9 : (((min all.length n : Nat) : Int) == min (n : Int) (all.length : Int)) = true := by rw [beq_iff_eq]; omega
      go_wp2_with fail
      refine (ht _).out.mono ?_
      rintro e w3 ⟨rfl, hb3⟩
      have g3 := hw1.kept (Same.of_below (S := fun _ => False) hb3) (fun c => c) (fun c => c)
      go_wp2_with fail
      refine (win_have g3).mono ?_
      rintro e w4 ⟨rfl, rfl⟩
      go_wp2_with fail
      refine (win_total g3.drew).mono ?_
      rintro e w4 ⟨rfl, rfl⟩
      go_wp2_with fail
      go_ret
      exact ⟨rfl, (hb.trans (hb3.mono hb.size)).drew⟩
end Go.Proofs.Ytbcngpmgimackaa
