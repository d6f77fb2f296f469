import Derived.Test.YtlmmbiabjpgilaaBitT
import Derived.Test.YtlmmbiabjpgilaaArgs
namespace Go.Proofs.Ytlmmbiabjpgilaa
set_option linter.unusedVariables false
set_option linter.unusedSimpArgs false
open Go.RowKit
attribute [local go_sem] max2i min2i max2t min2t

theorem pow_bit (m n : Nat) : (2 : Int) ^ m / 2 ^ n % 2 = if m = n then 1 else 0 := by
  have hp : (0 : Int) < 2 ^ n := Int.pow_pos (by decide)
  by_cases h : m < n
  · rw [if_neg (by omega), Int.ediv_eq_zero_of_lt (Int.le_of_lt (Int.pow_pos (by decide))) (by
      have : 2 ^ m < 2 ^ n := Nat.pow_lt_pow_right (by decide) h
      exact_mod_cast this)]; rfl
  · obtain ⟨d, rfl⟩ : ∃ d, m = n + d := ⟨m - n, by omega⟩
    rw [Int.pow_add, Int.mul_ediv_cancel_left _ (by omega)]
    match d with
    | 0 => simp
    | d + 1 => rw [if_neg (by omega), Int.pow_succ]; omega
theorem count_bitT (m : Nat) : ∀ n, (bitT (2 ^ m) n).count 1 = if m < n then 1 else 0
  | 0 => by simp [bitT]
  | n + 1 => by
    rw [bitT, List.count_append, count_bitT m n, pow_bit]
    by_cases h : m < n
    · rw [if_pos h, if_neg (by omega), if_pos (by omega)]; rfl
    · rw [if_neg h]
      by_cases e : m = n
      · rw [if_pos e, if_pos (by omega)]; rfl
      · rw [if_neg e, if_neg (by omega)]; rfl
theorem count_align (t : List Int) : (alignT t).count 1 = t.count 1 := by
  unfold alignT
  rw [List.count_append, List.count_replicate]
  simp

theorem shl_val {D : Nat} (h1 : 1 ≤ D) (h2 : D ≤ 32) : (2 : Int) ^ min (IntKind.u64.wrap (wrap64 ((D : Int) - 1))).toNat 32 % 4294967296 = 2 ^ (D - 1) := by
  rw [IntWalk.wrap64_in _ (by omega), IntKind.wrap_u64, show ((D : Int) - 1) % 18446744073709551616 = ((D - 1 : Nat) : Int) from by omega, Int.toNat_natCast, Nat.min_eq_left (by omega)]
  have : 2 ^ (D - 1) ≤ 2 ^ 31 := Nat.pow_le_pow_right (by decide) (by omega)
  rw [show ((2 : Int) ^ (D - 1)) = ((2 ^ (D - 1) : Nat) : Int) from by rw [Int.natCast_pow]; rfl]
  generalize 2 ^ (D - 1) = y at *
  omega
theorem pow_small {D : Nat} (h2 : D ≤ 32) : (0 : Int) ≤ 2 ^ (D - 1) ∧ (2 : Int) ^ (D - 1) < 4294967296 := by
  have : 2 ^ (D - 1) ≤ 2 ^ 31 := Nat.pow_le_pow_right (by decide) (by omega)
  rw [show ((2 : Int) ^ (D - 1)) = ((2 ^ (D - 1) : Nat) : Int) from by rw [Int.natCast_pow]; rfl]
  generalize 2 ^ (D - 1) = y at *
  omega
structure BlRel (w : World) (l : List Int) (m : Nat) (g : Nat) (v4 v5 : Value) (wr : World) : Prop where mk ::
  out_ : ∃ (i : Nat) (t : List Int) (v' : Value), i ≤ m ∧ m ≤ g + i ∧ v5 = .int .i64 (i : Int) ∧ v4 = .int .i64 (t.length : Int) ∧ t.count 1 = i ∧ t.length ≤ 40 * i ∧ WrAt wr w.heap.size w.heap.size v' t ∧ Below w.heap.size w wr
structure OnRel (wq : World) (t : List Int) (g : Nat) (v8 v9 : Value) (wr : World) : Prop where mk ::
  out_ : ∃ (k : Nat), k ≤ t.length ∧ t.length ≤ g + k ∧ v8 = .int .i64 ((t.take k).count 1 : Nat) ∧ v9 = .int .i64 (k : Int) ∧ wr = wq
set_option maxHeartbeats 1600000 in
set_option maxRecDepth 100000 in
theorem bitsLens_walk (A : Option Addr) (c : Nat) (l : List Int) (w : World) (h00 : RowOf w .i64 A c l) :
    Calls Try.prog 4 #[.slice A l.length c] w fun e w' => e = .returned (.bool true) ∧ Below w.heap.size w w' := by
  have ht := fun W => Lib.hid (told5 W)
  have hm := h00.most
  have hcap := h00.cap
  obtain ⟨m, hmm⟩ : ∃ m, m = min l.length 60 := ⟨_, rfl⟩
  have HM := Lib.hid hmm
  clear hmm
  go_enter Try.func4, Try.ntmps4
  go_wp2_with fail
  refine wr_new.mono ?_
  rintro e w1 ⟨rfl, h1, B1⟩
  go_wp2_with fail
  go_loopg [4, 5] m (BlRel w l m)
  case atStart => exact ⟨0, [], _, by omega, by omega, rfl, rfl, rfl, by simp, h1, B1⟩
  case round =>
    clear h1 B1
    obtain ⟨i, t, v', hi, hg, rfl, rfl, hc1, htl, ha, hb⟩ := hrel
    by_cases hlt : i < m
    · have hil : i < l.length := by have := HM.out; omega
      have hi60 : i < 60 := by have := HM.out; omega
      have e1 : decide ((i : Int) < l.length) = true := by simp; omega
      have e2 : decide (i < l.length) = true := by simp; omega
      have e3 : decide ((i : Int) < 60) = true := by simp; omega
      obtain ⟨x, hx⟩ : ∃ x, l[i]? = some x := ⟨_, List.getElem?_eq_getElem hil⟩
      obtain ⟨ad, rfl, hc⟩ := h00.rd i x hx
      have hc := (hb.cell (World.block_lt_of_cell? w _ hc)).trans hc
      obtain ⟨D, hD0, hD, eD⟩ := uint_rem1 x 32 (by omega) (by omega)
      rw [show ((32 : Nat) : Int) = 32 from rfl] at eD
      have ED := Lib.hid eD
      clear eD hx
      have HSH := Lib.hid (shl_val hD0 hD)
      go_wp2_with fail
      rw [ED.out, HSH.out]
      obtain ⟨hp0, hp1⟩ := pow_small hD
      have hsz := hb.size
      refine (wr_put (2 ^ (D - 1)) D ha hsz hp0 hp1 (by omega)).mono ?_
      rintro e w2 ⟨rfl, v2, h2⟩
      rw [putT_ok _ hD0 (by omega)] at h2
      have hpos : Below w.heap.size w w2 := h2.below hb hsz (Nat.le_refl _) (fun g hg => ha.row.base_le g hg)
      have hcn : (t ++ bitT (2 ^ (D - 1)) D).count 1 = i + 1 := by rw [List.count_append, count_bitT, if_pos (by omega), hc1]
      have hln : ((t ++ bitT (2 ^ (D - 1)) D).length : Nat) = t.length + D := by rw [List.length_append, bitT_length]
      have h2a := h2.at_
      clear h2 ha hb hc ED HSH hp0 hp1 hc1 hsz
      generalize t ++ bitT (2 ^ (D - 1)) D = t2 at *
      obtain ⟨N, hN⟩ : ∃ N, N = t2.length := ⟨_, rfl⟩
      have hNe : ((t.length : Int) + D) = (N : Int) := by omega
      have hNb : N ≤ 40 * i + 32 := by omega
      have HNE := Lib.hid hNe
      have HN := Lib.hid hN
      clear hNe hN hln
      by_cases h5 : i % 5 = 4
      · have e4 : ((i : Int) % 5 == 4) = true := by rw [beq_iff_eq]; omega
        go_wp2_with fail
        rw [HNE.out]
        refine (wr_align h2a (by rw [← HN.out]; omega)).mono ?_
        rintro e w3 ⟨rfl, h3⟩
        have hb3 := h3.below hpos hpos.size (Nat.le_refl _) (fun g hg => h2a.row.base_le g hg)
        go_wp2_with fail
        refine (wr_align h3.at_ (by rw [alignT_length, ← HN.out]; omega)).mono ?_
        rintro e w4 ⟨rfl, h4⟩
        have hb4 := h4.below hb3 hb3.size (Nat.le_refl _) (fun g hg => h3.at_.row.base_le g hg)
        have h4a := h4.at_
        have hl3 : (alignT t2).length = (N + 7) / 8 * 8 := by rw [alignT_length, HN.out]
        rw [alignT_of (t := alignT t2) (by rw [hl3]; omega)] at h4a
        have hc4 : (alignT t2).count 1 = i + 1 := by rw [count_align, hcn]
        clear h3 h4 hb3 h2a hpos
        generalize alignT t2 = t4 at *
        obtain ⟨M, hM⟩ : ∃ M, M = (N + 7) / 8 * 8 := ⟨_, rfl⟩
        have hl4 : t4.length = M := by omega
        have hMe : ((N : Int) + 7) / 8 * 8 = (M : Int) := by omega
        have hMb : M ≤ 40 * (i + 1) := by omega
        have HL := Lib.hid hl4
        have HMM := Lib.hid hM
        clear hl3 hl4 hM
        go_wp2_with fail
        have en : ((M : Int) != M) = false := by simp
        refine (wr_len h4a).mono ?_
        rintro e w6 ⟨rfl, rfl⟩
        rw [HL.out]
        go_wp2_with fail
        refine (wr_bytes h4a).mono ?_
        rintro e w6 ⟨A6, c6, rfl, _, _, B6, _⟩
        have h6 := (h4a).below B6
        have hb6 := (hb4).trans (B6.mono (hb4).size)
        have hpl := packB_length t4
        rw [HL.out] at hpl
        generalize (packB t4).length = K at *
        have ek : ((K : Int) != ((M : Int) + 7) / 8) = false := by rw [bne_eq_false_iff_eq]; omega
        clear hpl
        go_wp2_with fail
        go_roundg (gk - 1)
        case measure => omega
        case rel => exact ⟨i + 1, t4, v2, by omega, by omega, by go_num, by rw [HL.out], hc4, by rw [HL.out]; exact hMb, h6, hb6⟩
      · have e4 : ((i : Int) % 5 == 4) = false := by rw [beq_eq_false_iff_ne]; omega
        have en : ((N : Int) != N) = false := by simp
        go_wp2_with fail
        rw [HNE.out]
        refine (wr_len h2a).mono ?_
        rintro e w6 ⟨rfl, rfl⟩
        rw [HN.out.symm]
        go_wp2_with fail
        refine (wr_bytes h2a).mono ?_
        rintro e w6 ⟨A6, c6, rfl, _, _, B6, _⟩
        have h6 := (h2a).below B6
        have hb6 := (hpos).trans (B6.mono (hpos).size)
        have hpl := packB_length t2
        rw [HN.out.symm] at hpl
        generalize (packB t2).length = K at *
        have ek : ((K : Int) != ((N : Int) + 7) / 8) = false := by rw [bne_eq_false_iff_eq]; omega
        clear hpl
        go_wp2_with fail
        go_roundg (gk - 1)
        case measure => omega
        case rel => exact ⟨i + 1, t2, v2, by omega, by omega, by go_num, by rw [HN.out], hcn, by rw [← HN.out]; omega, h6, hb6⟩
    · have him : i = m := by omega
      have hi60 : i ≤ 60 := by have := HM.out; omega
      by_cases h2 : i < l.length
      · have e1 : decide ((i : Int) < l.length) = true := by simp; omega
        have e2 : decide (i < l.length) = true := by simp; omega
        obtain rfl : i = 60 := by have := HM.out; omega
        go_wp2_with fail
        refine (wr_bytes ha).mono ?_
        rintro e w2 ⟨A2, c2, rfl, _, hr2, B2, _⟩
        go_wp2_with fail
        refine (ref_of A2 c2 _ w2 hr2 (by rw [packB_length]; omega)).mono ?_
        rintro e w3 ⟨rfl, B3⟩
        rw [ofB_packB ha.bin]
        have hB := (hb.trans (B2.mono hb.size)).trans (B3.mono (hb.trans (B2.mono hb.size)).size)
        have hbn := bin_align ha.bin
        have hcl := count_align t
        have hln : (alignT t).length ≤ 2500 := by rw [alignT_length]; omega
        rw [hc1] at hcl
        clear hr2 B2 B3 ha hb htl hc1
        generalize alignT t = s at *
        have hsz := txt_size s
        have hget := fun i z (hz : z < 2) (h : s[i]? = some ((z : Nat) : Int)) => txt_get s hz h
        have HG := Lib.hid hget
        clear hget
        generalize txt s = S at *
        have hS : (S.size : Int) = (s.length : Int) := by omega
        have HSZ := Lib.hid hsz
        clear hsz
        go_wp2_with fail
        go_loopg [8, 9] s.length (OnRel w3 s)
        case atStart => exact ⟨0, by omega, by omega, rfl, rfl, rfl⟩
        case round =>
          rename Nat => gq
          obtain ⟨k, hk, hgk, rfl, rfl, hw⟩ := hrel
          subst hw
          by_cases hks : k < s.length
          · obtain ⟨z0, hz0⟩ : ∃ z, s[k]? = some z := ⟨_, List.getElem?_eq_getElem hks⟩
            have hz01 := hbn z0 (List.mem_of_getElem? hz0)
            obtain ⟨z, rfl⟩ : ∃ z : Nat, z0 = z := ⟨z0.toNat, by omega⟩
            have hz : z < 2 := by omega
            have hgi := HG.out k z hz hz0
            have hkS : k < S.size := by have := HSZ.out; omega
            have hct : (s.take (k + 1)).count 1 = (s.take k).count 1 + if z = 1 then 1 else 0 := by
              obtain ⟨h1, e1⟩ := List.getElem?_eq_some_iff.1 hz0
              rw [List.take_succ_eq_append_getElem h1, e1, List.count_append, List.count_singleton]
              congr 1
              by_cases hz1 : z = 1
              · subst hz1; rfl
              · rw [if_neg hz1, if_neg (by rw [beq_iff_eq]; omega)]
            have hcb : (s.take k).count 1 ≤ k := by
              have := List.count_le_length (a := (1 : Int)) (l := s.take k)
              rw [List.length_take] at this; omega
            have HCT := Lib.hid hct
            clear hct hz0 hz01
            generalize (s.take k).count 1 = q at *
            match z, hz with
            | 0, _ =>
              go_wp2_with fail
              go_roundg (gq - 1)
              case measure => omega
              case rel => exact ⟨k + 1, by omega, by omega, by rw [HCT.out]; rfl, by go_num, rfl⟩
            | 1, _ =>
              go_wp2_with fail
              go_roundg (gq - 1)
              case measure => omega
              case rel => exact ⟨k + 1, by omega, by omega, by rw [HCT.out]; go_num, by go_num, rfl⟩
          · have hks2 : k = s.length := by omega
            subst hks2
            rw [List.take_length, hcl]
            have hmn : ((60 : Nat) : Int) = min (l.length : Int) 60 := by have := HM.out; omega
            have HMN := Lib.hid hmn
            clear hmn hcl
            go_wp2_with fail
            refine (ht _).out.mono ?_
            rintro e w6 ⟨rfl, hb6⟩
            rw [HMN.out]
            have ee : (min (l.length : Int) 60 == min (l.length : Int) 60) = true := by simp
            go_wp2_with fail
            go_ret
            exact ⟨rfl, hB.trans (hb6.mono hB.size)⟩
      · have e1 : decide ((i : Int) < l.length) = false := by simp; omega
        have e2 : decide (i < l.length) = false := by simp; omega
        go_wp2_with fail
        refine (wr_bytes ha).mono ?_
        rintro e w2 ⟨A2, c2, rfl, _, hr2, B2, _⟩
        go_wp2_with fail
        refine (ref_of A2 c2 _ w2 hr2 (by rw [packB_length]; omega)).mono ?_
        rintro e w3 ⟨rfl, B3⟩
        rw [ofB_packB ha.bin]
        have hB := (hb.trans (B2.mono hb.size)).trans (B3.mono (hb.trans (B2.mono hb.size)).size)
        have hbn := bin_align ha.bin
        have hcl := count_align t
        have hln : (alignT t).length ≤ 2500 := by rw [alignT_length]; omega
        rw [hc1] at hcl
        clear hr2 B2 B3 ha hb htl hc1
        generalize alignT t = s at *
        have hsz := txt_size s
        have hget := fun i z (hz : z < 2) (h : s[i]? = some ((z : Nat) : Int)) => txt_get s hz h
        have HG := Lib.hid hget
        clear hget
        generalize txt s = S at *
        have hS : (S.size : Int) = (s.length : Int) := by omega
        have HSZ := Lib.hid hsz
        clear hsz
        go_wp2_with fail
        go_loopg [8, 9] s.length (OnRel w3 s)
        case atStart => exact ⟨0, by omega, by omega, rfl, rfl, rfl⟩
        case round =>
          rename Nat => gq
          obtain ⟨k, hk, hgk, rfl, rfl, hw⟩ := hrel
          subst hw
          by_cases hks : k < s.length
          · obtain ⟨z0, hz0⟩ : ∃ z, s[k]? = some z := ⟨_, List.getElem?_eq_getElem hks⟩
            have hz01 := hbn z0 (List.mem_of_getElem? hz0)
            obtain ⟨z, rfl⟩ : ∃ z : Nat, z0 = z := ⟨z0.toNat, by omega⟩
            have hz : z < 2 := by omega
            have hgi := HG.out k z hz hz0
            have hkS : k < S.size := by have := HSZ.out; omega
            have hct : (s.take (k + 1)).count 1 = (s.take k).count 1 + if z = 1 then 1 else 0 := by
              obtain ⟨h1, e1⟩ := List.getElem?_eq_some_iff.1 hz0
              rw [List.take_succ_eq_append_getElem h1, e1, List.count_append, List.count_singleton]
              congr 1
              by_cases hz1 : z = 1
              · subst hz1; rfl
              · rw [if_neg hz1, if_neg (by rw [beq_iff_eq]; omega)]
            have hcb : (s.take k).count 1 ≤ k := by
              have := List.count_le_length (a := (1 : Int)) (l := s.take k)
              rw [List.length_take] at this; omega
            have HCT := Lib.hid hct
            clear hct hz0 hz01
            generalize (s.take k).count 1 = q at *
            match z, hz with
            | 0, _ =>
              go_wp2_with fail
              go_roundg (gq - 1)
              case measure => omega
              case rel => exact ⟨k + 1, by omega, by omega, by rw [HCT.out]; rfl, by go_num, rfl⟩
            | 1, _ =>
              go_wp2_with fail
              go_roundg (gq - 1)
              case measure => omega
              case rel => exact ⟨k + 1, by omega, by omega, by rw [HCT.out]; go_num, by go_num, rfl⟩
          · have hks2 : k = s.length := by omega
            subst hks2
            rw [List.take_length, hcl]
            have hmn : ((i : Nat) : Int) = min (l.length : Int) 60 := by have := HM.out; omega
            have HMN := Lib.hid hmn
            clear hmn hcl
            go_wp2_with fail
            refine (ht _).out.mono ?_
            rintro e w6 ⟨rfl, hb6⟩
            rw [HMN.out]
            have ee : (min (l.length : Int) 60 == min (l.length : Int) 60) = true := by simp
            go_wp2_with fail
            go_ret
            exact ⟨rfl, hB.trans (hb6.mono hB.size)⟩
end Go.Proofs.Ytlmmbiabjpgilaa
