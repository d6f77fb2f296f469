import Derived.Test.YteknaaijlkenkaaZlV
import Derived.Test.YteknaaijlkenkaaZlD
import Derived.Test.YteknaaijlkenkaaZlW
import Derived.Test.YteknaaijlkenkaaBlkW
import Derived.Deep.RegionHeldLaw
namespace Go.Proofs.Yteknaaijlkenkaa
set_option linter.unusedVariables false
set_option linter.unusedSimpArgs false
open Go.RowKit
attribute [local go_sem] max2i min2i max2t min2t

theorem storeB_one (b : List Int) (h : b.length ≤ 65535) : storeB true b.length b = headB b true ++ b := by
  cases hb : b.length with
  | zero => rfl
  | succ f => rw [storeB, if_pos h]
set_option maxHeartbeats 4000000 in
set_option maxRecDepth 100000 in
theorem zlibBack_walk (A : Option Addr) (c : Nat) (l : List Int) (b' : Int) (w : World) (h00 : RowOf w .u8 A c l) (h01 : (Lit.int .u8 b').wf = true) :
    Calls Try.prog 7 #[.slice A l.length c, .int .u8 b'] w fun e w' => e = .returned (.bool true) ∧ Below w.heap.size w w' := by
  have hT := fun W => Lib.hid (told18 W)
  obtain ⟨b, rfl⟩ : ∃ b : Nat, b' = (b : Int) := ⟨b'.toNat, by simp [Lit.wf, IntKind.min, IntKind.max, IntKind.bits, IntKind.signed] at h01; omega⟩
  have hb : b < 256 := by simp [Lit.wf, IntKind.min, IntKind.max, IntKind.bits, IntKind.signed] at h01; omega
  rcases Nat.lt_or_ge 300 l.length with h | h
  · have b1 : decide ((300 : Int) < l.length) = true := by simp; omega
    go_enter Try.func7, Try.ntmps7
    go_wp2_with (go_at_call 8; refine (hT _).out.mono ?_; rintro e w6 ⟨rfl, hb6⟩)
    go_ret
    exact ⟨rfl, hb6⟩
  · have b1 : decide ((300 : Int) < l.length) = false := by simp; omega
    have hw := h00.wf
    have CS := ref_store true w h00 (by omega)
    rw [storeB_one l (by omega)] at CS
    have hsl : (headB l true ++ l).length = 5 + l.length := by simp [headB]; omega
    have CA := fun W (hr : RowOf W .u8 A c l) => ref_adler A c l (by omega) W hr
    have hXlt := adlN_lt l
    have CW := fun A1 c1 (W : World) (hr : RowOf W .u8 A1 c1 (headB l true ++ l)) => zlib_wrap (adlN l) hXlt (by omega) W hr
    have hz : ∀ s : List Int, 120 :: 156 :: ((headB l true ++ l) ++ s) = zS l s := fun s => by unfold zS; rw [List.append_assoc]
    rw [hsl] at CS CW
    simp only [hz] at CW
    have CS := Lib.hid CS
    have CA := Lib.hid CA
    have CW := Lib.hid CW
    have hzlen : (zS l (beB (adlN l) 4)).length = 5 + l.length + 6 := by rw [zS_len, beB_len]; omega
    have hs11 : ∀ {W : World} {A3 : Option Addr} {c3 : Nat}, RowOf W .u8 A3 c3 (zS l (beB (adlN l) 4)) → (convert 22 9 (.slice A3 (5 + l.length + 6) c3)).run Try.prog W = .ok (.string (strOfNums (zS l (beB (adlN l) 4)))) W := fun hr => (hr.strAt hzlen.symm).here
    go_enter Try.func7, Try.ntmps7
    go_upto_region 4 with (first
      | (go_at_call 12; refine CS.out.mono ?_; rintro e w1 ⟨A1, c1, rfl, hr1, ho1, hB1, hA1⟩)
      | (go_at_call 17; refine (CA.out _ (h00.belo hB1)).mono ?_; rintro e w2 ⟨rfl, rfl⟩)
      | (go_at_call 19; refine (CW.out A1 c1 _ hr1).mono ?_; rintro e w3 ⟨A3, c3, rfl, hr3, hB3⟩; have B3 := hB1.trans (hB3.mono hB1.size); have k3 := hs11 hr3)
      | fail)
    obtain ⟨y, hy⟩ : ∃ y : Nat, (adlN l % 256) ^^^ b = y := ⟨_, rfl⟩
    have hlst : adlN l % 256 < 256 := Nat.mod_lt _ (by decide)
    have hy8 : y < 256 := by rw [← hy]; exact Nat.xor_lt_two_pow (n := 8) hlst hb
    have hxor : bits .xor .u8 ((adlN l % 256 : Nat) : Int) (b : Int) = (y : Int) := by rw [u8_xor_nat _ _ hlst hb, hy]
    have hyb : y = adlN l % 256 ↔ b = 0 := by
      rw [← hy]
      constructor
      · intro e
        have := congrArg (fun z => (adlN l % 256) ^^^ z) e
        simpa [← Nat.xor_assoc] using this
      · rintro rfl; simp
    have hz0 := hr3.wf
    have hz1 : ∀ x ∈ zS l (beB (adlN l) 4 ++ [0]), (Lit.int .u8 x).wf = true := fun x hx => by
      rw [zS_app] at hx
      rcases List.mem_append.1 hx with hx | hx
      · exact hz0 x hx
      · rw [List.mem_singleton] at hx; subst hx; decide
    have hz2 : ∀ x ∈ zS l ((beB (adlN l) 4).take 3), (Lit.int .u8 x).wf = true := fun x hx => by
      refine hz0 x ?_
      rw [← List.take_append_drop 3 (beB (adlN l) 4), zS_app]
      exact List.mem_append.2 (.inl hx)
    have hz3 : ∀ x ∈ zS l ((beB (adlN l) 4).take 3 ++ [(y : Int)]), (Lit.int .u8 x).wf = true := fun x hx => by
      rw [zS_app] at hx
      rcases List.mem_append.1 hx with hx | hx
      · exact hz2 x hx
      · rw [List.mem_singleton] at hx; subst hx; simp [Lit.wf, IntKind.min, IntKind.max, IntKind.bits, IntKind.signed]; omega
    obtain ⟨U, hU⟩ : ∃ U, 5 + l.length = U := ⟨_, rfl⟩
    obtain ⟨BW0, G0, cv0, bw0, Z0⟩ := zl_text h (r := beB (adlN l) 4) (by rw [beB_len]; omega) hw hz0 (U + 6) (by rw [beB_len]; omega)
    obtain ⟨BW1, G1, cv1, bw1, Z1⟩ := zl_text h (r := beB (adlN l) 4 ++ [0]) (by simp [beB_len]) hw hz1 (U + 7) (by simp [beB_len]; omega)
    obtain ⟨BW2, G2, cv2, bw2, Z2⟩ := zl_text h (r := (beB (adlN l) 4).take 3) (by simp [beB_len]) hw hz2 (U + 5) (by simp [beB_len]; omega)
    obtain ⟨BW3, G3, cv3, bw3, Z3⟩ := zl_text h (r := (beB (adlN l) 4).take 3 ++ [(y : Int)]) (by simp [beB_len]) hw hz3 (U + 6) (by simp [beB_len]; omega)
    have hsz : (strOfNums (zS l (beB (adlN l) 4))).size = U + 6 := by rw [strOfNums_size, hzlen, hU]
    have hap1 : strOfNums (zS l (beB (adlN l) 4)) ++ (⟨#[0]⟩ : ByteArray) = strOfNums (zS l (beB (adlN l) 4 ++ [0])) := by rw [zS_app, strs_app]; congr 1
    have hex2 : (strOfNums (zS l (beB (adlN l) 4))).extract 0 (U + 5) = strOfNums (zS l ((beB (adlN l) 4).take 3)) := by rw [← zS_cut, show l.length + 10 = U + 5 from by omega]
    have hcat3 : strOfNums (zS l ((beB (adlN l) 4).take 3)) ++ strOfNums [(y : Int)] = strOfNums (zS l ((beB (adlN l) 4).take 3 ++ [(y : Int)])) := by rw [zS_app, strs_app]
    have H0 := fun W => Z0 l.length 4607182418800017408 (l, U, 0) (by rw [zB_whole h, hU]) (.inl (Nat.le_refl _)) (by omega) W
    have H1 := fun W => Z1 l.length 4607182418800017408 ([], 0, 2) (zB_long h) (.inl (Nat.le_refl _)) (by omega) W
    have H2 := fun W => Z2 l.length 4607182418800017408 ([], 0, 2) (zB_cut h) (.inl (Nat.le_refl _)) (by omega) W
    obtain ⟨R3, e3, h3, he3⟩ : ∃ (R3 : List Int × Nat × Nat) (e3 : Nat), zQ (zS l ((beB (adlN l) 4).take 3 ++ [(y : Int)])) (l.length : Nat) 4607182418800017408 = (R3.1, R3.2.1, e3) ∧ ((e3 : Int) == 2) = ((b : Int) != 0) := by
      rw [zB_last h hy8]
      by_cases hb0 : b = 0
      · exact ⟨(l, 5 + l.length, 0), 0, by rw [if_pos (hyb.2 hb0)], by rw [hb0]; decide⟩
      · exact ⟨([], 0, 2), 2, by rw [if_neg (fun c => hb0 (hyb.1 c))], by simp; omega⟩
    have H3 := fun W => Z3 l.length 4607182418800017408 _ h3 (.inl (Nat.le_refl _)) (by omega) W
    have H5 := fun (h0 : 0 < l.length) W => Z0 l.length 0 ([], 0, 3) (zB_dear h h0 _) (.inl (Nat.le_refl _)) (by omega) W
    have H4 := fun (k : Nat) (hk : k + 1 = l.length) W => Z0 k 4607182418800017408 ([], 0, 3) (by rw [show (k : Int) = ((l.length - 1 : Nat) : Int) from by omega]; exact zB_less h (by omega) _ _) (.inr hk) (by omega) W
    have H0 := Lib.hid H0
    have H1 := Lib.hid H1
    have H2 := Lib.hid H2
    have H3 := Lib.hid H3
    have H4 := Lib.hid H4
    have H5 := Lib.hid H5
    have hlb := zS_lastB l (adlN l)
    clear Z0 Z1 Z2 Z3 h3 CS CA CW hs11 hz hsl hyb k3 hr1 ho1 hA1 hB1 hB3 hz0 hz1 hz2 hz3 hr3 hy hlst hXlt
    have hb5 : ∀ hh : U + 5 < (strOfNums (zS l (beB (adlN l) 4))).size, ((strOfNums (zS l (beB (adlN l) 4)))[U + 5]'hh).toNat = adlN l % 256 := fun hh => by
      have e : (zS l (beB (adlN l) 4))[U + 5]? = some ((adlN l % 256 : Nat) : Int) := by
        rw [← hlb, show U + 5 = l.length + 10 from by omega, List.getD_eq_getElem?_getD, List.getElem?_eq_getElem (by omega)]; rfl
      have e2 : (strOfNums (zS l (beB (adlN l) 4))).data.toList[U + 5]? = some (UInt8.ofNat (adlN l % 256)) := by
        rw [strOfNums_data, List.getElem?_map, e]; rfl
      have e3 : (strOfNums (zS l (beB (adlN l) 4)))[U + 5]'hh = UInt8.ofNat (adlN l % 256) := by
        have h1 : (strOfNums (zS l (beB (adlN l) 4))).data.toList[U + 5]? = some ((strOfNums (zS l (beB (adlN l) 4)))[U + 5]'hh) := by
          exact (Array.getElem?_toList ..).trans (Array.getElem?_eq_getElem hh)
        rw [e2] at h1
        exact (Option.some.inj h1).symm
      rw [e3, UInt8.toNat_ofNat']
      omega
    have hs2 : (strOfNums (zS l ((beB (adlN l) 4).take 3))).size = U + 5 := by rw [strOfNums_size, zS_len]; simp [beB_len]; omega
    have hs1 : (strOfNums [(y : Int)]).size = 1 := by rw [strOfNums_size]; rfl
    have cvy : ∀ W : World, (convert 22 9 (.slice (some ⟨W.heap.size, 0, none⟩) 1 1)).run Try.prog (W.alloc (.cells #[.int .u8 (y : Int)] 5)).drew = .ok (.string (strOfNums [(y : Int)])) (W.alloc (.cells #[.int .u8 (y : Int)] 5)).drew := fun W => by
      have lit : RowOf (W.alloc (.cells #[.int .u8 (y : Int)] 5)) .u8 (some ⟨W.heap.size, 0, none⟩) 1 [(y : Int)] := RowOf.lit W .u8 5 [(y : Int)] (fun z hz => by rw [List.mem_singleton] at hz; subst hz; simp [Lit.wf, IntKind.min, IntKind.max, IntKind.bits, IntKind.signed]; omega) (by simp)
      exact (lit.drew.strAt rfl).here
    generalize strOfNums [(y : Int)] = Y1 at *
    generalize strOfNums (zS l (beB (adlN l) 4)) = S0 at *
    generalize strOfNums (zS l (beB (adlN l) 4 ++ [0])) = S1 at *
    generalize strOfNums (zS l ((beB (adlN l) 4).take 3)) = S2 at *
    generalize strOfNums (zS l ((beB (adlN l) 4).take 3 ++ [(y : Int)])) = S3 at *
    have hL4 := fun (W : World) A5 c5 (hr : RowOf W .u8 A5 c5 l) => (hr.strAt rfl).here
    generalize strOfNums l = L at *
    have hUb : U ≤ 305 := by omega
    have HU := Lib.hid hU
    clear hU hlb hzlen
    generalize adlN l % 256 = lst at *
    go_upto_region 5 with (go_at_call 9; refine (H0.out w3).mono ?_; rintro e w4 ⟨v4, rfl, ho4, hB4⟩; have B4 := B3.trans (hB4.mono B3.size); obtain ⟨A4, c4, rfl, hr4, _⟩ := ho4.row hw; have k4 := hL4 w4 A4 c4 hr4; have k5 := hL4 w4 A c (h00.belo B4))
    go_upto_region 7 with fail
    go_upto_region 8 with (go_at_call 9; refine (H1.out w4).mono ?_; rintro e w5 ⟨v5, rfl, ho5, hB5⟩; have B5 := B4.trans (hB5.mono B4.size))
    go_upto_region 9 with (go_at_call 9; refine (H2.out w5).mono ?_; rintro e w6 ⟨v6, rfl, ho6, hB6⟩; have B6 := B5.trans (hB6.mono B5.size))
    have q1 : (0 : Int) ≤ (U : Int) + 5 := by omega
    have q2 : (U : Int) + 5 ≤ ((U + 6 : Nat) : Int) := by omega
    have q3 : (U : Int) + 5 < ((U + 6 : Nat) : Int) := by omega
    have q4 : ((U : Int) + 5).toNat = U + 5 := by omega
    have q5 : U + 5 < U + 6 := by omega
    have q6 : IntKind.i64.wrap ((U : Int) + 5) = (U : Int) + 5 := IntWalk.i64_in _ (by omega)
    have q7 : IntKind.i64.wrap (((U + 6 : Nat) : Int) - 1) = (U : Int) + 5 := by rw [IntWalk.i64_in _ (by omega)]; omega
    have q8 : IntKind.i64.wrap ((U : Int) + 6 - 1) = (U : Int) + 5 := by rw [IntWalk.i64_in _ (by omega)]; omega
    have q9 : ¬ (9223372036854775807 < U + 5 + 1) := by omega
    have H3' := H3.out (w6.alloc (.cells #[.int .u8 (y : Int)] 5)).drew
    rw [show (w6.alloc (.cells #[.int .u8 (y : Int)] 5)).drew.heap.size = w6.heap.size + 1 from by simp] at H3'
    have H3' := Lib.hid H3'
    have B6' := (B6.alloc B6.size (.cells #[.int .u8 (y : Int)] 5)).drew
    have hsz6 : w.heap.size ≤ (w6.alloc (.cells #[.int .u8 (y : Int)] 5)).drew.heap.size := by have := B6.size; simp; omega
    go_region_with (first
      | (go_at_call 9; refine H3'.out.mono ?_; rintro e w7 ⟨v7, rfl, ho7, hB7⟩)
      | fail)
    have B7 := B6'.trans (hB7.mono hsz6)
    clear q1 q2 q3 q4 q5 q6 q7 q8 q9 H3' H3 H2 H1 cv1 cv2 cv3 cvy bw0 bw1 bw2 bw3 hap1 hex2 hcat3 hs2 hs1 hb5 hxor B6' hsz6
    rcases Nat.eq_zero_or_pos l.length with hn0 | hn0
    · have c1 : decide ((0 : Int) < l.length) = false := decide_eq_false (by omega)
      have c1' : decide (0 < l.length) = false := decide_eq_false (by omega)
      clear hn0
      go_wp2_with (go_at_call 8; refine (hT _).out.mono ?_; rintro e wa ⟨rfl, hba⟩; have Ba := B7.trans (hba.mono B7.size))
      go_ret
      exact ⟨rfl, Ba⟩
    · have c1 : decide ((0 : Int) < l.length) = true := decide_eq_true (by omega)
      have c1' : decide (0 < l.length) = true := decide_eq_true (by omega)
      obtain ⟨k, hk⟩ : ∃ k, k + 1 = l.length := ⟨l.length - 1, by omega⟩
      have ek : (l.length : Int) - 1 = (k : Int) := by omega
      have H4' := Lib.hid (H4.out k hk w7)
      have H5' := Lib.hid (H5.out hn0)
      clear hk hn0 H4 H5
      go_upto_region 12 with (go_at_call 9; refine H4'.out.mono ?_; rintro e w8 ⟨v8, rfl, ho8, hB8⟩; have B8 := B7.trans (hB8.mono B7.size))
      go_upto_region 15 with (go_at_call 9; refine (H5'.out w8).mono ?_; rintro e w9 ⟨v9, rfl, ho9, hB9⟩; have B9 := B8.trans (hB9.mono B8.size))
      go_wp2_with (go_at_call 8; refine (hT _).out.mono ?_; rintro e wa ⟨rfl, hba⟩; have Ba := B9.trans (hba.mono B9.size))
      go_ret
      exact ⟨rfl, Ba⟩
end Go.Proofs.Yteknaaijlkenkaa
