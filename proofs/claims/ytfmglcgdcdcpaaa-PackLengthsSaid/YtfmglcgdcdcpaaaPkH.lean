import Derived.Test.YtfmglcgdcdcpaaaPkZ
namespace Go.Proofs.Ytfmglcgdcdcpaaa
set_option linter.unusedVariables false
set_option linter.unusedSimpArgs false
open Go.RowKit
attribute [local go_sem] max2i min2i max2t min2t

/-! ### PackLengths -/
theorem LenV.zero {cs l : List Int} {m : Nat} (h : LenV cs m l) (h1 : 1 ≤ m) (hn : (idx cs).length ≤ 2 ^ m) (hz : ∀ x ∈ cs, 0 ≤ x) {i : Nat} (hi : i < cs.length) : (l.getD i 0 == 0) = (cs.getD i 0 == 0) := by
  have hv := h.val
  have h0 := nn_getD hz i hi
  by_cases h2 : (idx cs).length < 2
  · rw [if_pos h2] at hv
    subst hv
    rw [ones_getD hi]
    by_cases hp : 0 < cs.getD i 0
    · rw [if_pos hp, beq_eq_false_iff_ne.2 (by omega), beq_eq_false_iff_ne.2 (by omega)]
    · rw [if_neg hp, show cs.getD i 0 = 0 from by omega]
  · rw [if_neg h2] at hv
    obtain ⟨ss, hs, rfl⟩ := hv
    have hk := hs.srt.out_ok h1 (by rw [hs.len]; omega) (by rw [hs.len]; exact hn)
    by_cases hp : 0 < cs.getD i 0
    · have := hk.some_ i hi hp
      rw [beq_eq_false_iff_ne.2 (by omega), beq_eq_false_iff_ne.2 (by omega)]
    · rw [hk.none_ i hi hp, show cs.getD i 0 = 0 from by omega]
theorem LenV.one {cs l : List Int} {m : Nat} (h : LenV cs m l) (h2 : (idx cs).length < 2) : ∀ x ∈ l, x ≤ 1 := fun x hx => by
  have hv := h.val
  rw [if_pos h2] at hv
  subst hv
  exact (onesL_rng cs x hx).2
structure LeRel (w : World) (n : Nat) (gk : Nat) (v10 : Value) (wr : World) : Prop where mk ::
  out_ : ∃ i : Nat, i ≤ n ∧ n ≤ gk + i ∧ v10 = .int .i64 (i : Int) ∧ Same (fun _ => False) w wr
set_option maxHeartbeats 8000000 in
set_option maxRecDepth 100000 in
theorem packLengths_walk (A : Option Addr) (c : Nat) (a : List Int) (mo : Int) (w : World) (h00 : RowOf w .i64 A c a) (h01 : (Lit.int .i64 mo).wf = true) :
    Calls Try.prog 6 #[.slice A a.length c, .int .i64 mo] w fun e w' => e = .returned (.bool true) ∧ Below w.heap.size w w' := by
  have hT := fun W => Lib.hid (told9 W)
  have hca := h00.cap
  have hma := h00.most
  by_cases h1 : 320 < a.length
  · have d1 : decide ((320 : Int) < a.length) = true := by simp; omega
    go_enter Try.func6, Try.ntmps6
    go_wp2_with (go_at_call 8; refine (hT _).out.mono ?_; rintro e w6 ⟨rfl, hb6⟩)
    go_ret
    exact ⟨rfl, hb6⟩
  have d1 : decide ((320 : Int) < a.length) = false := by simp; omega
  have H00 := Lib.hid h00
  go_enter Try.func6, Try.ntmps6
  go_upto_region 4 with (at_builtin; go_loud (refine wpList_fresh .i64 rfl (.tmp 15) (.tmp 16) 22 3 8 rfl Try.underlying22 Try.intinfo A c a rfl rfl h00 (by omega) (by omega) ?_); intro A5 c5 w5 ho5 hr5 hb5 ha5; clear ho5 ha5)
  have CL := Lib.hid (pack_lengths mo h01 _ hr5)
  by_cases hgood : mayCs a mo = true ∧ (idx a).length ≤ 2 ^ mo.toNat
  · have hf : 1 ≤ mo ∧ mo ≤ 15 ∧ a.length ≤ 400 ∧ ∀ x ∈ a, 0 ≤ x ∧ x ≤ 1073741824 := by have := hgood.1; unfold mayCs at this; simpa using this
    obtain ⟨m, rfl⟩ : ∃ m : Nat, mo = m := ⟨mo.toNat, by omega⟩
    obtain ⟨hm1, hm15, _, hrng⟩ := hf
    have hm1n : 1 ≤ m := by omega
    have hm15n : m ≤ 15 := by omega
    have hle : (idx a).length ≤ 2 ^ m := by simpa using hgood.2
    have HGO := Lib.hid (fun (e : Ending) (w' : World) (h : LenPost a m w5 e w') => len_val h hgood.1 hle)
    have HC := Lib.hid (fun W (hr : RowOf W .i64 A c a) => ref_counts (m : Int) h01 W hr)
    have hcp : (mayCs a m && decide ((idx a).length ≤ 2 ^ ((m : Int)).toNat)) = true := by rw [hgood.1]; simpa using hle
    have HCP := Lib.hid hcp
    have HMC := Lib.hid hgood.1
    have HLE := Lib.hid hle
    have HRNG := Lib.hid hrng
    clear hcp hgood hle hrng h01
    go_upto_region 5 with (go_at_call 11; refine CL.out.mono ?_; intro e w6 h6; obtain ⟨B6, A6, c6, l, rfl, hr6, hv6⟩ := HGO.out _ _ h6; clear h6)
    have hb6 := hb5.trans (B6.mono hb5.size)
    have h06 := H00.out.belo hb6
    have hil := idx_len a
    go_upto_region 6 with (go_at_call 12; refine (HC.out _ h06).mono ?_; rintro e w7 ⟨rfl, rfl⟩; rw [HMC.out, if_pos rfl]; rw [← HMC.out, HCP.out])
    have hr5b := hr5.belo B6
    have hll := hv6.len
    have hrl := hv6.rng hm1n HLE.out
    have HZE := Lib.hid (fun (i : Nat) (hi : i < a.length) => hv6.zero hm1n HLE.out (fun x hx => (HRNG.out x hx).1) hi)
    have HON := Lib.hid (fun h => hv6.one h)
    have HV := Lib.hid hv6
    have HRL := Lib.hid hrl
    have HLL := Lib.hid hll
    have b1 : ((a.length : Int) != (a.length : Int)) = false := by simp
    have hal : a.length ≤ 320 := by omega
    clear hrl hll hv6 HCP HMC HC HGO CL hr5 h00
    obtain ⟨N, hN⟩ : ∃ N, (idx a).length = N := ⟨_, rfl⟩
    rw [hN] at hil HLE HON ⊢
    have HN := Lib.hid hN
    clear hN
    go_wp2_with fail
    go_loopg [10] a.length (LeRel w7 a.length)
    case atStart => exact ⟨⟨0, by omega, by omega, rfl, Same.refl _⟩⟩
    case round =>
      rename World => wr
      rename Nat => gk
      obtain ⟨i, hi, hg, rfl, hs⟩ := hrel.out_
      clear hrel
      by_cases hlt : i < a.length
      · have e1 : decide (i < a.length) = true := by simpa using hlt
        have gx : a[i]? = some (a.getD i 0) := by rw [List.getD_eq_getElem?_getD, List.getElem?_eq_getElem hlt]; rfl
        have hli : i < l.length := by rw [HLL.out]; exact hlt
        have gy : l[i]? = some (l.getD i 0) := by rw [List.getD_eq_getElem?_getD, List.getElem?_eq_getElem hli]; rfl
        have hyr := HRL.out _ (List.mem_of_getElem? gy)
        have hy1 : N < 2 → l.getD i 0 ≤ 1 := fun h => HON.out h _ (List.mem_of_getElem? gy)
        have hze := HZE.out i hlt
        obtain ⟨ad, eA, k0⟩ := h06.rd _ _ gx
        obtain ⟨ad5, eA5, k5⟩ := hr5b.rd _ _ gx
        obtain ⟨ad6, eA6, k6⟩ := hr6.rd _ _ gy
        have m0 := fun d : Ext (fun _ => False) wr => d.same.cell (hs.cell k0 (fun c => c)) (fun c => c)
        have m1 := fun d : Ext (fun _ => False) wr => d.same.cell (hs.cell k5 (fun c => c)) (fun c => c)
        have m2 := fun d : Ext (fun _ => False) wr => d.same.cell (hs.cell k6 (fun c => c)) (fun c => c)
        have hin : (i : Int) < a.length := by omega
        generalize a.getD i 0 = x at *
        generalize l.getD i 0 = y at *
        have b2 : (x != x) = false := by simp
        have d3 : decide (y < 0) = false := by simp; omega
        have d4 : decide ((m : Int) < y) = false := by simp; omega
        obtain ⟨t, ht⟩ : ∃ t, (x == 0) = t := ⟨_, rfl⟩
        rw [ht] at hze
        have b3 : (t != t) = false := by simp
        have HY := Lib.hid hy1
        clear k0 k5 k6 gx gy hy1 hli
        by_cases hN1 : N = 1
        · subst hN1
          have d5 : decide (1 < y) = false := by have := HY.out (by decide); simp; omega
          rw [eA, eA5, eA6]
          go_upto_region 13 with fail
          refine wp_region_ext (fun _ => False) (by kernel_rfl) (by kernel_rfl) ?_
          repeat (go_big_quiet_step (fail))
          refine wpQuiet_nil ?_
          rintro _ ⟨d, rfl⟩
          go_wp2_with fail
          try rw [← eA]
          try rw [← eA5]
          try rw [← eA6]
          go_roundg (gk - 1)
          case measure => omega
          case rel => exact ⟨⟨i + 1, by omega, by omega, by go_num, hs.then d.same⟩⟩
        · have d5 : ((N : Int) == 1) = false := by rw [beq_eq_false_iff_ne]; omega
          have d5' : (N == 1) = false := by rw [beq_eq_false_iff_ne]; omega
          have hN1' : ¬ (N : Int) = 1 := by omega
          rw [eA, eA5, eA6]
          go_upto_region 13 with fail
          refine wp_region_ext (fun _ => False) (by kernel_rfl) (by kernel_rfl) ?_
          repeat (go_big_quiet_step (fail))
          refine wpQuiet_nil ?_
          rintro _ ⟨d, rfl⟩
          go_wp2_with fail
          try rw [← eA]
          try rw [← eA5]
          try rw [← eA6]
          go_roundg (gk - 1)
          case measure => omega
          case rel => exact ⟨⟨i + 1, by omega, by omega, by go_num, hs.then d.same⟩⟩
      · have e1 : decide (i < a.length) = false := by simpa using hlt
        have bwr : Below w.heap.size w wr := hs.below_of hb6 hb6.size (fun _ _ c => c)
        have hi' : i = a.length := by omega
        subst hi'
        by_cases hN2 : N < 2
        · have d2 : decide (N < 2) = true := by simpa using hN2
          have d2' : decide ((N : Int) < 2) = true := by simp; omega
          clear hN2
          go_wp2_with (go_at_call 8; refine (hT _).out.mono ?_; rintro e w8 ⟨rfl, hb8⟩)
          go_ret
          exact ⟨rfl, bwr.trans (hb8.mono bwr.size)⟩
        · have d2 : decide (N < 2) = false := by simpa using hN2
          have d2' : decide ((N : Int) < 2) = false := by simp; omega
          have hv := HV.out.val
          rw [if_neg (by rw [HN.out]; exact hN2)] at hv
          obtain ⟨ss, hss, hlo⟩ := hv
          have hsl : ss.length = N := by rw [hss.len, HN.out]
          have hki : kind l = 1 := by rw [hlo]; exact hss.srt.out_whole hm1n hm15n (by omega) (by rw [hsl]; exact HLE.out) (by omega)
          have hco : costN a l (min a.length l.length) = wsum ((lev (sngl a ss) (m - 1)).take (2 * ss.length - 2)) := by
            rw [HLL.out, Nat.min_self, ← costL_costN HLL.out, hlo]
            exact hss.srt.out_cost hm1n (by omega) (by rw [hsl]; exact HLE.out)
          have HL := Lib.hid (fun W (hr : RowOf W .i64 A c a) => ref_least m hm1n hm15n W hr (by omega) HRNG.out hss.srt (by omega) (by rw [hsl]; exact HLE.out))
          have HCo := Lib.hid (fun W (h1 : RowOf W .i64 A c a) (h2 : RowOf W .i64 A6 c6 l) => ref_cost W h1 h2 (by omega) HRNG.out (fun x hx => by have := HRL.out x hx; omega))
          have HK := Lib.hid (fun W (h2 : RowOf W .i64 A6 c6 l) => can_kind A6 c6 l W h2)
          rw [hco] at HCo
          rw [hki] at HK
          rw [HLL.out] at HCo HK
          generalize wsum ((lev (sngl a ss) (m - 1)).take (2 * ss.length - 2)) = X at *
          have b9 : (X == X) = true := by simp
          have r0 := h06.same hs (fun _ _ c => c)
          have r6 := hr6.same hs (fun _ _ c => c)
          clear hN2 hco hki hlo hsl hss HZE HON HV HRL HLL h06 hr5b hr6 hs hb6 hb5 B6
          go_wp2_with (first
            | (go_at_call 8; refine (hT _).out.mono ?_; rintro e w8 ⟨rfl, hb8⟩; have r06 := r6.belo hb8; have r00 := r0.belo hb8; have b8 := bwr.trans (hb8.mono bwr.size); clear r6 r0)
            | (go_at_call 13; refine (HK.out _ r06).mono ?_; rintro e w9 ⟨rfl, rfl⟩)
            | (go_at_call 10; refine (HCo.out _ r00 r06).mono ?_; rintro e w10 ⟨rfl, hs10⟩; have r10 := r00.same hs10 (fun _ _ c => c); have b10 := hs10.below_of b8 b8.size (fun _ _ c => c))
            | (go_at_call 14; refine (HL.out _ r10).mono ?_; rintro e w11 ⟨rfl, hb11⟩; have b11 := b10.trans (hb11.mono b10.size))
            | fail)
          go_ret
          exact ⟨rfl, b11⟩
  · have HCP := Lib.hid (fun (h : (mayCs a mo && decide ((idx a).length ≤ 2 ^ mo.toNat)) = true) => hgood (by simpa using h))
    have HC := Lib.hid (fun W (hr : RowOf W .i64 A c a) => ref_counts mo h01 W hr)
    have HGO := Lib.hid (fun (e : Ending) (w' : World) (h : LenPost a mo w5 e w') => (⟨h.1, by have := h.2; rwa [if_neg hgood] at this⟩ : Below w5.heap.size w5 w' ∧ e = .returned (.tuple #[.slice none 0 0, .int .i64 1])))
    clear hgood h01
    go_upto_region 5 with (go_at_call 11; refine CL.out.mono ?_; intro e w6 h6; obtain ⟨B6, rfl⟩ := HGO.out _ _ h6; clear h6)
    have hb6 := hb5.trans (B6.mono hb5.size)
    have h06 := H00.out.belo hb6
    have hfal : (mayCs a mo && decide ((idx a).length ≤ 2 ^ mo.toNat)) = false := by
      cases h : (mayCs a mo && decide ((idx a).length ≤ 2 ^ mo.toNat)) with
      | false => rfl
      | true => exact absurd h (fun h => HCP.out h)
    have HF := Lib.hid hfal
    clear hfal
    go_wp2_with (first | (go_at_call 12; refine (HC.out _ h06).mono ?_; rintro e w7 ⟨rfl, rfl⟩; rw [HF.out]; generalize (if mayCs a mo = true then ((idx a).length : Int) else 0) = N0) | (go_at_call 8; refine (hT _).out.mono ?_; rintro e w8 ⟨rfl, hb8⟩))
    go_ret
    exact ⟨rfl, hb6.trans (hb8.mono hb6.size)⟩
end Go.Proofs.Ytfmglcgdcdcpaaa
