import Derived.Test.YtfmglcgdcdcpaaaPkB
import Derived.Test.YtfmglcgdcdcpaaaPkR
namespace Go.Proofs.Ytfmglcgdcdcpaaa
set_option linter.unusedVariables false
set_option linter.unusedSimpArgs false
open Go.RowKit
attribute [local go_sem] max2i min2i max2t min2t

theorem idx_rev_count : ∀ l : List Int, (idx l.reverse).length = l.countP (fun x => decide (0 < x))
  | [] => rfl
  | x :: l => by
    rw [List.reverse_cons, idx_snoc, List.length_append, idx_rev_count l]
    by_cases h : 0 < x
    · rw [if_pos h, List.countP_cons_of_pos (by simpa using h)]; rfl
    · rw [if_neg h, List.countP_cons_of_neg (by simpa using h)]; rfl
theorem idx_rev_len (l : List Int) : (idx l.reverse).length = (idx l).length := by
  have h1 := idx_rev_count l
  have h2 := idx_rev_count l.reverse
  rw [List.reverse_reverse, List.countP_reverse] at h2
  rw [h1, h2]
structure LenV (cs : List Int) (m : Nat) (l : List Int) : Prop where
  len : l.length = cs.length
  val : if (idx cs).length < 2 then l = onesL cs else ∃ ss, SrtS cs ss ∧ l = outL cs ss m
theorem ones_getD {cs : List Int} {i : Nat} (h : i < cs.length) : (onesL cs).getD i 0 = if 0 < cs.getD i 0 then 1 else 0 := by
  unfold onesL
  rw [List.getD_eq_getElem?_getD, List.getElem?_map, List.getElem?_range h]; rfl
theorem onesL_len (cs : List Int) : (onesL cs).length = cs.length := by simp [onesL]
theorem ones_rev (cs : List Int) : onesL cs.reverse = (onesL cs).reverse := by
  apply List.ext_getElem
  · simp [onesL]
  · intro i h1 h2
    have hi : i < cs.length := by simpa [onesL] using h1
    have e1 : (onesL cs.reverse)[i] = (onesL cs.reverse).getD i 0 := by rw [List.getD_eq_getElem?_getD, List.getElem?_eq_getElem h1]; rfl
    have e2 : (onesL cs).reverse[i] = (onesL cs).reverse.getD i 0 := by rw [List.getD_eq_getElem?_getD, List.getElem?_eq_getElem h2]; rfl
    rw [e1, e2, ones_getD (by simpa using hi), rev_getD cs hi, rev_getD (onesL cs) (by rw [onesL_len]; exact hi), onesL_len, ones_getD (by omega)]
section
variable {cs l : List Int} {m : Nat}
theorem LenV.rng (h : LenV cs m l) (h1 : 1 ≤ m) (hn : (idx cs).length ≤ 2 ^ m) : ∀ x ∈ l, 0 ≤ x ∧ x ≤ (m : Int) := fun x hx => by
  have hv := h.val
  by_cases h2 : (idx cs).length < 2
  · rw [if_pos h2] at hv
    subst hv
    have := onesL_rng cs x hx; omega
  · rw [if_neg h2] at hv
    obtain ⟨ss, hs, rfl⟩ := hv
    exact outL_rng hs h1 (by omega) hn x hx
theorem LenV.order (h : LenV cs m l) (h1 : 1 ≤ m) (hn : (idx cs).length ≤ 2 ^ m) {i k : Nat} (hi : i < cs.length) (hk : k < cs.length) (hp : 0 < cs.getD k 0) (hlt : cs.getD k 0 < cs.getD i 0) : l.getD i 0 ≤ l.getD k 0 := by
  have hv := h.val
  by_cases h2 : (idx cs).length < 2
  · exfalso
    have m1 : i ∈ idx cs := idx_mem.2 ⟨hi, by omega⟩
    have m2 : k ∈ idx cs := idx_mem.2 ⟨hk, hp⟩
    have hne : i ≠ k := fun e => by subst e; omega
    rcases hx : idx cs with _ | ⟨a, _ | ⟨b, r⟩⟩
    · rw [hx] at m1; simp at m1
    · rw [hx, List.mem_singleton] at m1 m2; omega
    · rw [hx, List.length_cons, List.length_cons] at h2; omega
  · rw [if_neg h2] at hv
    obtain ⟨ss, hs, rfl⟩ := hv
    exact hs.srt.order h1 (by rw [hs.len]; omega) (by rw [hs.len]; exact hn) hi hk hp hlt
theorem nn_getD {cs : List Int} (h : ∀ x ∈ cs, 0 ≤ x) : ∀ i, i < cs.length → 0 ≤ cs.getD i 0 := fun i hi => by
  rw [List.getD_eq_getElem?_getD, List.getElem?_eq_getElem hi]; exact h _ (List.getElem_mem hi)
theorem LenV.back (h : LenV cs m l) {l' : List Int} (h' : LenV cs.reverse m l') (h1 : 1 ≤ m) (h15 : m ≤ 15) (hn : (idx cs).length ≤ 2 ^ m) (hz : ∀ x ∈ cs, 0 ≤ x) : costN cs l cs.length = costN cs.reverse l' cs.length := by
  rw [← costL_costN h.len, show costN cs.reverse l' cs.length = costN cs.reverse l' cs.reverse.length from by rw [List.length_reverse], ← costL_costN h'.len]
  have hv := h.val
  have hv' := h'.val
  rw [idx_rev_len] at hv'
  by_cases h2 : (idx cs).length < 2
  · rw [if_pos h2] at hv hv'
    rw [hv, hv', ones_rev]
    exact (costL_rev _ _ (by rw [onesL_len])).symm
  · rw [if_neg h2] at hv hv'
    obtain ⟨ss, hs, rfl⟩ := hv
    obtain ⟨ss', hs', rfl⟩ := hv'
    have e1 : ss.length = (idx cs).length := hs.len
    have e2 : ss'.length = (idx cs).length := by rw [hs'.len, idx_rev_len]
    refine Int.le_antisymm (back_le hs.srt hs'.srt h1 h15 (by omega) (by omega) (by omega) (nn_getD hz)) ?_
    have hs2 : Srt cs.reverse.reverse ss := by rw [List.reverse_reverse]; exact hs.srt
    have := back_le hs'.srt hs2 h1 h15 (by omega) (by omega) (by omega) (nn_getD (fun x hx => hz x (List.mem_reverse.1 hx)))
    rw [List.reverse_reverse] at this
    exact this
theorem LenV.wider (h : LenV cs m l) {l' : List Int} (h' : LenV cs (m + 1) l') (h1 : 1 ≤ m) (h15 : m + 1 ≤ 15) (hn : (idx cs).length ≤ 2 ^ m) (hz : ∀ x ∈ cs, 0 ≤ x) : costN cs l' cs.length ≤ costN cs l cs.length := by
  rw [← costL_costN h.len, ← costL_costN h'.len]
  have hv := h.val
  have hv' := h'.val
  by_cases h2 : (idx cs).length < 2
  · rw [if_pos h2] at hv hv'
    rw [hv, hv']; exact Int.le_refl _
  · rw [if_neg h2] at hv hv'
    obtain ⟨ss, hs, rfl⟩ := hv
    obtain ⟨ss', hs', rfl⟩ := hv'
    exact hs.srt.wider hs'.srt h1 h15 (by rw [hs.len]; omega) (by rw [hs.len]; exact hn) (nn_getD hz)
end
theorem len_val {cs : List Int} {n : Nat} {w w' : World} {e : Ending} (h : LenPost cs n w e w') (hm : mayCs cs n = true) (hle : (idx cs).length ≤ 2 ^ n) : Below w.heap.size w w' ∧ ∃ A c l, e = .returned (.tuple #[.slice A cs.length c, .int .i64 0]) ∧ RowOf w' .i64 A c l ∧ LenV cs n l := by
  obtain ⟨hb, A, c, l, e, hl, hr, _, hv⟩ := len_out h hm hle
  exact ⟨hb, A, c, l, e, hr, ⟨hl, hv⟩⟩
structure BkRelP (w : World) (X : List Int) (gk : Nat) (v6 v8 : Value) (wr : World) : Prop where mk ::
  out_ : ∃ r : Nat, r ≤ X.length ∧ r ≤ gk ∧ v8 = .int .i64 ((r : Int) - 1) ∧ Own wr w.heap.size 3 v6 (ints .i64 (X.drop r).reverse) ∧ Below w.heap.size w wr
structure OdRel (w : World) (n : Nat) (gk : Nat) (v16 v17 : Value) (wr : World) : Prop where mk ::
  out_ : ∃ i : Nat, i ≤ n ∧ n ≤ gk + i ∧ v16 = .int .i64 (i : Int) ∧ Same (fun _ => False) w wr
structure OdRel2 (w : World) (n : Nat) (gk : Nat) (v17 : Value) (wr : World) : Prop where mk ::
  out_ : ∃ i : Nat, i ≤ n ∧ n ≤ gk + i ∧ v17 = .int .i64 (i : Int) ∧ Same (fun _ => False) w wr
set_option maxHeartbeats 8000000 in
set_option maxRecDepth 100000 in
theorem packOrder_walk (A : Option Addr) (c : Nat) (a : List Int) (mo : Int) (w : World) (h00 : RowOf w .i64 A c a) (h01 : (Lit.int .i64 mo).wf = true) :
    Calls Try.prog 4 #[.slice A a.length c, .int .i64 mo] w fun e w' => e = .returned (.bool true) ∧ Below w.heap.size w w' := by
  have hT := fun W => Lib.hid (told9 W)
  have hca := h00.cap
  have hma := h00.most
  by_cases h1 : 40 < a.length
  · have d1 : decide ((40 : Int) < a.length) = true := by simp; omega
    go_enter Try.func4, Try.ntmps4
    go_wp2_with (go_at_call 8; refine (hT _).out.mono ?_; rintro e w6 ⟨rfl, hb6⟩)
    go_ret
    exact ⟨rfl, hb6⟩
  have d1 : decide ((40 : Int) < a.length) = false := by simp; omega
  go_enter Try.func4, Try.ntmps4
  go_wp2_with fail
  go_loopg [5, 7] a.length (McRel w a)
  case atStart => exact ⟨⟨0, by omega, by omega, rfl, Own.nil _ _ _, Below.refl _ _⟩⟩
  case round =>
    obtain ⟨i, hi, hg, rfl, ho, hb⟩ := hrel.out_
    clear hrel
    by_cases hlt : i < a.length
    · have e1 : decide (i < a.length) = true := by simpa using hlt
      have hx : a[i]? = some (a.getD i 0) := by rw [List.getD_eq_getElem?_getD, List.getElem?_eq_getElem hlt]; rfl
      obtain ⟨ad, rfl, hc⟩ := h00.rd _ _ hx
      have hc := hb.cell (World.block_lt_of_cell? _ _ hc) |>.trans hc
      have hand := and_20 (a.getD i 0)
      have HSN := Lib.hid (mk20_snoc hlt)
      have hkl : (mk20 (a.take i)).length ≤ 400 := by rw [mk20_len, List.length_take]; omega
      have hkw := mk20_wf (a.take i)
      have hzr := mk20_rng [a.getD i 0] (a.getD i 0 % 1048576) (by simp [mk20])
      have hil3 : (i : Int) < a.length := by omega
      generalize a.getD i 0 = x at *
      obtain ⟨z, hz⟩ : ∃ z, x % 1048576 = z := ⟨_, rfl⟩
      rw [hz] at hand hzr HSN
      have lit : RowOf (wr.alloc (.cells #[.int .i64 z] 3)) .i64 (some ⟨wr.heap.size, 0, none⟩) 1 [z] := RowOf.lit wr .i64 3 [z] (fun y hy => by rw [List.mem_singleton] at hy; subst hy; exact i64_wf (by omega)) (by simp)
      have hzb := hb.size
      generalize mk20 (a.take i) = K at *
      clear hx hz
      go_wp2_with (at_builtin; go_loud (refine wpList_catN .i64 w.heap.size rfl (.tmp 28) (.tmp 34) 22 3 8 rfl Try.underlying22 Try.intinfo u5 K (some ⟨wr.heap.size, 0, none⟩) 1 1 [z] rfl rfl rfl (ho.alloc _) lit (by simp; omega) (K.length + 1) rfl (by omega) (by omega) hkw ?_); intro A9 c9 w9 ho9 hr9 hs9 hat9; have B9 := hs9.below_of (hb.alloc hb.size (.cells #[.int .i64 z] 3)) (by simp; omega) (fun k hk e => by have := ho.base_le k e; omega); clear hat9)
      go_roundg (gk - 1)
      case measure => omega
      case rel => exact ⟨⟨i + 1, by omega, by omega, by go_num, by rw [HSN.out]; exact ho9, B9⟩⟩
    · have e1 : decide (i < a.length) = false := by simpa using hlt
      rw [List.take_of_length_le (by omega : a.length ≤ i)] at ho
      obtain ⟨A5, c5, e5, hr5, _⟩ := ho.row (mk20_wf a)
      rw [mk20_len] at e5
      subst e5
      have hXl := mk20_len a
      have hXr := mk20_rng a
      generalize mk20 a = X at *
      rename World => w1
      have hb1 := hb
      have HXL := Lib.hid hXl
      have HXR := Lib.hid hXr
      clear hb ho hXl hXr
      have hal : a.length ≤ 40 := by omega
      clear h1 d1 e1
      go_wp2_with fail
      go_loopg [6, 8] a.length (BkRelP w1 X)
      case atStart => exact ⟨⟨a.length, by rw [HXL.out]; exact Nat.le_refl _, Nat.le_refl _, rfl, by rw [List.drop_of_length_le (by rw [HXL.out]; exact Nat.le_refl _)]; exact Own.nil _ _ _, Below.refl _ _⟩⟩
      case round =>
        rename Nat => gk
        obtain ⟨r, hr, hgr, rfl, ho, hb⟩ := hrel.out_
        clear hrel
        rw [HXL.out] at hr
        have hzb := hb.size
        by_cases hr0 : 0 < r
        · obtain ⟨q, hq⟩ : ∃ q, q + 1 = r := ⟨r - 1, by omega⟩
          have eq : (r : Int) - 1 = (q : Int) := by omega
          have d2 : decide ((0 : Int) ≤ (q : Int)) = true := by simp
          have hqn : q < X.length := by rw [HXL.out]; omega
          have hxq : X[q]? = some (X.getD q 0) := by rw [List.getD_eq_getElem?_getD, List.getElem?_eq_getElem hqn]; rfl
          obtain ⟨ad, eA, hc⟩ := hr5.rd _ _ hxq
          have hc := hb.cell (World.block_lt_of_cell? _ _ hc) |>.trans hc
          have hxr := HXR.out (X.getD q 0) (List.mem_of_getElem? hxq)
          have hdr : (X.drop q).reverse = (X.drop r).reverse ++ [X.getD q 0] := by
            rw [List.drop_eq_getElem_cons hqn, List.reverse_cons, ← hq, List.getD_eq_getElem?_getD, List.getElem?_eq_getElem hqn]; rfl
          have hkl : ((X.drop r).reverse).length ≤ 40 := by rw [List.length_reverse, List.length_drop, HXL.out]; omega
          have hkw : ∀ x ∈ (X.drop r).reverse, (Lit.int .i64 x).wf = true := fun x hx => i64_wf (by have := HXR.out x (List.mem_of_mem_drop (List.mem_reverse.1 hx)); omega)
          have HDR := Lib.hid hdr
          have hqa : (q : Int) < (a.length : Int) := by omega
          generalize X.getD q 0 = x at *
          generalize (X.drop r).reverse = K at *
          have lit : RowOf (wr.alloc (.cells #[.int .i64 x] 3)) .i64 (some ⟨wr.heap.size, 0, none⟩) 1 [x] := RowOf.lit wr .i64 3 [x] (fun y hy => by rw [List.mem_singleton] at hy; subst hy; exact i64_wf (by omega)) (by simp)
          clear hxq hdr hqn hq
          rw [eA]
          go_wp2_with (at_builtin; go_loud (refine wpList_catN .i64 w1.heap.size rfl (.tmp 43) (.tmp 48) 22 3 8 rfl Try.underlying22 Try.intinfo u6 K (some ⟨wr.heap.size, 0, none⟩) 1 1 [x] rfl rfl rfl (ho.alloc _) lit (by simp; omega) (K.length + 1) rfl (by omega) (by omega) hkw ?_); intro A9 c9 w9 ho9 hr9 hs9 hat9; have B9 := hs9.below_of (hb.alloc hb.size (.cells #[.int .i64 x] 3)) (by simp; omega) (fun k hk e => by have := ho.base_le k e; omega); clear hat9)
          rw [← eA]
          go_roundg (gk - 1)
          case measure => omega
          case rel => exact ⟨⟨q, by rw [HXL.out]; omega, by omega, by go_num, by rw [HDR.out]; exact ho9, B9⟩⟩
        · have hr00 : r = 0 := by omega
          subst hr00
          have d2 : decide ((0 : Int) ≤ ((0 : Nat) : Int) - 1) = false := by decide
          have d2' : decide ((0 : Int) ≤ -1) = false := by decide
          rw [List.drop_zero] at ho
          obtain ⟨A6, c6, e6, hr6, _⟩ := ho.row (fun x hx => i64_wf (by have := HXR.out x (List.mem_reverse.1 hx); omega))
          rw [List.length_reverse, HXL.out] at e6
          subst e6
          have hB := hb1.trans (hb.mono hb1.size)
          have HB := Lib.hid hB
          have hr5b := hr5.belo hb
          obtain ⟨D, hD, eD⟩ := uint_rem mo 9 (by omega) (by omega)
          have eD : wrap64 ((IntKind.u64.wrap mo).tmod 9) = (D : Int) := eD
          obtain ⟨n, hn⟩ : ∃ n : Nat, 6 + D = n := ⟨_, rfl⟩
          have en : (6 : Int) + D = (n : Int) := by omega
          have hnr : 6 ≤ n ∧ n ≤ 14 := by omega
          obtain ⟨n1, hn1⟩ : ∃ n1 : Nat, n + 1 = n1 := ⟨_, rfl⟩
          have en1 : (n : Int) + 1 = (n1 : Int) := by omega
          have hp6 : 2 ^ 6 ≤ 2 ^ n := Nat.pow_le_pow_right (by decide) hnr.1
          have hpn : 2 ^ n ≤ 2 ^ n1 := Nat.pow_le_pow_right (by decide) (by omega)
          have hXX : X.length = a.length := HXL.out
          have hil := idx_len X
          have hir := idx_rev_len X
          have hxb : ∀ x ∈ X, 0 ≤ x ∧ x ≤ 1073741824 := fun x hx => by have := HXR.out x hx; omega
          have hxb' : ∀ x ∈ X.reverse, 0 ≤ x ∧ x ≤ 1073741824 := fun x hx => hxb x (List.mem_reverse.1 hx)
          have my1 : mayCs X n = true := may_ok (by omega) (by omega) (by omega) hxb
          have my2 : mayCs X.reverse n = true := may_ok (by omega) (by omega) (by rw [List.length_reverse]; omega) hxb'
          have my3 : mayCs X n1 = true := may_ok (by omega) (by omega) (by omega) hxb
          have G1 := Lib.hid (fun (W W' : World) (e : Ending) (h : LenPost X n W e W') => len_val h my1 (by omega))
          have G2 := Lib.hid (fun (W W' : World) (e : Ending) (h : LenPost X.reverse n W e W') => len_val h my2 (by omega))
          have G3 := Lib.hid (fun (W W' : World) (e : Ending) (h : LenPost X n1 W e W') => len_val h my3 (by omega))
          have C1 := Lib.hid (fun (W : World) (hW : Below wr.heap.size wr W) => by have := pack_lengths (n : Int) (i64_wf (by omega)) W (hr5b.belo hW); rw [hXX] at this; exact this)
          have C2 := Lib.hid (fun (W : World) (hW : Below wr.heap.size wr W) => by have := pack_lengths (n : Int) (i64_wf (by omega)) W (hr6.belo hW); rw [List.length_reverse, hXX] at this; exact this)
          have C3 := Lib.hid (fun (W : World) (hW : Below wr.heap.size wr W) => by have := pack_lengths (n1 : Int) (i64_wf (by omega)) W (hr5b.belo hW); rw [hXX] at this; exact this)
          have HF := Lib.hid (show 1 ≤ n ∧ n + 1 ≤ 15 ∧ (idx X).length ≤ 2 ^ n ∧ (∀ x ∈ X, 0 ≤ x) ∧ n + 1 = n1 ∧ (idx X).length ≤ 2 ^ n1 ∧ (idx X.reverse).length ≤ 2 ^ n from ⟨by omega, by omega, by omega, fun x hx => (hxb x hx).1, hn1, by omega, by omega⟩)
          have HXB := Lib.hid hxb
          have HXB2 := Lib.hid hxb'
          clear hn hnr hn1 hp6 hpn hXX hil hir hxb hxb' my1 my2 my3 ho hb hB
          go_upto_region 16 with (first
            | (go_at_call 11; refine (C3.out _ b3).mono ?_; intro e w4 h4; obtain ⟨B4, A4, c4, l4, rfl, r4, v4⟩ := G3.out _ _ _ h4; clear h4; have b4 := b3.trans (B4.mono b3.size))
            | (go_at_call 11; refine (C2.out _ b2).mono ?_; intro e w3 h3; obtain ⟨B3, A3, c3, l3, rfl, r3, v3⟩ := G2.out _ _ _ h3; clear h3; have b3 := b2.trans (B3.mono b2.size))
            | (go_at_call 11; refine (C1.out _ (Below.refl _ _)).mono ?_; intro e w2 h2; obtain ⟨B2, A2, c2, l2, rfl, r2, v2⟩ := G1.out _ _ _ h2; clear h2; have b2 := B2)
            | fail)
          try rw [List.length_reverse]
          try rw [HXL.out]
          have R5 := hr5b.belo b4
          have R6 := hr6.belo b4
          have R2 := r2.belo ((B3.trans (B4.mono B3.size)))
          have R3 := r3.belo B4
          have hl2 : l2.length = a.length := by rw [v2.len, HXL.out]
          have hl3 : l3.length = a.length := by rw [v3.len, List.length_reverse, HXL.out]
          have hl4 : l4.length = a.length := by rw [v4.len, HXL.out]
          obtain ⟨f1, f2, f3, f4, f5, f6, f7⟩ := HF.out
          have hback := v2.back v3 f1 (by omega) f3 f4
          rw [← f5] at v4
          have hwide := v2.wider v4 f1 f2 f3 f4
          rw [HXL.out] at hback hwide
          have hord := Lib.hid (fun (i k : Nat) (hi : i < a.length) (hk : k < a.length) => v2.order f1 f3 (by rw [HXL.out]; exact hi) (by rw [HXL.out]; exact hk))
          have q2 := v2.rng f1 f3
          have q3 := v3.rng f1 f7
          have q4 := v4.rng (by omega) (by rw [f5]; exact f6)
          have hal2 : X.length ≤ 400 := by rw [HXL.out]; omega
          have hal3 : X.reverse.length ≤ 400 := by rw [List.length_reverse]; exact hal2
          have K1 := Lib.hid (fun (W : World) (hW : Below w4.heap.size w4 W) => by have := pack_cost W (R5.belo hW) (R2.belo hW) hal2 HXB.out (fun x hx => by have := q2 x hx; omega); rw [HXL.out, hl2, Nat.min_self] at this; exact this)
          have K2 := Lib.hid (fun (W : World) (hW : Below w4.heap.size w4 W) => by have := pack_cost W (R6.belo hW) (R3.belo hW) hal3 HXB2.out (fun x hx => by have := q3 x hx; omega); rw [List.length_reverse, HXL.out, hl3, Nat.min_self, ← hback] at this; exact this)
          have K3 := Lib.hid (fun (W : World) (hW : Below w4.heap.size w4 W) => by have := pack_cost W (R5.belo hW) (r4.belo hW) hal2 HXB.out (fun x hx => by have := q4 x hx; omega); rw [HXL.out, hl4, Nat.min_self] at this; exact this)
          have cx : ∀ i, i < a.length → ∃ ad, A5 = some ad ∧ w4.cell? (ad.add i) = some (.int .i64 (X.getD i 0)) := fun i hi => R5.rd i _ (by rw [List.getD_eq_getElem?_getD, List.getElem?_eq_getElem (by rw [HXL.out]; exact hi)]; rfl)
          have cl : ∀ i, i < a.length → ∃ ad, A2 = some ad ∧ w4.cell? (ad.add i) = some (.int .i64 (l2.getD i 0)) := fun i hi => R2.rd i _ (by rw [List.getD_eq_getElem?_getD, List.getElem?_eq_getElem (by rw [hl2]; exact hi)]; rfl)
          have CX := Lib.hid cx
          have CL := Lib.hid cl
          have hB4 := HB.out.trans (b4.mono HB.out.size)
          have HB4 := Lib.hid hB4
          generalize costN X l2 a.length = S1 at *
          generalize costN X l4 a.length = S2 at *
          have e8 : decide (S2 ≤ S1) = true := by simpa using hwide
          clear f1 f2 f3 f4 f5 f6 f7 hback hwide q2 q3 q4 hal2 hal3 cx cl hB4 hl2 hl3 hl4 v2 v3 v4 R5 R6 R2 R3 r2 r3 r4 hr5 hr5b hr6 HF C1 C2 C3 G1 G2 G3 B2 B3 B4 b2 b3 b4
          go_wp2_with fail
          go_loopg [16, 17] a.length (OdRel w4 a.length)
          case atStart => exact ⟨⟨0, by omega, by omega, rfl, Same.refl _⟩⟩
          case round =>
            rename World => w5
            rename Nat => gk
            obtain ⟨i, hi, hgi, rfl, hs5⟩ := hrel.out_
            clear hrel
            by_cases hia : i < a.length
            · have e2 : decide (i < a.length) = true := by simpa using hia
              go_wp2_with fail
              go_loopg [17] a.length (OdRel2 w5 a.length)
              case atStart => exact ⟨⟨0, by omega, by omega, rfl, Same.refl _⟩⟩
              case round =>
                rename World => w6
                rename Nat => gq
                obtain ⟨k, hk, hgk, rfl, hs6⟩ := hrel.out_
                clear hrel
                by_cases hka : k < a.length
                · have e3 : decide (k < a.length) = true := by simpa using hka
                  obtain ⟨ad, eA, c1⟩ := CX.out i hia
                  obtain ⟨ad', eA', c2⟩ := CX.out k hka
                  rw [eA] at eA'
                  cases eA'
                  obtain ⟨bd, eB, c3⟩ := CL.out i hia
                  obtain ⟨bd', eB', c4⟩ := CL.out k hka
                  rw [eB] at eB'
                  cases eB'
                  have ho := hord.out i k hia hka
                  have s46 := hs5.then hs6
                  have m1 := fun d : Ext (fun _ => False) w6 => (s46.then d.same).cell c1 (fun c => c)
                  have m2 := fun d : Ext (fun _ => False) w6 => (s46.then d.same).cell c2 (fun c => c)
                  have m3 := fun d : Ext (fun _ => False) w6 => (s46.then d.same).cell c3 (fun c => c)
                  have m4 := fun d : Ext (fun _ => False) w6 => (s46.then d.same).cell c4 (fun c => c)
                  generalize X.getD i 0 = x1 at *
                  generalize X.getD k 0 = x2 at *
                  generalize l2.getD i 0 = y1 at *
                  generalize l2.getD k 0 = y2 at *
                  have hia2 : (i : Int) < (a.length : Int) := by omega
                  have hka2 : (k : Int) < (a.length : Int) := by omega
                  clear c1 c2 c3 c4
                  rw [eA, eB]
                  by_cases g1 : x2 < x1
                  · have e4 : decide (x2 < x1) = true := by simpa using g1
                    by_cases g2 : 0 < x2
                    · have e5 : decide (0 < x2) = true := by simpa using g2
                      have e6 : decide (y2 < y1) = false := by simpa using ho g2 g1
                      go_upto_region 24 with fail
                      refine wp_region_ext (fun _ => False) (by kernel_rfl) (by kernel_rfl) ?_
                      repeat (go_big_quiet_step (fail))
                      refine wpQuiet_nil ?_
                      rintro _ ⟨d, rfl⟩
                      go_wp2_with fail
                      rw [← eA, ← eB]
                      go_roundg (gq - 1)
                      case measure => omega
                      case rel => exact ⟨⟨k + 1, by omega, by omega, by go_num, hs6.then d.same⟩⟩
                    · have e5 : decide (0 < x2) = false := by simpa using g2
                      go_upto_region 24 with fail
                      refine wp_region_ext (fun _ => False) (by kernel_rfl) (by kernel_rfl) ?_
                      repeat (go_big_quiet_step (fail))
                      refine wpQuiet_nil ?_
                      rintro _ ⟨d, rfl⟩
                      go_wp2_with fail
                      rw [← eA, ← eB]
                      go_roundg (gq - 1)
                      case measure => omega
                      case rel => exact ⟨⟨k + 1, by omega, by omega, by go_num, hs6.then d.same⟩⟩
                  · have e4 : decide (x2 < x1) = false := by simpa using g1
                    go_upto_region 24 with fail
                    refine wp_region_ext (fun _ => False) (by kernel_rfl) (by kernel_rfl) ?_
                    repeat (go_big_quiet_step (fail))
                    refine wpQuiet_nil ?_
                    rintro _ ⟨d, rfl⟩
                    go_wp2_with fail
                    rw [← eA, ← eB]
                    go_roundg (gq - 1)
                    case measure => omega
                    case rel => exact ⟨⟨k + 1, by omega, by omega, by go_num, hs6.then d.same⟩⟩
                · have e3 : decide (k < a.length) = false := by simpa using hka
                  go_wp2_with fail
                  go_roundg (gk - 1)
                  case measure => omega
                  case rel => exact ⟨⟨i + 1, by omega, by omega, by go_num, hs5.then hs6⟩⟩
            · have e2 : decide (i < a.length) = false := by simpa using hia
              have b5 : Below w4.heap.size w4 w5 := hs5.below (fun _ _ c => c)
              have e9 : (S1 == S1) = true := by simp
              go_wp2_with (first
                | (go_at_call 8; refine (hT _).out.mono ?_; rintro e w6 ⟨rfl, hb6⟩; have b6 := b5.trans (hb6.mono b5.size))
                | (go_at_call 9; refine (K1.out _ b9).mono ?_; rintro e wx ⟨rfl, hsx⟩; have bx := hsx.below_of b9 b9.size (fun _ _ c => c))
                | (go_at_call 9; refine (K3.out _ b8).mono ?_; rintro e w9 ⟨rfl, hs9⟩; have b9 := hs9.below_of b8 b8.size (fun _ _ c => c))
                | (go_at_call 9; refine (K2.out _ b7).mono ?_; rintro e w8 ⟨rfl, hs8⟩; have b8 := hs8.below_of b7 b7.size (fun _ _ c => c))
                | (go_at_call 9; refine (K1.out _ b6).mono ?_; rintro e w7 ⟨rfl, hs7⟩; have b7 := hs7.below_of b6 b6.size (fun _ _ c => c))
                | fail)
              go_ret
              exact ⟨rfl, HB4.out.trans (bx.mono HB4.out.size)⟩
end Go.Proofs.Ytfmglcgdcdcpaaa
