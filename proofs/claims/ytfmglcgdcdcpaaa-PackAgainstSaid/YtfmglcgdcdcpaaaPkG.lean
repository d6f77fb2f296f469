import Derived.Test.YtfmglcgdcdcpaaaPkB
namespace Go.Proofs.Ytfmglcgdcdcpaaa
set_option linter.unusedVariables false
set_option linter.unusedSimpArgs false
open Go.RowKit
attribute [local go_sem] max2i min2i max2t min2t

structure AgRel (w : World) (cs : List Int) (n : Nat) (gk : Nat) (v8 v9 v10 v11 : Value) (wr : World) : Prop where mk ::
  out_ : ∃ (i : Nat) (L : List Int), i ≤ cs.length ∧ cs.length ≤ gk + i ∧ v10 = .int .i64 (i : Int) ∧ Own wr w.heap.size 3 v8 (ints .i64 (mk21 (cs.take i))) ∧ Own wr w.heap.size 3 v9 (ints .i64 L) ∧ L.length = i ∧ (∀ x ∈ L, 1 ≤ x ∧ x ≤ (n : Int)) ∧ (∀ k, v8.ownBlock = some k → v9.ownBlock ≠ some k) ∧ Below w.heap.size w wr
set_option maxHeartbeats 8000000 in
set_option maxRecDepth 100000 in
theorem packAgainst_walk (A : Option Addr) (c : Nat) (a : List Int) (B : Option Addr) (d : Nat) (b : List Int) (mo : Int) (w : World) (h00 : RowOf w .i64 A c a) (h01 : RowOf w .i64 B d b) (h02 : (Lit.int .i64 mo).wf = true) :
    Calls Try.prog 7 #[.slice A a.length c, .slice B b.length d, .int .i64 mo] w fun e w' => e = .returned (.bool true) ∧ Below w.heap.size w w' := by
  have hT := fun W => Lib.hid (told9 W)
  have hca := h00.cap
  have hcb := h01.cap
  have hma := h00.most
  have hmb := h01.most
  obtain ⟨D, hD, eD⟩ := uint_rem mo 12 (by omega) (by omega)
  have eD : wrap64 ((IntKind.u64.wrap mo).tmod 12) = (D : Int) := eD
  obtain ⟨n, hn⟩ : ∃ n : Nat, 4 + D = n := ⟨_, rfl⟩
  have en : (4 : Int) + D = (n : Int) := by omega
  have hnr : 4 ≤ n ∧ n ≤ 15 := by omega
  have H00 := Lib.hid h00
  clear hn
  go_enter Try.func7, Try.ntmps7
  go_upto_region 1 with fail
  go_upto_if 16 with fail
  go_cut [0] (fun s0 wx => s0 = .slice A (a.take 12).length c ∧ wx = w)
  case first =>
    by_cases h : 12 < a.length
    · have d1 : decide ((12 : Int) < a.length) = true := by simp; omega
      have e : (a.take 12).length = 12 := by rw [List.length_take]; omega
      have l1 : (12 : Int) ≤ (c : Int) := by omega
      go_wp2_with fail
      go_meet
      exact ⟨by rw [e], rfl⟩
    · have d1 : decide ((12 : Int) < a.length) = false := by simp; omega
      have e : (a.take 12).length = a.length := by rw [List.length_take]; omega
      go_wp2_with fail
      go_meet
      exact ⟨by rw [e], rfl⟩
  case rest =>
  obtain ⟨rfl, rfl⟩ := hcut
  have hcs : (a.take 12).length ≤ 12 := by rw [List.length_take]; omega
  have h00 : RowOf wc .i64 A c (a.take 12) := ⟨H00.out.rd.take 12, by have := H00.out.cap; rw [List.length_take]; omega, H00.out.most, fun x hx => H00.out.wf x (List.mem_of_mem_take hx), H00.out.nil⟩
  generalize a.take 12 = cs at *
  rename World => w
  go_wp2_with fail
  try rw [eD]
  clear eD en
  go_loopg [8, 9, 10, 11] cs.length (AgRel w cs n)
  case atStart => exact ⟨⟨0, [], by omega, by omega, rfl, Own.nil _ _ _, Own.nil _ _ _, rfl, by simp, fun k hk => by simp [Value.ownBlock] at hk, Below.refl _ _⟩⟩
  case round =>
    obtain ⟨i, L, hi, hg, rfl, hoc, hol, hLl, hL, hap, hb⟩ := hrel.out_
    clear hrel
    by_cases hlt : i < cs.length
    · have e1 : decide (i < cs.length) = true := by simpa using hlt
      have hx : cs[i]? = some (cs.getD i 0) := by rw [List.getD_eq_getElem?_getD, List.getElem?_eq_getElem hlt]; rfl
      obtain ⟨ad, rfl, hc⟩ := h00.rd _ _ hx
      have hc := hb.cell (World.block_lt_of_cell? _ _ hc) |>.trans hc
      have hand := and_20 (cs.getD i 0)
      have HSN := Lib.hid (mk21_snoc hlt)
      have hkl : (mk21 (cs.take i)).length = i := by rw [mk21_len, List.length_take]; omega
      have hkw : ∀ x ∈ mk21 (cs.take i), (Lit.int .i64 x).wf = true := fun x hx => i64_wf (by have := mk21_rng (cs.take i) x hx; omega)
      have hil3 : (i : Int) < cs.length := by omega
      generalize cs.getD i 0 = x at *
      obtain ⟨y, hy⟩ : ∃ y, x % 1048576 = y := ⟨_, rfl⟩
      have hyr : 0 ≤ y ∧ y < 1048576 := by omega
      rw [hy] at hand HSN
      have lit : RowOf (wr.alloc (.cells #[.int .i64 (1 + y)] 3)) .i64 (some ⟨wr.heap.size, 0, none⟩) 1 [1 + y] := RowOf.lit wr .i64 3 [1 + y] (fun q hq => by rw [List.mem_singleton] at hq; subst hq; exact i64_wf (by omega)) (by simp)
      have hzb := hb.size
      generalize mk21 (cs.take i) = K at *
      clear hx hy
      go_upto_region 9 with (at_builtin; go_loud (refine wpList_catN .i64 w.heap.size rfl (.tmp 30) (.tmp 37) 22 3 8 rfl Try.underlying22 Try.intinfo u8 K (some ⟨wr.heap.size, 0, none⟩) 1 1 [1 + y] rfl rfl rfl (hoc.alloc _) lit (by simp; omega) (i + 1) (by omega) (by omega) (by omega) hkw ?_); intro A9 c9 w9 ho9 hr9 hs9 hat9; have B9 := hs9.below_of (hb.alloc hb.size (.cells #[.int .i64 (1 + y)] 3)) (by simp; omega) (fun k hk e => by have := hoc.base_le k e; omega))
      have ol9 : Own w9 w.heap.size 3 u9 (ints .i64 L) := (hol.alloc _).kept hs9 (fun k hk e => hap k e hk)
      have hap9 : ∀ k, (Value.slice A9 (i + 1) c9).ownBlock = some k → u9.ownBlock ≠ some k := fun k hk e => by
        rcases hat9 with h | h
        · rw [h] at hk; exact hap k hk e
        · rw [h] at hk
          injection hk with hk
          have := hol.lt k e
          simp at hk
          omega
      clear hat9 hs9 lit hoc hol hap
      by_cases hlb : i < b.length
      · have e2 : decide (i < b.length) = true := by simpa using hlb
        have hxb : b[i]? = some (b.getD i 0) := by rw [List.getD_eq_getElem?_getD, List.getElem?_eq_getElem hlb]; rfl
        obtain ⟨bd, rfl, hcb2⟩ := h01.rd _ _ hxb
        have hcb2 := B9.cell (World.block_lt_of_cell? _ _ hcb2) |>.trans hcb2
        have hil4 : (i : Int) < b.length := by omega
        generalize b.getD i 0 = t at *
        obtain ⟨z, hz1, hz2, hz3⟩ := uint_rem1 t n (by omega) (by omega)
        clear hxb
        have lit2 : RowOf (w9.alloc (.cells #[.int .i64 (z : Int)] 3)) .i64 (some ⟨w9.heap.size, 0, none⟩) 1 [(z : Int)] := RowOf.lit w9 .i64 3 [(z : Int)] (fun y hy => by rw [List.mem_singleton] at hy; subst hy; exact i64_wf (by omega)) (by simp)
        have hLw : ∀ x ∈ L, (Lit.int .i64 x).wf = true := fun x hx => i64_wf (by have := hL x hx; omega)
        have hz9 := B9.size
        go_wp2_with (at_builtin; go_loud (refine wpList_catN .i64 w.heap.size rfl (.tmp 53) (.tmp 55) 22 3 8 rfl Try.underlying22 Try.intinfo u9 L (some ⟨w9.heap.size, 0, none⟩) 1 1 [(z : Int)] rfl rfl rfl (ol9.alloc _) lit2 (by simp; omega) (i + 1) (by omega) (by omega) (by omega) hLw ?_); intro A8 c8 w8 ho8 hr8 hs8 hat8; have B8 := hs8.below_of (B9.alloc B9.size (.cells #[.int .i64 (z : Int)] 3)) (by simp; omega) (fun k hk e => by have := ol9.base_le k e; omega))
        have oc8 : Own w8 w.heap.size 3 (.slice A9 (i + 1) c9) (ints .i64 (K ++ [1 + y])) := (ho9.alloc _).kept hs8 (fun k hk e => hap9 k hk e)
        have hap8 : ∀ k, (Value.slice A9 (i + 1) c9).ownBlock = some k → (Value.slice A8 (i + 1) c8).ownBlock ≠ some k := fun k hk e => by
          rcases hat8 with h | h
          · rw [h] at e; exact hap9 k hk e
          · rw [h] at e
            injection e with e
            have := ho9.lt k hk
            simp at e
            omega
        go_roundg (gk - 1)
        case measure => omega
        case rel => exact ⟨⟨i + 1, L ++ [(z : Int)], by omega, by omega, by go_num, by rw [HSN.out]; exact oc8, ho8, by rw [List.length_append]; simp; omega, fun x hx => by
          rcases List.mem_append.1 hx with hx | hx
          · exact hL x hx
          · rw [List.mem_singleton] at hx; subst hx; omega, hap8, B8⟩⟩
      · have e2 : decide (i < b.length) = false := by simpa using hlb
        have lit2 : RowOf (w9.alloc (.cells #[.int .i64 4] 3)) .i64 (some ⟨w9.heap.size, 0, none⟩) 1 [4] := RowOf.lit w9 .i64 3 [4] (fun y hy => by rw [List.mem_singleton] at hy; subst hy; exact i64_wf (by omega)) (by simp)
        have hLw : ∀ x ∈ L, (Lit.int .i64 x).wf = true := fun x hx => i64_wf (by have := hL x hx; omega)
        have hz9 := B9.size
        go_wp2_with (at_builtin; go_loud (refine wpList_catN .i64 w.heap.size rfl (.tmp 53) (.tmp 55) 22 3 8 rfl Try.underlying22 Try.intinfo u9 L (some ⟨w9.heap.size, 0, none⟩) 1 1 [4] rfl rfl rfl (ol9.alloc _) lit2 (by simp; omega) (i + 1) (by omega) (by omega) (by omega) hLw ?_); intro A8 c8 w8 ho8 hr8 hs8 hat8; have B8 := hs8.below_of (B9.alloc B9.size (.cells #[.int .i64 4] 3)) (by simp; omega) (fun k hk e => by have := ol9.base_le k e; omega))
        have oc8 : Own w8 w.heap.size 3 (.slice A9 (i + 1) c9) (ints .i64 (K ++ [1 + y])) := (ho9.alloc _).kept hs8 (fun k hk e => hap9 k hk e)
        have hap8 : ∀ k, (Value.slice A9 (i + 1) c9).ownBlock = some k → (Value.slice A8 (i + 1) c8).ownBlock ≠ some k := fun k hk e => by
          rcases hat8 with h | h
          · rw [h] at e; exact hap9 k hk e
          · rw [h] at e
            injection e with e
            have := ho9.lt k hk
            simp at e
            omega
        go_roundg (gk - 1)
        case measure => omega
        case rel => exact ⟨⟨i + 1, L ++ [4], by omega, by omega, by go_num, by rw [HSN.out]; exact oc8, ho8, by rw [List.length_append]; simp; omega, fun x hx => by
          rcases List.mem_append.1 hx with hx | hx
          · exact hL x hx
          · rw [List.mem_singleton] at hx; subst hx; omega, hap8, B8⟩⟩
    · have e1 : decide (i < cs.length) = false := by simpa using hlt
      rw [List.take_of_length_le (by omega : cs.length ≤ i)] at hoc
      have hLc : L.length = cs.length := by omega
      obtain ⟨A5, c5, rfl, hr5, ha5⟩ := hoc.row (fun x hx => i64_wf (by have := mk21_rng cs x hx; omega))
      obtain ⟨A6, c6, rfl, hr6, ha6⟩ := hol.row (fun x hx => i64_wf (by have := hL x hx; omega))
      have hm := mk21_rng cs
      have hml : (mk21 cs).length = cs.length := mk21_len cs
      generalize mk21 cs = X at *
      have hpos : ∀ x ∈ X, 0 < x := fun x hx => by have := hm x hx; omega
      have hil : (idx X).length = X.length := by rw [idx_all hpos, List.length_range]
      have h2n : 2 ^ 4 ≤ 2 ^ n := Nat.pow_le_pow_right (by decide) hnr.1
      have hmay : mayCs X n = true := may_ok (by omega) hnr.2 (by omega) (fun x hx => by have := hm x hx; omega)
      have CL := pack_lengths (n : Int) (i64_wf (by omega)) _ hr5
      have HGO := Lib.hid (fun (e : Ending) (w' : World) (h : LenPost X n wr e w') => len_out h hmay (by omega : (idx X).length ≤ 2 ^ n))
      have HLE := Lib.hid (fun ss (hs : SrtS X ss) (h2 : 2 ≤ X.length) => against_le hs hpos h2 (by omega) (by omega) hnr.2 (by omega : L.length = X.length) (by omega) hL)
      have HOR := Lib.hid (fun ss (hs : SrtS X ss) (h2 : 2 ≤ X.length) => outL_rng hs (by omega : 1 ≤ n) (by omega) (by omega : (idx X).length ≤ 2 ^ n))
      have hra : ∀ x ∈ X, 0 ≤ x ∧ x ≤ 1073741824 := fun x hx => by have := hm x hx; omega
      have hrl : ∀ x ∈ L, 0 ≤ x ∧ x ≤ 1048576 := fun x hx => by have := hL x hx; omega
      have hXl : X.length ≤ 400 := by omega
      have HLX := Lib.hid (by omega : L.length = X.length)
      have hmin : min X.length L.length = X.length := by omega
      have HMIN := Lib.hid hmin
      have CL := Lib.hid CL
      have HIL := Lib.hid hil
      clear hmin hm hml hpos h2n hmay hL hLl hLc hil hoc hol hap ha5 ha6
      go_upto_region 14 with (go_at_call 11; refine CL.out.mono ?_; intro e w2 h2; obtain ⟨B2, A7, c7, l7, rfl, hl7, hr7, _, hv7⟩ := HGO.out _ _ h2; clear h2)
      have hB2 := hb.trans (B2.mono hb.size)
      have hr52 := hr5.belo B2
      have hr62 := hr6.belo B2
      have CK := Lib.hid (can_kind A6 c6 L w2 hr62)
      by_cases hk : kind L = 4
      · have e3 : (kind L == 4) = true := by simpa using hk
        go_wp2_with (first
          | (go_at_call 13; refine CK.out.mono ?_; rintro e w3 ⟨rfl, hw⟩; subst hw)
          | (go_at_call 8; refine (hT _).out.mono ?_; rintro e w6 ⟨rfl, hb6⟩))
        go_ret
        exact ⟨rfl, hB2.trans (hb6.mono hB2.size)⟩
      · have e3 : (kind L == 4) = false := by simpa using hk
        by_cases h2 : L.length < 2
        · have e4 : decide ((L.length : Int) < 2) = true := by simp; omega
          have e4' : decide (L.length < 2) = true := by simpa using h2
          go_wp2_with (first
            | (go_at_call 13; refine CK.out.mono ?_; rintro e w3 ⟨rfl, hw⟩; subst hw)
            | (go_at_call 8; refine (hT _).out.mono ?_; rintro e w6 ⟨rfl, hb6⟩))
          go_ret
          exact ⟨rfl, hB2.trans (hb6.mono hB2.size)⟩
        · have e4 : decide ((L.length : Int) < 2) = false := by simp; omega
          have e4' : decide (L.length < 2) = false := by simpa using h2
          rw [if_neg (by have := HLX.out; rw [HIL.out]; omega)] at hv7
          obtain ⟨ss, hss, rfl⟩ := hv7
          have hle := HLE.out ss hss (by have := HLX.out; omega) hk
          have hor := HOR.out ss hss (by have := HLX.out; omega)
          have hrc : ∀ x ∈ outL X ss n, 0 ≤ x ∧ x ≤ 1048576 := fun x hx => by have := hor x hx; omega
          have C1 := Lib.hid (fun W (hs : Below w2.heap.size w2 W) => pack_cost W (hr52.belo hs) (hr7.belo hs) hXl hra hrc)
          have C2 := Lib.hid (fun W (hs : Below w2.heap.size w2 W) => pack_cost W (hr52.belo hs) (hr62.belo hs) hXl hra hrl)
          rw [hl7] at C1
          rw [HMIN.out] at C2
          rw [Nat.min_self] at C1
          have e5 : decide (costN X (outL X ss n) X.length ≤ costN X L X.length) = true := by simpa using hle
          generalize costN X (outL X ss n) X.length = S1 at *
          generalize costN X L X.length = S2 at *
          have HL7 := Lib.hid hl7
          clear hle hor hrc hra hrl hss hr7 hr5 hr6 hl7
          go_wp2_with (first
            | (go_at_call 13; refine CK.out.mono ?_; rintro e w3 ⟨rfl, hw⟩; subst hw)
            | (go_at_call 8; refine (hT _).out.mono ?_; rintro e w6 ⟨rfl, hb6⟩; have b6 := hb6)
            | (go_at_call 9; refine (C2.out _ b7).mono ?_; rintro e w8 ⟨rfl, hs8⟩; have b8 := hs8.below_of b7 b7.size (fun _ _ c => c))
            | (go_at_call 9; refine (C1.out _ b6).mono ?_; rintro e w7 ⟨rfl, hs7⟩; have b7 := hs7.below_of b6 b6.size (fun _ _ c => c))
            | fail)
          go_ret
          exact ⟨rfl, hB2.trans (b8.mono hB2.size)⟩
end Go.Proofs.Ytfmglcgdcdcpaaa
