import Derived.Test.YtnnjpbghnfohaaaMapV
namespace Go.Proofs.Ytnnjpbghnfohaaa
set_option linter.unusedVariables false
set_option linter.unusedSimpArgs false
open Go.RowKit Go.MapKept
attribute [local go_sem] max2i min2i max2t min2t

structure LgRel (w : World) (bs : List Int) (r : Nat) (gk : Nat) (s5 s6 : Value) (wr : World) : Prop where mk ::
  out_ : ∃ (i : Nat) (cur : List Int), i ≤ r ∧ gk = r - i ∧ s6 = .int .i64 i ∧ Own wr w.heap.size 5 s5 (ints .u8 cur) ∧ cur.length = i * bs.length ∧ (∀ x ∈ cur, (Lit.int .u8 x).wf = true) ∧ Below w.heap.size w wr
set_option maxHeartbeats 1600000 in
set_option maxRecDepth 100000 in
theorem match_longB (A : Option Addr) (c : Nat) (bs : List Int) (n : Int) (w : World) (h00 : RowOf w .u8 A c bs) (hl : bs.length ≤ 300) :
    Calls Try.prog 9 #[.slice A bs.length c, .int .i64 n] w fun e w' => ∃ A' c' s, e = .returned (.slice A' (List.length s) c') ∧ RowOf w' .u8 A' c' s ∧ RdB w' A' s ∧ s.length ≤ 8 * bs.length ∧ bs.length ≤ s.length ∧ Below w.heap.size w w' := by
  have hm := h00.most
  have hcap := h00.cap
  have ha1 := and_7 n
  obtain ⟨r, hr, er⟩ := nat_of_mod n 8 (by omega)
  rw [show ((8 : Nat) : Int) = 8 from rfl] at er
  rw [er] at ha1
  clear er
  go_enter Try.func9, Try.ntmps9
  go_wp2_with fail
  go_loopg [5, 6] (r + 1) (LgRel w bs (r + 1))
  case atStart => exact ⟨⟨0, [], by omega, by omega, rfl, Own.nil _ _ _, by simp, by simp, Below.refl _ _⟩⟩
  case round =>
    obtain ⟨i, cur, hi, hg, rfl, ho, hcl, hwf, hb⟩ := hrel.out_
    clear hrel
    have hz := hb.size
    have hcb : cur.length ≤ 300 * 8 := by rw [hcl, Nat.mul_comm]; exact Nat.mul_le_mul (by omega) (by omega)
    by_cases hlt : i < r + 1
    · have e1 : decide ((i : Int) < 1 + r) = true := by simp; omega
      have HCL := Lib.hid hcl
      clear hcl
      go_wp2_with (at_builtin; refine wpList_cat .u8 w.heap.size rfl (.tmp 14) (.tmp 15) 22 5 1 rfl Try.underlying22 Try.u8inf _ cur A c bs rfl rfl ho (h00.belo hb) hz (cur.length + bs.length) rfl (by omega) (by omega) hwf ?_; intro A8 c8 w8 ho8 hr8 hs8 hat8; clear hat8)
      have hb8 := hs8.below_of hb hz (fun i hi e => by have := ho.base_le i e; omega)
      go_roundg (gk - 1)
      case measure => omega
      case rel => exact ⟨⟨i + 1, cur ++ bs, by omega, by omega, by go_num, ho8, by rw [List.length_append, HCL.out, Nat.add_mul, Nat.one_mul], hr8.wf, hb8⟩⟩
    · have e1 : decide ((i : Int) < 1 + r) = false := by simp; omega
      have ho9 := ho
      obtain ⟨A5, c5, rfl, hr5, ha5⟩ := ho.row hwf
      have hrb : RdB wr A5 cur := by
        obtain ⟨A6, c6, e6, _, _, h, _⟩ := ho9.rdb
        injection e6 with e6 _ _
        rw [e6]; exact h
      clear ho9
      have h1 : cur.length ≤ 8 * bs.length := by rw [hcl]; exact Nat.mul_le_mul (by omega) (Nat.le_refl _)
      have h2 : bs.length ≤ cur.length := by rw [hcl]; exact Nat.le_mul_of_pos_left _ (by omega)
      clear hcl
      go_wp2_with fail
      go_ret
      exact ⟨A5, c5, cur, rfl, hr5, hrb, h1, h2, hb⟩
theorem match_long (A : Option Addr) (c : Nat) (bs : List Int) (n : Int) (w : World) (h00 : RowOf w .u8 A c bs) (hl : bs.length ≤ 300) :
    Calls Try.prog 9 #[.slice A bs.length c, .int .i64 n] w fun e w' => ∃ A' c' s, e = .returned (.slice A' (List.length s) c') ∧ RowOf w' .u8 A' c' s ∧ s.length ≤ 8 * bs.length ∧ bs.length ≤ s.length ∧ Below w.heap.size w w' :=
  (match_longB A c bs n w h00 hl).mono fun e w' ⟨A', c', s, he, hr, _, h1, h2, hb⟩ => ⟨A', c', s, he, hr, h1, h2, hb⟩
structure PlRel (w : World) (bs : List Int) (a : Nat) (gk : Nat) (s24 : Value) (wr : World) : Prop where mk ::
  out_ : ∃ i : Nat, i ≤ a ∧ gk = a - i ∧ s24 = .int .i64 i ∧ Same (fun _ => False) w wr
set_option maxHeartbeats 4000000 in
set_option maxRecDepth 100000 in
theorem matchPlans_walk (A : Option Addr) (c : Nat) (bs : List Int) (n at_ p q : Int) (w : World) (h00 : RowOf w .u8 A c bs) (h01 : (Lit.int .i64 n).wf = true) (h02 : (Lit.int .i64 at_).wf = true) (h03 : (Lit.int .i64 p).wf = true) (h04 : (Lit.int .i64 q).wf = true) :
    Calls Try.prog 7 #[.slice A bs.length c, .int .i64 n, .int .i64 at_, .int .i64 p, .int .i64 q] w fun e w' => e = .returned (.bool true) ∧ Below w.heap.size w w' := by
  have ht := fun W => Lib.hid (told13 W)
  have hm := h00.most
  have hcap := h00.cap
  by_cases h1 : 200 < bs.length
  · have h1' : decide ((200 : Int) < bs.length) = true := by simp; omega
    go_enter Try.func7, Try.ntmps7
    go_wp2_with (go_at_call 8; refine (ht _).out.mono ?_; rintro e w' ⟨rfl, hb⟩)
    go_ret
    exact ⟨rfl, hb⟩
  have h1' : decide ((200 : Int) < bs.length) = false := by simp; omega
  by_cases h2 : bs.length = 0
  · have h2' : (((bs.length : Nat) : Int) == 0) = true := by simp [h2]
    have h2'' : (bs.length == 0) = true := by simp [h2]
    clear h2
    go_enter Try.func7, Try.ntmps7
    go_wp2_with (go_at_call 8; refine (ht _).out.mono ?_; rintro e w' ⟨rfl, hb⟩)
    go_ret
    exact ⟨rfl, hb⟩
  have h2' : (((bs.length : Nat) : Int) == 0) = false := by simpa using h2
  have h2'' : (bs.length == 0) = false := by simpa using h2
  have ap := and_1023 p
  obtain ⟨x, hx, ex⟩ := nat_of_mod p 1024 (by omega)
  rw [show ((1024 : Nat) : Int) = 1024 from rfl] at ex
  rw [ex] at ap
  have aq := and_1023 q
  obtain ⟨y, hy, ey⟩ := nat_of_mod q 1024 (by omega)
  rw [show ((1024 : Nat) : Int) = 1024 from rfl] at ey
  rw [ey] at aq
  clear ex ey
  go_enter Try.func7, Try.ntmps7
  go_wp2_with fail
  refine (match_long A c bs n w h00 (by omega)).mono ?_
  rintro e w1 ⟨A', c', s, rfl, hr1, hs1, hs2, hb1⟩
  have hm1 := hr1.most
  have hcap1 := hr1.cap
  obtain ⟨D, hD1, hD2⟩ := uint_rem at_ s.length (by omega) (by omega)
  by_cases hxy : y < x
  · have exy : decide (y < x) = true := by simpa using hxy
    go_wp2_with fail
    refine (match_new A' c' s false false false (y : Int) 100000 w1 hr1 (by omega)).mono ?_
    rintro e w2 ⟨f1, rfl, ⟨base1, m1, Af1, cf1, es1, clock1, hbase1, hF1, hE1, hB2⟩⟩
    have hF1 : FinB w2 base1 f1 Af1 cf1 s false false (y : Int) 100000 32768 ((258 : Nat) : Int) m1 := hF1
    have hr2 := hr1.belo hB2
    have hb2 := hb1.trans (hB2.mono hb1.size)
    go_wp2_with fail
    refine (match_new A' c' s false false false (x : Int) 100000 w2 hr2 (by omega)).mono ?_
    rintro e w3 ⟨f2, rfl, ⟨base2, m2, Af2, cf2, es2, clock2, hbase2, hF2, hE2, hB3⟩⟩
    have hF2 : FinB w3 base2 f2 Af2 cf2 s false false (x : Int) 100000 32768 ((258 : Nat) : Int) m2 := hF2
    have hr3 := hr2.belo hB3
    have hb3 := hb2.trans (hB3.mono hb2.size)
    have hF1 := hF1.kept (Same.of_below (S := fun _ => False) hB3) (fun c => c) (fun _ _ c => c)
    have hE1 := hE1.kept (Same.of_below (S := fun _ => False) hB3) (fun c => c) (fun _ _ _ _ c => c)
    go_wp2_with fail
    refine (match_new A' c' s false false true (x : Int) 100000 w3 hr3 (by omega)).mono ?_
    rintro e w4 ⟨f3, rfl, ⟨base3, m3, Af3, cf3, es3, clock3, hbase3, hF3, hE3, hB4⟩⟩
    have hF3 : FinB w4 base3 f3 Af3 cf3 s false false (x : Int) 100000 65536 ((65538 : Nat) : Int) m3 := hF3
    have hr4 := hr3.belo hB4
    have hb4 := hb3.trans (hB4.mono hb3.size)
    have hF1 := hF1.kept (Same.of_below (S := fun _ => False) hB4) (fun c => c) (fun _ _ c => c)
    have hE1 := hE1.kept (Same.of_below (S := fun _ => False) hB4) (fun c => c) (fun _ _ _ _ c => c)
    have hF2 := hF2.kept (Same.of_below (S := fun _ => False) hB4) (fun c => c) (fun _ _ c => c)
    have hE2 := hE2.kept (Same.of_below (S := fun _ => False) hB4) (fun c => c) (fun _ _ _ _ c => c)
    clear hr1 hr2 hr3 hB2 hB3 hB4 hb1 hb2 hb3
    go_wp2_with fail
    refine (match_findQ (M := 258) hF1 hE1 hr4.wf D (by omega) (by omega)).mono ?_
    rintro e w5 ⟨rfl, hs5⟩
    go_wp2_with fail
    refine (match_findQ (M := 258) (hF2.kept hs5 (fun c => c) (fun _ _ c => c)) (hE2.kept hs5 (fun c => c) (fun _ _ _ _ c => c)) hr4.wf D (by omega) (by omega)).mono ?_
    rintro e w6 ⟨rfl, hs6⟩
    have hs6 := hs5.then hs6
    go_wp2_with fail
    refine (match_findQ (M := 65538) (far := 65536) (good := 100000) (chain := (x : Int)) (hF3.kept hs6 (fun c => c) (fun _ _ c => c)) (hE3.kept hs6 (fun c => c) (fun _ _ _ _ c => c)) hr4.wf D (by omega) (by omega)).mono ?_
    rintro e w7 ⟨rfl, hs7⟩
    have hs7 := hs6.then hs7
    have hb7 := hs7.below_of hb4 hb4.size (fun _ _ c => c)
    have hr7 := hr4.same hs7 (fun _ _ c => c)
    have g1 := findQ_mono s (M := 258) (M' := 258) (far := 32768) (far' := 32768) (chain := (y : Int)) (chain' := (x : Int)) (good := 100000) (Nat.le_refl _) (by omega) (by omega) (by omega) D
    have g2 := findQ_mono s (M := 258) (M' := 65538) (far := 32768) (far' := 65536) (chain := (x : Int)) (chain' := (x : Int)) (good := 100000) (by omega) (by omega) (by omega) (by omega) D
    obtain ⟨ha1, ha2⟩ := findQ_le s 258 32768 (y : Int) 100000 D
    obtain ⟨hc1, hc2⟩ := findQ_le s 258 32768 (x : Int) 100000 D
    obtain ⟨hw1, hw2⟩ := findQ_le s 65538 65536 (x : Int) 100000 D
    have hno : ((y : Int) : Int) = 0 → (findQ s 258 32768 (y : Int) 100000 D).1 = 0 := fun e => by rw [e]; exact findQ_no s 258 32768 100000 D
    have hthree : (findQ s 258 32768 (y : Int) 100000 D).1 = 0 ∨ 3 ≤ (findQ s 258 32768 (y : Int) 100000 D).1 := by
      rcases findQ_is s 258 32768 (y : Int) 100000 D (by omega) with e | ⟨q, _, _, _, _, h⟩
      · left; rw [e]
      · exact .inr h
    have hsame := fun i => findQ_same (i := i) (show 3 ≤ 258 from by omega) (Prod.eta (findQ s 258 32768 (y : Int) 100000 D)).symm
    clear hF1 hF2 hF3 hE1 hE2 hE3 hs5 hs6 hs7 hr4 hb4
    generalize (findQ s 258 32768 (y : Int) 100000 D).1 = a1 at *
    generalize (findQ s 258 32768 (y : Int) 100000 D).2 = d1 at *
    generalize (findQ s 258 32768 (x : Int) 100000 D).1 = a2 at *
    generalize (findQ s 258 32768 (x : Int) 100000 D).2 = d2 at *
    generalize (findQ s 65538 65536 (x : Int) 100000 D).1 = a3 at *
    generalize (findQ s 65538 65536 (x : Int) 100000 D).2 = d3 at *
    have e1 : decide (a2 < a1) = false := by simp; omega
    have e2 : decide (a3 < a2) = false := by simp; omega
    have HS := Lib.hid hsame
    clear hsame
    by_cases hX : y = 0
    · have ha0 : a1 = 0 := hno (by rw [hX]; rfl)
      subst ha0
      have x1 : (y == 0) = true := by simp [hX]
      have x2 : (((y : Nat) : Int) == 0) = true := by simp [hX]
      clear hno hthree g1 e1
      go_wp2_with fail
      go_loopg [24] 0 (PlRel w7 s 0)
      case atStart => exact ⟨⟨0, by omega, by omega, rfl, Same.refl _⟩⟩
      case round =>
        obtain ⟨i, hi, hg, rfl, hs⟩ := hrel.out_
        have e5 : i = 0 := by omega
        subst e5
        have hb8 := hs.below_of hb7 hb7.size (fun _ _ c => c)
        go_wp2_with (go_at_call 8; refine (ht _).out.mono ?_; rintro e w' ⟨rfl, hb'⟩)
        go_ret
        exact ⟨rfl, hb8.trans (hb'.mono hb8.size)⟩
    · have x1 : (y == 0) = false := by simpa using hX
      have x2 : (((y : Nat) : Int) == 0) = false := by simpa using hX
      clear hno g1
      go_wp2_with fail
      go_loopg [24] a1 (PlRel w7 s a1)
      case atStart => exact ⟨⟨0, by omega, by omega, rfl, Same.refl _⟩⟩
      case round =>
        obtain ⟨i, hi, hg, rfl, hs⟩ := hrel.out_
        clear hrel
        by_cases hlt : i < a1
        · have e5 : decide (i < a1) = true := by simpa using hlt
          obtain ⟨y1, y2, y3⟩ := HS.out i hlt
          have hr8 := hr7.same hs (fun _ _ c => c)
          obtain ⟨ba, bo, hA⟩ := hr8.addr3 (fun e => by rw [e] at y2; simp at y2)
          subst hA
          obtain ⟨u, hu⟩ : ∃ u, D + i - d1 = u := ⟨_, rfl⟩
          rw [hu] at y3
          have hu2 : (D : Int) + i - d1 = (u : Int) := by omega
          have hul : u < s.length := by omega
          have ra := fun (j : Nat) (hj : j < s.length) (d : Ext (fun _ => False) wr) => (show d.world.cell? ⟨ba, bo + j, none⟩ = some (.int .u8 (s.getD j 0)) from by
            obtain ⟨ad, e, hc⟩ := (hr8.rd.same d.same (fun _ _ c => c)).at_ hj
            injection e with e
            subst e
            rw [Addr.add_lit] at hc
            exact hc)
          have r1 := ra (D + i) y2
          have r2 := ra u hul
          have k1 : ((D : Int) + i).toNat = D + i := by omega
          have l1 : decide ((D : Int) + i < s.length) = true := by simp; omega
          rw [y3] at r1
          have e6 : (s.getD u 0 == s.getD u 0) = true := by simp
          clear ra y3 hthree
          generalize s.getD u 0 = bb at *
          go_wp2_with fail
          refine wp_region_ext (fun _ => False) (by kernel_rfl) (by kernel_rfl) ?_
          repeat (go_big_quiet_step (fail))
          refine wpQuiet_nil ?_
          rintro _ ⟨d, rfl⟩
          go_wp2_with fail
          go_roundg (gk - 1)
          case measure => omega
          case rel => exact ⟨⟨i + 1, by omega, by omega, by go_num, hs.then d.same⟩⟩
        · have e5 : decide (i < a1) = false := by simpa using hlt
          have hb8 := hs.below_of hb7 hb7.size (fun _ _ c => c)
          have HV := Lib.hid (show (((a1 : Nat) : Int) == 0 || decide ((3 : Int) ≤ (a1 : Nat))) = true from by
            rcases hthree with e | e
            · simp [e]
            · simp; omega)
          clear hthree
          go_wp2_with (go_at_call 8; refine (ht _).out.mono ?_; rintro e w' ⟨rfl, hb'⟩)
          all_goals
            go_ret
            first
            | exact ⟨rfl, hb8.trans (hb'.mono hb8.size)⟩
            | (refine ⟨?_, hb8.trans (hb'.mono hb8.size)⟩; show Ending.returned (Value.bool (((a1 : Nat) : Int) == 0 || decide ((3 : Int) ≤ (a1 : Nat)))) = _; rw [HV.out])
  · have exy : decide (y < x) = false := by simpa using hxy
    go_wp2_with fail
    refine (match_new A' c' s false false false (x : Int) 100000 w1 hr1 (by omega)).mono ?_
    rintro e w2 ⟨f1, rfl, ⟨base1, m1, Af1, cf1, es1, clock1, hbase1, hF1, hE1, hB2⟩⟩
    have hF1 : FinB w2 base1 f1 Af1 cf1 s false false (x : Int) 100000 32768 ((258 : Nat) : Int) m1 := hF1
    have hr2 := hr1.belo hB2
    have hb2 := hb1.trans (hB2.mono hb1.size)
    go_wp2_with fail
    refine (match_new A' c' s false false false (y : Int) 100000 w2 hr2 (by omega)).mono ?_
    rintro e w3 ⟨f2, rfl, ⟨base2, m2, Af2, cf2, es2, clock2, hbase2, hF2, hE2, hB3⟩⟩
    have hF2 : FinB w3 base2 f2 Af2 cf2 s false false (y : Int) 100000 32768 ((258 : Nat) : Int) m2 := hF2
    have hr3 := hr2.belo hB3
    have hb3 := hb2.trans (hB3.mono hb2.size)
    have hF1 := hF1.kept (Same.of_below (S := fun _ => False) hB3) (fun c => c) (fun _ _ c => c)
    have hE1 := hE1.kept (Same.of_below (S := fun _ => False) hB3) (fun c => c) (fun _ _ _ _ c => c)
    go_wp2_with fail
    refine (match_new A' c' s false false true (y : Int) 100000 w3 hr3 (by omega)).mono ?_
    rintro e w4 ⟨f3, rfl, ⟨base3, m3, Af3, cf3, es3, clock3, hbase3, hF3, hE3, hB4⟩⟩
    have hF3 : FinB w4 base3 f3 Af3 cf3 s false false (y : Int) 100000 65536 ((65538 : Nat) : Int) m3 := hF3
    have hr4 := hr3.belo hB4
    have hb4 := hb3.trans (hB4.mono hb3.size)
    have hF1 := hF1.kept (Same.of_below (S := fun _ => False) hB4) (fun c => c) (fun _ _ c => c)
    have hE1 := hE1.kept (Same.of_below (S := fun _ => False) hB4) (fun c => c) (fun _ _ _ _ c => c)
    have hF2 := hF2.kept (Same.of_below (S := fun _ => False) hB4) (fun c => c) (fun _ _ c => c)
    have hE2 := hE2.kept (Same.of_below (S := fun _ => False) hB4) (fun c => c) (fun _ _ _ _ c => c)
    clear hr1 hr2 hr3 hB2 hB3 hB4 hb1 hb2 hb3
    go_wp2_with fail
    refine (match_findQ (M := 258) hF1 hE1 hr4.wf D (by omega) (by omega)).mono ?_
    rintro e w5 ⟨rfl, hs5⟩
    go_wp2_with fail
    refine (match_findQ (M := 258) (hF2.kept hs5 (fun c => c) (fun _ _ c => c)) (hE2.kept hs5 (fun c => c) (fun _ _ _ _ c => c)) hr4.wf D (by omega) (by omega)).mono ?_
    rintro e w6 ⟨rfl, hs6⟩
    have hs6 := hs5.then hs6
    go_wp2_with fail
    refine (match_findQ (M := 65538) (far := 65536) (good := 100000) (chain := (y : Int)) (hF3.kept hs6 (fun c => c) (fun _ _ c => c)) (hE3.kept hs6 (fun c => c) (fun _ _ _ _ c => c)) hr4.wf D (by omega) (by omega)).mono ?_
    rintro e w7 ⟨rfl, hs7⟩
    have hs7 := hs6.then hs7
    have hb7 := hs7.below_of hb4 hb4.size (fun _ _ c => c)
    have hr7 := hr4.same hs7 (fun _ _ c => c)
    have g1 := findQ_mono s (M := 258) (M' := 258) (far := 32768) (far' := 32768) (chain := (x : Int)) (chain' := (y : Int)) (good := 100000) (Nat.le_refl _) (by omega) (by omega) (by omega) D
    have g2 := findQ_mono s (M := 258) (M' := 65538) (far := 32768) (far' := 65536) (chain := (y : Int)) (chain' := (y : Int)) (good := 100000) (by omega) (by omega) (by omega) (by omega) D
    obtain ⟨ha1, ha2⟩ := findQ_le s 258 32768 (x : Int) 100000 D
    obtain ⟨hc1, hc2⟩ := findQ_le s 258 32768 (y : Int) 100000 D
    obtain ⟨hw1, hw2⟩ := findQ_le s 65538 65536 (y : Int) 100000 D
    have hno : ((x : Int) : Int) = 0 → (findQ s 258 32768 (x : Int) 100000 D).1 = 0 := fun e => by rw [e]; exact findQ_no s 258 32768 100000 D
    have hthree : (findQ s 258 32768 (x : Int) 100000 D).1 = 0 ∨ 3 ≤ (findQ s 258 32768 (x : Int) 100000 D).1 := by
      rcases findQ_is s 258 32768 (x : Int) 100000 D (by omega) with e | ⟨q, _, _, _, _, h⟩
      · left; rw [e]
      · exact .inr h
    have hsame := fun i => findQ_same (i := i) (show 3 ≤ 258 from by omega) (Prod.eta (findQ s 258 32768 (x : Int) 100000 D)).symm
    clear hF1 hF2 hF3 hE1 hE2 hE3 hs5 hs6 hs7 hr4 hb4
    generalize (findQ s 258 32768 (x : Int) 100000 D).1 = a1 at *
    generalize (findQ s 258 32768 (x : Int) 100000 D).2 = d1 at *
    generalize (findQ s 258 32768 (y : Int) 100000 D).1 = a2 at *
    generalize (findQ s 258 32768 (y : Int) 100000 D).2 = d2 at *
    generalize (findQ s 65538 65536 (y : Int) 100000 D).1 = a3 at *
    generalize (findQ s 65538 65536 (y : Int) 100000 D).2 = d3 at *
    have e1 : decide (a2 < a1) = false := by simp; omega
    have e2 : decide (a3 < a2) = false := by simp; omega
    have HS := Lib.hid hsame
    clear hsame
    by_cases hX : x = 0
    · have ha0 : a1 = 0 := hno (by rw [hX]; rfl)
      subst ha0
      have x1 : (x == 0) = true := by simp [hX]
      have x2 : (((x : Nat) : Int) == 0) = true := by simp [hX]
      clear hno hthree g1 e1
      go_wp2_with fail
      go_loopg [24] 0 (PlRel w7 s 0)
      case atStart => exact ⟨⟨0, by omega, by omega, rfl, Same.refl _⟩⟩
      case round =>
        obtain ⟨i, hi, hg, rfl, hs⟩ := hrel.out_
        have e5 : i = 0 := by omega
        subst e5
        have hb8 := hs.below_of hb7 hb7.size (fun _ _ c => c)
        go_wp2_with (go_at_call 8; refine (ht _).out.mono ?_; rintro e w' ⟨rfl, hb'⟩)
        go_ret
        exact ⟨rfl, hb8.trans (hb'.mono hb8.size)⟩
    · have x1 : (x == 0) = false := by simpa using hX
      have x2 : (((x : Nat) : Int) == 0) = false := by simpa using hX
      clear hno g1
      go_wp2_with fail
      go_loopg [24] a1 (PlRel w7 s a1)
      case atStart => exact ⟨⟨0, by omega, by omega, rfl, Same.refl _⟩⟩
      case round =>
        obtain ⟨i, hi, hg, rfl, hs⟩ := hrel.out_
        clear hrel
        by_cases hlt : i < a1
        · have e5 : decide (i < a1) = true := by simpa using hlt
          obtain ⟨y1, y2, y3⟩ := HS.out i hlt
          have hr8 := hr7.same hs (fun _ _ c => c)
          obtain ⟨ba, bo, hA⟩ := hr8.addr3 (fun e => by rw [e] at y2; simp at y2)
          subst hA
          obtain ⟨u, hu⟩ : ∃ u, D + i - d1 = u := ⟨_, rfl⟩
          rw [hu] at y3
          have hu2 : (D : Int) + i - d1 = (u : Int) := by omega
          have hul : u < s.length := by omega
          have ra := fun (j : Nat) (hj : j < s.length) (d : Ext (fun _ => False) wr) => (show d.world.cell? ⟨ba, bo + j, none⟩ = some (.int .u8 (s.getD j 0)) from by
            obtain ⟨ad, e, hc⟩ := (hr8.rd.same d.same (fun _ _ c => c)).at_ hj
            injection e with e
            subst e
            rw [Addr.add_lit] at hc
            exact hc)
          have r1 := ra (D + i) y2
          have r2 := ra u hul
          have k1 : ((D : Int) + i).toNat = D + i := by omega
          have l1 : decide ((D : Int) + i < s.length) = true := by simp; omega
          rw [y3] at r1
          have e6 : (s.getD u 0 == s.getD u 0) = true := by simp
          clear ra y3 hthree
          generalize s.getD u 0 = bb at *
          go_wp2_with fail
          refine wp_region_ext (fun _ => False) (by kernel_rfl) (by kernel_rfl) ?_
          repeat (go_big_quiet_step (fail))
          refine wpQuiet_nil ?_
          rintro _ ⟨d, rfl⟩
          go_wp2_with fail
          go_roundg (gk - 1)
          case measure => omega
          case rel => exact ⟨⟨i + 1, by omega, by omega, by go_num, hs.then d.same⟩⟩
        · have e5 : decide (i < a1) = false := by simpa using hlt
          have hb8 := hs.below_of hb7 hb7.size (fun _ _ c => c)
          have HV := Lib.hid (show (((a1 : Nat) : Int) == 0 || decide ((3 : Int) ≤ (a1 : Nat))) = true from by
            rcases hthree with e | e
            · simp [e]
            · simp; omega)
          clear hthree
          go_wp2_with (go_at_call 8; refine (ht _).out.mono ?_; rintro e w' ⟨rfl, hb'⟩)
          all_goals
            go_ret
            first
            | exact ⟨rfl, hb8.trans (hb'.mono hb8.size)⟩
            | (refine ⟨?_, hb8.trans (hb'.mono hb8.size)⟩; show Ending.returned (Value.bool (((a1 : Nat) : Int) == 0 || decide ((3 : Int) ≤ (a1 : Nat)))) = _; rw [HV.out])
end Go.Proofs.Ytnnjpbghnfohaaa
