import Derived.Test.YtnnjpbghnfohaaaMapH
namespace Go.Proofs.Ytnnjpbghnfohaaa
set_option linter.unusedVariables false
set_option linter.unusedSimpArgs false
open Go.RowKit Go.MapKept
attribute [local go_sem] max2i min2i max2t min2t

structure LoRel (w : World) (D : Nat) (gk : Nat) (s12 : Value) (wr : World) : Prop where mk ::
  out_ : ∃ q : Nat, q ≤ D ∧ gk = D - q ∧ s12 = .int .i64 q ∧ Same (fun _ => False) w wr
structure LiRel (w : World) (s : List Int) (p q : Nat) (gk : Nat) (s13 : Value) (wr : World) : Prop where mk ::
  out_ : ∃ n : Nat, n ≤ 258 ∧ q + n ≤ s.length ∧ gk = s.length - (q + n) ∧ s13 = .int .i64 n ∧ alk s 258 p q = alkN s 258 p q (s.length - (q + n)) n ∧ Same (fun _ => False) w wr
set_option maxHeartbeats 4000000 in
set_option maxRecDepth 100000 in
theorem matchLongest_walk (A : Option Addr) (c : Nat) (bs : List Int) (n at_ : Int) (w : World) (h00 : RowOf w .u8 A c bs) (h01 : (Lit.int .i64 n).wf = true) (h02 : (Lit.int .i64 at_).wf = true) :
    Calls Try.prog 6 #[.slice A bs.length c, .int .i64 n, .int .i64 at_] w fun e w' => e = .returned (.bool true) ∧ Below w.heap.size w w' := by
  have ht := fun W => Lib.hid (told13 W)
  have hm := h00.most
  have hcap := h00.cap
  by_cases h1 : 200 < bs.length
  · have h1' : decide ((200 : Int) < bs.length) = true := by simp; omega
    go_enter Try.func6, Try.ntmps6
    go_wp2_with (go_at_call 8; refine (ht _).out.mono ?_; rintro e w' ⟨rfl, hb⟩)
    go_ret
    exact ⟨rfl, hb⟩
  have h1' : decide ((200 : Int) < bs.length) = false := by simp; omega
  by_cases h2 : bs.length = 0
  · have h2' : (((bs.length : Nat) : Int) == 0) = true := by simp [h2]
    have h2'' : (bs.length == 0) = true := by simp [h2]
    clear h2
    go_enter Try.func6, Try.ntmps6
    go_wp2_with (go_at_call 8; refine (ht _).out.mono ?_; rintro e w' ⟨rfl, hb⟩)
    go_ret
    exact ⟨rfl, hb⟩
  have h2' : (((bs.length : Nat) : Int) == 0) = false := by simpa using h2
  have h2'' : (bs.length == 0) = false := by simpa using h2
  go_enter Try.func6, Try.ntmps6
  go_wp2_with fail
  refine (match_long A c bs n w h00 (by omega)).mono ?_
  rintro e w1 ⟨A', c', s, rfl, hr1, hs1, hs2, hb1⟩
  have hm1 := hr1.most
  have hcap1 := hr1.cap
  obtain ⟨D, hD1, hD2⟩ := uint_rem at_ s.length (by omega) (by omega)
  go_wp2_with fail
  refine (match_new A' c' s false false false 5000 100000 w1 hr1 (by omega)).mono ?_
  rintro e w2 ⟨f1, rfl, ⟨base1, m1, Af1, cf1, es1, clock1, hbase1, hF1, hE1, hB2⟩⟩
  have hF1 : FinB w2 base1 f1 Af1 cf1 s false false 5000 100000 32768 ((258 : Nat) : Int) m1 := hF1
  have hr2 := hr1.belo hB2
  have hb2 := hb1.trans (hB2.mono hb1.size)
  go_wp2_with fail
  refine (match_findQ (M := 258) (far := 32768) (good := 100000) (chain := 5000) hF1 hE1 hr2.wf D (by omega) (by omega)).mono ?_
  rintro e w5 ⟨rfl, hs5⟩
  have hb5 := hs5.below_of hb2 hb2.size (fun _ _ c => c)
  have hr5 := hr2.same hs5 (fun _ _ c => c)
  have hlong := fun q (hq : q < D) => findQ_longest (bs := s) (M := 258) (far := 32768) (chain := 5000) (good := 100000) (at_ := D) (q := q) (by omega) (by omega) (by omega) (by omega) hq
  have his := findQ_is s 258 32768 5000 100000 D (by omega)
  have hsame := fun i => findQ_same (i := i) (show 3 ≤ 258 from by omega) (Prod.eta (findQ s 258 32768 5000 100000 D)).symm
  obtain ⟨ha1, ha2⟩ := findQ_le s 258 32768 5000 100000 D
  have hpos : (findQ s 258 32768 5000 100000 D).1 = 0 ∨ (3 ≤ (findQ s 258 32768 5000 100000 D).1 ∧ 1 ≤ (findQ s 258 32768 5000 100000 D).2 ∧ (findQ s 258 32768 5000 100000 D).2 ≤ D) := by
    rcases his with e | ⟨q, h1, h2, h3, h4, h5⟩
    · left; rw [e]
    · right; rw [h4]; exact ⟨h5, by omega, by omega⟩
  clear his hF1 hE1 hr1 hr2 hB2 hb1 hb2 hs5
  generalize (findQ s 258 32768 5000 100000 D).1 = a1 at *
  generalize (findQ s 258 32768 5000 100000 D).2 = d1 at *
  have HL := Lib.hid hlong
  have HS := Lib.hid hsame
  clear hlong hsame
  by_cases h0 : a1 = 0
  · have e0 : decide (0 < a1) = false := by simp [h0]
    have e0' : decide ((0 : Int) < a1) = false := by simp [h0]
    clear h0
    go_wp2_with fail
    refine wp_region_ext (fun _ => False) (by kernel_rfl) (by kernel_rfl) ?_
    repeat (go_big_quiet_step (fail))
    refine wpQuiet_nil ?_
    rintro _ ⟨d, rfl⟩
    have hrl := hr5.same d.same (fun _ _ c => c)
    have hbl := d.same.below_of hb5 hb5.size (fun _ _ c => c)
    generalize d.world = wl at *
    clear hpos HS
    go_wp2_with fail
    go_loopg [12] D (LoRel wl D)
    case atStart => exact ⟨⟨0, by omega, by omega, rfl, Same.refl _⟩⟩
    case round =>
      obtain ⟨q, hq, hg, rfl, hs⟩ := hrel.out_
      clear hrel
      have hr6 := hrl.same hs (fun _ _ c => c)
      by_cases hlt : q < D
      · have e1 : decide (q < D) = true := by simpa using hlt
        have hL := HL.out q hlt
        go_wp2_with fail
        obtain ⟨go, hgo⟩ : ∃ g, g = gk := ⟨_, rfl⟩
        go_loopg [13] (s.length - D) (LiRel wr s q D)
        case atStart => exact ⟨⟨0, by omega, by omega, by omega, rfl, rfl, Same.refl _⟩⟩
        case round =>
          obtain ⟨n', hn, hqn, hg', rfl, ha, hs'⟩ := hrel.out_
          clear hrel
          have hs6 := hs.then hs'
          have hr8 := hrl.same hs6 (fun _ _ c => c)
          obtain ⟨ba, bo, hA⟩ := hr8.addr3 (fun e => by rw [e] at hD1; simp at hD1)
          subst hA
          have ra := fun (j : Nat) (hj : j < s.length) (d : Ext (fun _ => False) wr) => (show d.world.cell? ⟨ba, bo + j, none⟩ = some (.int .u8 (s.getD j 0)) from by
            obtain ⟨ad, e, hc⟩ := (hr8.rd.same d.same (fun _ _ c => c)).at_ hj
            injection e with e
            subst e
            rw [Addr.add_lit] at hc
            exact hc)
          by_cases c1 : n' < 258
          · have e1 : decide (n' < 258) = true := by simp; omega
            have e1' : decide ((n' : Int) < 258) = true := by simp; omega
            by_cases c2 : D + n' < s.length
            · have e2 : decide ((D : Int) + n' < s.length) = true := by simp; omega
              have r1 := ra (q + n') (by omega)
              have r2 := ra (D + n') c2
              have k1 : ((q : Int) + n').toNat = q + n' := by omega
              have k2 : ((D : Int) + n').toNat = D + n' := by omega
              have e3 : decide ((q : Int) + n' < s.length) = true := by simp; omega
              have hf : s.length - (D + n') = (s.length - (D + (n' + 1))) + 1 := by omega
              rw [hf, alkN] at ha
              clear ra
              by_cases c3 : s.getD (q + n') 0 = s.getD (D + n') 0
              · have e4 : (s.getD (q + n') 0 == s.getD (D + n') 0) = true := by rw [c3]; simp
                rw [if_pos ⟨c1, c2, c3⟩] at ha
                have HA := Lib.hid ha
                clear ha hf c3
                generalize s.getD (q + n') 0 = b1 at *
                generalize s.getD (D + n') 0 = b2 at *
                go_wp2_with fail
                refine wp_region_ext (fun _ => False) (by kernel_rfl) (by kernel_rfl) ?_
                repeat (go_big_quiet_step (fail))
                refine wpQuiet_nil ?_
                rintro _ ⟨d, rfl⟩
                go_wp2_with fail
                go_roundg (gk - 1)
                case measure => omega
                case rel => exact ⟨⟨n' + 1, by omega, by omega, by omega, by go_num, HA.out, hs'.then d.same⟩⟩
              · have e4 : (s.getD (q + n') 0 == s.getD (D + n') 0) = false := by simpa using c3
                rw [if_neg (fun c => c3 c.2.2)] at ha
                clear hf c3
                generalize s.getD (q + n') 0 = b1 at *
                generalize s.getD (D + n') 0 = b2 at *
                go_wp2_with fail
                refine wp_region_ext (fun _ => False) (by kernel_rfl) (by kernel_rfl) ?_
                repeat (go_big_quiet_step (fail))
                refine wpQuiet_nil ?_
                rintro _ ⟨d, rfl⟩
                rw [ha] at hL
                have hw3 := d.same
                by_cases f1 : 3 ≤ n'
                · obtain ⟨h6, h7⟩ := hL f1
                  have e5 : decide (3 ≤ n') = true := by simpa using f1
                  have e6 : decide (a1 < n') = false := by simp; omega
                  by_cases f2 : n' = a1
                  · have e8 : decide ((D : Int) - q < d1) = false := by have := h7 f2; simp; omega
                    have e7 : (n' == a1) = true := by simpa using f2
                    have e7' : (((n' : Nat) : Int) == a1) = true := by simp [f2]
                    clear f2 h7
                    go_wp2_with fail
                    go_roundg (go - 1)
                    case measure => omega
                    case rel => exact ⟨⟨q + 1, by omega, by omega, by go_num, hs6.then hw3⟩⟩
                  · have e7 : (n' == a1) = false := by simpa using f2
                    have e7' : (((n' : Nat) : Int) == a1) = false := by simp; omega
                    clear f2 h7
                    go_wp2_with fail
                    go_roundg (go - 1)
                    case measure => omega
                    case rel => exact ⟨⟨q + 1, by omega, by omega, by go_num, hs6.then hw3⟩⟩
                · have e5 : decide (3 ≤ n') = false := by simpa using f1
                  go_wp2_with fail
                  all_goals (go_roundg (go - 1))
                  all_goals first
                    | omega
                    | exact ⟨⟨q + 1, by omega, by omega, by go_num, hs6.then hw3⟩⟩
            · have e2 : decide ((D : Int) + n' < s.length) = false := by simp; omega
              rw [show s.length - (D + n') = 0 from by omega, alkN] at ha
              clear ra
              go_wp2_with fail
              refine wp_region_ext (fun _ => False) (by kernel_rfl) (by kernel_rfl) ?_
              repeat (go_big_quiet_step (fail))
              refine wpQuiet_nil ?_
              rintro _ ⟨d, rfl⟩
              rw [ha] at hL
              have hw3 := d.same
              by_cases f1 : 3 ≤ n'
              · obtain ⟨h6, h7⟩ := hL f1
                have e5 : decide (3 ≤ n') = true := by simpa using f1
                have e6 : decide (a1 < n') = false := by simp; omega
                by_cases f2 : n' = a1
                · have e8 : decide ((D : Int) - q < d1) = false := by have := h7 f2; simp; omega
                  have e7 : (n' == a1) = true := by simpa using f2
                  have e7' : (((n' : Nat) : Int) == a1) = true := by simp [f2]
                  clear f2 h7
                  go_wp2_with fail
                  go_roundg (go - 1)
                  case measure => omega
                  case rel => exact ⟨⟨q + 1, by omega, by omega, by go_num, hs6.then hw3⟩⟩
                · have e7 : (n' == a1) = false := by simpa using f2
                  have e7' : (((n' : Nat) : Int) == a1) = false := by simp; omega
                  clear f2 h7
                  go_wp2_with fail
                  go_roundg (go - 1)
                  case measure => omega
                  case rel => exact ⟨⟨q + 1, by omega, by omega, by go_num, hs6.then hw3⟩⟩
              · have e5 : decide (3 ≤ n') = false := by simpa using f1
                go_wp2_with fail
                all_goals (go_roundg (go - 1))
                all_goals first
                  | omega
                  | exact ⟨⟨q + 1, by omega, by omega, by go_num, hs6.then hw3⟩⟩
          · have e1 : decide (n' < 258) = false := by simp; omega
            have e1' : decide ((n' : Int) < 258) = false := by simp; omega
            have ha' : alkN s 258 q D (s.length - (D + n')) n' = n' := by
              cases s.length - (D + n') with
              | zero => rfl
              | succ k => rw [alkN, if_neg (fun c => c1 c.1)]
            rw [ha'] at ha
            clear ra ha'
            go_wp2_with fail
            refine wp_region_ext (fun _ => False) (by kernel_rfl) (by kernel_rfl) ?_
            repeat (go_big_quiet_step (fail))
            refine wpQuiet_nil ?_
            rintro _ ⟨d, rfl⟩
            rw [ha] at hL
            have hw3 := d.same
            by_cases f1 : 3 ≤ n'
            · obtain ⟨h6, h7⟩ := hL f1
              have e5 : decide (3 ≤ n') = true := by simpa using f1
              have e6 : decide (a1 < n') = false := by simp; omega
              by_cases f2 : n' = a1
              · have e8 : decide ((D : Int) - q < d1) = false := by have := h7 f2; simp; omega
                have e7 : (n' == a1) = true := by simpa using f2
                have e7' : (((n' : Nat) : Int) == a1) = true := by simp [f2]
                clear f2 h7
                go_wp2_with fail
                go_roundg (go - 1)
                case measure => omega
                case rel => exact ⟨⟨q + 1, by omega, by omega, by go_num, hs6.then hw3⟩⟩
              · have e7 : (n' == a1) = false := by simpa using f2
                have e7' : (((n' : Nat) : Int) == a1) = false := by simp; omega
                clear f2 h7
                go_wp2_with fail
                go_roundg (go - 1)
                case measure => omega
                case rel => exact ⟨⟨q + 1, by omega, by omega, by go_num, hs6.then hw3⟩⟩
            · have e5 : decide (3 ≤ n') = false := by simpa using f1
              go_wp2_with fail
              all_goals (go_roundg (go - 1))
              all_goals first
                | omega
                | exact ⟨⟨q + 1, by omega, by omega, by go_num, hs6.then hw3⟩⟩
      · have e1 : decide (q < D) = false := by simpa using hlt
        have hb8 := hs.below_of hbl hbl.size (fun _ _ c => c)
        go_wp2_with (go_at_call 8; refine (ht _).out.mono ?_; rintro e w' ⟨rfl, hb'⟩)
        go_ret
        exact ⟨rfl, hb8.trans (hb'.mono hb8.size)⟩
  · obtain ⟨p1, p2, p3⟩ := hpos.resolve_left h0
    have e1 : decide (0 < a1) = true := by simp; omega
    have e2 : decide (a1 < 3) = false := by simp; omega
    have e3 : decide (d1 < 1) = false := by simp; omega
    have e4 : decide (D < d1) = false := by simp; omega
    have e2' : decide ((a1 : Int) < 3) = false := by simp; omega
    have e3' : decide ((d1 : Int) < 1) = false := by simp; omega
    have e4' : decide ((D : Int) < d1) = false := by simp; omega
    have y2 := (HS.out (a1 - 1) (by omega)).2.1
    have hle : D + a1 ≤ s.length := by omega
    have hpc := piece_same (s := s) (p := D) (q := D - d1) (n := a1) hle (by omega) (fun i hi => by rw [(HS.out i hi).2.2, show D + i - d1 = D - d1 + i from by omega])
    obtain ⟨u, hu⟩ : ∃ u, D - d1 = u := ⟨_, rfl⟩
    have hu2 : (D : Int) - d1 = (u : Int) := by omega
    rw [hu] at hpc
    have hcD : ¬ c' = D := by omega
    have hcu : ¬ c' = u := by omega
    have l1 : D ≤ D + a1 := by omega
    have l2 : D + a1 ≤ c' := by omega
    have k1 : ((D : Int) + a1).toNat = D + a1 := by omega
    have k2 : D + a1 - D = a1 := by omega
    have CY := fun d : Ext (fun _ => False) w5 => conv_piece hr5 D a1 hle (by omega) (c' - D) d.world d.same
    have CX := fun d : Ext (fun _ => False) w5 => conv_piece hr5 u a1 (by omega) (by omega) (c' - u) d.world d.same
    rw [hpc] at CY
    have m1 := fun d : Ext (fun _ => False) w5 => Lib.hid (ext_call (d := d) ((match_again A' c' s u a1 d.world (hr5.same d.same (fun _ _ c => c)) (by omega) (by omega)).mono (fun e w' h => ⟨(if_neg hcu ▸ h.1 : _), h.2 ▸ Same.refl _⟩)))
    clear hpos HS hpc
    generalize strOfNums ((s.drop u).take a1) = TX at *
    go_wp2_with fail
    refine wp_region_ext (fun _ => False) (by kernel_rfl) (by kernel_rfl) ?_
    repeat (go_big_quiet_step (exact (m1 _).out))
    refine wpQuiet_nil ?_
    rintro _ ⟨d, rfl⟩
    have hrl := hr5.same d.same (fun _ _ c => c)
    have hbl := d.same.below_of hb5 hb5.size (fun _ _ c => c)
    generalize d.world = wl at *
    generalize Value.slice (Option.map (fun x => x.add D) A') a1 (c' - D) = v58
    generalize Value.slice (Option.map (fun x => x.add u) A') a1 (c' - u) = v65
    go_wp2_with fail
    go_loopg [12] D (LoRel wl D)
    case atStart => exact ⟨⟨0, by omega, by omega, rfl, Same.refl _⟩⟩
    case round =>
      obtain ⟨q, hq, hg, rfl, hs⟩ := hrel.out_
      clear hrel
      have hr6 := hrl.same hs (fun _ _ c => c)
      by_cases hlt : q < D
      · have e1 : decide (q < D) = true := by simpa using hlt
        have hL := HL.out q hlt
        go_wp2_with fail
        obtain ⟨go, hgo⟩ : ∃ g, g = gk := ⟨_, rfl⟩
        go_loopg [13] (s.length - D) (LiRel wr s q D)
        case atStart => exact ⟨⟨0, by omega, by omega, by omega, rfl, rfl, Same.refl _⟩⟩
        case round =>
          obtain ⟨n', hn, hqn, hg', rfl, ha, hs'⟩ := hrel.out_
          clear hrel
          have hs6 := hs.then hs'
          have hr8 := hrl.same hs6 (fun _ _ c => c)
          obtain ⟨ba, bo, hA⟩ := hr8.addr3 (fun e => by rw [e] at hD1; simp at hD1)
          subst hA
          have ra := fun (j : Nat) (hj : j < s.length) (d : Ext (fun _ => False) wr) => (show d.world.cell? ⟨ba, bo + j, none⟩ = some (.int .u8 (s.getD j 0)) from by
            obtain ⟨ad, e, hc⟩ := (hr8.rd.same d.same (fun _ _ c => c)).at_ hj
            injection e with e
            subst e
            rw [Addr.add_lit] at hc
            exact hc)
          by_cases c1 : n' < 258
          · have e1 : decide (n' < 258) = true := by simp; omega
            have e1' : decide ((n' : Int) < 258) = true := by simp; omega
            by_cases c2 : D + n' < s.length
            · have e2 : decide ((D : Int) + n' < s.length) = true := by simp; omega
              have r1 := ra (q + n') (by omega)
              have r2 := ra (D + n') c2
              have k1 : ((q : Int) + n').toNat = q + n' := by omega
              have k2 : ((D : Int) + n').toNat = D + n' := by omega
              have e3 : decide ((q : Int) + n' < s.length) = true := by simp; omega
              have hf : s.length - (D + n') = (s.length - (D + (n' + 1))) + 1 := by omega
              rw [hf, alkN] at ha
              clear ra
              by_cases c3 : s.getD (q + n') 0 = s.getD (D + n') 0
              · have e4 : (s.getD (q + n') 0 == s.getD (D + n') 0) = true := by rw [c3]; simp
                rw [if_pos ⟨c1, c2, c3⟩] at ha
                have HA := Lib.hid ha
                clear ha hf c3
                generalize s.getD (q + n') 0 = b1 at *
                generalize s.getD (D + n') 0 = b2 at *
                go_wp2_with fail
                refine wp_region_ext (fun _ => False) (by kernel_rfl) (by kernel_rfl) ?_
                repeat (go_big_quiet_step (fail))
                refine wpQuiet_nil ?_
                rintro _ ⟨d, rfl⟩
                go_wp2_with fail
                go_roundg (gk - 1)
                case measure => omega
                case rel => exact ⟨⟨n' + 1, by omega, by omega, by omega, by go_num, HA.out, hs'.then d.same⟩⟩
              · have e4 : (s.getD (q + n') 0 == s.getD (D + n') 0) = false := by simpa using c3
                rw [if_neg (fun c => c3 c.2.2)] at ha
                clear hf c3
                generalize s.getD (q + n') 0 = b1 at *
                generalize s.getD (D + n') 0 = b2 at *
                go_wp2_with fail
                refine wp_region_ext (fun _ => False) (by kernel_rfl) (by kernel_rfl) ?_
                repeat (go_big_quiet_step (fail))
                refine wpQuiet_nil ?_
                rintro _ ⟨d, rfl⟩
                rw [ha] at hL
                have hw3 := d.same
                by_cases f1 : 3 ≤ n'
                · obtain ⟨h6, h7⟩ := hL f1
                  have e5 : decide (3 ≤ n') = true := by simpa using f1
                  have e6 : decide (a1 < n') = false := by simp; omega
                  by_cases f2 : n' = a1
                  · have e8 : decide ((D : Int) - q < d1) = false := by have := h7 f2; simp; omega
                    have e7 : (n' == a1) = true := by simpa using f2
                    have e7' : (((n' : Nat) : Int) == a1) = true := by simp [f2]
                    clear f2 h7
                    go_wp2_with fail
                    go_roundg (go - 1)
                    case measure => omega
                    case rel => exact ⟨⟨q + 1, by omega, by omega, by go_num, hs6.then hw3⟩⟩
                  · have e7 : (n' == a1) = false := by simpa using f2
                    have e7' : (((n' : Nat) : Int) == a1) = false := by simp; omega
                    clear f2 h7
                    go_wp2_with fail
                    go_roundg (go - 1)
                    case measure => omega
                    case rel => exact ⟨⟨q + 1, by omega, by omega, by go_num, hs6.then hw3⟩⟩
                · have e5 : decide (3 ≤ n') = false := by simpa using f1
                  go_wp2_with fail
                  all_goals (go_roundg (go - 1))
                  all_goals first
                    | omega
                    | exact ⟨⟨q + 1, by omega, by omega, by go_num, hs6.then hw3⟩⟩
            · have e2 : decide ((D : Int) + n' < s.length) = false := by simp; omega
              rw [show s.length - (D + n') = 0 from by omega, alkN] at ha
              clear ra
              go_wp2_with fail
              refine wp_region_ext (fun _ => False) (by kernel_rfl) (by kernel_rfl) ?_
              repeat (go_big_quiet_step (fail))
              refine wpQuiet_nil ?_
              rintro _ ⟨d, rfl⟩
              rw [ha] at hL
              have hw3 := d.same
              by_cases f1 : 3 ≤ n'
              · obtain ⟨h6, h7⟩ := hL f1
                have e5 : decide (3 ≤ n') = true := by simpa using f1
                have e6 : decide (a1 < n') = false := by simp; omega
                by_cases f2 : n' = a1
                · have e8 : decide ((D : Int) - q < d1) = false := by have := h7 f2; simp; omega
                  have e7 : (n' == a1) = true := by simpa using f2
                  have e7' : (((n' : Nat) : Int) == a1) = true := by simp [f2]
                  clear f2 h7
                  go_wp2_with fail
                  go_roundg (go - 1)
                  case measure => omega
                  case rel => exact ⟨⟨q + 1, by omega, by omega, by go_num, hs6.then hw3⟩⟩
                · have e7 : (n' == a1) = false := by simpa using f2
                  have e7' : (((n' : Nat) : Int) == a1) = false := by simp; omega
                  clear f2 h7
                  go_wp2_with fail
                  go_roundg (go - 1)
                  case measure => omega
                  case rel => exact ⟨⟨q + 1, by omega, by omega, by go_num, hs6.then hw3⟩⟩
              · have e5 : decide (3 ≤ n') = false := by simpa using f1
                go_wp2_with fail
                all_goals (go_roundg (go - 1))
                all_goals first
                  | omega
                  | exact ⟨⟨q + 1, by omega, by omega, by go_num, hs6.then hw3⟩⟩
          · have e1 : decide (n' < 258) = false := by simp; omega
            have e1' : decide ((n' : Int) < 258) = false := by simp; omega
            have ha' : alkN s 258 q D (s.length - (D + n')) n' = n' := by
              cases s.length - (D + n') with
              | zero => rfl
              | succ k => rw [alkN, if_neg (fun c => c1 c.1)]
            rw [ha'] at ha
            clear ra ha'
            go_wp2_with fail
            refine wp_region_ext (fun _ => False) (by kernel_rfl) (by kernel_rfl) ?_
            repeat (go_big_quiet_step (fail))
            refine wpQuiet_nil ?_
            rintro _ ⟨d, rfl⟩
            rw [ha] at hL
            have hw3 := d.same
            by_cases f1 : 3 ≤ n'
            · obtain ⟨h6, h7⟩ := hL f1
              have e5 : decide (3 ≤ n') = true := by simpa using f1
              have e6 : decide (a1 < n') = false := by simp; omega
              by_cases f2 : n' = a1
              · have e8 : decide ((D : Int) - q < d1) = false := by have := h7 f2; simp; omega
                have e7 : (n' == a1) = true := by simpa using f2
                have e7' : (((n' : Nat) : Int) == a1) = true := by simp [f2]
                clear f2 h7
                go_wp2_with fail
                go_roundg (go - 1)
                case measure => omega
                case rel => exact ⟨⟨q + 1, by omega, by omega, by go_num, hs6.then hw3⟩⟩
              · have e7 : (n' == a1) = false := by simpa using f2
                have e7' : (((n' : Nat) : Int) == a1) = false := by simp; omega
                clear f2 h7
                go_wp2_with fail
                go_roundg (go - 1)
                case measure => omega
                case rel => exact ⟨⟨q + 1, by omega, by omega, by go_num, hs6.then hw3⟩⟩
            · have e5 : decide (3 ≤ n') = false := by simpa using f1
              go_wp2_with fail
              all_goals (go_roundg (go - 1))
              all_goals first
                | omega
                | exact ⟨⟨q + 1, by omega, by omega, by go_num, hs6.then hw3⟩⟩
      · have e1 : decide (q < D) = false := by simpa using hlt
        have hb8 := hs.below_of hbl hbl.size (fun _ _ c => c)
        go_wp2_with (go_at_call 8; refine (ht _).out.mono ?_; rintro e w' ⟨rfl, hb'⟩)
        go_ret
        exact ⟨rfl, hb8.trans (hb'.mono hb8.size)⟩
end Go.Proofs.Ytnnjpbghnfohaaa
