import Derived.Test.YtnnjpbghnfohaaaMapH
import Derived.Test.YtnnjpbghnfohaaaMapK
namespace Go.Proofs.Ytnnjpbghnfohaaa
set_option linter.unusedVariables false
set_option linter.unusedSimpArgs false
open Go.RowKit Go.MapKept
attribute [local go_sem] max2i min2i max2t min2t

theorem str_ne_ {a b : ByteArray} (h : a ≠ b) : (a.toList == b.toList) = false := by
  rw [beq_eq_false_iff_ne]; intro e; apply h; apply ByteArray.ext; apply Array.ext'; simpa [ByteArray.toList_eq] using e
theorem u8_of_ {x : Int} (h : (Lit.int .u8 x).wf = true) : 0 ≤ x ∧ x < 256 := by
  simp [Lit.wf, IntKind.min, IntKind.max, IntKind.bits, IntKind.signed] at h; omega
theorem strOfNums_inj : ∀ {a b : List Int}, (∀ x ∈ a, (Lit.int .u8 x).wf = true) → (∀ x ∈ b, (Lit.int .u8 x).wf = true) → strOfNums a = strOfNums b → a = b := fun {a b} ha hb h => by
  have e := congrArg (fun s : ByteArray => s.data.toList) h
  simp only [strOfNums_data] at e
  have hl : a.length = b.length := by simpa using congrArg List.length e
  apply List.ext_getElem hl
  intro i h1 h2
  have e2 := congrArg (fun l : List UInt8 => l[i]?) e
  simp only [List.getElem?_map, List.getElem?_eq_getElem h1, List.getElem?_eq_getElem h2, Option.map_some, Option.some.injEq] at e2
  have e3 := congrArg UInt8.toNat e2
  have w1 := ha _ (List.getElem_mem h1)
  have w2 := hb _ (List.getElem_mem h2)
  have r1 := u8_of_ w1
  have r2 := u8_of_ w2
  simp only [UInt8.toNat_ofNat'] at e3
  omega
theorem take3 {bs : List Int} {p : Nat} (h : p + 3 ≤ bs.length) : (bs.drop p).take 3 = [bs.getD p 0, bs.getD (p + 1) 0, bs.getD (p + 2) 0] := by
  rw [List.drop_eq_getElem_cons (by omega), List.drop_eq_getElem_cons (by omega), List.drop_eq_getElem_cons (by omega)]
  simp only [List.take_succ_cons, List.take_zero, List.getD_eq_getElem?_getD]
  rw [List.getElem?_eq_getElem (i := p) (by omega), List.getElem?_eq_getElem (i := p + 1) (by omega), List.getElem?_eq_getElem (i := p + 2) (by omega)]
  rfl
theorem tri_text {bs : List Int} (hwf : ∀ x ∈ bs, (Lit.int .u8 x).wf = true) {p q : Nat} (hp : p + 3 ≤ bs.length) (hq : q + 3 ≤ bs.length) (h : tri bs p ≠ tri bs q) : strOfNums ((bs.drop p).take 3) ≠ strOfNums ((bs.drop q).take 3) := fun e => by
  have := strOfNums_inj (fun x hx => hwf x (List.mem_of_mem_drop (List.mem_of_mem_take hx))) (fun x hx => hwf x (List.mem_of_mem_drop (List.mem_of_mem_take hx))) e
  rw [take3 hp, take3 hq] at this
  simp only [List.cons.injEq, and_true] at this
  exact h (by simp only [tri, this.1, this.2.1, this.2.2])
theorem tri_same {bs : List Int} {p q : Nat} (hp : p + 3 ≤ bs.length) (hq : q + 3 ≤ bs.length) (h : tri bs p = tri bs q) : (bs.drop p).take 3 = (bs.drop q).take 3 := by
  rw [take3 hp, take3 hq]
  simp only [tri, Prod.mk.injEq] at h
  rw [h.1, h.2.1, h.2.2]
structure RfRel (w : World) (bs : List Int) (M : Nat) (far chain good : Int) (at_ : Nat) (res : Nat × Nat) (gk : Nat) (s12 s13 s14 s15 : Value) (wr : World) : Prop where mk ::
  out_ : ∃ k s b d : Nat, k ≤ at_ ∧ gk = k ∧ s + k ≤ at_ ∧ b ≤ 100000 ∧ d ≤ 100000 ∧ s12 = .int .i64 b ∧ s13 = .int .i64 d ∧ s14 = .int .i64 s ∧ s15 = .int .i64 ((k : Int) - 1) ∧ refR bs M far chain good at_ k s (b, d) = res ∧ Same (fun _ => False) w wr
structure RgRel (w : World) (bs : List Int) (M p q : Nat) (gk : Nat) (s16 : Value) (wr : World) : Prop where mk ::
  out_ : ∃ n : Nat, n ≤ M ∧ q + n ≤ bs.length ∧ gk = bs.length - (q + n) ∧ s16 = .int .i64 n ∧ alk bs M p q = alkN bs M p q (bs.length - (q + n)) n ∧ Same (fun _ => False) w wr
set_option maxHeartbeats 4000000 in
set_option maxRecDepth 100000 in
theorem ref_match (A : Option Addr) (c : Nat) (bs : List Int) (store lazy wide : Bool) (chain good : Int) (M : Nat) (far : Int) (hM : M = if wide then 65538 else 258) (hfar : far = if wide then 65536 else 32768) (w : World) (hr : RowOf w .u8 A c bs) (hl : bs.length ≤ 100000) (at_ : Nat) (hat : at_ + 3 ≤ bs.length) :
    Calls Try.prog 12 #[.slice A bs.length c, .agg #[.bool store, .int .i64 chain, .bool lazy, .int .i64 good], .bool wide, .int .i64 at_] w fun e w' => e = .returned (.tuple #[.int .i64 (findQ bs M far chain (max good 1) at_).1, .int .i64 (findQ bs M far chain (max good 1) at_).2]) ∧ Below w.heap.size w w' := by
  have hm := hr.most
  have hcap := hr.cap
  have hwf := hr.wf
  have hq := findQ_ref bs M far chain (max good 1) (by omega) at_ hat
  rw [hq]
  obtain ⟨rs, hrs⟩ : ∃ r, refR bs M far chain (max good 1) at_ at_ 0 (0, 0) = r := ⟨_, rfl⟩
  rw [hrs]
  clear hq
  have hB0 := (Below.refl w.heap.size w).alloc (Nat.le_refl _) (.cells #[.bool store, .int .i64 chain, .bool lazy, .int .i64 good] 24)
  have hr0 := hr.belo hB0
  have hbx := Blk.new w 24 #[.bool store, .int .i64 chain, .bool lazy, .int .i64 good]
  have e0 : decide (at_ + 3 ≤ bs.length) = true := by simpa using hat
  have e0' : decide ((bs.length : Int) - 3 < at_) = false := by simp; omega
  cases wide
  · simp only [Bool.false_eq_true, if_false] at hM hfar
    subst hM hfar
    go_enter Try.func12, Try.ntmps12
    go_wp2_with fail
    generalize w.alloc (.cells #[.bool store, .int .i64 chain, .bool lazy, .int .i64 good] 24) = w0 at *
    go_loopg [12, 13, 14, 15] at_ (RfRel w0 bs 258 32768 chain (max good 1) at_ rs)
    case atStart => exact ⟨⟨at_, 0, 0, 0, by omega, by omega, by omega, by omega, by omega, rfl, rfl, rfl, rfl, hrs, Same.refl _⟩⟩
    case round =>
      obtain ⟨k, s, b, d0, hk, hg, hs0, hbm, hdm, rfl, rfl, rfl, rfl, hres, hsm⟩ := hrel.out_
      clear hrel
      have hr1 := hr0.same hsm (fun _ _ c => c)
      have hbx1 := hbx.same hsm (fun c => c)
      have b1 := hbx1.cell 1
      have b3 := hbx1.cell 3
      have hb1 := hsm.below_of hB0 hB0.size (fun _ _ c => c)
      rcases k with _ | q
      · rw [refR] at hres
        rw [show (((0 : Nat) : Int) - 1) = -1 from rfl]
        have HR := Lib.hid hres
        clear hres
        go_wp2_with fail
        go_ret2
        rw [← HR.out]
        exact ⟨rfl, hb1⟩
      rw [show (((q + 1 : Nat) : Int) - 1) = (q : Int) from by omega]
      rw [refR] at hres
      by_cases c1 : (at_ : Int) - q ≤ 32768 ∧ (s : Int) < chain
      · rw [if_pos c1] at hres
        obtain ⟨c1, c2⟩ := c1
        have e1 : decide ((at_ : Int) - q ≤ 32768) = true := by simpa using c1
        have e2 : decide ((s : Int) < chain) = true := by simpa using c2
        have hcD : ¬ c = at_ := by omega
        have hcu : ¬ c = q := by omega
        have l1 : q ≤ q + 3 := by omega
        have l2 : q + 3 ≤ c := by omega
        have l3 : at_ ≤ at_ + 3 := by omega
        have l4 : at_ + 3 ≤ c := by omega
        have k1 : ((q : Int) + 3).toNat = q + 3 := by omega
        have k2 : ((at_ : Int) + 3).toNat = at_ + 3 := by omega
        have k3 : q + 3 - q = 3 := by omega
        have k4 : at_ + 3 - at_ = 3 := by omega
        have CX := fun d : Ext (fun _ => False) wr => conv_piece hr1 q 3 (by omega) (by omega) (c - q) d.world d.same
        have CY := fun d : Ext (fun _ => False) wr => conv_piece hr1 at_ 3 (by omega) (by omega) (c - at_) d.world d.same
        by_cases t : tri bs q = tri bs at_
        · rw [if_pos t] at hres
          rw [tri_same (by omega) hat t] at CX
          have HRS := Lib.hid hres
          clear hres t
          generalize strOfNums ((bs.drop at_).take 3) = TX at *
          go_wp2_with fail
          refine wp_region_ext (fun _ => False) (by kernel_rfl) (by kernel_rfl) ?_
          repeat (go_big_quiet_step (fail))
          refine wpQuiet_nil ?_
          rintro _ ⟨d, rfl⟩
          have hs2 := hsm.then d.same
          have hres := HRS.out
          clear CX CY HRS hr1 hbx1 b1 b3 hb1
          generalize d.world = w5 at *
          generalize Value.slice (Option.map (fun x => x.add q) A) 3 (c - q) = v50
          generalize Value.slice (Option.map (fun x => x.add at_) A) 3 (c - at_) = v56
          go_wp2_with fail
          obtain ⟨go, hgo⟩ : ∃ g, g = gk := ⟨_, rfl⟩
          go_loopg [16] (bs.length - at_) (RgRel w5 bs 258 q at_)
          case atStart => exact ⟨⟨0, by omega, by omega, by omega, rfl, rfl, Same.refl _⟩⟩
          case round =>
            obtain ⟨n', hn, hqn, hg', rfl, ha, hs'⟩ := hrel.out_
            clear hrel
            have hs6 := hs2.then hs'
            have hr8 := hr0.same hs6 (fun _ _ c => c)
            obtain ⟨ba, bo, hA⟩ := hr8.addr3 (fun e => by rw [e] at hat; simp at hat)
            subst hA
            have ra := fun (j : Nat) (hj : j < bs.length) (d : Ext (fun _ => False) wr) => (show d.world.cell? ⟨ba, bo + j, none⟩ = some (.int .u8 (bs.getD j 0)) from by
              obtain ⟨ad, e, hc⟩ := (hr8.rd.same d.same (fun _ _ c => c)).at_ hj
              injection e with e
              subst e
              rw [Addr.add_lit] at hc
              exact hc)
            by_cases c4 : at_ + n' < bs.length
            · have e3 : decide ((at_ : Int) + n' < bs.length) = true := by simp; omega
              by_cases c3 : n' < 258
              · have e4 : decide (n' < 258) = true := by simp; omega
                have e4' : decide ((n' : Int) < 258) = true := by simp; omega
                have r1 := ra (q + n') (by omega)
                have r2 := ra (at_ + n') c4
                have k5 : ((q : Int) + n').toNat = q + n' := by omega
                have k6 : ((at_ : Int) + n').toNat = at_ + n' := by omega
                have e5 : decide ((q : Int) + n' < bs.length) = true := by simp; omega
                have hf : bs.length - (at_ + n') = (bs.length - (at_ + (n' + 1))) + 1 := by omega
                rw [hf, alkN] at ha
                clear ra
                by_cases c5 : bs.getD (q + n') 0 = bs.getD (at_ + n') 0
                · have e6 : (bs.getD (q + n') 0 == bs.getD (at_ + n') 0) = true := by rw [c5]; simp
                  rw [if_pos ⟨c3, c4, c5⟩] at ha
                  have HA := Lib.hid ha
                  have HRS := Lib.hid hres
                  clear ha hf c5 hres
                  generalize bs.getD (q + n') 0 = x1 at *
                  generalize bs.getD (at_ + n') 0 = x2 at *
                  go_wp2_with fail
                  refine wp_region_ext (fun _ => False) (by kernel_rfl) (by kernel_rfl) ?_
                  repeat (go_big_quiet_step (fail))
                  refine wpQuiet_nil ?_
                  rintro _ ⟨d, rfl⟩
                  go_wp2_with fail
                  go_roundg (gk - 1)
                  case measure => omega
                  case rel => exact ⟨⟨n' + 1, by omega, by omega, by omega, by go_num, HA.out, hs'.then d.same⟩⟩
                · have e6 : (bs.getD (q + n') 0 == bs.getD (at_ + n') 0) = false := by simpa using c5
                  rw [if_neg (fun c => c5 c.2.2)] at ha
                  have HRS := Lib.hid hres
                  clear hf c5 hres
                  generalize bs.getD (q + n') 0 = x1 at *
                  generalize bs.getD (at_ + n') 0 = x2 at *
                  go_wp2_with fail
                  refine wp_region_ext (fun _ => False) (by kernel_rfl) (by kernel_rfl) ?_
                  repeat (go_big_quiet_step (fail))
                  refine wpQuiet_nil ?_
                  rintro _ ⟨d, rfl⟩
                  have hres := HRS.out
                  clear HRS r1 r2
                  rw [ha] at hres
                  have hs7 := hs6.then d.same
                  have hb7 := hs7.below_of hB0 hB0.size (fun _ _ c => c)
                  have b3' := (hbx.same hs7 (fun c => c)).cell 3
                  by_cases f1 : b < n'
                  · have e5 : decide (b < n') = true := by simpa using f1
                    rw [if_pos f1] at hres
                    clear f1
                    by_cases f2 : max good 1 ≤ (n' : Int)
                    · have e6 : decide (max good 1 ≤ (n' : Int)) = true := by simpa using f2
                      rw [if_pos f2] at hres
                      have HR := Lib.hid hres
                      clear f2 hres
                      go_wp2_with fail
                      go_ret2
                      rw [← HR.out]
                      refine ⟨?_, hb7⟩
                      show _ = Ending.returned (Value.tuple #[.int .i64 (n' : Int), .int .i64 ((at_ - q : Nat) : Int)])
                      rw [show ((at_ - q : Nat) : Int) = (at_ : Int) - q from by omega]
                      rfl
                    · have e6 : decide (max good 1 ≤ (n' : Int)) = false := by simpa using f2
                      rw [if_neg f2] at hres
                      have HR := Lib.hid hres
                      clear f2 hres
                      go_wp2_with fail
                      go_roundg (go - 1)
                      case measure => omega
                      case rel => exact ⟨⟨q, s + 1, n', (at_ - q), by omega, by omega, by omega, by omega, by omega, by go_num, by go_num, by go_num, by go_num, HR.out, hs7⟩⟩
                  · have e5 : decide (b < n') = false := by simpa using f1
                    rw [if_neg f1] at hres
                    clear f1
                    by_cases f2 : max good 1 ≤ (n' : Int)
                    · have e6 : decide (max good 1 ≤ (n' : Int)) = true := by simpa using f2
                      rw [if_pos f2] at hres
                      have HR := Lib.hid hres
                      clear f2 hres
                      go_wp2_with fail
                      go_ret2
                      rw [← HR.out]
                      refine ⟨?_, hb7⟩
                      show _ = Ending.returned (Value.tuple #[.int .i64 (n' : Int), .int .i64 ((at_ - q : Nat) : Int)])
                      rw [show ((at_ - q : Nat) : Int) = (at_ : Int) - q from by omega]
                      rfl
                    · have e6 : decide (max good 1 ≤ (n' : Int)) = false := by simpa using f2
                      rw [if_neg f2] at hres
                      have HR := Lib.hid hres
                      clear f2 hres
                      go_wp2_with fail
                      go_roundg (go - 1)
                      case measure => omega
                      case rel => exact ⟨⟨q, s + 1, b, d0, by omega, by omega, by omega, by omega, by omega, by go_num, by go_num, by go_num, by go_num, HR.out, hs7⟩⟩
              · have e4 : decide (n' < 258) = false := by simp; omega
                have e4' : decide ((n' : Int) < 258) = false := by simp; omega
                have ha' : alkN bs 258 q at_ (bs.length - (at_ + n')) n' = n' := by
                  cases bs.length - (at_ + n') with
                  | zero => rfl
                  | succ k => rw [alkN, if_neg (fun c => c3 c.1)]
                rw [ha'] at ha
                have HRS := Lib.hid hres
                clear ra ha' hres
                go_wp2_with fail
                refine wp_region_ext (fun _ => False) (by kernel_rfl) (by kernel_rfl) ?_
                repeat (go_big_quiet_step (fail))
                refine wpQuiet_nil ?_
                rintro _ ⟨d, rfl⟩
                have hres := HRS.out
                clear HRS
                rw [ha] at hres
                have hs7 := hs6.then d.same
                have hb7 := hs7.below_of hB0 hB0.size (fun _ _ c => c)
                have b3' := (hbx.same hs7 (fun c => c)).cell 3
                by_cases f1 : b < n'
                · have e5 : decide (b < n') = true := by simpa using f1
                  rw [if_pos f1] at hres
                  clear f1
                  by_cases f2 : max good 1 ≤ (n' : Int)
                  · have e6 : decide (max good 1 ≤ (n' : Int)) = true := by simpa using f2
                    rw [if_pos f2] at hres
                    have HR := Lib.hid hres
                    clear f2 hres
                    go_wp2_with fail
                    go_ret2
                    rw [← HR.out]
                    refine ⟨?_, hb7⟩
                    show _ = Ending.returned (Value.tuple #[.int .i64 (n' : Int), .int .i64 ((at_ - q : Nat) : Int)])
                    rw [show ((at_ - q : Nat) : Int) = (at_ : Int) - q from by omega]
                    rfl
                  · have e6 : decide (max good 1 ≤ (n' : Int)) = false := by simpa using f2
                    rw [if_neg f2] at hres
                    have HR := Lib.hid hres
                    clear f2 hres
                    go_wp2_with fail
                    go_roundg (go - 1)
                    case measure => omega
                    case rel => exact ⟨⟨q, s + 1, n', (at_ - q), by omega, by omega, by omega, by omega, by omega, by go_num, by go_num, by go_num, by go_num, HR.out, hs7⟩⟩
                · have e5 : decide (b < n') = false := by simpa using f1
                  rw [if_neg f1] at hres
                  clear f1
                  by_cases f2 : max good 1 ≤ (n' : Int)
                  · have e6 : decide (max good 1 ≤ (n' : Int)) = true := by simpa using f2
                    rw [if_pos f2] at hres
                    have HR := Lib.hid hres
                    clear f2 hres
                    go_wp2_with fail
                    go_ret2
                    rw [← HR.out]
                    refine ⟨?_, hb7⟩
                    show _ = Ending.returned (Value.tuple #[.int .i64 (n' : Int), .int .i64 ((at_ - q : Nat) : Int)])
                    rw [show ((at_ - q : Nat) : Int) = (at_ : Int) - q from by omega]
                    rfl
                  · have e6 : decide (max good 1 ≤ (n' : Int)) = false := by simpa using f2
                    rw [if_neg f2] at hres
                    have HR := Lib.hid hres
                    clear f2 hres
                    go_wp2_with fail
                    go_roundg (go - 1)
                    case measure => omega
                    case rel => exact ⟨⟨q, s + 1, b, d0, by omega, by omega, by omega, by omega, by omega, by go_num, by go_num, by go_num, by go_num, HR.out, hs7⟩⟩
            · have e3 : decide ((at_ : Int) + n' < bs.length) = false := by simp; omega
              rw [show bs.length - (at_ + n') = 0 from by omega, alkN] at ha
              have HRS := Lib.hid hres
              clear ra hres
              go_wp2_with fail
              refine wp_region_ext (fun _ => False) (by kernel_rfl) (by kernel_rfl) ?_
              repeat (go_big_quiet_step (fail))
              refine wpQuiet_nil ?_
              rintro _ ⟨d, rfl⟩
              have hres := HRS.out
              clear HRS
              rw [ha] at hres
              have hs7 := hs6.then d.same
              have hb7 := hs7.below_of hB0 hB0.size (fun _ _ c => c)
              have b3' := (hbx.same hs7 (fun c => c)).cell 3
              by_cases f1 : b < n'
              · have e5 : decide (b < n') = true := by simpa using f1
                rw [if_pos f1] at hres
                clear f1
                by_cases f2 : max good 1 ≤ (n' : Int)
                · have e6 : decide (max good 1 ≤ (n' : Int)) = true := by simpa using f2
                  rw [if_pos f2] at hres
                  have HR := Lib.hid hres
                  clear f2 hres
                  go_wp2_with fail
                  go_ret2
                  rw [← HR.out]
                  refine ⟨?_, hb7⟩
                  show _ = Ending.returned (Value.tuple #[.int .i64 (n' : Int), .int .i64 ((at_ - q : Nat) : Int)])
                  rw [show ((at_ - q : Nat) : Int) = (at_ : Int) - q from by omega]
                  rfl
                · have e6 : decide (max good 1 ≤ (n' : Int)) = false := by simpa using f2
                  rw [if_neg f2] at hres
                  have HR := Lib.hid hres
                  clear f2 hres
                  go_wp2_with fail
                  go_roundg (go - 1)
                  case measure => omega
                  case rel => exact ⟨⟨q, s + 1, n', (at_ - q), by omega, by omega, by omega, by omega, by omega, by go_num, by go_num, by go_num, by go_num, HR.out, hs7⟩⟩
              · have e5 : decide (b < n') = false := by simpa using f1
                rw [if_neg f1] at hres
                clear f1
                by_cases f2 : max good 1 ≤ (n' : Int)
                · have e6 : decide (max good 1 ≤ (n' : Int)) = true := by simpa using f2
                  rw [if_pos f2] at hres
                  have HR := Lib.hid hres
                  clear f2 hres
                  go_wp2_with fail
                  go_ret2
                  rw [← HR.out]
                  refine ⟨?_, hb7⟩
                  show _ = Ending.returned (Value.tuple #[.int .i64 (n' : Int), .int .i64 ((at_ - q : Nat) : Int)])
                  rw [show ((at_ - q : Nat) : Int) = (at_ : Int) - q from by omega]
                  rfl
                · have e6 : decide (max good 1 ≤ (n' : Int)) = false := by simpa using f2
                  rw [if_neg f2] at hres
                  have HR := Lib.hid hres
                  clear f2 hres
                  go_wp2_with fail
                  go_roundg (go - 1)
                  case measure => omega
                  case rel => exact ⟨⟨q, s + 1, b, d0, by omega, by omega, by omega, by omega, by omega, by go_num, by go_num, by go_num, by go_num, HR.out, hs7⟩⟩
        · rw [if_neg t] at hres
          have hne := str_ne_ (tri_text hwf (by omega) hat t)
          have HRS := Lib.hid hres
          clear hres t
          generalize strOfNums ((bs.drop at_).take 3) = TX at *
          generalize strOfNums ((bs.drop q).take 3) = TY at *
          go_wp2_with fail
          refine wp_region_ext (fun _ => False) (by kernel_rfl) (by kernel_rfl) ?_
          repeat (go_big_quiet_step (fail))
          refine wpQuiet_nil ?_
          rintro _ ⟨d, rfl⟩
          have hs2 := hsm.then d.same
          go_wp2_with fail
          go_roundg (gk - 1)
          case measure => omega
          case rel => exact ⟨⟨q, s, b, d0, by omega, by omega, by omega, by omega, by omega, rfl, rfl, rfl, by go_num, HRS.out, hs2⟩⟩
      · rw [if_neg c1] at hres
        have HR := Lib.hid hres
        clear hres
        by_cases c3 : (at_ : Int) - q ≤ 32768
        · have e1 : decide ((at_ : Int) - q ≤ 32768) = true := by simpa using c3
          have e2 : decide ((s : Int) < chain) = false := by simp; omega
          go_wp2_with fail
          go_ret2
          rw [← HR.out]
          exact ⟨rfl, hb1⟩
        · have e1 : decide ((at_ : Int) - q ≤ 32768) = false := by simpa using c3
          go_wp2_with fail
          go_ret2
          rw [← HR.out]
          exact ⟨rfl, hb1⟩
  · simp only [if_true] at hM hfar
    subst hM hfar
    go_enter Try.func12, Try.ntmps12
    go_wp2_with fail
    generalize w.alloc (.cells #[.bool store, .int .i64 chain, .bool lazy, .int .i64 good] 24) = w0 at *
    go_loopg [12, 13, 14, 15] at_ (RfRel w0 bs 65538 65536 chain (max good 1) at_ rs)
    case atStart => exact ⟨⟨at_, 0, 0, 0, by omega, by omega, by omega, by omega, by omega, rfl, rfl, rfl, rfl, hrs, Same.refl _⟩⟩
    case round =>
      obtain ⟨k, s, b, d0, hk, hg, hs0, hbm, hdm, rfl, rfl, rfl, rfl, hres, hsm⟩ := hrel.out_
      clear hrel
      have hr1 := hr0.same hsm (fun _ _ c => c)
      have hbx1 := hbx.same hsm (fun c => c)
      have b1 := hbx1.cell 1
      have b3 := hbx1.cell 3
      have hb1 := hsm.below_of hB0 hB0.size (fun _ _ c => c)
      rcases k with _ | q
      · rw [refR] at hres
        rw [show (((0 : Nat) : Int) - 1) = -1 from rfl]
        have HR := Lib.hid hres
        clear hres
        go_wp2_with fail
        go_ret2
        rw [← HR.out]
        exact ⟨rfl, hb1⟩
      rw [show (((q + 1 : Nat) : Int) - 1) = (q : Int) from by omega]
      rw [refR] at hres
      by_cases c1 : (at_ : Int) - q ≤ 65536 ∧ (s : Int) < chain
      · rw [if_pos c1] at hres
        obtain ⟨c1, c2⟩ := c1
        have e1 : decide ((at_ : Int) - q ≤ 65536) = true := by simpa using c1
        have e2 : decide ((s : Int) < chain) = true := by simpa using c2
        have hcD : ¬ c = at_ := by omega
        have hcu : ¬ c = q := by omega
        have l1 : q ≤ q + 3 := by omega
        have l2 : q + 3 ≤ c := by omega
        have l3 : at_ ≤ at_ + 3 := by omega
        have l4 : at_ + 3 ≤ c := by omega
        have k1 : ((q : Int) + 3).toNat = q + 3 := by omega
        have k2 : ((at_ : Int) + 3).toNat = at_ + 3 := by omega
        have k3 : q + 3 - q = 3 := by omega
        have k4 : at_ + 3 - at_ = 3 := by omega
        have CX := fun d : Ext (fun _ => False) wr => conv_piece hr1 q 3 (by omega) (by omega) (c - q) d.world d.same
        have CY := fun d : Ext (fun _ => False) wr => conv_piece hr1 at_ 3 (by omega) (by omega) (c - at_) d.world d.same
        by_cases t : tri bs q = tri bs at_
        · rw [if_pos t] at hres
          rw [tri_same (by omega) hat t] at CX
          have HRS := Lib.hid hres
          clear hres t
          generalize strOfNums ((bs.drop at_).take 3) = TX at *
          go_wp2_with fail
          refine wp_region_ext (fun _ => False) (by kernel_rfl) (by kernel_rfl) ?_
          repeat (go_big_quiet_step (fail))
          refine wpQuiet_nil ?_
          rintro _ ⟨d, rfl⟩
          have hs2 := hsm.then d.same
          have hres := HRS.out
          clear CX CY HRS hr1 hbx1 b1 b3 hb1
          generalize d.world = w5 at *
          generalize Value.slice (Option.map (fun x => x.add q) A) 3 (c - q) = v50
          generalize Value.slice (Option.map (fun x => x.add at_) A) 3 (c - at_) = v56
          go_wp2_with fail
          obtain ⟨go, hgo⟩ : ∃ g, g = gk := ⟨_, rfl⟩
          go_loopg [16] (bs.length - at_) (RgRel w5 bs 65538 q at_)
          case atStart => exact ⟨⟨0, by omega, by omega, by omega, rfl, rfl, Same.refl _⟩⟩
          case round =>
            obtain ⟨n', hn, hqn, hg', rfl, ha, hs'⟩ := hrel.out_
            clear hrel
            have hs6 := hs2.then hs'
            have hr8 := hr0.same hs6 (fun _ _ c => c)
            obtain ⟨ba, bo, hA⟩ := hr8.addr3 (fun e => by rw [e] at hat; simp at hat)
            subst hA
            have ra := fun (j : Nat) (hj : j < bs.length) (d : Ext (fun _ => False) wr) => (show d.world.cell? ⟨ba, bo + j, none⟩ = some (.int .u8 (bs.getD j 0)) from by
              obtain ⟨ad, e, hc⟩ := (hr8.rd.same d.same (fun _ _ c => c)).at_ hj
              injection e with e
              subst e
              rw [Addr.add_lit] at hc
              exact hc)
            by_cases c4 : at_ + n' < bs.length
            · have e3 : decide ((at_ : Int) + n' < bs.length) = true := by simp; omega
              by_cases c3 : n' < 65538
              · have e4 : decide (n' < 65538) = true := by simp; omega
                have e4' : decide ((n' : Int) < 65538) = true := by simp; omega
                have r1 := ra (q + n') (by omega)
                have r2 := ra (at_ + n') c4
                have k5 : ((q : Int) + n').toNat = q + n' := by omega
                have k6 : ((at_ : Int) + n').toNat = at_ + n' := by omega
                have e5 : decide ((q : Int) + n' < bs.length) = true := by simp; omega
                have hf : bs.length - (at_ + n') = (bs.length - (at_ + (n' + 1))) + 1 := by omega
                rw [hf, alkN] at ha
                clear ra
                by_cases c5 : bs.getD (q + n') 0 = bs.getD (at_ + n') 0
                · have e6 : (bs.getD (q + n') 0 == bs.getD (at_ + n') 0) = true := by rw [c5]; simp
                  rw [if_pos ⟨c3, c4, c5⟩] at ha
                  have HA := Lib.hid ha
                  have HRS := Lib.hid hres
                  clear ha hf c5 hres
                  generalize bs.getD (q + n') 0 = x1 at *
                  generalize bs.getD (at_ + n') 0 = x2 at *
                  go_wp2_with fail
                  refine wp_region_ext (fun _ => False) (by kernel_rfl) (by kernel_rfl) ?_
                  repeat (go_big_quiet_step (fail))
                  refine wpQuiet_nil ?_
                  rintro _ ⟨d, rfl⟩
                  go_wp2_with fail
                  go_roundg (gk - 1)
                  case measure => omega
                  case rel => exact ⟨⟨n' + 1, by omega, by omega, by omega, by go_num, HA.out, hs'.then d.same⟩⟩
                · have e6 : (bs.getD (q + n') 0 == bs.getD (at_ + n') 0) = false := by simpa using c5
                  rw [if_neg (fun c => c5 c.2.2)] at ha
                  have HRS := Lib.hid hres
                  clear hf c5 hres
                  generalize bs.getD (q + n') 0 = x1 at *
                  generalize bs.getD (at_ + n') 0 = x2 at *
                  go_wp2_with fail
                  refine wp_region_ext (fun _ => False) (by kernel_rfl) (by kernel_rfl) ?_
                  repeat (go_big_quiet_step (fail))
                  refine wpQuiet_nil ?_
                  rintro _ ⟨d, rfl⟩
                  have hres := HRS.out
                  clear HRS r1 r2
                  rw [ha] at hres
                  have hs7 := hs6.then d.same
                  have hb7 := hs7.below_of hB0 hB0.size (fun _ _ c => c)
                  have b3' := (hbx.same hs7 (fun c => c)).cell 3
                  by_cases f1 : b < n'
                  · have e5 : decide (b < n') = true := by simpa using f1
                    rw [if_pos f1] at hres
                    clear f1
                    by_cases f2 : max good 1 ≤ (n' : Int)
                    · have e6 : decide (max good 1 ≤ (n' : Int)) = true := by simpa using f2
                      rw [if_pos f2] at hres
                      have HR := Lib.hid hres
                      clear f2 hres
                      go_wp2_with fail
                      go_ret2
                      rw [← HR.out]
                      refine ⟨?_, hb7⟩
                      show _ = Ending.returned (Value.tuple #[.int .i64 (n' : Int), .int .i64 ((at_ - q : Nat) : Int)])
                      rw [show ((at_ - q : Nat) : Int) = (at_ : Int) - q from by omega]
                      rfl
                    · have e6 : decide (max good 1 ≤ (n' : Int)) = false := by simpa using f2
                      rw [if_neg f2] at hres
                      have HR := Lib.hid hres
                      clear f2 hres
                      go_wp2_with fail
                      go_roundg (go - 1)
                      case measure => omega
                      case rel => exact ⟨⟨q, s + 1, n', (at_ - q), by omega, by omega, by omega, by omega, by omega, by go_num, by go_num, by go_num, by go_num, HR.out, hs7⟩⟩
                  · have e5 : decide (b < n') = false := by simpa using f1
                    rw [if_neg f1] at hres
                    clear f1
                    by_cases f2 : max good 1 ≤ (n' : Int)
                    · have e6 : decide (max good 1 ≤ (n' : Int)) = true := by simpa using f2
                      rw [if_pos f2] at hres
                      have HR := Lib.hid hres
                      clear f2 hres
                      go_wp2_with fail
                      go_ret2
                      rw [← HR.out]
                      refine ⟨?_, hb7⟩
                      show _ = Ending.returned (Value.tuple #[.int .i64 (n' : Int), .int .i64 ((at_ - q : Nat) : Int)])
                      rw [show ((at_ - q : Nat) : Int) = (at_ : Int) - q from by omega]
                      rfl
                    · have e6 : decide (max good 1 ≤ (n' : Int)) = false := by simpa using f2
                      rw [if_neg f2] at hres
                      have HR := Lib.hid hres
                      clear f2 hres
                      go_wp2_with fail
                      go_roundg (go - 1)
                      case measure => omega
                      case rel => exact ⟨⟨q, s + 1, b, d0, by omega, by omega, by omega, by omega, by omega, by go_num, by go_num, by go_num, by go_num, HR.out, hs7⟩⟩
              · have e4 : decide (n' < 65538) = false := by simp; omega
                have e4' : decide ((n' : Int) < 65538) = false := by simp; omega
                have ha' : alkN bs 65538 q at_ (bs.length - (at_ + n')) n' = n' := by
                  cases bs.length - (at_ + n') with
                  | zero => rfl
                  | succ k => rw [alkN, if_neg (fun c => c3 c.1)]
                rw [ha'] at ha
                have HRS := Lib.hid hres
                clear ra ha' hres
                go_wp2_with fail
                refine wp_region_ext (fun _ => False) (by kernel_rfl) (by kernel_rfl) ?_
                repeat (go_big_quiet_step (fail))
                refine wpQuiet_nil ?_
                rintro _ ⟨d, rfl⟩
                have hres := HRS.out
                clear HRS
                rw [ha] at hres
                have hs7 := hs6.then d.same
                have hb7 := hs7.below_of hB0 hB0.size (fun _ _ c => c)
                have b3' := (hbx.same hs7 (fun c => c)).cell 3
                by_cases f1 : b < n'
                · have e5 : decide (b < n') = true := by simpa using f1
                  rw [if_pos f1] at hres
                  clear f1
                  by_cases f2 : max good 1 ≤ (n' : Int)
                  · have e6 : decide (max good 1 ≤ (n' : Int)) = true := by simpa using f2
                    rw [if_pos f2] at hres
                    have HR := Lib.hid hres
                    clear f2 hres
                    go_wp2_with fail
                    go_ret2
                    rw [← HR.out]
                    refine ⟨?_, hb7⟩
                    show _ = Ending.returned (Value.tuple #[.int .i64 (n' : Int), .int .i64 ((at_ - q : Nat) : Int)])
                    rw [show ((at_ - q : Nat) : Int) = (at_ : Int) - q from by omega]
                    rfl
                  · have e6 : decide (max good 1 ≤ (n' : Int)) = false := by simpa using f2
                    rw [if_neg f2] at hres
                    have HR := Lib.hid hres
                    clear f2 hres
                    go_wp2_with fail
                    go_roundg (go - 1)
                    case measure => omega
                    case rel => exact ⟨⟨q, s + 1, n', (at_ - q), by omega, by omega, by omega, by omega, by omega, by go_num, by go_num, by go_num, by go_num, HR.out, hs7⟩⟩
                · have e5 : decide (b < n') = false := by simpa using f1
                  rw [if_neg f1] at hres
                  clear f1
                  by_cases f2 : max good 1 ≤ (n' : Int)
                  · have e6 : decide (max good 1 ≤ (n' : Int)) = true := by simpa using f2
                    rw [if_pos f2] at hres
                    have HR := Lib.hid hres
                    clear f2 hres
                    go_wp2_with fail
                    go_ret2
                    rw [← HR.out]
                    refine ⟨?_, hb7⟩
                    show _ = Ending.returned (Value.tuple #[.int .i64 (n' : Int), .int .i64 ((at_ - q : Nat) : Int)])
                    rw [show ((at_ - q : Nat) : Int) = (at_ : Int) - q from by omega]
                    rfl
                  · have e6 : decide (max good 1 ≤ (n' : Int)) = false := by simpa using f2
                    rw [if_neg f2] at hres
                    have HR := Lib.hid hres
                    clear f2 hres
                    go_wp2_with fail
                    go_roundg (go - 1)
                    case measure => omega
                    case rel => exact ⟨⟨q, s + 1, b, d0, by omega, by omega, by omega, by omega, by omega, by go_num, by go_num, by go_num, by go_num, HR.out, hs7⟩⟩
            · have e3 : decide ((at_ : Int) + n' < bs.length) = false := by simp; omega
              rw [show bs.length - (at_ + n') = 0 from by omega, alkN] at ha
              have HRS := Lib.hid hres
              clear ra hres
              go_wp2_with fail
              refine wp_region_ext (fun _ => False) (by kernel_rfl) (by kernel_rfl) ?_
              repeat (go_big_quiet_step (fail))
              refine wpQuiet_nil ?_
              rintro _ ⟨d, rfl⟩
              have hres := HRS.out
              clear HRS
              rw [ha] at hres
              have hs7 := hs6.then d.same
              have hb7 := hs7.below_of hB0 hB0.size (fun _ _ c => c)
              have b3' := (hbx.same hs7 (fun c => c)).cell 3
              by_cases f1 : b < n'
              · have e5 : decide (b < n') = true := by simpa using f1
                rw [if_pos f1] at hres
                clear f1
                by_cases f2 : max good 1 ≤ (n' : Int)
                · have e6 : decide (max good 1 ≤ (n' : Int)) = true := by simpa using f2
                  rw [if_pos f2] at hres
                  have HR := Lib.hid hres
                  clear f2 hres
                  go_wp2_with fail
                  go_ret2
                  rw [← HR.out]
                  refine ⟨?_, hb7⟩
                  show _ = Ending.returned (Value.tuple #[.int .i64 (n' : Int), .int .i64 ((at_ - q : Nat) : Int)])
                  rw [show ((at_ - q : Nat) : Int) = (at_ : Int) - q from by omega]
                  rfl
                · have e6 : decide (max good 1 ≤ (n' : Int)) = false := by simpa using f2
                  rw [if_neg f2] at hres
                  have HR := Lib.hid hres
                  clear f2 hres
                  go_wp2_with fail
                  go_roundg (go - 1)
                  case measure => omega
                  case rel => exact ⟨⟨q, s + 1, n', (at_ - q), by omega, by omega, by omega, by omega, by omega, by go_num, by go_num, by go_num, by go_num, HR.out, hs7⟩⟩
              · have e5 : decide (b < n') = false := by simpa using f1
                rw [if_neg f1] at hres
                clear f1
                by_cases f2 : max good 1 ≤ (n' : Int)
                · have e6 : decide (max good 1 ≤ (n' : Int)) = true := by simpa using f2
                  rw [if_pos f2] at hres
                  have HR := Lib.hid hres
                  clear f2 hres
                  go_wp2_with fail
                  go_ret2
                  rw [← HR.out]
                  refine ⟨?_, hb7⟩
                  show _ = Ending.returned (Value.tuple #[.int .i64 (n' : Int), .int .i64 ((at_ - q : Nat) : Int)])
                  rw [show ((at_ - q : Nat) : Int) = (at_ : Int) - q from by omega]
                  rfl
                · have e6 : decide (max good 1 ≤ (n' : Int)) = false := by simpa using f2
                  rw [if_neg f2] at hres
                  have HR := Lib.hid hres
                  clear f2 hres
                  go_wp2_with fail
                  go_roundg (go - 1)
                  case measure => omega
                  case rel => exact ⟨⟨q, s + 1, b, d0, by omega, by omega, by omega, by omega, by omega, by go_num, by go_num, by go_num, by go_num, HR.out, hs7⟩⟩
        · rw [if_neg t] at hres
          have hne := str_ne_ (tri_text hwf (by omega) hat t)
          have HRS := Lib.hid hres
          clear hres t
          generalize strOfNums ((bs.drop at_).take 3) = TX at *
          generalize strOfNums ((bs.drop q).take 3) = TY at *
          go_wp2_with fail
          refine wp_region_ext (fun _ => False) (by kernel_rfl) (by kernel_rfl) ?_
          repeat (go_big_quiet_step (fail))
          refine wpQuiet_nil ?_
          rintro _ ⟨d, rfl⟩
          have hs2 := hsm.then d.same
          go_wp2_with fail
          go_roundg (gk - 1)
          case measure => omega
          case rel => exact ⟨⟨q, s, b, d0, by omega, by omega, by omega, by omega, by omega, rfl, rfl, rfl, by go_num, HRS.out, hs2⟩⟩
      · rw [if_neg c1] at hres
        have HR := Lib.hid hres
        clear hres
        by_cases c3 : (at_ : Int) - q ≤ 65536
        · have e1 : decide ((at_ : Int) - q ≤ 65536) = true := by simpa using c3
          have e2 : decide ((s : Int) < chain) = false := by simp; omega
          go_wp2_with fail
          go_ret2
          rw [← HR.out]
          exact ⟨rfl, hb1⟩
        · have e1 : decide ((at_ : Int) - q ≤ 65536) = false := by simpa using c3
          go_wp2_with fail
          go_ret2
          rw [← HR.out]
          exact ⟨rfl, hb1⟩
theorem ref_match_out (A : Option Addr) (c : Nat) (bs : List Int) (store lazy wide : Bool) (chain good : Int) (w : World) (hr : RowOf w .u8 A c bs) (hl : bs.length ≤ 100000) (at_ : Int) (hat : at_ < 0 ∨ (bs.length : Int) - 3 < at_) :
    Calls Try.prog 12 #[.slice A bs.length c, .agg #[.bool store, .int .i64 chain, .bool lazy, .int .i64 good], .bool wide, .int .i64 at_] w fun e w' => e = .returned (.tuple #[.int .i64 0, .int .i64 0]) ∧ Below w.heap.size w w' := by
  have hB0 := (Below.refl w.heap.size w).alloc (Nat.le_refl _) (.cells #[.bool store, .int .i64 chain, .bool lazy, .int .i64 good] 24)
  by_cases h0 : at_ < 0
  · have e1 : decide (at_ < 0) = true := by simpa using h0
    go_enter Try.func12, Try.ntmps12
    go_wp2_with fail
    go_ret2
    exact ⟨rfl, hB0⟩
  · have e1 : decide (at_ < 0) = false := by simpa using h0
    have e2 : decide ((bs.length : Int) - 3 < at_) = true := by have := hat.resolve_left h0; simpa using this
    go_enter Try.func12, Try.ntmps12
    go_wp2_with fail
    go_ret2
    exact ⟨rfl, hB0⟩
theorem ref_findQ (A : Option Addr) (c : Nat) (bs : List Int) (store lazy wide : Bool) (chain good : Int) (M : Nat) (far : Int) (hM : M = if wide then 65538 else 258) (hfar : far = if wide then 65536 else 32768) (w : World) (hr : RowOf w .u8 A c bs) (hl : bs.length ≤ 100000) (at_ : Nat) :
    Calls Try.prog 12 #[.slice A bs.length c, .agg #[.bool store, .int .i64 chain, .bool lazy, .int .i64 good], .bool wide, .int .i64 at_] w fun e w' => e = .returned (.tuple #[.int .i64 (findQ bs M far chain (max good 1) at_).1, .int .i64 (findQ bs M far chain (max good 1) at_).2]) ∧ Below w.heap.size w w' := by
  by_cases hat : at_ + 3 ≤ bs.length
  · exact ref_match A c bs store lazy wide chain good M far hM hfar w hr hl at_ hat
  · have : findQ bs M far chain (max good 1) at_ = (0, 0) := by unfold findQ; rw [if_neg hat]
    rw [this]
    exact ref_match_out A c bs store lazy wide chain good w hr hl at_ (.inr (by omega))
end Go.Proofs.Ytnnjpbghnfohaaa
