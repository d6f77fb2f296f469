import Derived.Test.YtfmglcgdcdcpaaaPkB
import Derived.Test.YtfmglcgdcdcpaaaPkE
namespace Go.Proofs.Ytfmglcgdcdcpaaa
set_option linter.unusedVariables false
set_option linter.unusedSimpArgs false
open Go.RowKit
attribute [local go_sem] max2i min2i max2t min2t

theorem wrap_two {j : Nat} (h : j ≤ 40) : wrap64 ((2 : Int) ^ j) = ((2 ^ j : Nat) : Int) := by
  have h2m : 2 ^ j ≤ 2 ^ 40 := Nat.pow_le_pow_right (by decide) h
  have e : ((2 : Int) ^ j) = ((2 ^ j : Nat) : Int) := by rw [Int.natCast_pow]; rfl
  rw [e]
  generalize 2 ^ j = P at *
  exact IntWalk.wrap64_in _ (by omega)
structure EvRel1 (w : World) (C : Int) (k : Nat) (gk : Nat) (v6 v7 : Value) (wr : World) : Prop where mk ::
  out_ : ∃ i : Nat, i ≤ k ∧ k ≤ gk + i ∧ v7 = .int .i64 (i : Int) ∧ Own wr w.heap.size 3 v6 (ints .i64 (List.replicate i C)) ∧ Below w.heap.size w wr
structure EvRel2 (w : World) (O : List Int) (k : Nat) (gk : Nat) (v10 v11 v12 : Value) (wr : World) : Prop where mk ::
  out_ : ∃ (i : Nat) (lo hi : Int), i ≤ k ∧ k ≤ gk + i ∧ v12 = .int .i64 (i : Int) ∧ v10 = .int .i64 lo ∧ v11 = .int .i64 hi ∧ lo ∈ O ∧ hi ∈ O ∧ (∀ x ∈ O.take i, lo ≤ x ∧ x ≤ hi) ∧ Same (fun _ => False) w wr
structure EvRel3 (w : World) (k : Nat) (gk : Nat) (v13 : Value) (wr : World) : Prop where mk ::
  out_ : ∃ j : Nat, 9 ≤ gk + j ∧ v13 = .int .i64 (j : Int) ∧ (j = 0 ∨ 2 ^ j < 2 * k) ∧ wr = w
set_option maxHeartbeats 4000000 in
set_option maxRecDepth 100000 in
theorem packEven_walk (n c : Int) (w : World) (h00 : (Lit.int .i64 n).wf = true) (h01 : (Lit.int .i64 c).wf = true) :
    Calls Try.prog 5 #[.int .i64 n, .int .i64 c] w fun e w' => e = .returned (.bool true) ∧ Below w.heap.size w w' := by
  have hT := fun W => Lib.hid (told9 W)
  obtain ⟨D, hD, eD⟩ := uint_rem n 299 (by omega) (by omega)
  have eD : wrap64 ((IntKind.u64.wrap n).tmod 299) = (D : Int) := eD
  obtain ⟨k, hk⟩ : ∃ k : Nat, 2 + D = k := ⟨_, rfl⟩
  have en : (2 : Int) + D = (k : Int) := by omega
  have hk2 : 2 ≤ k ∧ k ≤ 300 := by omega
  have hand := and_1023 c
  obtain ⟨y, hy⟩ : ∃ y, c % 1024 = y := ⟨_, rfl⟩
  have hyr : 0 ≤ y ∧ y < 1024 := by omega
  rw [hy] at hand
  clear hk hy
  go_enter Try.func5, Try.ntmps5
  go_wp2_with fail
  try rw [eD]
  clear eD en
  go_loopg [6, 7] k (EvRel1 w (1 + y) k)
  case atStart => exact ⟨⟨0, by omega, by omega, rfl, Own.nil _ _ _, Below.refl _ _⟩⟩
  case round =>
    obtain ⟨i, hi, hg, rfl, ho, hb⟩ := hrel.out_
    clear hrel
    by_cases hlt : i < k
    · have e1 : decide (i < k) = true := by simpa using hlt
      have lit : RowOf (wr.alloc (.cells #[.int .i64 (1 + y)] 3)) .i64 (some ⟨wr.heap.size, 0, none⟩) 1 [1 + y] := RowOf.lit wr .i64 3 [1 + y] (fun q hq => by rw [List.mem_singleton] at hq; subst hq; exact i64_wf (by omega)) (by simp)
      have hkw : ∀ x ∈ List.replicate i (1 + y), (Lit.int .i64 x).wf = true := fun x hx => by rw [List.eq_of_mem_replicate hx]; exact i64_wf (by omega)
      have hkl : (List.replicate i (1 + y)).length = i := by simp
      have hsn : List.replicate (i + 1) (1 + y) = List.replicate i (1 + y) ++ [1 + y] := List.replicate_succ'
      have HSN := Lib.hid hsn
      have hzb := hb.size
      clear hsn
      generalize List.replicate i (1 + y) = K at *
      go_wp2_with (at_builtin; go_loud (refine wpList_catN .i64 w.heap.size rfl (.tmp 24) (.tmp 28) 22 3 8 rfl Try.underlying22 Try.intinfo u6 K (some ⟨wr.heap.size, 0, none⟩) 1 1 [1 + y] rfl rfl rfl (ho.alloc _) lit (by simp; omega) (i + 1) (by omega) (by omega) (by omega) hkw ?_); intro A9 c9 w9 ho9 hr9 hs9 hat9; have B9 := hs9.below_of (hb.alloc hb.size (.cells #[.int .i64 (1 + y)] 3)) (by simp; omega) (fun k hk e => by have := ho.base_le k e; omega); clear hat9)
      go_roundg (gk - 1)
      case measure => omega
      case rel => exact ⟨⟨i + 1, by omega, by omega, by go_num, by rw [HSN.out]; exact ho9, B9⟩⟩
    · have e1 : decide (i < k) = false := by simpa using hlt
      have hik : i = k := by omega
      subst hik
      obtain ⟨A5, c5, e5, hr5, ha5⟩ := ho.row (fun x hx => by rw [List.eq_of_mem_replicate hx]; exact i64_wf (by omega))
      have hcl : (List.replicate i (1 + y)).length = i := by simp
      have hpos : ∀ x ∈ List.replicate i (1 + y), 0 < x := fun x hx => by rw [List.eq_of_mem_replicate hx]; omega
      have hil : (idx (List.replicate i (1 + y))).length = i := by rw [idx_all hpos, List.length_range, hcl]
      have hmay : mayCs (List.replicate i (1 + y)) ((15 : Nat) : Int) = true := may_ok (by decide) (by decide) (by omega) (fun x hx => by rw [List.eq_of_mem_replicate hx]; omega)
      have CL := pack_lengths 15 (by decide) _ hr5
      have HGO := Lib.hid (fun (e : Ending) (w' : World) (h : LenPost (List.replicate i (1 + y)) 15 wr e w') => len_out (n := 15) h hmay (by rw [hil]; omega))
      rw [hcl] at e5 CL
      subst e5
      have hE := Lib.hid (fun (h : Nat) (h1 : i ≤ 2 ^ h) (h2 : 2 ^ h < 2 * i) (ss : List Nat) (hs : SrtS (List.replicate i (1 + y)) ss) => even_lens (C := 1 + y) (by omega) hk2.1 hk2.2 h1 h2 hs.srt)
      have CL := Lib.hid CL
      have HIL := Lib.hid hil
      have HCL := Lib.hid hcl
      clear hcl hpos hil hmay ho ha5
      go_upto_region 8 with (go_at_call 11; refine CL.out.mono ?_; intro e w2 h2; obtain ⟨B2, A7, c7, O, rfl, hl7, hr7, _, hv7⟩ := HGO.out _ _ h2; clear h2)
      rw [HCL.out] at hl7
      rw [if_neg (by rw [HIL.out]; omega)] at hv7
      obtain ⟨ss, hss, hO⟩ := hv7
      have hE2 := Lib.hid (fun (h : Nat) (h1 : i ≤ 2 ^ h) (h2 : 2 ^ h < 2 * i) => by have := hE.out h h1 h2 ss hss; rw [← hO] at this; exact this)
      have hB2 := hb.trans (B2.mono hb.size)
      try rw [HCL.out]
      have HL7 := Lib.hid hl7
      obtain ⟨b, o, rfl⟩ := hr7.addr (fun e => by rw [e] at hl7; simp at hl7; omega)
      have cell : ∀ q, q < i → ∀ d : Ext (fun _ => False) w2, d.world.cell? ⟨b, o + q, none⟩ = some (.int .i64 (O.getD q 0)) := fun q hq d => by
        obtain ⟨ad, e, hc⟩ := hr7.rd q (O.getD q 0) (by rw [List.getD_eq_getElem?_getD, List.getElem?_eq_getElem (by omega)]; rfl)
        cases e
        rw [Addr.add_lit] at hc
        exact d.same.cell hc (fun c => c)
      have hmem : ∀ q, q < i → O.getD q 0 ∈ O := fun q hq => by rw [List.getD_eq_getElem?_getD, List.getElem?_eq_getElem (by omega)]; exact List.getElem_mem _
      have htake : ∀ q, q < i → O.take (q + 1) = O.take q ++ [O.getD q 0] := fun q hq => take_snoc (by omega)
      have CE := Lib.hid cell
      have HM := Lib.hid hmem
      have HTK := Lib.hid htake
      have m0 : ∀ d : Ext (fun _ => False) w2, d.world.cell? ⟨b, o, none⟩ = some (.int .i64 (O.getD 0 0)) := fun d => cell 0 (by omega) d
      have hm0 := hmem 0 (by omega)
      have hi0 : (0 : Int) < (i : Int) := by omega
      clear cell hmem htake hss hO hl7 hr7 hr5
      obtain ⟨x0, hx0⟩ : ∃ x0, O.getD 0 0 = x0 := ⟨_, rfl⟩
      rw [hx0] at m0 hm0
      clear hx0
      have HM0 := Lib.hid hm0
      clear hm0
      go_upto_region 10 with fail
      refine wp_region_ext (fun _ => False) (by kernel_rfl) (by kernel_rfl) ?_
      repeat (go_big_quiet_step (fail))
      refine wpQuiet_nil ?_
      rintro _ ⟨d, rfl⟩
      have hsd := d.same
      clear m0
      go_wp2_with fail
      go_loopg [10, 11, 12] i (EvRel2 w2 O i)
      case atStart => exact ⟨⟨0, x0, x0, by omega, by omega, rfl, rfl, rfl, HM0.out, HM0.out, by simp, hsd⟩⟩
      case round =>
        rename World => w3
        rename Nat => gk
        obtain ⟨q, lo, hi, hq, hgq, rfl, rfl, rfl, hlo, hhi, hall, hs3⟩ := hrel.out_
        clear hrel
        by_cases hqi : q < i
        · have e2 : decide (q < i) = true := by simpa using hqi
          have mq := fun d : Ext (fun _ => False) w3 => CE.out q hqi ⟨d.world, hs3.then d.same⟩
          have HMQ := Lib.hid (HM.out q hqi)
          have HTQ := Lib.hid (HTK.out q hqi)
          have HALL := Lib.hid hall
          have HLO := Lib.hid hlo
          have HHI := Lib.hid hhi
          have hqi2 : (q : Int) < (i : Int) := by omega
          generalize O.getD q 0 = x at *
          clear hall hlo hhi
          go_upto_region 14 with fail
          refine wp_region_ext (fun _ => False) (by kernel_rfl) (by kernel_rfl) ?_
          repeat (go_big_quiet_step (fail))
          refine wpQuiet_nil ?_
          rintro _ ⟨d, rfl⟩
          go_wp2_with fail
          go_roundg (gk - 1)
          case measure => omega
          case rel =>
            refine ⟨⟨q + 1, min lo x, max hi x, by omega, by omega, by go_num, rfl, rfl, ?_, ?_, fun z hz => ?_, hs3.then d.same⟩⟩
            · rcases (by omega : min lo x = lo ∨ min lo x = x) with h | h <;> rw [h]
              · exact HLO.out
              · exact HMQ.out
            · rcases (by omega : max hi x = hi ∨ max hi x = x) with h | h <;> rw [h]
              · exact HHI.out
              · exact HMQ.out
            · rw [HTQ.out] at hz
              rcases List.mem_append.1 hz with hz | hz
              · have := HALL.out z hz; omega
              · rw [List.mem_singleton] at hz; subst hz; omega
        · have e2 : decide (q < i) = false := by simpa using hqi
          rw [List.take_of_length_le (by rw [HL7.out]; omega)] at hall
          have HALL := Lib.hid hall
          have HLO := Lib.hid hlo
          have HHI := Lib.hid hhi
          clear hall hlo hhi
          go_wp2_with fail
          go_loopg [13] 9 (EvRel3 w3 i)
          case atStart => exact ⟨⟨0, by omega, rfl, .inl rfl, rfl⟩⟩
          case round =>
            rename Nat => gk
            obtain ⟨j, hgj, rfl, hj, hw4⟩ := hrel.out_
            subst hw4
            clear hrel
            have hj9 : j ≤ 9 := by
              rcases hj with hj | hj
              · omega
              · rcases Nat.lt_or_ge 9 j with c | c
                · have : 2 ^ 10 ≤ 2 ^ j := Nat.pow_le_pow_right (by decide) c
                  omega
                · exact c
            have hwt := wrap_two (j := j) (by omega)
            have h2j : 2 ^ j ≤ 2 ^ 9 := Nat.pow_le_pow_right (by decide) hj9
            obtain ⟨Q, hQ⟩ : ∃ Q, 2 ^ j = Q := ⟨_, rfl⟩
            by_cases hlt3 : 2 ^ j < i
            · have e3 : decide (wrap64 ((2 : Int) ^ j) < (i : Int)) = true := by rw [hwt]; exact decide_eq_true (by rw [hQ] at *; omega)
              have hj2 : j + 1 = 0 ∨ 2 ^ (j + 1) < 2 * i := .inr (by rw [Nat.pow_succ]; omega)
              have HJ2 := Lib.hid hj2
              have hj8 : j < 9 := by
                rcases Nat.lt_or_ge j 9 with c | c
                · exact c
                · have : j = 9 := by omega
                  subst this; omega
              clear hwt h2j hj hj2 hlt3 hQ
              go_wp2_with fail
              go_roundg (gk - 1)
              case measure => omega
              case rel => exact ⟨⟨j + 1, by omega, by go_num, HJ2.out, rfl⟩⟩
            · have hwq : wrap64 ((2 : Int) ^ j) = (Q : Int) := by rw [hwt, hQ]
              have hqi3 : ¬ Q < i := by rw [← hQ]; exact hlt3
              have e3 : decide (Q < i) = false := decide_eq_false hqi3
              have e3' : decide ((Q : Int) < (i : Int)) = false := decide_eq_false (by omega)
              have hj2 : 2 ^ j < 2 * i := by
                rcases hj with hj | hj
                · subst hj; simp at hQ; omega
                · exact hj
              obtain ⟨q1, ⟨x, q2, q3⟩, q4⟩ := hE2.out j (Nat.not_lt.1 hlt3) hj2
              have h1 := q1 lo HLO.out
              have h2 := q1 hi HHI.out
              have h3 := (HALL.out x q2).2
              have h4 := (HALL.out hi HHI.out).1
              have hhi : hi = (j : Int) := by omega
              obtain ⟨δ, hδ⟩ : ∃ δ, hi - lo = δ := ⟨_, rfl⟩
              have hδ2 : 0 ≤ δ ∧ δ ≤ 1 := by omega
              rw [hhi] at hδ
              have e4 : decide (δ ≤ 1) = true := by simpa using hδ2.2
              have hfin : ((Q == i) = true ∧ lo = hi) ∨ (Q == i) = false := by
                by_cases c : Q = i
                · left
                  exact ⟨by rw [c]; simp, by rw [q4 (by rw [hQ]; exact c.symm) lo HLO.out, hhi]⟩
                · right
                  rw [beq_eq_false_iff_ne]; exact c
              have hB4 := hs3.below_of hB2 hB2.size (fun _ _ c => c)
              have HB4 := Lib.hid hB4
              clear hwt h2j hj hj2 hlt3 hQ q1 q2 q3 q4 h1 h2 h3 h4 HALL HLO HHI hE2 hB4 hqi3
              subst hhi
              rcases hfin with ⟨f1, f2⟩ | f1
              · have f1' : ((Q : Int) == (i : Int)) = true := by rw [beq_iff_eq] at f1 ⊢; rw [f1]
                subst f2
                go_wp2_with (go_at_call 8; refine (hT _).out.mono ?_; rintro e w6 ⟨rfl, hb6⟩)
                all_goals (go_ret; exact ⟨rfl, HB4.out.trans (hb6.mono HB4.out.size)⟩)
              · have f1' : ((Q : Int) == (i : Int)) = false := by rw [beq_eq_false_iff_ne] at f1 ⊢; omega
                have f2 : ¬ Q = i := by rw [beq_eq_false_iff_ne] at f1; exact f1
                have f3 : ¬ (Q : Int) = (i : Int) := by omega
                go_wp2_with (go_at_call 8; refine (hT _).out.mono ?_; rintro e w6 ⟨rfl, hb6⟩)
                all_goals (go_ret; exact ⟨rfl, HB4.out.trans (hb6.mono HB4.out.size)⟩)
end Go.Proofs.Ytfmglcgdcdcpaaa
