import Derived.Test.YtcmaaaojegjkjaaInfSt
import Derived.Test.YtcmaaaojegjkjaaInfT
import Derived.Test.YtcmaaaojegjkjaaBlkW
import Derived.Test.YtcmaaaojegjkjaaBas3
namespace Go.Proofs.Ytcmaaaojegjkjaa
set_option linter.unusedVariables false
set_option linter.unusedSimpArgs false
open Go.RowKit
attribute [local go_sem] max2i min2i max2t min2t

theorem storeB_short (last : Bool) (f : Nat) {b : List Int} (h : b.length ≤ 65535) : storeB last f b = headB b last ++ b := by
  cases f with
  | zero => rfl
  | succ f => rw [storeB, if_pos h]
theorem stoS_snoc (cs : List (List Int)) (b : List Int) : stoS (cs ++ [b]) = stoS cs ++ (headB b false ++ b) := by
  unfold stoS; rw [List.flatMap_append]; simp
theorem flat_snoc (cs : List (List Int)) (b : List Int) : (cs ++ [b]).flatten = cs.flatten ++ b := by simp
structure IswRel (w : World) (bs : List Int) (g : Nat) (v5 v6 v7 : Value) (wr : World) : Prop where mk ::
  out_ : ∃ (i at_ : Nat) (cs : List (List Int)), v6 = .int .i64 at_ ∧ v7 = .int .i64 i ∧ Own wr w.heap.size 5 v5 (ints .u8 (stoS cs)) ∧ (∀ x ∈ stoS cs, (Lit.int .u8 x).wf = true) ∧ cs.flatten = bs.take at_ ∧ at_ ≤ bs.length ∧ (∀ c ∈ cs, c ≠ [] ∧ c.length ≤ 65535) ∧ cs.length ≤ at_ ∧ i ≤ at_ ∧ bs.length - at_ ≤ g ∧ Below w.heap.size w wr
set_option maxHeartbeats 1600000 in
set_option maxRecDepth 100000 in
theorem infStored_loop (A : Option Addr) (c : Nat) (bs : List Int) (A1 : Option Addr) (c1 : Nat) (ls : List Int) (w : World) (h00 : RowOf w .u8 A c bs) (h01 : RowOf w .i64 A1 c1 ls) (hlen : bs.length ≤ 400) :
    Calls Try.prog 4 #[.slice A bs.length c, .slice A1 ls.length c1] w fun e w' => e = .returned (.bool true) ∧ Below w.heap.size w w' := by
  have ht := fun W => Lib.hid (told12 W)
  have hm := h00.most
  have hcap := h00.cap
  have hm1 := h01.most
  have hcap1 := h01.cap
  have b1 : decide ((400 : Int) < bs.length) = false := by simp; omega
  go_enter Try.func4, Try.ntmps4
  go_wp2_with fail
  go_loopg [5, 6, 7] bs.length (IswRel w bs)
  case atStart => exact ⟨⟨0, 0, [], rfl, rfl, Own.nil _ _ _, by simp [stoS], by simp, by omega, by simp, by simp, by omega, by omega, Below.refl _ _⟩⟩
  case round =>
    obtain ⟨i, at_, cs, rfl, rfl, ho, hwf, hfl, hat, hcs, hcn, hia, hg, hB⟩ := hrel.out_
    clear hrel
    rcases Nat.lt_or_ge at_ bs.length with hlt | hge
    · have q1 : decide ((at_ : Int) < bs.length) = true := by simp; omega
      obtain ⟨bb, oo, rfl⟩ := h00.addr (fun h => by rw [h] at hlt; simp at hlt)
      have hcq : ¬ c = at_ := by omega
      rcases Nat.lt_or_ge i ls.length with hil | hig
      · have q2 : decide ((i : Int) < ls.length) = true := by simp; omega
        obtain ⟨ad, rfl, hcell⟩ := (h01.belo hB).rd.at_ hil
        generalize ls.getD i 0 = x at *
        have hx := and_127 x
        obtain ⟨n0, hn0, en0⟩ := nat_of_mod x 128 (by omega)
        have en0 : x % 128 = (n0 : Int) := en0
        rw [en0] at hx
        obtain ⟨m1, hmm⟩ : ∃ m1, m1 = min (1 + n0) (bs.length - at_) := ⟨_, rfl⟩
        have hmin : min (1 + (n0 : Int)) ((bs.length : Int) - at_) = m1 := by omega
        have k1 : 1 ≤ m1 := by omega
        have k2 : m1 ≤ bs.length - at_ := by omega
        clear en0 hmm
        have hpl : ((bs.drop at_).take m1).length = m1 := by rw [List.length_take, List.length_drop]; omega
        have hpr : RowOf wr .u8 (some ⟨bb, oo + at_, none⟩) (c - at_) ((bs.drop at_).take m1) := by
          have := ((h00.belo hB).drop_ at_ (by omega)).take_ m1
          rwa [if_neg hcq, Option.map_some, Addr.add_lit] at this
        have CS := ref_store false wr hpr (by omega)
        rw [hpl, storeB_short _ _ (by omega)] at CS
        have HCS := Lib.hid hcs
        have HFL := Lib.hid hfl
        have hsl := stoS_len cs
        have hcl : cs.flatten.length = at_ := by rw [hfl, List.length_take]; omega
        have hst : (stoS cs).length ≤ 6 * at_ := by omega
        have hsm : (headB ((bs.drop at_).take m1) false ++ (bs.drop at_).take m1).length = m1 + 5 := by rw [List.length_append, hpl]; simp [headB]; omega
        rw [hsm] at CS
        have hbw : ∀ x ∈ bs, (Lit.int .u8 x).wf = true := h00.wf
        have hpw : ∀ x ∈ headB ((bs.drop at_).take m1) false ++ (bs.drop at_).take m1, (Lit.int .u8 x).wf = true := fun x hx => by
          rcases List.mem_append.1 hx with hx | hx
          · exact headB_wf (by omega) _ x hx
          · exact hbw x (List.mem_of_mem_drop (List.mem_of_mem_take hx))
        have HSN := Lib.hid (show stoS (cs ++ [(bs.drop at_).take m1]) = stoS cs ++ (headB ((bs.drop at_).take m1) false ++ (bs.drop at_).take m1) from stoS_snoc _ _)
        have HF2 := Lib.hid (show (cs ++ [(bs.drop at_).take m1]).flatten = bs.take (at_ + m1) from by rw [flat_snoc, hfl, List.take_add])
        have CS := Lib.hid CS
        clear hfl hcs hpr hsl hcl
        generalize hP : (bs.drop at_).take m1 = P at *
        generalize hPP : headB P false ++ P = PP at *
        generalize stoS cs = S at *
        have HPL := Lib.hid hpl
        clear hP hPP hpl
        go_wp2_with (first
          | (go_at_call 14; refine CS.out.mono ?_; rintro e w2 ⟨A2, c2, rfl, hr2, ho2, hb2, ha2⟩; have s2 := ho.kept (Same.of_below (S := fun _ => False) hb2) (fun _ _ c => c); have B2 := hB.trans (hb2.mono hB.size))
          | (at_builtin; refine wpList_catN .u8 w.heap.size rfl (.tmp 46) (.tmp 53) 26 5 1 rfl Try.underlying26 Try.u8inf _ S _ (m1 + 5) _ PP hsm rfl rfl s2 hr2 B2.size (S.length + (m1 + 5)) rfl (by omega) (by omega) hwf ?_; intro A9 c9 w9 ho9 hr9 hs9 hat9; have B9 := hs9.below_of B2 B2.size (fun i hi e => by have := ho.base_le i e; omega); clear hat9))
        go_roundg (gk - 1)
        case measure => omega
        case rel =>
          refine ⟨⟨i + 1, at_ + m1, cs ++ [P], by go_num, by go_num, by rw [HSN.out]; exact ho9, ?_, HF2.out, by omega, ?_, ?_, by omega, by omega, B9⟩⟩
          · rw [HSN.out]; exact hr9.wf
          · intro q hq
            rcases List.mem_append.1 hq with hq | hq
            · exact HCS.out q hq
            · rw [List.mem_singleton] at hq
              subst hq
              have := HPL.out
              exact ⟨fun e => by rw [e] at this; simp at this; omega, by omega⟩
          · rw [List.length_append, List.length_singleton]; omega
      · have q2 : decide ((i : Int) < ls.length) = false := by simp; omega
        obtain ⟨m1, hmm⟩ : ∃ m1, m1 = bs.length - at_ := ⟨_, rfl⟩
        have hmin : min (bs.length : Int) ((bs.length : Int) - at_) = m1 := by omega
        have k1 : 1 ≤ m1 := by omega
        have k2 : m1 ≤ bs.length - at_ := by omega
        clear hmm
        have hpl : ((bs.drop at_).take m1).length = m1 := by rw [List.length_take, List.length_drop]; omega
        have hpr : RowOf wr .u8 (some ⟨bb, oo + at_, none⟩) (c - at_) ((bs.drop at_).take m1) := by
          have := ((h00.belo hB).drop_ at_ (by omega)).take_ m1
          rwa [if_neg hcq, Option.map_some, Addr.add_lit] at this
        have CS := ref_store false wr hpr (by omega)
        rw [hpl, storeB_short _ _ (by omega)] at CS
        have HCS := Lib.hid hcs
        have HFL := Lib.hid hfl
        have hsl := stoS_len cs
        have hcl : cs.flatten.length = at_ := by rw [hfl, List.length_take]; omega
        have hst : (stoS cs).length ≤ 6 * at_ := by omega
        have hsm : (headB ((bs.drop at_).take m1) false ++ (bs.drop at_).take m1).length = m1 + 5 := by rw [List.length_append, hpl]; simp [headB]; omega
        rw [hsm] at CS
        have hbw : ∀ x ∈ bs, (Lit.int .u8 x).wf = true := h00.wf
        have hpw : ∀ x ∈ headB ((bs.drop at_).take m1) false ++ (bs.drop at_).take m1, (Lit.int .u8 x).wf = true := fun x hx => by
          rcases List.mem_append.1 hx with hx | hx
          · exact headB_wf (by omega) _ x hx
          · exact hbw x (List.mem_of_mem_drop (List.mem_of_mem_take hx))
        have HSN := Lib.hid (show stoS (cs ++ [(bs.drop at_).take m1]) = stoS cs ++ (headB ((bs.drop at_).take m1) false ++ (bs.drop at_).take m1) from stoS_snoc _ _)
        have HF2 := Lib.hid (show (cs ++ [(bs.drop at_).take m1]).flatten = bs.take (at_ + m1) from by rw [flat_snoc, hfl, List.take_add])
        have CS := Lib.hid CS
        clear hfl hcs hpr hsl hcl
        generalize hP : (bs.drop at_).take m1 = P at *
        generalize hPP : headB P false ++ P = PP at *
        generalize stoS cs = S at *
        have HPL := Lib.hid hpl
        clear hP hPP hpl
        go_wp2_with (first
          | (go_at_call 14; refine CS.out.mono ?_; rintro e w2 ⟨A2, c2, rfl, hr2, ho2, hb2, ha2⟩; have s2 := ho.kept (Same.of_below (S := fun _ => False) hb2) (fun _ _ c => c); have B2 := hB.trans (hb2.mono hB.size))
          | (at_builtin; refine wpList_catN .u8 w.heap.size rfl (.tmp 46) (.tmp 53) 26 5 1 rfl Try.underlying26 Try.u8inf _ S _ (m1 + 5) _ PP hsm rfl rfl s2 hr2 B2.size (S.length + (m1 + 5)) rfl (by omega) (by omega) hwf ?_; intro A9 c9 w9 ho9 hr9 hs9 hat9; have B9 := hs9.below_of B2 B2.size (fun i hi e => by have := ho.base_le i e; omega); clear hat9))
        go_roundg (gk - 1)
        case measure => omega
        case rel =>
          refine ⟨⟨i + 1, at_ + m1, cs ++ [P], by go_num, by go_num, by rw [HSN.out]; exact ho9, ?_, HF2.out, by omega, ?_, ?_, by omega, by omega, B9⟩⟩
          · rw [HSN.out]; exact hr9.wf
          · intro q hq
            rcases List.mem_append.1 hq with hq | hq
            · exact HCS.out q hq
            · rw [List.mem_singleton] at hq
              subst hq
              have := HPL.out
              exact ⟨fun e => by rw [e] at this; simp at this; omega, by omega⟩
          · rw [List.length_append, List.length_singleton]; omega
    · have hat2 : at_ = bs.length := by omega
      subst hat2
      rw [List.take_length] at hfl
      have q1 : decide ((bs.length : Int) < bs.length) = false := by simp
      have hsl := stoS_len cs
      rw [hfl] at hsl
      have hnil : RowOf wr .u8 none 0 [] := ⟨RdI.nil_, by simp, by simp, by simp, by simp⟩
      have CE := ref_store true wr hnil (by simp)
      rw [List.length_nil, storeB_short true 0 (by simp), List.append_nil] at CE
      have h5 : (headB [] true).length = 5 := rfl
      rw [h5] at CE
      obtain ⟨T, hT⟩ : ∃ T, stoS cs ++ headB [] true = T := ⟨_, rfl⟩
      have hTl : T.length = (stoS cs).length + 5 := by rw [← hT, List.length_append, h5]
      obtain ⟨U, hU⟩ : ∃ U, T ++ [9, 9] = U := ⟨_, rfl⟩
      have hUl : U.length = T.length + 2 := by rw [← hU, List.length_append]; rfl
      have a1 := allQ_stored cs [9, 9] false 1 hcs
      rw [← List.append_assoc, hT, hU, hfl, ← hTl] at a1
      have CA := fun (W : World) A c hr => Lib.hid (inf_all A c U false 1 bs.length (by decide) (by decide) (by omega) W hr (by omega))
      rw [a1] at CA
      have CE := Lib.hid CE
      have hTw : ∀ x ∈ T, (Lit.int .u8 x).wf = true := fun x hx => by
        rw [← hT] at hx
        rcases List.mem_append.1 hx with hx | hx
        · exact hwf x hx
        · exact headB_wf (by simp) _ x hx
      have HT := Lib.hid hT
      have HU := Lib.hid hU
      have HTL := Lib.hid hTl
      have HSL := Lib.hid hsl
      have hTb : T.length ≤ 10000 := by omega
      have hUb : U.length ≤ 10000 := by omega
      have hSb : (stoS cs).length ≤ 10000 := by omega
      have HUL := Lib.hid hUl
      clear hT hU a1 hTl hsl hUl
      obtain ⟨S, hS⟩ : ∃ S, stoS cs = S := ⟨_, rfl⟩
      rw [hS] at ho hwf hSb
      have HS := Lib.hid hS
      clear hS
      go_upto_region 16 with (first
        | (go_at_call 14; refine CE.out.mono ?_; rintro e w2 ⟨A2, c2, rfl, hr2, ho2, hb2, ha2⟩; have s2 := ho.kept (Same.of_below (S := fun _ => False) hb2) (fun _ _ c => c); have B2 := hB.trans (hb2.mono hB.size))
        | (at_builtin; refine wpList_catN .u8 w.heap.size rfl (.tmp 58) (.tmp 59) 26 5 1 rfl Try.underlying26 Try.u8inf _ S _ 5 _ (headB [] true) h5 rfl rfl s2 hr2 B2.size T.length (by have := HTL.out; rw [HS.out] at this; omega) (by omega) (by omega) hwf ?_; intro A9 c9 w9 ho9 hr9 hs9 hat9; have B9 := hs9.below_of B2 B2.size (fun i hi e => by have := ho.base_le i e; omega); rw [← HS.out, HT.out] at hr9; clear hat9)
        | (at_builtin; show wpList _ _ _ (_ :: _) _ (World.alloc w9 (.cells #[] 5)); refine wpList_freshG w9.heap.size rfl .u8 rfl (.tmp 62) (.tmp 63) 26 5 1 rfl Try.underlying26 Try.u8inf A9 c9 T rfl rfl hr9 (by omega) (by omega) ?_; intro A3 c3 w3 ho3 hr3 hbb3 hat3; have B3 := B9.trans (hbb3.mono B9.size); have lit : RowOf (w3.alloc (.cells #[.int .u8 9, .int .u8 9] 5)) .u8 (some ⟨w3.heap.size, 0, none⟩) 2 [9, 9] := RowOf.lit w3 .u8 5 [9, 9] (fun x hx => by simp only [List.mem_cons, List.not_mem_nil, or_false] at hx; rcases hx with rfl | rfl <;> decide) (by decide); have l3 := hr3.belo (Below.alloc (Below.refl w3.heap.size w3) (Nat.le_refl _) (.cells #[.int .u8 9, .int .u8 9] 5)); have o3 := ho3.alloc (.cells #[.int .u8 9, .int .u8 9] 5); have L3 := B3.alloc B3.size (.cells #[.int .u8 9, .int .u8 9] 5))
        | (at_builtin; go_loud (refine wpList_catN .u8 w9.heap.size rfl (.tmp 64) (.tmp 65) 26 5 1 rfl Try.underlying26 Try.u8inf _ T (some ⟨w3.heap.size, 0, none⟩) 2 2 [9, 9] rfl rfl rfl o3 lit (Nat.le_trans hbb3.size (by simp)) U.length (by have := HUL.out; omega) (by omega) (by omega) hr3.wf ?_); intro A4 c4 w4 ho4 hr4 hs4 hat4; rw [HU.out] at hr4; have B4 := hs4.below_of L3 L3.size (fun k hk e => by have := ho3.base_le k e; have := B9.size; omega))
        | (go_at_call 15; refine (CA _ A4 c4 hr4).out.mono ?_; rintro e w5 ⟨v5, rfl, ho5, hb5⟩; have B5 := B4.trans (hb5.mono B4.size); obtain ⟨A5, c5, rfl, hr5, ha5⟩ := ho5.row h00.wf; have t5 := (hr5.strAt rfl).here; have t0 := ((h00.belo B5).strAt rfl).here; generalize strOfNums bs = SB at *))
      have b93 := hbb3.alloc hbb3.size (.cells #[.int .u8 9, .int .u8 9] 5)
      have b94 := hs4.below_of b93 b93.size (fun k hk e => by have := ho3.base_le k e; omega)
      have hr59 := Lib.hid (hr9.belo (b94.trans (hb5.mono b94.size)))
      have h05 := Lib.hid (h00.belo B5)
      clear b93 b94 hs4 hat4 ho4 hr4 o3 lit L3 l3 hb2 ha2 s2 hr2 hat3 hr3 ho3 hr5 ha5 hb5 ho5 hr9 hbb3
      by_cases h0 : bs.length = 0
      · have e0 : ((bs.length : Int) == 0) = true := by rw [beq_iff_eq]; omega
        have e0' : (bs.length == 0) = true := by rw [beq_iff_eq]; omega
        clear h0
        go_wp2_with (go_at_call 13; refine (ht _).out.mono ?_; rintro e w6 ⟨rfl, hb6⟩)
        go_ret
        exact ⟨rfl, B5.trans (hb6.mono B5.size)⟩
      · have e0 : ((bs.length : Int) == 0) = false := by rw [beq_eq_false_iff_ne]; omega
        have e0' : (bs.length == 0) = false := by rw [beq_eq_false_iff_ne]; omega
        have hne : cs ≠ [] := fun e => by rw [e] at hfl; rw [← hfl] at h0; simp at h0
        obtain ⟨cs', b, hcb⟩ : ∃ cs' b, cs = cs' ++ [b] := ⟨cs.dropLast, cs.getLast hne, (List.dropLast_concat_getLast hne).symm⟩
        have hTT : T = stoS cs' ++ (headB b false ++ (b ++ headB [] true)) := by rw [← HT.out, hcb, stoS_snoc]; simp [List.append_assoc]
        have hb2 := hcs b (by rw [hcb]; simp)
        have hbl : bs.length = cs'.flatten.length + b.length := by rw [← hfl, hcb, flat_snoc, List.length_append]
        have a2 := allQ_more cs' b (headB [] true) true 65536 (fun q hq => hcs q (by rw [hcb]; simp [hq])) hb2.1 hb2.2 (bs.length - 1) (by omega)
        rw [← hTT] at a2
        have hTk : T.take (T.length - 1) = stoS cs ++ (headB [] true).take 4 := by
          rw [HTL.out, ← HT.out, List.take_append, List.take_of_length_le (by omega), show (stoS cs).length + 5 - 1 - (stoS cs).length = 4 from by omega]
        have a3 := allQ_less cs false 32768 hcs
        rw [hfl, ← hTk] at a3
        have C2 := inf_all A9 c9 T true 65536 (bs.length - 1) (by decide) (by decide) (by omega) w5 hr59.out (by omega)
        rw [a2, show ((bs.length - 1 : Nat) : Int) = (bs.length : Int) - 1 from by omega] at C2
        have C3 := fun (W : World) hb => inf_all A9 c9 (T.take (T.length - 1)) false 32768 bs.length (by decide) (by decide) (by omega) W ((hr59.out.belo hb).take_ (T.length - 1)) (by rw [List.length_take]; omega)
        have hl9 : (T.take (T.length - 1)).length = T.length - 1 := by rw [List.length_take]; omega
        rw [a3, hl9] at C3
        have C2 := Lib.hid C2
        have C3 := fun W hb => Lib.hid (C3 W hb)
        have hTc := hr59.out.cap
        have hcm9 := hr59.out.most
        have k0 : 1 ≤ T.length := by have := HTL.out; omega
        have k1 : (0 : Int) ≤ (T.length : Int) - 1 := by omega
        have k2 : (T.length : Int) - 1 ≤ (c9 : Int) := by omega
        have k3 : ((T.length : Int) - 1).toNat = T.length - 1 := by omega
        have k4 : T.length - 1 ≤ c9 := by omega
        clear hne hcb hTT hb2 hbl a2 hTk a3 hl9 hfl HTL hcs h0
        go_upto_region 21 with (go_at_call 15; refine C2.out.mono ?_; rintro e w6 ⟨v6, rfl, ho6, hb6⟩; have B6 := B5.trans (hb6.mono B5.size))
        go_wp2_with (first
          | (go_at_call 15; go_loud (refine (C3 _ hb6).out.mono ?_); rintro e w7 ⟨v7, rfl, ho7, hb7⟩; have B7 := B6.trans (hb7.mono B6.size))
          | (go_at_call 13; refine (ht _).out.mono ?_; rintro e w8 ⟨rfl, hb8⟩))
        go_ret
        exact ⟨rfl, B7.trans (hb8.mono B7.size)⟩
set_option maxHeartbeats 1600000 in
set_option maxRecDepth 100000 in
theorem inflateStored_walk (A : Option Addr) (c : Nat) (bs : List Int) (A1 : Option Addr) (c1 : Nat) (ls : List Int) (w : World) (h00 : RowOf w .u8 A c bs) (h01 : RowOf w .i64 A1 c1 ls) :
    Calls Try.prog 4 #[.slice A bs.length c, .slice A1 ls.length c1] w fun e w' => e = .returned (.bool true) ∧ Below w.heap.size w w' := by
  rcases Nat.lt_or_ge 400 bs.length with h | h
  · have ht := fun W => Lib.hid (told12 W)
    have b1 : decide ((400 : Int) < bs.length) = true := by simp; omega
    go_enter Try.func4, Try.ntmps4
    go_wp2_with (go_at_call 13; refine (ht _).out.mono ?_; rintro e w6 ⟨rfl, hb6⟩)
    go_ret
    exact ⟨rfl, hb6⟩
  · exact infStored_loop A c bs A1 c1 ls w h00 h01 h
end Go.Proofs.Ytcmaaaojegjkjaa
