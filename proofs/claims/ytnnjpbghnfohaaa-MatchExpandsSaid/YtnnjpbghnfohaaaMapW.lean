import Derived.Test.YtnnjpbghnfohaaaMapZ
import Derived.Deep.Cut
import Derived.Deep.DeepCutAuto
import Derived.Deep.CutBlock
import Derived.Deep.RegionWith
namespace Go.Proofs.Ytnnjpbghnfohaaa
set_option linter.unusedVariables false
set_option linter.unusedSimpArgs false
open Go.RowKit Go.MapKept
attribute [local go_sem] max2i min2i max2t min2t

set_option maxHeartbeats 1600000 in
set_option maxRecDepth 100000 in
theorem match_tokens_store (A : Option Addr) (c : Nat) (bs : List Int) (lazy wide : Bool) (chain good : Int) (w : World) (hr : RowOf w .u8 A c bs) (hl : bs.length ≤ 100000) :
    Calls Try.prog 14 #[.slice A bs.length c, .agg #[.bool true, .int .i64 chain, .bool lazy, .int .i64 good], .bool wide] w fun e w' => ∃ v base, e = .returned v ∧ w.heap.size ≤ base ∧ w'.ownsRow base 45 3 v (storeL bs).length ((storeL bs).flatMap Tk.enc) ∧ Below w.heap.size w w' := by
  have hm := hr.most
  have hcap := hr.cap
  have hB0 := (Below.refl w.heap.size w).alloc (Nat.le_refl _) (.cells #[.bool true, .int .i64 chain, .bool lazy, .int .i64 good] 24)
  have hz0 := hB0.size
  have hr0 := hr.belo hB0
  have hbx := Blk.new w 24 #[.bool true, .int .i64 chain, .bool lazy, .int .i64 good]
  obtain ⟨L, hL⟩ : ∃ L, storeL bs = L := ⟨_, rfl⟩
  rw [hL]
  go_enter Try.func14, Try.ntmps14
  go_wp2_with fail
  generalize w.alloc (.cells #[.bool true, .int .i64 chain, .bool lazy, .int .i64 good] 24) = w0 at *
  have b0 := hbx.cell 0
  go_wp2_with fail
  go_loopg [7, 20] bs.length (RtRel w0 w0.heap.size bs L (fun k => storeL (bs.drop k)))
  case atStart => exact ⟨⟨0, [], by omega, by simp, by omega, rfl, hL.symm, ⟨rfl, .inl ⟨rfl, rfl⟩⟩, Below.refl _ _⟩⟩
  case round =>
    obtain ⟨at_, acc, hat, hacc, hg, rfl, htok, ho, hb⟩ := hrel.out_
    clear hrel
    by_cases hlt : at_ < bs.length
    · have e1 : decide (at_ < bs.length) = true := by simpa using hlt
      have hstep := storeL_drop hlt
      have hr2 := hr0.belo hb
      obtain ⟨ba, bo, hA⟩ := hr2.addr3 (fun e => by rw [e] at hlt; simp at hlt)
      subst hA
      obtain ⟨ad, ead, rb⟩ := hr2.rd.at_ (i := at_) hlt
      injection ead with ead
      subst ead
      rw [Addr.add_lit] at rb
      have bt := Blk.new wr 45 #[.int .i64 ((0 : Nat) : Int), .int .i64 ((0 : Nat) : Int), .int .u8 (bs.getD at_ 0)]
      have ho2' := own3_kept ho ((Same.refl (S := fun _ => False) wr).alloc (.cells #[.int .i64 ((0 : Nat) : Int), .int .i64 ((0 : Nat) : Int), .int .u8 (bs.getD at_ 0)] 45))
      have hz2 := hb.size
      have hb3 := hb.alloc hz2 (.cells #[.int .i64 ((0 : Nat) : Int), .int .i64 ((0 : Nat) : Int), .int .u8 (bs.getD at_ 0)] 45)
      have HSTEP := Lib.hid hstep
      have HT := Lib.hid htok
      clear hstep htok
      generalize bs.getD at_ 0 = bb at *
      go_wp2_with (at_builtin; refine wpList_tok w0.heap.size rfl (.tmp 24) (.tmp 27) 36 45 wr.heap.size rfl Try.underlying36 Try.tokinfo _ acc ⟨0, 0, bb⟩ rfl rfl bt ho2' hb3.size (by omega) ?_; intro v9 w9 ho9 hs9 _)
      have hb9 := hs9.below_of hb3 hb3.size (fun k hk e => by have := own3_ge ho2' k e; omega)
      go_roundg (gk - 1)
      case measure => omega
      case rel => exact ⟨⟨at_ + 1, acc ++ [⟨0, 0, bb⟩], by omega, by simp; omega, by omega, by go_num, by rw [HT.out, HSTEP.out, List.append_assoc]; rfl, ho9, hb9⟩⟩
    · have e1 : decide (at_ < bs.length) = false := by simpa using hlt
      rw [show storeL (bs.drop at_) = [] from by rw [List.drop_eq_nil_of_le (by omega)]; rfl, List.append_nil] at htok
      subst htok
      go_wp2_with fail
      go_ret
      exact ⟨_, w0.heap.size, rfl, by omega, ho, hB0.trans (hb.mono hz0)⟩
/-- Tokens of a text, by any plan. -/
theorem match_tokZ (A : Option Addr) (c : Nat) (bs : List Int) (store lazy wide : Bool) (chain good : Int) (M : Nat) (far : Int) (hM : M = if wide then 65538 else 258) (hfar : far = if wide then 65536 else 32768) (w : World) (hr : RowOf w .u8 A c bs) (hl : bs.length ≤ 100000) :
    Calls Try.prog 14 #[.slice A bs.length c, .agg #[.bool store, .int .i64 chain, .bool lazy, .int .i64 good], .bool wide] w fun e w' => ∃ v base, e = .returned v ∧ w.heap.size ≤ base ∧ w'.ownsRow base 45 3 v (tokZ store bs M far chain (max good 1) lazy 0).length ((tokZ store bs M far chain (max good 1) lazy 0).flatMap Tk.enc) ∧ Below w.heap.size w w' := by
  cases store
  · exact match_tokens A c bs lazy wide chain good M far hM hfar w hr hl
  · exact match_tokens_store A c bs lazy wide chain good w hr hl
theorem tokL_len (bs : List Int) (M : Nat) (far chain good : Int) (lazy : Bool) : ∀ k at_, bs.length - at_ ≤ k → (tokL bs M far chain good lazy at_).length ≤ k
  | 0, at_, h => by rw [tokL_end (by omega)]; simp
  | k + 1, at_, h => by
    by_cases hlt : at_ < bs.length
    · by_cases h0 : lazyN bs M far chain good lazy at_ = 0
      · rw [tokL_byte hlt h0, List.length_cons]
        have := tokL_len bs M far chain good lazy k (at_ + 1) (by omega)
        omega
      · rw [tokL_match hlt rfl h0, List.length_cons]
        have := tokL_len bs M far chain good lazy k (at_ + lazyN bs M far chain good lazy at_) (by omega)
        omega
    · rw [tokL_end (by omega)]; simp
theorem tokZ_len (store : Bool) (bs : List Int) (M : Nat) (far chain good : Int) (lazy : Bool) : (tokZ store bs M far chain good lazy 0).length ≤ bs.length := by
  cases store
  · exact tokL_len bs M far chain good lazy _ 0 (by omega)
  · show (storeL bs).length ≤ _
    simp [storeL]
set_option maxHeartbeats 4000000 in
set_option maxRecDepth 100000 in
theorem matchTokens_walk (A : Option Addr) (c : Nat) (bs : List Int) (n : Int) (store : Bool) (chain : Int) (lazy : Bool) (good : Int) (wide : Bool) (w : World) (h00 : RowOf w .u8 A c bs) (h01 : (Lit.int .i64 n).wf = true) (h02 : (Lit.int .i64 chain).wf = true) (h03 : (Lit.int .i64 good).wf = true) :
    Calls Try.prog 4 #[.slice A bs.length c, .int .i64 n, .agg #[.bool store, .int .i64 chain, .bool lazy, .int .i64 good], .bool wide] w fun e w' => e = .returned (.bool true) ∧ Below w.heap.size w w' := by
  have ht := fun W => Lib.hid (told13 W)
  have hm := h00.most
  have hcap := h00.cap
  have hB0 := (Below.refl w.heap.size w).alloc (Nat.le_refl _) (.cells #[.bool store, .int .i64 chain, .bool lazy, .int .i64 good] 24)
  have hbx := Blk.new w 24 #[.bool store, .int .i64 chain, .bool lazy, .int .i64 good]
  have hr0 := h00.belo hB0
  by_cases h1 : 200 < bs.length
  · have h1' : decide ((200 : Int) < bs.length) = true := by simp; omega
    go_enter Try.func4, Try.ntmps4
    go_wp2_with (go_at_call 8; refine (ht _).out.mono ?_; rintro e w' ⟨rfl, hb⟩)
    go_ret
    exact ⟨rfl, hB0.trans (hb.mono hB0.size)⟩
  have h1' : decide ((200 : Int) < bs.length) = false := by simp; omega
  go_enter Try.func4, Try.ntmps4
  go_wp2_with fail
  generalize w.alloc (.cells #[.bool store, .int .i64 chain, .bool lazy, .int .i64 good] 24) = w0 at *
  refine (match_long A c bs n w0 hr0 (by omega)).mono ?_
  rintro e w1 ⟨A', c', s, rfl, hr1, hs1, hs2, hb1⟩
  have hx1 := hbx.below hb1 hbx.lt
  have hb01 := hB0.trans (hb1.mono hB0.size)
  obtain ⟨M, hM⟩ : ∃ M : Nat, M = if wide then 65538 else 258 := ⟨_, rfl⟩
  obtain ⟨far, hfar⟩ : ∃ far : Int, far = if wide then 65536 else 32768 := ⟨_, rfl⟩
  have hLl := tokZ_len store s M far chain (max good 1) lazy
  have HX := Lib.hid (fun W (hb : Below w1.heap.size w1 W) => hx1.below hb hx1.lt)
  have HB0 := Lib.hid (fun W (hb : Below w1.heap.size w1 W) => (ht W).out.mono (R' := fun e w' => e = .returned (.bool true) ∧ Below w1.heap.size w1 w') (fun e w' ⟨he, hb'⟩ => ⟨he, hb.trans (hb'.mono hb.size)⟩))
  have HB1 := Lib.hid (fun W (hb : Below w1.heap.size w1 W) => (match_tokZ A' c' s store lazy wide chain good M far hM hfar W (hr1.belo hb) (by omega)).mono (R' := fun e w' => ∃ A c, e = .returned (.slice A (tokZ store s M far chain (max good 1) lazy 0).length c) ∧ (tokZ store s M far chain (max good 1) lazy 0).length ≤ c ∧ c ≤ 9223372036854775807 ∧ Hid (TkOf w' A (tokZ store s M far chain (max good 1) lazy 0)) ∧ Below W.heap.size W w' ∧ Below w1.heap.size w1 w') (fun e w' ⟨v, base, he, hbase, ho, hb'⟩ => by
    obtain ⟨A, c, rfl, h1, h2, h3, _⟩ := own_tk ho
    exact ⟨A, c, he, h1, h2, Lib.hid h3.of, hb', hb.trans (hb'.mono hb.size)⟩))
  have HB2 := Lib.hid (fun W (hb : Below w1.heap.size w1 W) => (ref_tokens A' c' s store lazy wide chain good M far hM hfar W (hr1.belo hb) (by omega)).mono (R' := fun e w' => ∃ A c, e = .returned (.slice A (tokZ store s M far chain (max good 1) lazy 0).length c) ∧ (tokZ store s M far chain (max good 1) lazy 0).length ≤ c ∧ c ≤ 9223372036854775807 ∧ Hid (TkOf w' A (tokZ store s M far chain (max good 1) lazy 0)) ∧ Below W.heap.size W w' ∧ Below w1.heap.size w1 w') (fun e w' ⟨v, base, he, hbase, ho, hb'⟩ => by
    obtain ⟨A, c, rfl, h1, h2, h3, _⟩ := own_tk ho
    exact ⟨A, c, he, h1, h2, Lib.hid h3.of, hb', hb.trans (hb'.mono hb.size)⟩))
  generalize tokZ store s M far chain (max good 1) lazy 0 = L at *
  have HB3 := Lib.hid (fun (A B : Option Addr) (c d : Nat) W (hb : Below w1.heap.size w1 W) (ha : RdTk W A L) (hb2 : RdTk W B L) (h1 : L.length ≤ c) (h2 : L.length ≤ d) (h3 : c ≤ 9223372036854775807) (h4 : d ≤ 9223372036854775807) => (same_tok A B c d L W ha hb2 h1 h2 h3 h4 (by omega)).mono (R' := fun e w' => e = .returned (.bool true) ∧ Below w1.heap.size w1 w') (fun e w' ⟨he, hb'⟩ => ⟨he, hb.trans (hb'.mono hb.size)⟩))
  clear hM hfar hx1
  go_wp2_with fail
  go_region_with (first
    | (go_at_call 8; refine (HB0.out _ ?_).mono ?_; (first | exact (Below.refl _ _).drew | assumption); rintro e wT ⟨rfl, hbT⟩; have x0 := (HX.out _ hbT).cell 0; have x1 := (HX.out _ hbT).cell 1; have x2 := (HX.out _ hbT).cell 2; have x3 := (HX.out _ hbT).cell 3)
    | (go_at_call 14; refine (HB1.out _ ?_).mono ?_; (first | assumption); rintro e wA ⟨A5, cA, rfl, hcA1, hcA2, hcA, hbA, hbA2⟩; have y0 := (HX.out _ hbA2).cell 0; have y1 := (HX.out _ hbA2).cell 1; have y2 := (HX.out _ hbA2).cell 2; have y3 := (HX.out _ hbA2).cell 3; have cA1 := hcA.out _ (Below.refl _ _); try (have cB2 := hcB.out _ hbA))
    | (go_at_call 15; refine (HB2.out _ ?_).mono ?_; (first | assumption); rintro e wB ⟨B5, cB, rfl, hcB1, hcB2, hcB, hbB, hbB2⟩; have z0 := (HX.out _ hbB2).cell 0; have z1 := (HX.out _ hbB2).cell 1; have z2 := (HX.out _ hbB2).cell 2; have z3 := (HX.out _ hbB2).cell 3; have cB1 := hcB.out _ (Below.refl _ _); try (have cA2 := hcA.out _ hbB))
    | (go_at_call 13; refine (HB3.out _ _ _ _ _ ?_ ?_ ?_ ?_ ?_ ?_ ?_).mono ?_; (all_goals first | assumption | skip); rintro e wE ⟨rfl, hbE⟩))
  all_goals (go_wp2_with fail; go_ret; exact ⟨rfl, hb01.trans (hbE.mono hb01.size)⟩)
end Go.Proofs.Ytnnjpbghnfohaaa
