import Derived.Test.YtoofkcbgldbfpaaRRRBlkW
import Derived.Deep.Cut
import Derived.Deep.DeepCutAuto
import Derived.Deep.CutBlock
import Derived.Deep.RegionWith
namespace Go.Proofs.YtoofkcbgldbfpaaRRR
set_option linter.unusedVariables false
set_option linter.unusedSimpArgs false
open Go.RowKit
attribute [local go_sem] max2i min2i max2t min2t

theorem putT_zero {k : Nat} (h : k ≤ 32) : putT 0 (k : Int) = List.replicate k 0 := by
  have hb : ∀ n, bitT 0 n = List.replicate n 0 := fun n => by
    induction n with
    | zero => rfl
    | succ n ih => rw [bitT, ih, List.replicate_succ']; simp
  by_cases h0 : k = 0
  · subst h0; exact putT_no 0 (.inl (by decide))
  · rw [putT_ok 0 (by omega) h, hb]
theorem RowOf.rdb {w : World} {A : Option Addr} {c : Nat} {xs : List Int} (h : RowOf w .u8 A c xs) (hx : xs ≠ []) : RdB w A xs := by
  obtain ⟨b, o, rfl⟩ := h.addr hx
  refine .inr ⟨b, o, rfl, fun i hi => ?_⟩
  obtain ⟨ad, e, hc⟩ := h.rd i (xs.getD i 0) (by rw [List.getD_eq_getElem?_getD, List.getElem?_eq_getElem hi]; rfl)
  injection e with e
  subst e
  rwa [Addr.add_lit] at hc
/-- The bytes as a text, in whatever world comes later. -/
def ConvOf (w' : World) (A : Option Addr) (n c : Nat) (S : ByteArray) : Prop := ∀ W', Below w'.heap.size w' W' → (convert 33 9 (.slice A n c)).run Try.prog W' = .ok (.string S) W'
theorem conv_row {w' : World} {A : Option Addr} {c n : Nat} {xs : List Int} (h : RowOf w' .u8 A c xs) (hx : xs ≠ []) (hn : n = xs.length) : ConvOf w' A n c (strOfNums xs) := fun W' hb =>
  ((h.belo hb).rdb hx).to_string (P := Try.prog) hn Try.underlying33 Try.underlying5 Try.underlying9
theorem storeB_ne (last : Bool) (f : Nat) (b : List Int) : 5 ≤ (storeB last f b).length := by
  cases f with
  | zero => rw [storeB, List.length_append]; simp [headB]
  | succ f =>
    rw [storeB]
    split
    · rw [List.length_append]; simp [headB]
    · rw [List.length_append, List.length_append]; simp [headB]; omega
structure BsRel (w : World) (n R : Nat) (g : Nat) (v9 v10 : Value) (wr : World) : Prop where mk ::
  out_ : ∃ (i : Nat) (cur : List Int), i ≤ R ∧ R ≤ g + i ∧ v10 = .int .i64 (i : Int) ∧ Own wr w.heap.size 5 v9 (ints .u8 cur) ∧ cur.length = n * i ∧ (∀ x ∈ cur, (Lit.int .u8 x).wf = true) ∧ Below w.heap.size w wr
set_option maxHeartbeats 4000000 in
set_option maxRecDepth 100000 in
theorem blockStores_walk (A : Option Addr) (c : Nat) (bs : List Int) (n : Int) (last : Bool) (ahead : Int) (w : World) (h00 : RowOf w .u8 A c bs) (h01 : (Lit.int .i64 n).wf = true) (h03 : (Lit.int .i64 ahead).wf = true) :
    Calls Try.prog 5 #[.slice A bs.length c, .int .i64 n, .bool last, .int .i64 ahead] w fun e w' => e = .returned (.bool true) ∧ Below w.heap.size w w' := by
  have ht := fun W => Lib.hid (told14 W)
  have hm := h00.most
  have hcap := h00.cap
  by_cases h1 : 300 < bs.length
  · have h1' : decide ((300 : Int) < bs.length) = true := by simp; omega
    go_enter Try.func5, Try.ntmps5
    go_wp2_with (go_at_call 6; refine (ht _).out.mono ?_; rintro e w' ⟨rfl, hb⟩)
    go_ret
    exact ⟨rfl, hb⟩
  have h1' : decide ((300 : Int) < bs.length) = false := by simp; omega
  have ha1 := and_mask n 8 (by omega)
  rw [show ((2 ^ 8 - 1 : Nat) : Int) = 255 from rfl, show ((2 ^ 8 : Nat) : Int) = 256 from rfl] at ha1
  obtain ⟨r, hr, er⟩ := nat_of_mod n 256 (by omega)
  rw [show ((256 : Nat) : Int) = 256 from rfl] at er
  rw [er] at ha1
  have ha2 := and_7 ahead
  obtain ⟨k, hk, ek⟩ := nat_of_mod ahead 8 (by omega)
  rw [show ((8 : Nat) : Int) = 8 from rfl] at ek
  rw [ek] at ha2
  clear er ek
  go_enter Try.func5, Try.ntmps5
  go_wp2_with fail
  go_loopg [9, 10] (r + 1) (BsRel w bs.length (r + 1))
  case atStart => exact ⟨0, [], by omega, by omega, rfl, Own.nil _ _ _, by simp, by simp, Below.refl _ _⟩
  case round =>
    obtain ⟨i, cur, hi, hg, rfl, ho, hcl, hwf, hb⟩ := hrel
    have hz := hb.size
    by_cases hlt : i < r + 1
    · have e1 : decide ((i : Int) < 1 + r) = true := by simp; omega
      have hcb : cur.length ≤ 300 * 256 := by rw [hcl]; exact Nat.mul_le_mul (by omega) (by omega)
      have HCL := Lib.hid hcl
      clear hcl
      go_wp2_with (at_builtin; refine wpList_cat .u8 w.heap.size rfl (.tmp 27) (.tmp 28) 33 5 1 rfl Try.underlying33 Try.u8inf u9 cur A c bs rfl rfl ho (h00.belo hb) hz (cur.length + bs.length) rfl (by omega) (by omega) hwf ?_; intro A8 c8 w8 ho8 hr8 hs8 hat8; clear hat8)
      have hb8 := hs8.below_of hb hz (fun i hi e => by have := ho.base_le i e; omega)
      go_roundg (gk - 1)
      case measure => omega
      case rel => exact ⟨i + 1, cur ++ bs, by omega, by omega, by go_num, ho8, by rw [List.length_append, HCL.out, Nat.mul_add, Nat.mul_one], hr8.wf, hb8⟩
    · have e1 : decide ((i : Int) < 1 + r) = false := by simp; omega
      have hcb : cur.length ≤ 300 * 256 := by rw [hcl]; exact Nat.mul_le_mul (by omega) (by omega)
      clear hcl
      obtain ⟨A5, c5, rfl, hr5, ha5⟩ := ho.row hwf
      have hu : ∀ x ∈ cur, 0 ≤ x ∧ x < 256 := fun x hx => u8_of (hwf x hx)
      obtain ⟨pre, hpl, hpk, hp0⟩ := store_bytes last cur.length k cur hk hu (by omega)
      have hs5 := storeB_ne last cur.length cur
      go_wp2_with fail
      refine wr_new.mono ?_
      rintro e w1 ⟨rfl, h1, B1⟩
      go_wp2_with fail
      refine (wr_put 0 k h1 (by have := B1.size; omega) (by omega) (by omega) (by simp)).mono ?_
      rintro e w2 ⟨rfl, v2, h2⟩
      rw [List.nil_append, putT_zero (by omega)] at h2
      have B2 := h2.below B1 B1.size (Nat.le_refl _) (fun g hg => by simp [Value.ownBlock] at hg)
      have hb2 := hb.trans (B2.mono hb.size)
      have hr2 := hr5.belo B2
      go_wp2_with fail
      refine (blk_store last h2.at_ hr2 (fun ad e hne => ?_) (by have := B2.size; omega) (by rw [List.length_replicate]; omega)).mono ?_
      · have h9 := hr5.lt hne ad e
        refine ⟨by omega, fun e2 => ?_⟩
        have := h2.at_.row.base_le _ e2
        omega
      rintro e w3 ⟨rfl, v3, h3⟩
      have B3 := h3.below hb2 hb2.size hz (fun g hg => by have := h2.at_.row.base_le _ hg; omega)
      have B23 : Below wr.heap.size wr w3 := h3.below B2 B2.size (Nat.le_refl _) (fun g hg => by have := h2.at_.row.base_le _ hg; omega)
      have hr3 := hr5.belo B23
      have h4 := h3.at_
      have HPK := Lib.hid hpk
      clear h1 h2 h3 hr2 ho hpk
      generalize storeT last cur.length (List.replicate k 0) cur = tt at *
      by_cases hk0 : k = 0
      · subst hk0
        rw [hp0 rfl] at HPK
        have HB1 := Lib.hid (fun W (hb : Below w3.heap.size w3 W) => (wr_bytes (h4.below hb)).mono (R' := fun e w' => ∃ A c, e = .returned (.slice A (packB tt).length c) ∧ Hid (ConvOf w' A (packB tt).length c (strOfNums (packB tt))) ∧ Below W.heap.size W w' ∧ Below w3.heap.size w3 w') (fun e w' ⟨A, c, he, ho, hr, hb', _⟩ => ⟨A, c, he, Lib.hid (conv_row hr (fun h => by rw [HPK.out] at h; rw [h] at hs5; simp at hs5) rfl), hb', hb.trans (hb'.mono hb.size)⟩))
        have HB2 := Lib.hid (fun W (hb : Below w3.heap.size w3 W) => (ref_store last W (hr3.belo hb) (by omega)).mono (R' := fun e w' => ∃ A c, e = .returned (.slice A (storeB last cur.length cur).length c) ∧ Hid (ConvOf w' A (storeB last cur.length cur).length c (strOfNums (storeB last cur.length cur))) ∧ Below W.heap.size W w' ∧ Below w3.heap.size w3 w') (fun e w' ⟨A, c, he, hr, _, hb', _⟩ => ⟨A, c, he, Lib.hid (conv_row hr (fun h => by rw [h] at hs5; simp at hs5) rfl), hb', hb.trans (hb'.mono hb.size)⟩))
        have HB0 := Lib.hid (fun W (hb : Below w3.heap.size w3 W) => (ht W).out.mono (R' := fun e w' => e = .returned (.bool true) ∧ Below w3.heap.size w3 w') (fun e w' ⟨he, hb'⟩ => ⟨he, hb.trans (hb'.mono hb.size)⟩))
        rw [HPK.out] at HB1
        generalize strOfNums (storeB last cur.length cur) = T at *
        generalize (storeB last cur.length cur).length = L at *
        clear hp0
        go_wp2_with fail
        go_region_with (first
          | (go_at_call 6; refine (HB0.out _ ?_).mono ?_; (first | exact (Below.refl _ _).drew | assumption); rintro e w0 ⟨rfl, hb0⟩)
          | (go_at_call 20; refine (HB1.out _ ?_).mono ?_; (first | exact (Below.refl _ _).drew | assumption); rintro e wA ⟨A5, cA, rfl, hcA, hbA, hbA2⟩; have cA1 := hcA.out _ (Below.refl _ _); try (have cB2 := hcB.out _ hbA))
          | (go_at_call 21; refine (HB2.out _ ?_).mono ?_; (first | exact (Below.refl _ _).drew | assumption); rintro e wB ⟨B5, cB, rfl, hcB, hbB, hbB2⟩; have cB1 := hcB.out _ (Below.refl _ _); try (have cA2 := hcA.out _ hbB)))
        all_goals (go_wp2_with fail; go_ret; first | exact ⟨rfl, B3.trans (hbA2.mono B3.size)⟩ | exact ⟨rfl, B3.trans (hbB2.mono B3.size)⟩)
      · have ek0 : ((k : Int) == 0) = false := by rw [beq_eq_false_iff_ne]; omega
        have hLL : (packB tt).length = (storeB last cur.length cur).length + (if 5 < k then 1 else 0) := by
          rw [HPK.out, List.length_append, hpl, List.length_drop]; split <;> omega
        go_wp2_with fail
        refine (ref_store last w3 hr3 (by omega)).mono ?_
        rintro e w4 ⟨A6, c6, rfl, hr6, ho6, B4, ha6⟩
        go_wp2_with fail
        refine (wr_bytes (h4.below B4)).mono ?_
        rintro e w5 ⟨A7, c7, rfl, ho7, hr7, B5, ha7⟩
        obtain ⟨LX, hLX⟩ : ∃ LX, (storeB last cur.length cur).length = LX := ⟨_, rfl⟩
        obtain ⟨LY, hLY⟩ : ∃ LY, (packB tt).length = LY := ⟨_, rfl⟩
        rw [hLX, hLY]
        have HLX := Lib.hid hLX
        have HLY := Lib.hid hLY
        clear hLX hLY
        by_cases hk5 : 5 < k
        · have e5 : decide ((5 : Int) < k) = true := by simp; omega
          have e5' : decide (5 < k) = true := by simp; omega
          rw [if_pos hk5] at hLL hpl
          have hlY : LY = LX + 1 := by rw [← HLY.out, ← HLX.out]; exact hLL
          have eqL : ((LY : Int) == ((LX : Int) + 1)) = true := by rw [beq_iff_eq]; omega
          have hX5 : 5 ≤ LX := by rw [← HLX.out]; exact hs5
          have hY5 : 5 ≤ LY := by omega
          have hdy := hr7.drop_ 2 (by rw [HLY.out]; omega)
          have hdx := hr6.drop_ 1 (by rw [HLX.out]; omega)
          have hdyX : (packB tt).drop 2 = (storeB last cur.length cur).drop 1 := by
            rw [HPK.out, List.drop_left' hpl]
          have hne : (storeB last cur.length cur).drop 1 ≠ [] := fun h => by
            have := congrArg List.length h
            rw [List.length_drop, HLX.out] at this
            simp at this
            omega
          have hcy := hr7.cap
          have hcx := hr6.cap
          have hmy := hr7.most
          have hmx := hr6.most
          rw [HLY.out] at hcy
          rw [HLX.out] at hcx
          obtain ⟨b7, o7, rfl⟩ := hr7.addr (fun h => by have := HLY.out; rw [h] at this; rw [List.length_nil] at this; omega)
          obtain ⟨b6, o6, rfl⟩ := hr6.addr (fun h => by have := HLX.out; rw [h] at this; rw [List.length_nil] at this; omega)
          rw [if_neg (by omega), Option.map_some, Addr.add_lit, hdyX] at hdy
          rw [if_neg (by omega), Option.map_some, Addr.add_lit] at hdx
          have hlx : ((storeB last cur.length cur).drop 1).length = LX - 1 := by rw [List.length_drop, HLX.out]
          have cy := conv_row (n := LY - 2) hdy hne (by rw [hlx]; omega)
          have cx := conv_row (n := LX - 1) (hdx.belo B5) hne hlx.symm
          have B9 := B3.trans ((B4.trans (B5.mono B4.size)).mono B3.size)
          have hnc7 : ¬ c7 = 2 := by omega
          have hLb : LX + 1 ≤ 9223372036854775807 := by omega
          have hnc6 : ¬ c6 = 1 := by omega
          have CY := fun d : Ext (fun _ => False) w5 => cy d.world (d.same.below (fun _ _ c => c))
          have CX := fun d : Ext (fun _ => False) w5 => cx d.world (d.same.below (fun _ _ c => c))
          have m1 := fun d : Ext (fun _ => False) w5 => Lib.hid (ext_call_below (d := d) ((ht d.world).out))
          clear hdy hdx cy cx hlx hne hdyX hlY hr7 hr6 ho6 ho7 h4 hr3
          generalize strOfNums ((storeB last cur.length cur).drop 1) = T at *
          go_wp2_with fail
          refine wp_region_ext (fun _ => False) (by kernel_rfl) (by kernel_rfl) ?_
          repeat (go_big_quiet_step (exact (m1 _).out))
          refine wpQuiet_nil ?_
          rintro _ ⟨d, rfl⟩
          go_wp2_with fail
          go_ret
          exact ⟨rfl, d.same.below_of B9 B9.size (fun _ _ c => c)⟩
        · have e5 : decide ((5 : Int) < k) = false := by simp; omega
          have e5' : decide (5 < k) = false := by simp; omega
          rw [if_neg hk5] at hLL hpl
          have hlY : LY = LX + 0 := by rw [← HLY.out, ← HLX.out]; exact hLL
          have eqL : ((LY : Int) == (LX : Int)) = true := by rw [beq_iff_eq]; omega
          have hX5 : 5 ≤ LX := by rw [← HLX.out]; exact hs5
          have hY5 : 5 ≤ LY := by omega
          have hdy := hr7.drop_ 1 (by rw [HLY.out]; omega)
          have hdx := hr6.drop_ 1 (by rw [HLX.out]; omega)
          have hdyX : (packB tt).drop 1 = (storeB last cur.length cur).drop 1 := by
            rw [HPK.out, List.drop_left' hpl]
          have hne : (storeB last cur.length cur).drop 1 ≠ [] := fun h => by
            have := congrArg List.length h
            rw [List.length_drop, HLX.out] at this
            simp at this
            omega
          have hcy := hr7.cap
          have hcx := hr6.cap
          have hmy := hr7.most
          have hmx := hr6.most
          rw [HLY.out] at hcy
          rw [HLX.out] at hcx
          obtain ⟨b7, o7, rfl⟩ := hr7.addr (fun h => by have := HLY.out; rw [h] at this; rw [List.length_nil] at this; omega)
          obtain ⟨b6, o6, rfl⟩ := hr6.addr (fun h => by have := HLX.out; rw [h] at this; rw [List.length_nil] at this; omega)
          rw [if_neg (by omega), Option.map_some, Addr.add_lit, hdyX] at hdy
          rw [if_neg (by omega), Option.map_some, Addr.add_lit] at hdx
          have hlx : ((storeB last cur.length cur).drop 1).length = LX - 1 := by rw [List.length_drop, HLX.out]
          have cy := conv_row (n := LY - 1) hdy hne (by rw [hlx]; omega)
          have cx := conv_row (n := LX - 1) (hdx.belo B5) hne hlx.symm
          have B9 := B3.trans ((B4.trans (B5.mono B4.size)).mono B3.size)
          have hnc7 : ¬ c7 = 1 := by omega
          have hLb : LX + 0 ≤ 9223372036854775807 := by omega
          have hnc6 : ¬ c6 = 1 := by omega
          have CY := fun d : Ext (fun _ => False) w5 => cy d.world (d.same.below (fun _ _ c => c))
          have CX := fun d : Ext (fun _ => False) w5 => cx d.world (d.same.below (fun _ _ c => c))
          have m1 := fun d : Ext (fun _ => False) w5 => Lib.hid (ext_call_below (d := d) ((ht d.world).out))
          clear hdy hdx cy cx hlx hne hdyX hlY hr7 hr6 ho6 ho7 h4 hr3
          generalize strOfNums ((storeB last cur.length cur).drop 1) = T at *
          go_wp2_with fail
          refine wp_region_ext (fun _ => False) (by kernel_rfl) (by kernel_rfl) ?_
          repeat (go_big_quiet_step (exact (m1 _).out))
          refine wpQuiet_nil ?_
          rintro _ ⟨d, rfl⟩
          go_wp2_with fail
          go_ret
          exact ⟨rfl, d.same.below_of B9 B9.size (fun _ _ c => c)⟩
end Go.Proofs.YtoofkcbgldbfpaaRRR
