import Derived.Test.YteknaaijlkenkaaJBlf
import Derived.Test.YteknaaijlkenkaaBlkU
import Derived.Test.YteknaaijlkenkaaBas3
namespace Go.Proofs.Yteknaaijlkenkaa
set_option linter.unusedVariables false
set_option linter.unusedSimpArgs false
open Go.RowKit
attribute [local go_sem] max2i min2i max2t min2t

theorem headB_wf {b : List Int} (h : b.length ≤ 65535) (fin : Bool) : ∀ x ∈ headB b fin, (Lit.int .u8 x).wf = true := fun x hx => by
  have := headB_u8 h fin x hx
  simp [Lit.wf, IntKind.min, IntKind.max, IntKind.bits, IntKind.signed]; omega
theorem xor_max {x : Int} (h0 : 0 ≤ x) (h1 : x < 256) : bits .xor .u8 IntKind.u8.max x = 255 - x := by
  have h : ∀ n : Fin 256, bits .xor .u8 IntKind.u8.max (n.val : Int) = 255 - (n.val : Int) := by decide +kernel
  have := h ⟨x.toNat, by omega⟩
  simpa [Int.toNat_of_nonneg h0] using this
theorem store_last {last : Bool} {acc bs R : List Int} {f q nn : Nat} (h : acc ++ storeB last f (bs.drop q) = R) (hn : nn = bs.length - q) (hs : bs.length - q ≤ 65535) :
    acc ++ [finN last, (nn : Int) % 256, (nn : Int) / 256, 255 - (nn : Int) % 256, 255 - (nn : Int) / 256] ++ (bs.drop q).take nn = R := by
  have hl : (bs.drop q).length = nn := by rw [List.length_drop, hn]
  rw [← h, List.append_assoc]
  congr 1
  have e : storeB last f (bs.drop q) = headB (bs.drop q) last ++ bs.drop q := by
    cases f with
    | zero => rfl
    | succ f => rw [storeB, if_pos (by omega)]
  rw [e, headB, hl, List.take_of_length_le (by omega)]
theorem store_more {last : Bool} {acc bs R : List Int} {f q nn : Nat} (h : acc ++ storeB last (f + 1) (bs.drop q) = R) (hn : nn = 65535) (hs : 65535 < bs.length - q) :
    acc ++ [finN false, (nn : Int) % 256, (nn : Int) / 256, 255 - (nn : Int) % 256, 255 - (nn : Int) / 256] ++ (bs.drop q).take nn ++ storeB last f (bs.drop (q + 65535)) = R := by
  have hl : ((bs.drop q).take 65535).length = 65535 := by rw [List.length_take, List.length_drop]; omega
  rw [← h, storeB, if_neg (by rw [List.length_drop]; omega), headB, hl, hn, List.drop_drop]
  simp only [List.append_assoc]
structure RsRel (w : World) (bs : List Int) (last : Bool) (g : Nat) (v5 v6 : Value) (wr : World) : Prop where mk ::
  out_ : ∃ (at_ : Nat) (acc : List Int), v6 = .int .i64 at_ ∧ Own wr w.heap.size 5 v5 (ints .u8 acc) ∧ Below w.heap.size w wr ∧ (∀ x ∈ acc, (Lit.int .u8 x).wf = true) ∧ acc.length ≤ 6 * at_ ∧ at_ ≤ bs.length + 65535 ∧
    ((∃ f, (at_ = 0 ∨ at_ < bs.length) ∧ at_ ≤ bs.length ∧ acc ++ storeB last f (bs.drop at_) = storeB last bs.length bs ∧ bs.length - at_ ≤ 65535 * (f + 1) ∧ f + 1 ≤ g) ∨ (at_ ≠ 0 ∧ bs.length ≤ at_ ∧ acc = storeB last bs.length bs))
set_option maxHeartbeats 1600000 in
set_option maxRecDepth 100000 in
theorem ref_store {A : Option Addr} {c : Nat} {bs : List Int} (last : Bool) (w : World) (hr : RowOf w .u8 A c bs) (hl : bs.length ≤ 1000000) :
    Calls Try.prog 12 #[.slice A bs.length c, .bool last] w fun e w' => ∃ A' c', e = .returned (.slice A' (storeB last bs.length bs).length c') ∧ RowOf w' .u8 A' c' (storeB last bs.length bs) ∧ Own w' w.heap.size 5 (.slice A' (storeB last bs.length bs).length c') (ints .u8 (storeB last bs.length bs)) ∧ Below w.heap.size w w' ∧ (∀ ad, A' = some ad → w.heap.size ≤ ad.block ∧ ad.block < w'.heap.size) := by
  have hm := hr.most
  have hcap := hr.cap
  cases last with
  | true =>
    go_enter Try.func12, Try.ntmps12
    go_wp2_with fail
    go_loopg [5, 6] (bs.length + 1) (RsRel w bs true)
    case atStart => exact ⟨0, [], rfl, Own.nil _ _ _, Below.refl _ _, by simp, by simp, by omega, .inl ⟨bs.length, .inl rfl, by omega, rfl, by omega, by omega⟩⟩
    case round =>
      obtain ⟨q, acc, rfl, ho, hb, hwf, hla, hq, hc⟩ := hrel
      have hr1 := hr.belo hb
      rcases hc with ⟨f, h0, h1, he, h2, h3⟩ | ⟨hn0, hge, hac⟩
      · have HE := Lib.hid he
        clear he
        by_cases hq0 : q = 0
        · subst hq0
          have hdr : ∀ W, Below w.heap.size w W → RowOf W .u8 A c (bs.drop 0) := fun W h => hr.belo h
          obtain ⟨nn, hnn⟩ : ∃ nn, nn = min 65535 (bs.length - 0) := ⟨_, rfl⟩
          have hmin : min (65535 : Int) (bs.length : Int) = nn := by omega
          have hnb : nn ≤ 65535 ∧ 0 + nn ≤ bs.length := by omega
          obtain ⟨hnb1, hnb2⟩ := hnb
          have hmin0 := hnn
          by_cases hsm : bs.length - 0 ≤ 65535
          · have hn2 : nn = bs.length - 0 := by omega
            have eq1 : ((nn : Int) == (bs.length : Int)) = true := by rw [beq_iff_eq]; omega
            clear hnn
            have hsg : ¬ IntKind.u8.signed = true := by decide
            have HN := Lib.hid hn2
            clear hn2 hmin0 h0
            have x1 := xor_max (x := (nn : Int) % 256) (by omega) (by omega)
            have x2 := xor_max (x := (nn : Int) / 256) (by omega) (by omega)
            have hlit : RowOf (wr.alloc (.cells #[.int .u8 1, .int .u8 ((nn : Int) % 256), .int .u8 ((nn : Int) / 256), .int .u8 (255 - (nn : Int) % 256), .int .u8 (255 - (nn : Int) / 256)] 5)) .u8 (some ⟨wr.heap.size, 0, none⟩) 5 [1, (nn : Int) % 256, (nn : Int) / 256, 255 - (nn : Int) % 256, 255 - (nn : Int) / 256] := by
              exact RowOf.lit wr .u8 5 [1, (nn : Int) % 256, (nn : Int) / 256, 255 - (nn : Int) % 256, 255 - (nn : Int) / 256] (fun x hx => by
                simp only [List.mem_cons, List.not_mem_nil, or_false] at hx
                simp [Lit.wf, IntKind.min, IntKind.max, IntKind.bits, IntKind.signed]
                rcases hx with rfl | rfl | rfl | rfl | rfl
                · decide
                all_goals omega) (by simp)
            go_wp2_with (first | (at_builtin; refine wpList_cat .u8 w.heap.size rfl (.tmp 33) (.tmp 47) 22 5 1 rfl Try.underlying22 Try.u8inf u5 acc (some ⟨wr.heap.size, 0, none⟩) 5 [1, (nn : Int) % 256, (nn : Int) / 256, 255 - (nn : Int) % 256, 255 - (nn : Int) / 256] rfl rfl (ho.alloc _) hlit (by have := hb.size; simp; omega) (acc.length + 5) rfl (by omega) (by omega) hwf ?_; intro A8 c8 w8 ho8 hr8 hs8 hat8; have hb8 := hs8.alloc_left.below_of hb hb.size (fun i hi e => by have := ho.base_le i e; omega); clear hat8) | (at_builtin; go_loud (refine wpList_catN .u8 w.heap.size rfl (.tmp 49) (.tmp 55) 22 5 1 rfl Try.underlying22 Try.u8inf _ _ _ nn _ ((bs.drop 0).take nn) (by rw [List.length_take, List.length_drop]; omega) rfl rfl ho8 ((hdr w8 hb8).take_ nn) hb8.size (acc.length + 5 + nn) (by first | (simp; done) | (simp; omega)) (by omega) (by omega) hr8.wf ?_); intro A9 c9 w9 ho9 hr9 hs9 hat9; clear hat9))
            go_roundg (gk - 1)
            case measure => omega
            case rel =>
              have hb9 := hs9.below_of hb8 hb8.size (fun i hi e => by have := ho8.base_le i e; omega)
              have hln : ((bs.drop 0).take nn).length = nn := by rw [List.length_take, List.length_drop]; omega
              refine ⟨0 + 65535, acc ++ [1, (nn : Int) % 256, (nn : Int) / 256, 255 - (nn : Int) % 256, 255 - (nn : Int) / 256] ++ (bs.drop 0).take nn, by go_num, ho9, hb9, hr9.wf, by rw [List.length_append, List.length_append, hln]; simp only [List.length_cons, List.length_nil]; omega, by omega, ?_⟩
              exact .inr ⟨by omega, by omega, store_last HE.out HN.out (by omega)⟩
          · have hn2 : nn = 65535 := by omega
            obtain ⟨f, rfl⟩ : ∃ f', f = f' + 1 := ⟨f - 1, by omega⟩
            have eq1 : ((nn : Int) == (bs.length : Int)) = false := by rw [beq_eq_false_iff_ne]; omega
            clear hnn
            have hsg : ¬ IntKind.u8.signed = true := by decide
            have HN := Lib.hid hn2
            clear hn2 hmin0 h0
            have x1 := xor_max (x := (nn : Int) % 256) (by omega) (by omega)
            have x2 := xor_max (x := (nn : Int) / 256) (by omega) (by omega)
            have hlit : RowOf (wr.alloc (.cells #[.int .u8 0, .int .u8 ((nn : Int) % 256), .int .u8 ((nn : Int) / 256), .int .u8 (255 - (nn : Int) % 256), .int .u8 (255 - (nn : Int) / 256)] 5)) .u8 (some ⟨wr.heap.size, 0, none⟩) 5 [0, (nn : Int) % 256, (nn : Int) / 256, 255 - (nn : Int) % 256, 255 - (nn : Int) / 256] := by
              exact RowOf.lit wr .u8 5 [0, (nn : Int) % 256, (nn : Int) / 256, 255 - (nn : Int) % 256, 255 - (nn : Int) / 256] (fun x hx => by
                simp only [List.mem_cons, List.not_mem_nil, or_false] at hx
                simp [Lit.wf, IntKind.min, IntKind.max, IntKind.bits, IntKind.signed]
                rcases hx with rfl | rfl | rfl | rfl | rfl
                · decide
                all_goals omega) (by simp)
            go_wp2_with (first | (at_builtin; refine wpList_cat .u8 w.heap.size rfl (.tmp 33) (.tmp 47) 22 5 1 rfl Try.underlying22 Try.u8inf u5 acc (some ⟨wr.heap.size, 0, none⟩) 5 [0, (nn : Int) % 256, (nn : Int) / 256, 255 - (nn : Int) % 256, 255 - (nn : Int) / 256] rfl rfl (ho.alloc _) hlit (by have := hb.size; simp; omega) (acc.length + 5) rfl (by omega) (by omega) hwf ?_; intro A8 c8 w8 ho8 hr8 hs8 hat8; have hb8 := hs8.alloc_left.below_of hb hb.size (fun i hi e => by have := ho.base_le i e; omega); clear hat8) | (at_builtin; go_loud (refine wpList_catN .u8 w.heap.size rfl (.tmp 49) (.tmp 55) 22 5 1 rfl Try.underlying22 Try.u8inf _ _ _ nn _ ((bs.drop 0).take nn) (by rw [List.length_take, List.length_drop]; omega) rfl rfl ho8 ((hdr w8 hb8).take_ nn) hb8.size (acc.length + 5 + nn) (by first | (simp; done) | (simp; omega)) (by omega) (by omega) hr8.wf ?_); intro A9 c9 w9 ho9 hr9 hs9 hat9; clear hat9))
            go_roundg (gk - 1)
            case measure => omega
            case rel =>
              have hb9 := hs9.below_of hb8 hb8.size (fun i hi e => by have := ho8.base_le i e; omega)
              have hln : ((bs.drop 0).take nn).length = nn := by rw [List.length_take, List.length_drop]; omega
              refine ⟨0 + 65535, acc ++ [0, (nn : Int) % 256, (nn : Int) / 256, 255 - (nn : Int) % 256, 255 - (nn : Int) / 256] ++ (bs.drop 0).take nn, by go_num, ho9, hb9, hr9.wf, by rw [List.length_append, List.length_append, hln]; simp only [List.length_cons, List.length_nil]; omega, by omega, ?_⟩
              exact .inl ⟨f, .inr (by omega), by omega, store_more HE.out HN.out (by omega), by omega, by omega⟩
        · have e1 : ((q : Int) == 0) = false := by rw [beq_eq_false_iff_ne]; omega
          have e2 : decide (q < bs.length) = true := by simp; omega
          have hqlt : q < bs.length := by omega
          obtain ⟨bb, oo, rfl⟩ := hr.addr (fun h => by rw [h] at hqlt; simp at hqlt)
          have hcq : ¬ c = q := by omega
          have hdr : ∀ W, Below w.heap.size w W → RowOf W .u8 (some ⟨bb, oo + q, none⟩) (c - q) (bs.drop q) := fun W h => by
            have := (hr.belo h).drop_ q (by omega)
            rwa [if_neg hcq, Option.map_some, Addr.add_lit] at this
          obtain ⟨nn, hnn⟩ : ∃ nn, nn = min 65535 (bs.length - q) := ⟨_, rfl⟩
          have hmin : min (65535 : Int) ((bs.length : Int) - q) = nn := by omega
          have hnb : nn ≤ 65535 ∧ q + nn ≤ bs.length := by omega
          obtain ⟨hnb1, hnb2⟩ := hnb
          have hmin0 := hnn
          by_cases hsm : bs.length - q ≤ 65535
          · have hn2 : nn = bs.length - q := by omega
            have eq1 : (((q : Int) + nn) == (bs.length : Int)) = true := by rw [beq_iff_eq]; omega
            clear hnn
            have hsg : ¬ IntKind.u8.signed = true := by decide
            have HN := Lib.hid hn2
            clear hn2 hmin0 h0
            have x1 := xor_max (x := (nn : Int) % 256) (by omega) (by omega)
            have x2 := xor_max (x := (nn : Int) / 256) (by omega) (by omega)
            have hlit : RowOf (wr.alloc (.cells #[.int .u8 1, .int .u8 ((nn : Int) % 256), .int .u8 ((nn : Int) / 256), .int .u8 (255 - (nn : Int) % 256), .int .u8 (255 - (nn : Int) / 256)] 5)) .u8 (some ⟨wr.heap.size, 0, none⟩) 5 [1, (nn : Int) % 256, (nn : Int) / 256, 255 - (nn : Int) % 256, 255 - (nn : Int) / 256] := by
              exact RowOf.lit wr .u8 5 [1, (nn : Int) % 256, (nn : Int) / 256, 255 - (nn : Int) % 256, 255 - (nn : Int) / 256] (fun x hx => by
                simp only [List.mem_cons, List.not_mem_nil, or_false] at hx
                simp [Lit.wf, IntKind.min, IntKind.max, IntKind.bits, IntKind.signed]
                rcases hx with rfl | rfl | rfl | rfl | rfl
                · decide
                all_goals omega) (by simp)
            go_wp2_with (first | (at_builtin; refine wpList_cat .u8 w.heap.size rfl (.tmp 33) (.tmp 47) 22 5 1 rfl Try.underlying22 Try.u8inf u5 acc (some ⟨wr.heap.size, 0, none⟩) 5 [1, (nn : Int) % 256, (nn : Int) / 256, 255 - (nn : Int) % 256, 255 - (nn : Int) / 256] rfl rfl (ho.alloc _) hlit (by have := hb.size; simp; omega) (acc.length + 5) rfl (by omega) (by omega) hwf ?_; intro A8 c8 w8 ho8 hr8 hs8 hat8; have hb8 := hs8.alloc_left.below_of hb hb.size (fun i hi e => by have := ho.base_le i e; omega); clear hat8) | (at_builtin; go_loud (refine wpList_catN .u8 w.heap.size rfl (.tmp 49) (.tmp 55) 22 5 1 rfl Try.underlying22 Try.u8inf _ _ _ _ _ ((bs.drop q).take nn) (by rw [List.length_take, List.length_drop]; omega) rfl rfl ho8 ((hdr w8 hb8).take_ nn) hb8.size (acc.length + 5 + nn) (by first | (simp; done) | (simp; omega)) (by omega) (by omega) hr8.wf ?_); intro A9 c9 w9 ho9 hr9 hs9 hat9; clear hat9))
            go_roundg (gk - 1)
            case measure => omega
            case rel =>
              have hb9 := hs9.below_of hb8 hb8.size (fun i hi e => by have := ho8.base_le i e; omega)
              have hln : ((bs.drop q).take nn).length = nn := by rw [List.length_take, List.length_drop]; omega
              refine ⟨q + 65535, acc ++ [1, (nn : Int) % 256, (nn : Int) / 256, 255 - (nn : Int) % 256, 255 - (nn : Int) / 256] ++ (bs.drop q).take nn, by go_num, ho9, hb9, hr9.wf, by rw [List.length_append, List.length_append, hln]; simp only [List.length_cons, List.length_nil]; omega, by omega, ?_⟩
              exact .inr ⟨by omega, by omega, store_last HE.out HN.out (by omega)⟩
          · have hn2 : nn = 65535 := by omega
            obtain ⟨f, rfl⟩ : ∃ f', f = f' + 1 := ⟨f - 1, by omega⟩
            have eq1 : (((q : Int) + nn) == (bs.length : Int)) = false := by rw [beq_eq_false_iff_ne]; omega
            clear hnn
            have hsg : ¬ IntKind.u8.signed = true := by decide
            have HN := Lib.hid hn2
            clear hn2 hmin0 h0
            have x1 := xor_max (x := (nn : Int) % 256) (by omega) (by omega)
            have x2 := xor_max (x := (nn : Int) / 256) (by omega) (by omega)
            have hlit : RowOf (wr.alloc (.cells #[.int .u8 0, .int .u8 ((nn : Int) % 256), .int .u8 ((nn : Int) / 256), .int .u8 (255 - (nn : Int) % 256), .int .u8 (255 - (nn : Int) / 256)] 5)) .u8 (some ⟨wr.heap.size, 0, none⟩) 5 [0, (nn : Int) % 256, (nn : Int) / 256, 255 - (nn : Int) % 256, 255 - (nn : Int) / 256] := by
              exact RowOf.lit wr .u8 5 [0, (nn : Int) % 256, (nn : Int) / 256, 255 - (nn : Int) % 256, 255 - (nn : Int) / 256] (fun x hx => by
                simp only [List.mem_cons, List.not_mem_nil, or_false] at hx
                simp [Lit.wf, IntKind.min, IntKind.max, IntKind.bits, IntKind.signed]
                rcases hx with rfl | rfl | rfl | rfl | rfl
                · decide
                all_goals omega) (by simp)
            go_wp2_with (first | (at_builtin; refine wpList_cat .u8 w.heap.size rfl (.tmp 33) (.tmp 47) 22 5 1 rfl Try.underlying22 Try.u8inf u5 acc (some ⟨wr.heap.size, 0, none⟩) 5 [0, (nn : Int) % 256, (nn : Int) / 256, 255 - (nn : Int) % 256, 255 - (nn : Int) / 256] rfl rfl (ho.alloc _) hlit (by have := hb.size; simp; omega) (acc.length + 5) rfl (by omega) (by omega) hwf ?_; intro A8 c8 w8 ho8 hr8 hs8 hat8; have hb8 := hs8.alloc_left.below_of hb hb.size (fun i hi e => by have := ho.base_le i e; omega); clear hat8) | (at_builtin; go_loud (refine wpList_catN .u8 w.heap.size rfl (.tmp 49) (.tmp 55) 22 5 1 rfl Try.underlying22 Try.u8inf _ _ _ _ _ ((bs.drop q).take nn) (by rw [List.length_take, List.length_drop]; omega) rfl rfl ho8 ((hdr w8 hb8).take_ nn) hb8.size (acc.length + 5 + nn) (by first | (simp; done) | (simp; omega)) (by omega) (by omega) hr8.wf ?_); intro A9 c9 w9 ho9 hr9 hs9 hat9; clear hat9))
            go_roundg (gk - 1)
            case measure => omega
            case rel =>
              have hb9 := hs9.below_of hb8 hb8.size (fun i hi e => by have := ho8.base_le i e; omega)
              have hln : ((bs.drop q).take nn).length = nn := by rw [List.length_take, List.length_drop]; omega
              refine ⟨q + 65535, acc ++ [0, (nn : Int) % 256, (nn : Int) / 256, 255 - (nn : Int) % 256, 255 - (nn : Int) / 256] ++ (bs.drop q).take nn, by go_num, ho9, hb9, hr9.wf, by rw [List.length_append, List.length_append, hln]; simp only [List.length_cons, List.length_nil]; omega, by omega, ?_⟩
              exact .inl ⟨f, .inr (by omega), by omega, store_more HE.out HN.out (by omega), by omega, by omega⟩
      · have e1 : ((q : Int) == 0) = false := by rw [beq_eq_false_iff_ne]; omega
        have e2 : decide (q < bs.length) = false := by simp; omega
        obtain ⟨A5, c5, rfl, hr5, ha5⟩ := ho.row hwf
        have HAC := Lib.hid hac
        clear hac
        go_wp2_with fail
        go_ret
        rw [← HAC.out]
        exact ⟨A5, c5, rfl, hr5, ho, hb, fun ad e => ⟨ho.base_le _ (ha5 ad e), ho.lt _ (ha5 ad e)⟩⟩
  | false =>
    go_enter Try.func12, Try.ntmps12
    go_wp2_with fail
    go_loopg [5, 6] (bs.length + 1) (RsRel w bs false)
    case atStart => exact ⟨0, [], rfl, Own.nil _ _ _, Below.refl _ _, by simp, by simp, by omega, .inl ⟨bs.length, .inl rfl, by omega, rfl, by omega, by omega⟩⟩
    case round =>
      obtain ⟨q, acc, rfl, ho, hb, hwf, hla, hq, hc⟩ := hrel
      have hr1 := hr.belo hb
      rcases hc with ⟨f, h0, h1, he, h2, h3⟩ | ⟨hn0, hge, hac⟩
      · have HE := Lib.hid he
        clear he
        by_cases hq0 : q = 0
        · subst hq0
          have hdr : ∀ W, Below w.heap.size w W → RowOf W .u8 A c (bs.drop 0) := fun W h => hr.belo h
          obtain ⟨nn, hnn⟩ : ∃ nn, nn = min 65535 (bs.length - 0) := ⟨_, rfl⟩
          have hmin : min (65535 : Int) (bs.length : Int) = nn := by omega
          have hnb : nn ≤ 65535 ∧ 0 + nn ≤ bs.length := by omega
          obtain ⟨hnb1, hnb2⟩ := hnb
          have hmin0 := hnn
          by_cases hsm : bs.length - 0 ≤ 65535
          · have hn2 : nn = bs.length - 0 := by omega
            have eq1 : ((nn : Int) == (bs.length : Int)) = true := by rw [beq_iff_eq]; omega
            clear hnn
            have hsg : ¬ IntKind.u8.signed = true := by decide
            have HN := Lib.hid hn2
            clear hn2 hmin0 h0
            have x1 := xor_max (x := (nn : Int) % 256) (by omega) (by omega)
            have x2 := xor_max (x := (nn : Int) / 256) (by omega) (by omega)
            have hlit : RowOf (wr.alloc (.cells #[.int .u8 0, .int .u8 ((nn : Int) % 256), .int .u8 ((nn : Int) / 256), .int .u8 (255 - (nn : Int) % 256), .int .u8 (255 - (nn : Int) / 256)] 5)) .u8 (some ⟨wr.heap.size, 0, none⟩) 5 [0, (nn : Int) % 256, (nn : Int) / 256, 255 - (nn : Int) % 256, 255 - (nn : Int) / 256] := by
              exact RowOf.lit wr .u8 5 [0, (nn : Int) % 256, (nn : Int) / 256, 255 - (nn : Int) % 256, 255 - (nn : Int) / 256] (fun x hx => by
                simp only [List.mem_cons, List.not_mem_nil, or_false] at hx
                simp [Lit.wf, IntKind.min, IntKind.max, IntKind.bits, IntKind.signed]
                rcases hx with rfl | rfl | rfl | rfl | rfl
                · decide
                all_goals omega) (by simp)
            go_wp2_with (first | (at_builtin; refine wpList_cat .u8 w.heap.size rfl (.tmp 33) (.tmp 47) 22 5 1 rfl Try.underlying22 Try.u8inf u5 acc (some ⟨wr.heap.size, 0, none⟩) 5 [0, (nn : Int) % 256, (nn : Int) / 256, 255 - (nn : Int) % 256, 255 - (nn : Int) / 256] rfl rfl (ho.alloc _) hlit (by have := hb.size; simp; omega) (acc.length + 5) rfl (by omega) (by omega) hwf ?_; intro A8 c8 w8 ho8 hr8 hs8 hat8; have hb8 := hs8.alloc_left.below_of hb hb.size (fun i hi e => by have := ho.base_le i e; omega); clear hat8) | (at_builtin; go_loud (refine wpList_catN .u8 w.heap.size rfl (.tmp 49) (.tmp 55) 22 5 1 rfl Try.underlying22 Try.u8inf _ _ _ nn _ ((bs.drop 0).take nn) (by rw [List.length_take, List.length_drop]; omega) rfl rfl ho8 ((hdr w8 hb8).take_ nn) hb8.size (acc.length + 5 + nn) (by first | (simp; done) | (simp; omega)) (by omega) (by omega) hr8.wf ?_); intro A9 c9 w9 ho9 hr9 hs9 hat9; clear hat9))
            go_roundg (gk - 1)
            case measure => omega
            case rel =>
              have hb9 := hs9.below_of hb8 hb8.size (fun i hi e => by have := ho8.base_le i e; omega)
              have hln : ((bs.drop 0).take nn).length = nn := by rw [List.length_take, List.length_drop]; omega
              refine ⟨0 + 65535, acc ++ [0, (nn : Int) % 256, (nn : Int) / 256, 255 - (nn : Int) % 256, 255 - (nn : Int) / 256] ++ (bs.drop 0).take nn, by go_num, ho9, hb9, hr9.wf, by rw [List.length_append, List.length_append, hln]; simp only [List.length_cons, List.length_nil]; omega, by omega, ?_⟩
              exact .inr ⟨by omega, by omega, store_last HE.out HN.out (by omega)⟩
          · have hn2 : nn = 65535 := by omega
            obtain ⟨f, rfl⟩ : ∃ f', f = f' + 1 := ⟨f - 1, by omega⟩
            have eq1 : ((nn : Int) == (bs.length : Int)) = false := by rw [beq_eq_false_iff_ne]; omega
            clear hnn
            have hsg : ¬ IntKind.u8.signed = true := by decide
            have HN := Lib.hid hn2
            clear hn2 hmin0 h0
            have x1 := xor_max (x := (nn : Int) % 256) (by omega) (by omega)
            have x2 := xor_max (x := (nn : Int) / 256) (by omega) (by omega)
            have hlit : RowOf (wr.alloc (.cells #[.int .u8 0, .int .u8 ((nn : Int) % 256), .int .u8 ((nn : Int) / 256), .int .u8 (255 - (nn : Int) % 256), .int .u8 (255 - (nn : Int) / 256)] 5)) .u8 (some ⟨wr.heap.size, 0, none⟩) 5 [0, (nn : Int) % 256, (nn : Int) / 256, 255 - (nn : Int) % 256, 255 - (nn : Int) / 256] := by
              exact RowOf.lit wr .u8 5 [0, (nn : Int) % 256, (nn : Int) / 256, 255 - (nn : Int) % 256, 255 - (nn : Int) / 256] (fun x hx => by
                simp only [List.mem_cons, List.not_mem_nil, or_false] at hx
                simp [Lit.wf, IntKind.min, IntKind.max, IntKind.bits, IntKind.signed]
                rcases hx with rfl | rfl | rfl | rfl | rfl
                · decide
                all_goals omega) (by simp)
            go_wp2_with (first | (at_builtin; refine wpList_cat .u8 w.heap.size rfl (.tmp 33) (.tmp 47) 22 5 1 rfl Try.underlying22 Try.u8inf u5 acc (some ⟨wr.heap.size, 0, none⟩) 5 [0, (nn : Int) % 256, (nn : Int) / 256, 255 - (nn : Int) % 256, 255 - (nn : Int) / 256] rfl rfl (ho.alloc _) hlit (by have := hb.size; simp; omega) (acc.length + 5) rfl (by omega) (by omega) hwf ?_; intro A8 c8 w8 ho8 hr8 hs8 hat8; have hb8 := hs8.alloc_left.below_of hb hb.size (fun i hi e => by have := ho.base_le i e; omega); clear hat8) | (at_builtin; go_loud (refine wpList_catN .u8 w.heap.size rfl (.tmp 49) (.tmp 55) 22 5 1 rfl Try.underlying22 Try.u8inf _ _ _ nn _ ((bs.drop 0).take nn) (by rw [List.length_take, List.length_drop]; omega) rfl rfl ho8 ((hdr w8 hb8).take_ nn) hb8.size (acc.length + 5 + nn) (by first | (simp; done) | (simp; omega)) (by omega) (by omega) hr8.wf ?_); intro A9 c9 w9 ho9 hr9 hs9 hat9; clear hat9))
            go_roundg (gk - 1)
            case measure => omega
            case rel =>
              have hb9 := hs9.below_of hb8 hb8.size (fun i hi e => by have := ho8.base_le i e; omega)
              have hln : ((bs.drop 0).take nn).length = nn := by rw [List.length_take, List.length_drop]; omega
              refine ⟨0 + 65535, acc ++ [0, (nn : Int) % 256, (nn : Int) / 256, 255 - (nn : Int) % 256, 255 - (nn : Int) / 256] ++ (bs.drop 0).take nn, by go_num, ho9, hb9, hr9.wf, by rw [List.length_append, List.length_append, hln]; simp only [List.length_cons, List.length_nil]; omega, by omega, ?_⟩
              exact .inl ⟨f, .inr (by omega), by omega, store_more HE.out HN.out (by omega), by omega, by omega⟩
        · have e1 : ((q : Int) == 0) = false := by rw [beq_eq_false_iff_ne]; omega
          have e2 : decide (q < bs.length) = true := by simp; omega
          have hqlt : q < bs.length := by omega
          obtain ⟨bb, oo, rfl⟩ := hr.addr (fun h => by rw [h] at hqlt; simp at hqlt)
          have hcq : ¬ c = q := by omega
          have hdr : ∀ W, Below w.heap.size w W → RowOf W .u8 (some ⟨bb, oo + q, none⟩) (c - q) (bs.drop q) := fun W h => by
            have := (hr.belo h).drop_ q (by omega)
            rwa [if_neg hcq, Option.map_some, Addr.add_lit] at this
          obtain ⟨nn, hnn⟩ : ∃ nn, nn = min 65535 (bs.length - q) := ⟨_, rfl⟩
          have hmin : min (65535 : Int) ((bs.length : Int) - q) = nn := by omega
          have hnb : nn ≤ 65535 ∧ q + nn ≤ bs.length := by omega
          obtain ⟨hnb1, hnb2⟩ := hnb
          have hmin0 := hnn
          by_cases hsm : bs.length - q ≤ 65535
          · have hn2 : nn = bs.length - q := by omega
            have eq1 : (((q : Int) + nn) == (bs.length : Int)) = true := by rw [beq_iff_eq]; omega
            clear hnn
            have hsg : ¬ IntKind.u8.signed = true := by decide
            have HN := Lib.hid hn2
            clear hn2 hmin0 h0
            have x1 := xor_max (x := (nn : Int) % 256) (by omega) (by omega)
            have x2 := xor_max (x := (nn : Int) / 256) (by omega) (by omega)
            have hlit : RowOf (wr.alloc (.cells #[.int .u8 0, .int .u8 ((nn : Int) % 256), .int .u8 ((nn : Int) / 256), .int .u8 (255 - (nn : Int) % 256), .int .u8 (255 - (nn : Int) / 256)] 5)) .u8 (some ⟨wr.heap.size, 0, none⟩) 5 [0, (nn : Int) % 256, (nn : Int) / 256, 255 - (nn : Int) % 256, 255 - (nn : Int) / 256] := by
              exact RowOf.lit wr .u8 5 [0, (nn : Int) % 256, (nn : Int) / 256, 255 - (nn : Int) % 256, 255 - (nn : Int) / 256] (fun x hx => by
                simp only [List.mem_cons, List.not_mem_nil, or_false] at hx
                simp [Lit.wf, IntKind.min, IntKind.max, IntKind.bits, IntKind.signed]
                rcases hx with rfl | rfl | rfl | rfl | rfl
                · decide
                all_goals omega) (by simp)
            go_wp2_with (first | (at_builtin; refine wpList_cat .u8 w.heap.size rfl (.tmp 33) (.tmp 47) 22 5 1 rfl Try.underlying22 Try.u8inf u5 acc (some ⟨wr.heap.size, 0, none⟩) 5 [0, (nn : Int) % 256, (nn : Int) / 256, 255 - (nn : Int) % 256, 255 - (nn : Int) / 256] rfl rfl (ho.alloc _) hlit (by have := hb.size; simp; omega) (acc.length + 5) rfl (by omega) (by omega) hwf ?_; intro A8 c8 w8 ho8 hr8 hs8 hat8; have hb8 := hs8.alloc_left.below_of hb hb.size (fun i hi e => by have := ho.base_le i e; omega); clear hat8) | (at_builtin; go_loud (refine wpList_catN .u8 w.heap.size rfl (.tmp 49) (.tmp 55) 22 5 1 rfl Try.underlying22 Try.u8inf _ _ _ _ _ ((bs.drop q).take nn) (by rw [List.length_take, List.length_drop]; omega) rfl rfl ho8 ((hdr w8 hb8).take_ nn) hb8.size (acc.length + 5 + nn) (by first | (simp; done) | (simp; omega)) (by omega) (by omega) hr8.wf ?_); intro A9 c9 w9 ho9 hr9 hs9 hat9; clear hat9))
            go_roundg (gk - 1)
            case measure => omega
            case rel =>
              have hb9 := hs9.below_of hb8 hb8.size (fun i hi e => by have := ho8.base_le i e; omega)
              have hln : ((bs.drop q).take nn).length = nn := by rw [List.length_take, List.length_drop]; omega
              refine ⟨q + 65535, acc ++ [0, (nn : Int) % 256, (nn : Int) / 256, 255 - (nn : Int) % 256, 255 - (nn : Int) / 256] ++ (bs.drop q).take nn, by go_num, ho9, hb9, hr9.wf, by rw [List.length_append, List.length_append, hln]; simp only [List.length_cons, List.length_nil]; omega, by omega, ?_⟩
              exact .inr ⟨by omega, by omega, store_last HE.out HN.out (by omega)⟩
          · have hn2 : nn = 65535 := by omega
            obtain ⟨f, rfl⟩ : ∃ f', f = f' + 1 := ⟨f - 1, by omega⟩
            have eq1 : (((q : Int) + nn) == (bs.length : Int)) = false := by rw [beq_eq_false_iff_ne]; omega
            clear hnn
            have hsg : ¬ IntKind.u8.signed = true := by decide
            have HN := Lib.hid hn2
            clear hn2 hmin0 h0
            have x1 := xor_max (x := (nn : Int) % 256) (by omega) (by omega)
            have x2 := xor_max (x := (nn : Int) / 256) (by omega) (by omega)
            have hlit : RowOf (wr.alloc (.cells #[.int .u8 0, .int .u8 ((nn : Int) % 256), .int .u8 ((nn : Int) / 256), .int .u8 (255 - (nn : Int) % 256), .int .u8 (255 - (nn : Int) / 256)] 5)) .u8 (some ⟨wr.heap.size, 0, none⟩) 5 [0, (nn : Int) % 256, (nn : Int) / 256, 255 - (nn : Int) % 256, 255 - (nn : Int) / 256] := by
              exact RowOf.lit wr .u8 5 [0, (nn : Int) % 256, (nn : Int) / 256, 255 - (nn : Int) % 256, 255 - (nn : Int) / 256] (fun x hx => by
                simp only [List.mem_cons, List.not_mem_nil, or_false] at hx
                simp [Lit.wf, IntKind.min, IntKind.max, IntKind.bits, IntKind.signed]
                rcases hx with rfl | rfl | rfl | rfl | rfl
                · decide
                all_goals omega) (by simp)
            go_wp2_with (first | (at_builtin; refine wpList_cat .u8 w.heap.size rfl (.tmp 33) (.tmp 47) 22 5 1 rfl Try.underlying22 Try.u8inf u5 acc (some ⟨wr.heap.size, 0, none⟩) 5 [0, (nn : Int) % 256, (nn : Int) / 256, 255 - (nn : Int) % 256, 255 - (nn : Int) / 256] rfl rfl (ho.alloc _) hlit (by have := hb.size; simp; omega) (acc.length + 5) rfl (by omega) (by omega) hwf ?_; intro A8 c8 w8 ho8 hr8 hs8 hat8; have hb8 := hs8.alloc_left.below_of hb hb.size (fun i hi e => by have := ho.base_le i e; omega); clear hat8) | (at_builtin; go_loud (refine wpList_catN .u8 w.heap.size rfl (.tmp 49) (.tmp 55) 22 5 1 rfl Try.underlying22 Try.u8inf _ _ _ _ _ ((bs.drop q).take nn) (by rw [List.length_take, List.length_drop]; omega) rfl rfl ho8 ((hdr w8 hb8).take_ nn) hb8.size (acc.length + 5 + nn) (by first | (simp; done) | (simp; omega)) (by omega) (by omega) hr8.wf ?_); intro A9 c9 w9 ho9 hr9 hs9 hat9; clear hat9))
            go_roundg (gk - 1)
            case measure => omega
            case rel =>
              have hb9 := hs9.below_of hb8 hb8.size (fun i hi e => by have := ho8.base_le i e; omega)
              have hln : ((bs.drop q).take nn).length = nn := by rw [List.length_take, List.length_drop]; omega
              refine ⟨q + 65535, acc ++ [0, (nn : Int) % 256, (nn : Int) / 256, 255 - (nn : Int) % 256, 255 - (nn : Int) / 256] ++ (bs.drop q).take nn, by go_num, ho9, hb9, hr9.wf, by rw [List.length_append, List.length_append, hln]; simp only [List.length_cons, List.length_nil]; omega, by omega, ?_⟩
              exact .inl ⟨f, .inr (by omega), by omega, store_more HE.out HN.out (by omega), by omega, by omega⟩
      · have e1 : ((q : Int) == 0) = false := by rw [beq_eq_false_iff_ne]; omega
        have e2 : decide (q < bs.length) = false := by simp; omega
        obtain ⟨A5, c5, rfl, hr5, ha5⟩ := ho.row hwf
        have HAC := Lib.hid hac
        clear hac
        go_wp2_with fail
        go_ret
        rw [← HAC.out]
        exact ⟨A5, c5, rfl, hr5, ho, hb, fun ad e => ⟨ho.base_le _ (ha5 ad e), ho.lt _ (ha5 ad e)⟩⟩
end Go.Proofs.Yteknaaijlkenkaa
