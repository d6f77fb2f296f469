import Derived.Test.YtepphflpeobkhaaTabP
import Derived.Test.YtepphflpeobkhaaCanT
import Derived.Deep.Cut
import Derived.Deep.DeepCutAuto
import Derived.Deep.CutBlock
namespace Go.Proofs.Ytepphflpeobkhaa
set_option linter.unusedVariables false
set_option linter.unusedSimpArgs false
open Go.RowKit
attribute [local go_sem] max2i min2i max2t min2t

theorem str_ne {a b : ByteArray} (h : a ≠ b) : (a.toList == b.toList) = false := by
  rw [beq_eq_false_iff_ne]; intro e; apply h; apply ByteArray.ext; apply Array.ext'; simpa [ByteArray.toList_eq] using e
theorem flat_len (l : List Int) : ∀ W : List Nat, (W.flatMap (cw l)).length ≤ 32 * W.length
  | [] => by simp
  | k :: W => by
    have := flat_len l W
    have h := codeT_length (code l k) (l.getD k 0)
    rw [List.flatMap_cons, List.length_append, List.length_cons]
    unfold cw at *
    omega
theorem flat_bin (l : List Int) : ∀ W : List Nat, bin (W.flatMap (cw l))
  | [] => by simp [bin_nil]
  | k :: W => by rw [List.flatMap_cons]; exact bin_append (cw_bin l k) (flat_bin l W)
theorem good_of {l : List Int} (h : codesErr l = 0) : Good l := by
  have h0 : 0 ≤ kraft l := by unfold codesErr at h; split at h <;> omega
  obtain ⟨g1, g2⟩ := kraft_good h0
  have h4 : kind l ≠ 4 := by unfold codesErr at h; split at h; omega; split at h; omega; assumption
  refine ⟨?_, g2⟩
  have e := below15_all (l := l) g2
  rw [← kraft_ok g2 g1] at e
  rcases kinds g2 g1 with k | k | k | k | k <;> omega
def nats (W : List Nat) : List Int := W.map fun k : Nat => (k : Int)
theorem nats_length (W : List Nat) : (nats W).length = W.length := by simp [nats]
theorem nats_append (W X : List Nat) : nats (W ++ X) = nats W ++ nats X := by simp [nats]
structure RxRel (w : World) (l : List Int) (m : Nat) (g : Nat) (v7 v8 v9 : Value) (wr : World) : Prop where mk ::
  out_ : ∃ (i : Nat) (W : List Nat), i ≤ m ∧ m ≤ g + i ∧ v9 = .int .i64 (i : Int) ∧ W.length ≤ i ∧ (∀ k ∈ W, 1 ≤ ln l k) ∧ v7 = .string (txt (W.flatMap (cw l))) ∧ Own wr w.heap.size 3 v8 (ints .i64 (nats W)) ∧ Below w.heap.size w wr
structure RyRel (w : World) (l : List Int) (W : List Nat) (g : Nat) (v7 v11 : Value) (wr : World) : Prop where mk ::
  out_ : ∃ (i : Nat), i ≤ W.length ∧ W.length ≤ g + i ∧ v11 = .int .i64 (i : Int) ∧ v7 = .string (txt ((W.drop i).flatMap (cw l))) ∧ Same (fun _ => False) w wr
structure RzRel (w : World) (n q : Nat) (g : Nat) (v12 v13 : Value) (wr : World) : Prop where mk ::
  out_ : ∃ (k : Nat), k ≤ n ∧ n ≤ g + k ∧ v13 = .int .i64 (k : Int) ∧ v12 = .int .i64 (if q < k then (q : Int) else -1) ∧ Same (fun _ => False) w wr
set_option maxHeartbeats 4000000 in
set_option maxRecDepth 100000 in
theorem canonReads_walk (A : Option Addr) (c : Nat) (l : List Int) (A1 : Option Addr) (c1 : Nat) (ks : List Int) (w : World) (h00 : RowOf w .i64 A c l) (h01 : RowOf w .i64 A1 c1 ks) :
    Calls Try.prog 6 #[.slice A l.length c, .slice A1 ks.length c1] w fun e w' => e = .returned (.bool true) ∧ Below w.heap.size w w' := by
  have ht := fun W => Lib.hid (told7 W)
  have hm := h00.most
  have hcap := h00.cap
  have hm1 := h01.most
  have hcap1 := h01.cap
  by_cases h1 : 60 < l.length
  · have h1' : decide ((60 : Int) < l.length) = true := by simp; omega
    go_enter Try.func6, Try.ntmps6
    go_wp2_with (go_at_call 10; refine (ht _).out.mono ?_; rintro e w' ⟨rfl, hb⟩)
    go_ret
    exact ⟨rfl, hb⟩
  have h1' : decide ((60 : Int) < l.length) = false := by simp; omega
  by_cases h2 : l.length = 0
  · have h2' : ((l.length : Int) == 0) = true := by rw [beq_iff_eq]; omega
    have h2'' : (l.length == 0) = true := by rw [beq_iff_eq]; exact h2
    clear h2
    go_enter Try.func6, Try.ntmps6
    go_wp2_with (go_at_call 10; refine (ht _).out.mono ?_; rintro e w' ⟨rfl, hb⟩)
    go_ret
    exact ⟨rfl, hb⟩
  have h2' : ((l.length : Int) == 0) = false := by rw [beq_eq_false_iff_ne]; exact fun c => h2 (by omega)
  have h2'' : (l.length == 0) = false := by rw [beq_eq_false_iff_ne]; exact h2
  by_cases hE : codesErr l = 0
  · have hgd := good_of hE
    obtain ⟨m, hmm⟩ : ∃ m, m = min ks.length 60 := ⟨_, rfl⟩
    have HM := Lib.hid hmm
    clear hmm
    have hco : codesOut l = codes l := by rw [codesOut, if_pos hE]
    have HC := Lib.hid (canon_codes A c l w h00)
    rw [hE, hco] at HC
    clear hE hco
    go_enter Try.func6, Try.ntmps6
    go_wp2_with fail
    refine HC.out.mono ?_
    rintro e w1 ⟨v1, rfl, ho1, hb1⟩
    clear HC
    obtain ⟨A2, c2, rfl, hc2, hr2⟩ := ho1.rd
    have hcl : (codes l).length = l.length := by simp [codes]
    rw [hcl] at hc2 ⊢
    have hr0 := h00.belo hb1
    have hr1 := h01.belo hb1
    clear ho1 hcl
    have b3 : ((l.length : Int) != l.length) = false := by simp
    go_wp2_with fail
    go_loopg [7, 8, 9] m (RxRel w1 l m)
    case atStart => exact ⟨0, [], by omega, by omega, rfl, by simp, by simp, rfl, Own.nil _ _ _, Below.refl _ _⟩
    case round =>
      obtain ⟨i, W, hi, hg, rfl, hWl, hW, rfl, ho, hb⟩ := hrel
      by_cases hlt : i < m
      · have hik : i < ks.length := by have := HM.out; omega
        have hi60 : i < 60 := by have := HM.out; omega
        have e1 : decide ((i : Int) < ks.length) = true := by simp; omega
        have e2 : decide (i < ks.length) = true := by simp; omega
        have e3 : decide ((i : Int) < 60) = true := by simp; omega
        obtain ⟨x, hx⟩ : ∃ x, ks[i]? = some x := ⟨_, List.getElem?_eq_getElem hik⟩
        obtain ⟨ad1, rfl, q1⟩ := hr1.rd i x hx
        have q1 := (hb.cell (World.block_lt_of_cell? w1 _ q1)).trans q1
        obtain ⟨D, hD, eD⟩ := uint_rem x l.length (by omega) (by omega)
        obtain ⟨y, hy⟩ : ∃ y, l[D]? = some y := ⟨_, List.getElem?_eq_getElem hD⟩
        have hgat := hgd.at_ D
        have hln : l.getD D 0 = y := by rw [List.getD_eq_getElem?_getD, hy]; rfl
        obtain ⟨n, hn⟩ : ∃ n, n = ln l D := ⟨_, rfl⟩
        rw [← hn] at hgat
        obtain rfl : y = n := by rw [← hln]; exact hgat.2
        obtain ⟨ad, rfl, q0⟩ := hr0.rd D n hy
        have q0 := (hb.cell (World.block_lt_of_cell? w1 _ q0)).trans q0
        obtain ⟨ad2, rfl, q2⟩ := hr2 D (code l D) (by simp [codes, hD])
        have q2 := (hb.cell (World.block_lt_of_cell? w1 _ q2)).trans q2
        clear hx hy
        have hn15 := hgat.1
        clear hgat
        by_cases hn0 : n = 0
        · subst hn0
          clear hn
          go_wp2_with fail
          go_roundg (gk - 1)
          case measure => omega
          case rel => exact ⟨i + 1, W, by omega, by omega, by go_num, by omega, hW, rfl, ho, hb⟩
        · have a1 : decide ((0 : Int) < n) = true := by simp; omega
          have a2 : decide (0 < n) = true := by simp; omega
          have hz := hb.size
          have hcr : 0 ≤ code l D ∧ code l D < 4294967296 := by
            obtain ⟨C, c1, _⟩ := code_true hgd.sum (hgd.get (i := D) (by omega)) (by omega) (by omega)
            have := code_small hgd.sum (hgd.get (i := D) (by omega)) (by omega) (by omega) c1
            have := Nat.pow_le_pow_right (n := 2) (by decide) (show ln l D ≤ 15 by omega)
            omega
          have hfl := flat_len l W
          have hs1 := txt_size (W.flatMap (cw l))
          have hs2 := txt_size (cw l D)
          have hl2 := codeT_length (code l D) (l.getD D 0)
          have HE := Lib.hid (txt_append (W.flatMap (cw l)) (cw l D))
          have hcw : cw l D = codeT (code l D) n := by unfold cw; rw [hln]
          have m1 := fun d : Ext (fun _ => False) wr => Lib.hid (ext_call (d := d) ((ref_code (code l D) n d.world hcr.1 hcr.2).mono (fun e w' h => ⟨h.1, h.2 ▸ Same.refl _⟩)))
          have hW' : ∀ k ∈ W ++ [D], 1 ≤ ln l k := fun k hk => by
            rcases List.mem_append.1 hk with hk | hk
            · exact hW k hk
            · simp at hk; subst hk; omega
          rw [← hcw] at m1
          have hs1' : (txt (W.flatMap (cw l))).size ≤ 2000 := by omega
          have hs2' : (txt (cw l D)).size ≤ 32 := by unfold cw at *; omega
          clear hs1 hs2 hl2 hcw hfl hW hln hn
          rw [show (W.flatMap (cw l) ++ cw l D) = (W ++ [D]).flatMap (cw l) from by simp] at HE
          generalize txt (W.flatMap (cw l)) = S at *
          generalize txt (cw l D) = S2 at *
          generalize code l D = C at *
          have k0 : ∀ d : Ext (fun _ => False) wr, d.world.cell? (ad.add D) = some (.int .i64 n) := fun d => d.same.cell q0 (fun c => c)
          have k2 : ∀ d : Ext (fun _ => False) wr, d.world.cell? (ad2.add D) = some (.int .u32 C) := fun d => d.same.cell q2 (fun c => c)
          have HL := Lib.hid (ints_length .i64 (nats W))
          go_wp2_with fail
          refine wp_region_ext (fun _ => False) (by kernel_rfl) (by kernel_rfl) ?_
          repeat (go_big_quiet_step (exact (m1 _).out))
          refine wpQuiet_nil ?_
          rintro _ ⟨d, rfl⟩
          have hb := d.same.below_of hb hz (fun _ _ c => c)
          have ho := ho.kept d.same (fun _ _ c => c)
          clear m1 k0 k2 q0 q1 q2
          generalize d.world = wr at *
          clear d
          go_wp2_with (at_builtin; refine wpList_push w1.heap.size rfl (.tmp 73) (.tmp 75) 22 3 (.int .i64 0) 8 rfl Try.underlying22 Try.intinfo rfl u8 _ (.int .i64 D) ⟨wr.heap.size, 0, none⟩ 1 (W.length + 1) (by rw [HL.out, nats_length]) rfl rfl (by simp) rfl (ho.alloc _) (by have := hb.size; simp; omega) (by omega) (by omega) ?_; intro g7 cap7 w7 ho7 hs7 hgb7 hgl7 hat7)
          have hb7 := hs7.alloc_left.below_of hb hb.size (fun i hi e => by have := ho.base_le i e; omega)
          clear ho hb hs7 hat7
          go_wp2_with fail
          go_roundg (gk - 1)
          case measure => omega
          case rel =>
            refine ⟨i + 1, W ++ [D], by omega, by omega, by go_num, by simp; omega, hW', by rw [HE.out], ?_, hb7⟩
            rw [nats_append, ints_append]
            have : (W ++ [D]).length = W.length + 1 := by simp
            exact ho7
      · obtain ⟨A8, c8, rfl, hc8, hr8⟩ := ho.rd
        rw [nats_length] at hc8 ⊢
        have hz := hb.size
        have hW60 : W.length ≤ 60 := by have := HM.out; omega
        by_cases hik : i < ks.length
        · have e1 : decide ((i : Int) < ks.length) = true := by simp; omega
          have e2 : decide (i < ks.length) = true := by simp; omega
          have e3 : decide ((i : Int) < 60) = false := by have := HM.out; simp; omega
          obtain ⟨wo, rfl⟩ : ∃ wo : World, wo = wr := ⟨_, rfl⟩
          go_wp2_with fail
          go_loopg [7, 11] W.length (RyRel wo l W)
          case atStart => exact ⟨0, by omega, by omega, rfl, rfl, Same.refl _⟩
          case round =>
            rename Nat => gy
            obtain ⟨i2, hi2, hg2, rfl, rfl, hs⟩ := hrel
            by_cases hlt2 : i2 < W.length
            · obtain ⟨q, hq⟩ : ∃ q, W[i2]? = some q := ⟨_, List.getElem?_eq_getElem hlt2⟩
              have hq1 := hW q (List.mem_of_getElem? hq)
              have hql := hgd.lt hq1
              have hq15 := (hgd.at_ q).1
              have hqat := (hgd.at_ q).2
              have hqg := hgd.get hq1
              rw [show W.drop i2 = q :: W.drop (i2 + 1) from drop_at hq, List.flatMap_cons]
              obtain ⟨ad8, rfl, q8⟩ := hr8 i2 q (by simp [nats, hq])
              have hfl := flat_len l (W.drop (i2 + 1))
              rw [List.length_drop] at hfl
              have hfb := flat_bin l (W.drop (i2 + 1))
              have hqlen := hgd.cw_len hq1
              generalize hR : (W.drop (i2 + 1)).flatMap (cw l) = R at *
              have HR := Lib.hid hR
              clear hR
              have hSs := txt_size (cw l q ++ R)
              rw [List.length_append, hqlen] at hSs
              have hcut : (txt (cw l q ++ R)).extract (ln l q) (txt (cw l q ++ R)).size = txt R := by
                rw [txt_extract, hSs, List.drop_append_of_le_length (by omega), List.drop_of_length_le (by omega), List.nil_append, show ln l q + R.length - ln l q = R.length from by omega, List.take_of_length_le (Nat.le_refl _)]
              have htest : ∀ k, k < l.length → 1 ≤ ln l k → ln l k ≤ (txt (cw l q ++ R)).size → k ≠ q → (txt (cw l q ++ R)).extract 0 (ln l k) ≠ txt (cw l k) := fun k hk h1 h2 hkq e => by
                rw [txt_extract, List.drop_zero, Nat.sub_zero] at e
                have e2 := txt_inj (bin_take (bin_append (cw_bin l q) hfb) _) (cw_bin l k) e
                exact cw_one hgd.sum (hgd.get h1) hqg h1 (hgd.at_ k).1 hq1 hq15 hkq R e2
              have hsame : (txt (cw l q ++ R)).extract 0 (ln l q) = txt (cw l q) := by
                rw [txt_extract, List.drop_zero, Nat.sub_zero, List.take_append_of_le_length (by omega), List.take_of_length_le (by omega)]
              have HT := Lib.hid htest
              have HC := Lib.hid hcut
              have HS := Lib.hid hsame
              have hSl : ln l q ≤ (txt (cw l q ++ R)).size := by omega
              have hSm : (txt (cw l q ++ R)).size ≤ 4000 := by omega
              have HSS := Lib.hid hSs
              clear htest hcut hsame hfb hq hSs
              generalize txt (cw l q ++ R) = S at *
              obtain ⟨w5, rfl⟩ : ∃ w5 : World, w5 = wr := ⟨_, rfl⟩
              go_wp2_with fail
              go_loopg [12, 13] l.length (RzRel w5 l.length q)
              case atStart => exact ⟨0, by omega, by omega, rfl, rfl, Same.refl _⟩
              case round =>
                rename Nat => gz
                obtain ⟨k, hk, hgz, rfl, rfl, hs3⟩ := hrel
                have hs4 := hs.then hs3
                by_cases hkl : k < l.length
                · obtain ⟨y, hy⟩ : ∃ y, l[k]? = some y := ⟨_, List.getElem?_eq_getElem hkl⟩
                  have hgat := hgd.at_ k
                  have hln : l.getD k 0 = y := by rw [List.getD_eq_getElem?_getD, hy]; rfl
                  obtain ⟨n, hn⟩ : ∃ n, n = ln l k := ⟨_, rfl⟩
                  rw [← hn] at hgat
                  obtain rfl : y = n := by rw [← hln]; exact hgat.2
                  obtain ⟨ad, rfl, q0⟩ := hr0.rd k n hy
                  have q0 := (hb.cell (World.block_lt_of_cell? w1 _ q0)).trans q0
                  have q0 := hs4.cell q0 (fun c => c)
                  obtain ⟨ad2, rfl, q2⟩ := hr2 k (code l k) (by simp [codes, hkl])
                  have q2 := (hb.cell (World.block_lt_of_cell? w1 _ q2)).trans q2
                  have q2 := hs4.cell q2 (fun c => c)
                  have hn15 := hgat.1
                  have HT := Lib.hid (HT.out k hkl)
                  have hcw : cw l k = codeT (code l k) n := by unfold cw; rw [hln]
                  clear hgat hy
                  by_cases hn0 : n = 0
                  · have hkq : k ≠ q := by rintro rfl; omega
                    have a1 : decide ((0 : Int) < n) = false := by simp; omega
                    have a2 : decide (0 < n) = false := by simp; omega
                    have m1 : ∀ d : Ext (fun _ => False) wr, Hid True := fun _ => Lib.hid trivial
                    have fd : (Value.int .i64 (if q < k then (q : Int) else -1)) = .int .i64 (if q < k + 1 then (q : Int) else -1) := by
                      by_cases c : q < k
                      · rw [if_pos c, if_pos (by omega)]
                      · rw [if_neg c, if_neg (by omega)]
                    have FD := Lib.hid fd
                    clear fd hn hln hcw
                    generalize (if q < k then (q : Int) else -1) = fv at *
                    have k0 : ∀ d : Ext (fun _ => False) wr, d.world.cell? (ad.add k) = some (.int .i64 n) := fun d => d.same.cell q0 (fun c => c)
                    go_wp2_with fail
                    refine wp_region_ext (fun _ => False) (by kernel_rfl) (by kernel_rfl) ?_
                    repeat (go_big_quiet_step (exact (m1 _).out))
                    refine wpQuiet_nil ?_
                    rintro _ ⟨d, rfl⟩
                    go_wp2_with fail
                    go_roundg (gz - 1)
                    case measure => omega
                    case rel => exact ⟨k + 1, by omega, by omega, by go_num, FD.out, hs3.then d.same⟩
                  · have a1 : decide ((0 : Int) < n) = true := by simp; omega
                    have a2 : decide (0 < n) = true := by simp; omega
                    have hcr : 0 ≤ code l k ∧ code l k < 4294967296 := by
                      obtain ⟨C, c1, _⟩ := code_true hgd.sum (hgd.get (i := k) (by omega)) (by omega) (by omega)
                      have := code_small hgd.sum (hgd.get (i := k) (by omega)) (by omega) (by omega) c1
                      have := Nat.pow_le_pow_right (n := 2) (by decide) (show ln l k ≤ 15 by omega)
                      omega
                    have m1 := fun d : Ext (fun _ => False) wr => Lib.hid (ext_call (d := d) ((ref_code (code l k) n d.world hcr.1 hcr.2).mono (fun e w' h => ⟨h.1, h.2 ▸ Same.refl _⟩)))
                    rw [← hcw] at m1
                    rw [← hn] at HT
                    by_cases hkq : k = q
                    · have hsx : S.extract 0 n = txt (cw l k) := by rw [hn, hkq]; exact HS.out
                      have hnS : n ≤ S.size := by rw [hn, hkq]; exact hSl
                      rw [if_neg (show ¬ q < k by omega)]
                      have fd : (Value.int .i64 (k : Int)) = .int .i64 (if q < k + 1 then (q : Int) else -1) := by rw [if_pos (by omega), hkq]
                      have FD := Lib.hid fd
                      have HKQ := Lib.hid hkq
                      clear fd hkq HT hn hln hcw
                      generalize txt (cw l k) = S2 at *
                      generalize code l k = C at *
                      have k0 : ∀ d : Ext (fun _ => False) wr, d.world.cell? (ad.add k) = some (.int .i64 n) := fun d => d.same.cell q0 (fun c => c)
                      have k2 : ∀ d : Ext (fun _ => False) wr, d.world.cell? (ad2.add k) = some (.int .u32 C) := fun d => d.same.cell q2 (fun c => c)
                      have a3 : decide ((n : Int) ≤ S.size) = true := by simp; omega
                      have a4 : decide (n ≤ S.size) = true := by simp; omega
                      go_wp2_with fail
                      refine wp_region_ext (fun _ => False) (by kernel_rfl) (by kernel_rfl) ?_
                      repeat (go_big_quiet_step (exact (m1 _).out))
                      refine wpQuiet_nil ?_
                      rintro _ ⟨d, rfl⟩
                      go_wp2_with fail
                      go_roundg (gz - 1)
                      case measure => omega
                      case rel => exact ⟨k + 1, by omega, by omega, by go_num, FD.out, hs3.then d.same⟩
                    · have fd : (Value.int .i64 (if q < k then (q : Int) else -1)) = .int .i64 (if q < k + 1 then (q : Int) else -1) := by
                        by_cases c : q < k
                        · rw [if_pos c, if_pos (by omega)]
                        · rw [if_neg c, if_neg (by omega)]
                      have FD := Lib.hid fd
                      clear fd hln hcw
                      by_cases hsz : n ≤ S.size
                      · have hne : S.extract 0 n ≠ txt (cw l k) := HT.out (by omega) hsz hkq
                        clear HT hn
                        generalize (if q < k then (q : Int) else -1) = fv at *
                        generalize txt (cw l k) = S2 at *
                        generalize code l k = C at *
                        have k0 : ∀ d : Ext (fun _ => False) wr, d.world.cell? (ad.add k) = some (.int .i64 n) := fun d => d.same.cell q0 (fun c => c)
                        have k2 : ∀ d : Ext (fun _ => False) wr, d.world.cell? (ad2.add k) = some (.int .u32 C) := fun d => d.same.cell q2 (fun c => c)
                        have a3 : decide ((n : Int) ≤ S.size) = true := by simp; omega
                        have a4 : decide (n ≤ S.size) = true := by simp; omega
                        have a6 := str_ne hne
                        clear hne
                        go_wp2_with fail
                        refine wp_region_ext (fun _ => False) (by kernel_rfl) (by kernel_rfl) ?_
                        repeat (go_big_quiet_step (exact (m1 _).out))
                        refine wpQuiet_nil ?_
                        rintro _ ⟨d, rfl⟩
                        go_wp2_with fail
                        go_roundg (gz - 1)
                        case measure => omega
                        case rel => exact ⟨k + 1, by omega, by omega, by go_num, FD.out, hs3.then d.same⟩
                      · have a3 : decide ((n : Int) ≤ S.size) = false := by simp; omega
                        have a4 : decide (n ≤ S.size) = false := by simp; omega
                        clear HT hn
                        generalize (if q < k then (q : Int) else -1) = fv at *
                        generalize txt (cw l k) = S2 at *
                        generalize code l k = C at *
                        have k0 : ∀ d : Ext (fun _ => False) wr, d.world.cell? (ad.add k) = some (.int .i64 n) := fun d => d.same.cell q0 (fun c => c)
                        have k2 : ∀ d : Ext (fun _ => False) wr, d.world.cell? (ad2.add k) = some (.int .u32 C) := fun d => d.same.cell q2 (fun c => c)
                        go_wp2_with fail
                        refine wp_region_ext (fun _ => False) (by kernel_rfl) (by kernel_rfl) ?_
                        repeat (go_big_quiet_step (exact (m1 _).out))
                        refine wpQuiet_nil ?_
                        rintro _ ⟨d, rfl⟩
                        go_wp2_with fail
                        go_roundg (gz - 1)
                        case measure => omega
                        case rel => exact ⟨k + 1, by omega, by omega, by go_num, FD.out, hs3.then d.same⟩
                · have hkk : k = l.length := by omega
                  subst hkk
                  rw [if_pos hql]
                  obtain ⟨ad, rfl, q0⟩ := hr0.rd q _ hqg
                  have q0 := (hb.cell (World.block_lt_of_cell? w1 _ q0)).trans q0
                  have q0 := hs4.cell q0 (fun c => c)
                  have q8 := hs4.cell q8 (fun c => c)
                  have en : ((q : Int) != q) = false := by simp
                  generalize ln l q = n at *
                  have HC' := HC.out
                  go_wp2_with fail
                  go_roundg (gy - 1)
                  case measure => omega
                  case rel => exact ⟨i2 + 1, by omega, by omega, by go_num, by rw [HR.out], hs4⟩
            · have hii : i2 = W.length := by omega
              subst hii
              rw [List.drop_length, List.flatMap_nil, txt_nil]
              have hb9 := hs.below_of hb hz (fun _ _ c => c)
              go_wp2_with fail
              refine (ht _).out.mono ?_
              rintro e w9 ⟨rfl, hb10⟩
              go_wp2_with fail
              go_ret
              exact ⟨rfl, hb1.trans ((hb9.trans (hb10.mono hb9.size)).mono hb1.size)⟩
        · have e1 : decide ((i : Int) < ks.length) = false := by simp; omega
          have e2 : decide (i < ks.length) = false := by simp; omega
          obtain ⟨wo, rfl⟩ : ∃ wo : World, wo = wr := ⟨_, rfl⟩
          go_wp2_with fail
          go_loopg [7, 11] W.length (RyRel wo l W)
          case atStart => exact ⟨0, by omega, by omega, rfl, rfl, Same.refl _⟩
          case round =>
            rename Nat => gy
            obtain ⟨i2, hi2, hg2, rfl, rfl, hs⟩ := hrel
            by_cases hlt2 : i2 < W.length
            · obtain ⟨q, hq⟩ : ∃ q, W[i2]? = some q := ⟨_, List.getElem?_eq_getElem hlt2⟩
              have hq1 := hW q (List.mem_of_getElem? hq)
              have hql := hgd.lt hq1
              have hq15 := (hgd.at_ q).1
              have hqat := (hgd.at_ q).2
              have hqg := hgd.get hq1
              rw [show W.drop i2 = q :: W.drop (i2 + 1) from drop_at hq, List.flatMap_cons]
              obtain ⟨ad8, rfl, q8⟩ := hr8 i2 q (by simp [nats, hq])
              have hfl := flat_len l (W.drop (i2 + 1))
              rw [List.length_drop] at hfl
              have hfb := flat_bin l (W.drop (i2 + 1))
              have hqlen := hgd.cw_len hq1
              generalize hR : (W.drop (i2 + 1)).flatMap (cw l) = R at *
              have HR := Lib.hid hR
              clear hR
              have hSs := txt_size (cw l q ++ R)
              rw [List.length_append, hqlen] at hSs
              have hcut : (txt (cw l q ++ R)).extract (ln l q) (txt (cw l q ++ R)).size = txt R := by
                rw [txt_extract, hSs, List.drop_append_of_le_length (by omega), List.drop_of_length_le (by omega), List.nil_append, show ln l q + R.length - ln l q = R.length from by omega, List.take_of_length_le (Nat.le_refl _)]
              have htest : ∀ k, k < l.length → 1 ≤ ln l k → ln l k ≤ (txt (cw l q ++ R)).size → k ≠ q → (txt (cw l q ++ R)).extract 0 (ln l k) ≠ txt (cw l k) := fun k hk h1 h2 hkq e => by
                rw [txt_extract, List.drop_zero, Nat.sub_zero] at e
                have e2 := txt_inj (bin_take (bin_append (cw_bin l q) hfb) _) (cw_bin l k) e
                exact cw_one hgd.sum (hgd.get h1) hqg h1 (hgd.at_ k).1 hq1 hq15 hkq R e2
              have hsame : (txt (cw l q ++ R)).extract 0 (ln l q) = txt (cw l q) := by
                rw [txt_extract, List.drop_zero, Nat.sub_zero, List.take_append_of_le_length (by omega), List.take_of_length_le (by omega)]
              have HT := Lib.hid htest
              have HC := Lib.hid hcut
              have HS := Lib.hid hsame
              have hSl : ln l q ≤ (txt (cw l q ++ R)).size := by omega
              have hSm : (txt (cw l q ++ R)).size ≤ 4000 := by omega
              have HSS := Lib.hid hSs
              clear htest hcut hsame hfb hq hSs
              generalize txt (cw l q ++ R) = S at *
              obtain ⟨w5, rfl⟩ : ∃ w5 : World, w5 = wr := ⟨_, rfl⟩
              go_wp2_with fail
              go_loopg [12, 13] l.length (RzRel w5 l.length q)
              case atStart => exact ⟨0, by omega, by omega, rfl, rfl, Same.refl _⟩
              case round =>
                rename Nat => gz
                obtain ⟨k, hk, hgz, rfl, rfl, hs3⟩ := hrel
                have hs4 := hs.then hs3
                by_cases hkl : k < l.length
                · obtain ⟨y, hy⟩ : ∃ y, l[k]? = some y := ⟨_, List.getElem?_eq_getElem hkl⟩
                  have hgat := hgd.at_ k
                  have hln : l.getD k 0 = y := by rw [List.getD_eq_getElem?_getD, hy]; rfl
                  obtain ⟨n, hn⟩ : ∃ n, n = ln l k := ⟨_, rfl⟩
                  rw [← hn] at hgat
                  obtain rfl : y = n := by rw [← hln]; exact hgat.2
                  obtain ⟨ad, rfl, q0⟩ := hr0.rd k n hy
                  have q0 := (hb.cell (World.block_lt_of_cell? w1 _ q0)).trans q0
                  have q0 := hs4.cell q0 (fun c => c)
                  obtain ⟨ad2, rfl, q2⟩ := hr2 k (code l k) (by simp [codes, hkl])
                  have q2 := (hb.cell (World.block_lt_of_cell? w1 _ q2)).trans q2
                  have q2 := hs4.cell q2 (fun c => c)
                  have hn15 := hgat.1
                  have HT := Lib.hid (HT.out k hkl)
                  have hcw : cw l k = codeT (code l k) n := by unfold cw; rw [hln]
                  clear hgat hy
                  by_cases hn0 : n = 0
                  · have hkq : k ≠ q := by rintro rfl; omega
                    have a1 : decide ((0 : Int) < n) = false := by simp; omega
                    have a2 : decide (0 < n) = false := by simp; omega
                    have m1 : ∀ d : Ext (fun _ => False) wr, Hid True := fun _ => Lib.hid trivial
                    have fd : (Value.int .i64 (if q < k then (q : Int) else -1)) = .int .i64 (if q < k + 1 then (q : Int) else -1) := by
                      by_cases c : q < k
                      · rw [if_pos c, if_pos (by omega)]
                      · rw [if_neg c, if_neg (by omega)]
                    have FD := Lib.hid fd
                    clear fd hn hln hcw
                    generalize (if q < k then (q : Int) else -1) = fv at *
                    have k0 : ∀ d : Ext (fun _ => False) wr, d.world.cell? (ad.add k) = some (.int .i64 n) := fun d => d.same.cell q0 (fun c => c)
                    go_wp2_with fail
                    refine wp_region_ext (fun _ => False) (by kernel_rfl) (by kernel_rfl) ?_
                    repeat (go_big_quiet_step (exact (m1 _).out))
                    refine wpQuiet_nil ?_
                    rintro _ ⟨d, rfl⟩
                    go_wp2_with fail
                    go_roundg (gz - 1)
                    case measure => omega
                    case rel => exact ⟨k + 1, by omega, by omega, by go_num, FD.out, hs3.then d.same⟩
                  · have a1 : decide ((0 : Int) < n) = true := by simp; omega
                    have a2 : decide (0 < n) = true := by simp; omega
                    have hcr : 0 ≤ code l k ∧ code l k < 4294967296 := by
                      obtain ⟨C, c1, _⟩ := code_true hgd.sum (hgd.get (i := k) (by omega)) (by omega) (by omega)
                      have := code_small hgd.sum (hgd.get (i := k) (by omega)) (by omega) (by omega) c1
                      have := Nat.pow_le_pow_right (n := 2) (by decide) (show ln l k ≤ 15 by omega)
                      omega
                    have m1 := fun d : Ext (fun _ => False) wr => Lib.hid (ext_call (d := d) ((ref_code (code l k) n d.world hcr.1 hcr.2).mono (fun e w' h => ⟨h.1, h.2 ▸ Same.refl _⟩)))
                    rw [← hcw] at m1
                    rw [← hn] at HT
                    by_cases hkq : k = q
                    · have hsx : S.extract 0 n = txt (cw l k) := by rw [hn, hkq]; exact HS.out
                      have hnS : n ≤ S.size := by rw [hn, hkq]; exact hSl
                      rw [if_neg (show ¬ q < k by omega)]
                      have fd : (Value.int .i64 (k : Int)) = .int .i64 (if q < k + 1 then (q : Int) else -1) := by rw [if_pos (by omega), hkq]
                      have FD := Lib.hid fd
                      have HKQ := Lib.hid hkq
                      clear fd hkq HT hn hln hcw
                      generalize txt (cw l k) = S2 at *
                      generalize code l k = C at *
                      have k0 : ∀ d : Ext (fun _ => False) wr, d.world.cell? (ad.add k) = some (.int .i64 n) := fun d => d.same.cell q0 (fun c => c)
                      have k2 : ∀ d : Ext (fun _ => False) wr, d.world.cell? (ad2.add k) = some (.int .u32 C) := fun d => d.same.cell q2 (fun c => c)
                      have a3 : decide ((n : Int) ≤ S.size) = true := by simp; omega
                      have a4 : decide (n ≤ S.size) = true := by simp; omega
                      go_wp2_with fail
                      refine wp_region_ext (fun _ => False) (by kernel_rfl) (by kernel_rfl) ?_
                      repeat (go_big_quiet_step (exact (m1 _).out))
                      refine wpQuiet_nil ?_
                      rintro _ ⟨d, rfl⟩
                      go_wp2_with fail
                      go_roundg (gz - 1)
                      case measure => omega
                      case rel => exact ⟨k + 1, by omega, by omega, by go_num, FD.out, hs3.then d.same⟩
                    · have fd : (Value.int .i64 (if q < k then (q : Int) else -1)) = .int .i64 (if q < k + 1 then (q : Int) else -1) := by
                        by_cases c : q < k
                        · rw [if_pos c, if_pos (by omega)]
                        · rw [if_neg c, if_neg (by omega)]
                      have FD := Lib.hid fd
                      clear fd hln hcw
                      by_cases hsz : n ≤ S.size
                      · have hne : S.extract 0 n ≠ txt (cw l k) := HT.out (by omega) hsz hkq
                        clear HT hn
                        generalize (if q < k then (q : Int) else -1) = fv at *
                        generalize txt (cw l k) = S2 at *
                        generalize code l k = C at *
                        have k0 : ∀ d : Ext (fun _ => False) wr, d.world.cell? (ad.add k) = some (.int .i64 n) := fun d => d.same.cell q0 (fun c => c)
                        have k2 : ∀ d : Ext (fun _ => False) wr, d.world.cell? (ad2.add k) = some (.int .u32 C) := fun d => d.same.cell q2 (fun c => c)
                        have a3 : decide ((n : Int) ≤ S.size) = true := by simp; omega
                        have a4 : decide (n ≤ S.size) = true := by simp; omega
                        have a6 := str_ne hne
                        clear hne
                        go_wp2_with fail
                        refine wp_region_ext (fun _ => False) (by kernel_rfl) (by kernel_rfl) ?_
                        repeat (go_big_quiet_step (exact (m1 _).out))
                        refine wpQuiet_nil ?_
                        rintro _ ⟨d, rfl⟩
                        go_wp2_with fail
                        go_roundg (gz - 1)
                        case measure => omega
                        case rel => exact ⟨k + 1, by omega, by omega, by go_num, FD.out, hs3.then d.same⟩
                      · have a3 : decide ((n : Int) ≤ S.size) = false := by simp; omega
                        have a4 : decide (n ≤ S.size) = false := by simp; omega
                        clear HT hn
                        generalize (if q < k then (q : Int) else -1) = fv at *
                        generalize txt (cw l k) = S2 at *
                        generalize code l k = C at *
                        have k0 : ∀ d : Ext (fun _ => False) wr, d.world.cell? (ad.add k) = some (.int .i64 n) := fun d => d.same.cell q0 (fun c => c)
                        have k2 : ∀ d : Ext (fun _ => False) wr, d.world.cell? (ad2.add k) = some (.int .u32 C) := fun d => d.same.cell q2 (fun c => c)
                        go_wp2_with fail
                        refine wp_region_ext (fun _ => False) (by kernel_rfl) (by kernel_rfl) ?_
                        repeat (go_big_quiet_step (exact (m1 _).out))
                        refine wpQuiet_nil ?_
                        rintro _ ⟨d, rfl⟩
                        go_wp2_with fail
                        go_roundg (gz - 1)
                        case measure => omega
                        case rel => exact ⟨k + 1, by omega, by omega, by go_num, FD.out, hs3.then d.same⟩
                · have hkk : k = l.length := by omega
                  subst hkk
                  rw [if_pos hql]
                  obtain ⟨ad, rfl, q0⟩ := hr0.rd q _ hqg
                  have q0 := (hb.cell (World.block_lt_of_cell? w1 _ q0)).trans q0
                  have q0 := hs4.cell q0 (fun c => c)
                  have q8 := hs4.cell q8 (fun c => c)
                  have en : ((q : Int) != q) = false := by simp
                  generalize ln l q = n at *
                  have HC' := HC.out
                  go_wp2_with fail
                  go_roundg (gy - 1)
                  case measure => omega
                  case rel => exact ⟨i2 + 1, by omega, by omega, by go_num, by rw [HR.out], hs4⟩
            · have hii : i2 = W.length := by omega
              subst hii
              rw [List.drop_length, List.flatMap_nil, txt_nil]
              have hb9 := hs.below_of hb hz (fun _ _ c => c)
              go_wp2_with fail
              refine (ht _).out.mono ?_
              rintro e w9 ⟨rfl, hb10⟩
              go_wp2_with fail
              go_ret
              exact ⟨rfl, hb1.trans ((hb9.trans (hb10.mono hb9.size)).mono hb1.size)⟩
  · have hE' : (codesErr l != 0) = true := by simpa using hE
    have HC := Lib.hid (canon_codes A c l w h00)
    clear hE
    generalize codesErr l = ce at *
    go_enter Try.func6, Try.ntmps6
    go_wp2_with fail
    refine HC.out.mono ?_
    rintro e w1 ⟨v1, rfl, ho1, hb1⟩
    go_wp2_with (go_at_call 10; refine (ht _).out.mono ?_; rintro e w' ⟨rfl, hb⟩)
    go_ret
    exact ⟨rfl, hb1.trans (hb.mono hb1.size)⟩
end Go.Proofs.Ytepphflpeobkhaa
