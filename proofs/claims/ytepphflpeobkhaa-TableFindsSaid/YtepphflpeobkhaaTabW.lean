import Derived.Test.YtepphflpeobkhaaTabV
namespace Go.Proofs.Ytepphflpeobkhaa
set_option linter.unusedVariables false
set_option linter.unusedSimpArgs false
open Go.RowKit
attribute [local go_sem] max2i min2i max2t min2t

theorem bitT_mod (v n : Nat) : bitT (v : Int) n = bitT ((v % 2 ^ n : Nat) : Int) n := by
  refine numT_inj (a := []) (b := []) (bin_bitT _ _) (bin_bitT _ _) (by rw [bitT_length, bitT_length]) ?_
  rw [numT_bitT _ (by omega), numT_bitT _ (by omega), Int.natCast_emod, Int.natCast_pow]
  exact (Int.emod_emod_of_dvd _ (Int.dvd_refl _)).symm
theorem law_bits (v : Nat) (hv : v < 4294967296) (ni : Int) (n : Nat) (hni : min (max ni 0) 15 = n) (w : World) :
    Calls Try.prog 23 #[.int .u32 v, .int .i64 ni] w fun e w' => e = .returned (.string (txt (bitT ((v % 2 ^ n : Nat) : Int) n))) ∧ w' = w := by
  have hn2 : max 0 (min ni 15) = n := by omega
  have HP := Lib.hid (ref_put5 v n w (by omega) (by omega) (WalkArith.wf_i64 (by omega)))
  have hs : strOfNums (putL (v : Int) n) = txt (bitT ((v % 2 ^ n : Nat) : Int) n) := by
    rw [putL_txt]
    by_cases h0 : n = 0
    · subst h0; rfl
    · rw [putT_ok _ (by omega) (by omega), ← bitT_mod]
  rw [hs] at HP
  generalize txt (bitT ((v % 2 ^ n : Nat) : Int) n) = S at *
  clear hs hni
  go_enter Try.func23, Try.ntmps23
  go_wp2_with fail
  refine HP.out.mono ?_
  rintro e w1 ⟨rfl, hw⟩
  subst hw
  go_wp2_with fail
  go_ret
  exact ⟨rfl, rfl⟩
structure TiRel (w : World) (g : Nat) (v17 : Value) (wr : World) : Prop where mk ::
  out_ : ∃ (k : Nat), k ≤ 16 ∧ 16 ≤ g + k ∧ v17 = .int .i64 (k : Int) ∧ Below w.heap.size w wr
set_option maxHeartbeats 6000000 in
set_option maxRecDepth 100000 in
theorem tableFinds_walk (A : Option Addr) (c : Nat) (l : List Int) (fi : Int) (A1 : Option Addr) (c1 : Nat) (ls : List Int) (n : Int) (w : World) (h00 : RowOf w .i64 A c l) (h01 : (Lit.int .i64 fi).wf = true) (h02 : RowOf w .u32 A1 c1 ls) (h03 : (Lit.int .i64 n).wf = true) :
    Calls Try.prog 9 #[.slice A l.length c, .int .i64 fi, .slice A1 ls.length c1, .int .i64 n] w fun e w' => e = .returned (.bool true) ∧ Below w.heap.size w w' := by
  have ht := fun W => Lib.hid (told8 W)
  have hm := h00.most
  have hcap := h00.cap
  have hm1 := h02.most
  have hcap1 := h02.cap
  by_cases h1 : 320 < l.length
  · have h1' : decide ((320 : Int) < l.length) = true := by simp; omega
    go_enter Try.func9, Try.ntmps9
    go_wp2_with (go_at_call 18; refine (ht _).out.mono ?_; rintro e w' ⟨rfl, hb⟩)
    go_ret
    exact ⟨rfl, hb⟩
  have h1' : decide ((320 : Int) < l.length) = false := by simp; omega
  have HRC := Lib.hid (fun W (hb : Below w.heap.size w W) => ref_codes A c l W (h00.belo hb) (by omega))
  by_cases hok : codesErr l = 0
  · by_cases hfi : 1 ≤ fi ∧ fi ≤ 15
    · obtain ⟨F, rfl⟩ : ∃ F : Nat, fi = F := ⟨fi.toNat, by omega⟩
      have hgd := good_of hok
      obtain ⟨N, hN, hN1, hN2, hN3⟩ := pow_var (F := F) (by omega)
      have HN := Lib.hid hN
      have HN3 := Lib.hid hN3
      obtain ⟨m, hmm⟩ : ∃ m, m = min ls.length 40 := ⟨_, rfl⟩
      have HM := Lib.hid hmm
      obtain ⟨nc, hnc⟩ : ∃ nc : Nat, min (max n 0) 15 = nc := ⟨(min (max n 0) 15).toNat, by omega⟩
      have HNC := Lib.hid hnc
      have hnc15 : nc ≤ 15 := by omega
      have hso : strsOut l = strs l := by rw [strsOut, if_pos hok]
      have HNE := Lib.hid (tab_new h00 hok F (by omega) (by omega))
      rw [hok, hso] at HRC
      have d1 : decide ((F : Int) < 1) = false := by simp; omega
      have d2 : decide ((15 : Int) < F) = false := by simp; omega
      have d1' : decide (F < 1) = false := by simp; omega
      have d2' : decide (15 < F) = false := by simp; omega
      have hF15 : F ≤ 15 := by omega
      clear hN hN3 hmm hnc hok hso hfi
      go_enter Try.func9, Try.ntmps9
      go_wp2_with fail
      refine HNE.out.mono ?_
      rintro e w1 ⟨p, rfl, hT, hp, hb1⟩
      go_wp2_with fail
      refine (HRC.out _ hb1).mono ?_
      rintro e w2 ⟨v3, rfl, ho, hb2⟩
      have hT2 := hT.below hb2
      have hB2 := hb1.trans (hb2.mono hb1.size)
      have hr2 := h02.belo hB2
      obtain ⟨A3, c3, rfl, hc3, hcm, _, _, _⟩ := ho.shape
      have hsl : (strs l).length = l.length := by simp [strs]
      rw [hsl] at ho ⊢
      clear hT hc3 hcm hsl
      go_wp2_with fail
      go_loopg [16] m (SaRel w2 m)
      case atStart => exact ⟨0, by omega, by omega, rfl, Below.refl _ _⟩
      case round =>
        obtain ⟨i, hi, hg, rfl, hB⟩ := hrel
        by_cases hlt : i < m
        · have hil : i < ls.length := by have := HM.out; omega
          have hi40 : i < 40 := by have := HM.out; omega
          have e1 : decide ((i : Int) < ls.length) = true := by simp; omega
          have e2 : decide (i < ls.length) = true := by simp; omega
          have e3 : decide ((i : Int) < 40) = true := by simp; omega
          obtain ⟨x, hx⟩ : ∃ x, ls[i]? = some x := ⟨_, List.getElem?_eq_getElem hil⟩
          obtain ⟨v, rfl, hv⟩ := u32_nat (h02.wf x (List.mem_of_getElem? hx))
          obtain ⟨ad, rfl, q1⟩ := hr2.rd i v hx
          clear hx
          go_wp2_with fail
          go_loopg [17] 16 (TiRel w2)
          case atStart => exact ⟨0, by omega, by omega, rfl, hB⟩
          case round =>
            rename Nat => gq
            clear hB
            obtain ⟨k, hk, hgq, rfl, hB⟩ := hrel
            have q1w := (hB.cell (World.block_lt_of_cell? w2 _ q1)).trans q1
            by_cases hkl : k ≤ 15
            · have e8 : decide ((k : Int) ≤ 15) = true := by simp; omega
              have e8' : decide (k ≤ 15) = true := by simp; omega
              have hF := (hT2.below hB).find v hv (k : Int) k (by omega)
              have hG := fun W (hb : Below w2.heap.size w2 W) => ref_find hgd A3 c3 w1.heap.size W (ho.kept (Same.of_below (S := fun _ => False) hb) (fun _ _ c => c)) (v % 2 ^ k) k (Nat.mod_lt _ (Nat.pow_pos (by decide))) (by omega) (by omega)
              have hH := fun W => law_bits v hv (k : Int) k (by omega) W
              generalize txt (bitT ((v % 2 ^ k : Nat) : Int) k) = S at *
              generalize (findN l (v % 2 ^ k) k).1 = a1 at *
              generalize (findN l (v % 2 ^ k) k).2.1 = a2 at *
              generalize (findN l (v % 2 ^ k) k).2.2 = a3 at *
              have HF := Lib.hid hF
              have HG := Lib.hid hG
              have HH := Lib.hid hH
              have e4 : ((a1 : Int) != a1) = false := by simp
              have e5 : ((a2 : Int) != a2) = false := by simp
              have e6 : ((a3 : Int) != a3) = false := by simp
              have e4' : (a1 != a1) = false := by simp
              have e5' : (a2 != a2) = false := by simp
              have e6' : (a3 != a3) = false := by simp
              clear hF hG hH
              go_wp2_with fail
              refine HF.out.mono ?_
              rintro e w5 ⟨rfl, hb5⟩
              have hB5 := hB.trans (hb5.mono hB.size)
              have q2w := (hB5.cell (World.block_lt_of_cell? w2 _ q1)).trans q1
              go_wp2_with fail
              refine (HH.out _).mono ?_
              rintro e w6 ⟨rfl, hw⟩
              subst hw
              go_wp2_with fail
              refine (HG.out _ hB5).mono ?_
              rintro e w7 ⟨rfl, hw⟩
              subst hw
              go_wp2_with fail
              go_roundg (gq - 1)
              case measure => omega
              case rel => exact ⟨k + 1, by omega, by omega, by go_num, hB5⟩
            · have e8 : decide ((k : Int) ≤ 15) = false := by simp; omega
              have e8' : decide (k ≤ 15) = false := by simp; omega
              have hF := (hT2.below hB).find v hv n nc (by exact HNC.out)
              have hG := fun W (hb : Below w2.heap.size w2 W) => ref_find hgd A3 c3 w1.heap.size W (ho.kept (Same.of_below (S := fun _ => False) hb) (fun _ _ c => c)) (v % 2 ^ nc) nc (Nat.mod_lt _ (Nat.pow_pos (by decide))) (by omega) (by omega)
              have hH := fun W => law_bits v hv n nc (by exact HNC.out) W
              generalize txt (bitT ((v % 2 ^ nc : Nat) : Int) nc) = S at *
              generalize (findN l (v % 2 ^ nc) nc).1 = a1 at *
              generalize (findN l (v % 2 ^ nc) nc).2.1 = a2 at *
              generalize (findN l (v % 2 ^ nc) nc).2.2 = a3 at *
              have HF := Lib.hid hF
              have HG := Lib.hid hG
              have HH := Lib.hid hH
              have e4 : ((a1 : Int) != a1) = false := by simp
              have e5 : ((a2 : Int) != a2) = false := by simp
              have e6 : ((a3 : Int) != a3) = false := by simp
              have e4' : (a1 != a1) = false := by simp
              have e5' : (a2 != a2) = false := by simp
              have e6' : (a3 != a3) = false := by simp
              clear hF hG hH
              go_wp2_with fail
              refine HF.out.mono ?_
              rintro e w5 ⟨rfl, hb5⟩
              have hB5 := hB.trans (hb5.mono hB.size)
              have q2w := (hB5.cell (World.block_lt_of_cell? w2 _ q1)).trans q1
              go_wp2_with fail
              refine (HH.out _).mono ?_
              rintro e w6 ⟨rfl, hw⟩
              subst hw
              go_wp2_with fail
              refine (HG.out _ hB5).mono ?_
              rintro e w7 ⟨rfl, hw⟩
              subst hw
              go_wp2_with fail
              go_roundg (gk - 1)
              case measure => omega
              case rel => exact ⟨i + 1, by omega, by omega, by go_num, hB5⟩
        · have hB9 := hB2.trans (hB.mono hB2.size)
          by_cases hil : i < ls.length
          · have e1 : decide ((i : Int) < ls.length) = true := by simp; omega
            have e2 : decide (i < ls.length) = true := by simp; omega
            have e3 : decide ((i : Int) < 40) = false := by have := HM.out; simp; omega
            go_wp2_with fail
            refine (ht _).out.mono ?_
            rintro e w9 ⟨rfl, hb9⟩
            have hB10 := hB9.trans (hb9.mono hB9.size)
            obtain ⟨sz, hsz, HSZ⟩ := ((hT2.below hB).below hb9).size
            have d8 : decide ((0 : Int) ≤ sz) = true := by simp
            have HSZ := Lib.hid HSZ
            have hsz2 := hsz
            rw [← HN.out] at hsz2
            have d9 : decide ((sz : Int) ≤ wrap64 (32768 + wrap64 (2 ^ F))) = true := by
              rw [HN3.out, IntWalk.wrap64_in _ (by omega)]; simp; omega
            have d9' : decide ((sz : Int) ≤ 32768 + wrap64 (2 ^ F)) = true := by
              rw [HN3.out]; simp; omega
            clear hsz hsz2
            go_wp2_with fail
            refine HSZ.out.mono ?_
            rintro e w10 ⟨rfl, hw⟩
            subst hw
            go_wp2_with fail
            refine HSZ.out.mono ?_
            rintro e w11 ⟨rfl, hw⟩
            subst hw
            go_wp2_with fail
            go_ret
            exact ⟨rfl, hB10⟩
          · have e1 : decide ((i : Int) < ls.length) = false := by simp; omega
            have e2 : decide (i < ls.length) = false := by simp; omega
            go_wp2_with fail
            refine (ht _).out.mono ?_
            rintro e w9 ⟨rfl, hb9⟩
            have hB10 := hB9.trans (hb9.mono hB9.size)
            obtain ⟨sz, hsz, HSZ⟩ := ((hT2.below hB).below hb9).size
            have d8 : decide ((0 : Int) ≤ sz) = true := by simp
            have HSZ := Lib.hid HSZ
            have hsz2 := hsz
            rw [← HN.out] at hsz2
            have d9 : decide ((sz : Int) ≤ wrap64 (32768 + wrap64 (2 ^ F))) = true := by
              rw [HN3.out, IntWalk.wrap64_in _ (by omega)]; simp; omega
            have d9' : decide ((sz : Int) ≤ 32768 + wrap64 (2 ^ F)) = true := by
              rw [HN3.out]; simp; omega
            clear hsz hsz2
            go_wp2_with fail
            refine HSZ.out.mono ?_
            rintro e w10 ⟨rfl, hw⟩
            subst hw
            go_wp2_with fail
            refine HSZ.out.mono ?_
            rintro e w11 ⟨rfl, hw⟩
            subst hw
            go_wp2_with fail
            go_ret
            exact ⟨rfl, hB10⟩
    · have H1 := Lib.hid (tab_new_bad2 A c l w h00 hok fi (by omega))
      rw [hok] at HRC
      by_cases hf1 : fi < 1
      · have d1 : decide (fi < 1) = true := by simpa using hf1
        go_enter Try.func9, Try.ntmps9
        go_wp2_with fail
        refine H1.out.mono ?_
        rintro e w1 ⟨rfl, hb1⟩
        go_wp2_with fail
        refine (HRC.out _ hb1).mono ?_
        rintro e w2 ⟨v3, rfl, ho, hb2⟩
        have hB2 := hb1.trans (hb2.mono hb1.size)
        go_wp2_with fail
        refine (tab_find_nil 0 3 _).mono ?_
        rintro e w5 ⟨rfl, hw⟩
        subst hw
        go_wp2_with fail
        refine (ht _).out.mono ?_
        rintro e w9 ⟨rfl, hb9⟩
        go_wp2_with fail
        refine (tab_size_nil _).mono ?_
        rintro e w10 ⟨rfl, hw⟩
        subst hw
        go_wp2_with fail
        go_ret
        exact ⟨rfl, hB2.trans (hb9.mono hB2.size)⟩
      · have d1 : decide (fi < 1) = false := by simpa using hf1
        have d2 : decide (15 < fi) = true := by simp; omega
        go_enter Try.func9, Try.ntmps9
        go_wp2_with fail
        refine H1.out.mono ?_
        rintro e w1 ⟨rfl, hb1⟩
        go_wp2_with fail
        refine (HRC.out _ hb1).mono ?_
        rintro e w2 ⟨v3, rfl, ho, hb2⟩
        have hB2 := hb1.trans (hb2.mono hb1.size)
        go_wp2_with fail
        refine (tab_find_nil 0 3 _).mono ?_
        rintro e w5 ⟨rfl, hw⟩
        subst hw
        go_wp2_with fail
        refine (ht _).out.mono ?_
        rintro e w9 ⟨rfl, hb9⟩
        go_wp2_with fail
        refine (tab_size_nil _).mono ?_
        rintro e w10 ⟨rfl, hw⟩
        subst hw
        go_wp2_with fail
        go_ret
        exact ⟨rfl, hB2.trans (hb9.mono hB2.size)⟩
  · have ce0 : (codesErr l == 0) = false := by rw [beq_eq_false_iff_ne]; exact hok
    have ce1 : (codesErr l != codesErr l) = false := by simp
    have ce2 : (codesErr l != 0) = true := by simpa using hok
    have H1 := Lib.hid (tab_new_bad1 A c l w h00 hok fi)
    clear hok
    generalize codesErr l = ce at *
    go_enter Try.func9, Try.ntmps9
    go_wp2_with fail
    refine H1.out.mono ?_
    rintro e w1 ⟨rfl, hb1⟩
    go_wp2_with fail
    refine (HRC.out _ hb1).mono ?_
    rintro e w2 ⟨v3, rfl, ho, hb2⟩
    have hB2 := hb1.trans (hb2.mono hb1.size)
    go_wp2_with fail
    refine (tab_find_nil 0 3 _).mono ?_
    rintro e w5 ⟨rfl, hw⟩
    subst hw
    go_wp2_with fail
    refine (ht _).out.mono ?_
    rintro e w9 ⟨rfl, hb9⟩
    go_wp2_with fail
    refine (tab_size_nil _).mono ?_
    rintro e w10 ⟨rfl, hw⟩
    subst hw
    go_wp2_with fail
    go_ret
    exact ⟨rfl, hB2.trans (hb9.mono hB2.size)⟩
end Go.Proofs.Ytepphflpeobkhaa
