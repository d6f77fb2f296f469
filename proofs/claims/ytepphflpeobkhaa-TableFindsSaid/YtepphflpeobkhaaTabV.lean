import Derived.Test.YtepphflpeobkhaaTabU
namespace Go.Proofs.Ytepphflpeobkhaa
set_option linter.unusedVariables false
set_option linter.unusedSimpArgs false
open Go.RowKit
attribute [local go_sem] max2i min2i max2t min2t

theorem mix_u32 {v w D : Nat} (hv : v < 4294967296) (hw : w < 4294967296) (hD : D ≤ 15) : ∃ u : Nat, u < 4294967296 ∧ bits .or .u32 ((v % 2 ^ D : Nat) : Int) (bits .andNot .u32 (w : Int) ((2 ^ D - 1) % 4294967296)) = (u : Int) ∧ u % 2 ^ D = v % 2 ^ D := by
  have hN : 2 ^ D ≤ 32768 := by have := Nat.pow_le_pow_right (n := 2) (by decide) hD; simpa using this
  have h0 : 0 < 2 ^ D := Nat.pow_pos (by decide)
  have e1 : ((2 : Int) ^ D - 1) % 4294967296 = ((2 ^ D - 1 : Nat) : Int) := by
    have : ((2 : Int) ^ D) = ((2 ^ D : Nat) : Int) := by rw [Int.natCast_pow]; rfl
    rw [this]; omega
  have e2 : bits .andNot .u32 (w : Int) ((2 ^ D - 1 : Nat) : Int) = ((BitVec.ofNat 32 w &&& ~~~ BitVec.ofNat 32 (2 ^ D - 1)).toNat : Int) := by
    show IntKind.u32.wrap ((BitVec.ofInt 32 (w : Int) &&& ~~~ BitVec.ofInt 32 ((2 ^ D - 1 : Nat) : Int)).toNat : Int) = _
    rw [BitVec.ofInt_natCast, BitVec.ofInt_natCast, IntKind.wrap_u32]
    have := (BitVec.ofNat 32 w &&& ~~~ BitVec.ofNat 32 (2 ^ D - 1)).isLt
    omega
  have hvm : v % 2 ^ D < 2 ^ D := Nat.mod_lt _ h0
  have e3 : ((v % 2 ^ D : Nat) : Int) = ((BitVec.ofNat 32 (v % 2 ^ D)).toNat : Int) := by rw [BitVec.toNat_ofNat, Nat.mod_eq_of_lt (show v % 2 ^ D < 2 ^ 32 by omega)]
  refine ⟨(BitVec.ofNat 32 (v % 2 ^ D) ||| (BitVec.ofNat 32 w &&& ~~~ BitVec.ofNat 32 (2 ^ D - 1))).toNat, BitVec.isLt _, ?_, ?_⟩
  · rw [e1, e2]
    conv => lhs; rw [e3]
    exact or_bv _ _
  · rw [BitVec.toNat_or, Nat.or_mod_two_pow, BitVec.toNat_and, Nat.and_mod_two_pow, BitVec.toNat_not, BitVec.toNat_ofNat, BitVec.toNat_ofNat, BitVec.toNat_ofNat]
    rw [Nat.mod_eq_of_lt (show 2 ^ D - 1 < 2 ^ 32 by omega), Nat.mod_eq_of_lt (show v % 2 ^ D < 2 ^ 32 by omega), Nat.mod_mod]
    have e4 : (2 ^ 32 - 1 - (2 ^ D - 1)) % 2 ^ D = 0 := by
      have h32 : 2 ^ 32 = 2 ^ D * 2 ^ (32 - D) := by rw [← Nat.pow_add]; congr 1; omega
      rw [show 2 ^ 32 - 1 - (2 ^ D - 1) = 2 ^ 32 - 2 ^ D from by omega, h32]
      have : 2 ^ D * 2 ^ (32 - D) - 2 ^ D = 2 ^ D * (2 ^ (32 - D) - 1) := by rw [Nat.mul_sub, Nat.mul_one]
      rw [this, Nat.mul_mod_right]
    rw [e4]
    simp
theorem find_more {l : List Int} (hg : Good l) {u D : Nat} (hD : D ≤ 15) (h5 : (findN l (u % 2 ^ D) D).2.2 ≠ 5) : findN l (u % 2 ^ 15) 15 = findN l (u % 2 ^ D) D := by
  have hm : ∀ j, ln l j ≤ D → (mt l j (u % 2 ^ 15) ↔ mt l j (u % 2 ^ D)) := fun j hj => by
    unfold mt
    rw [mod_mod_pow u (show ln l j ≤ 15 by omega), mod_mod_pow u hj]
  cases hh : hitN l (u % 2 ^ D) D with
  | some j =>
    obtain ⟨a, b⟩ := hit_some hh
    have := hg.hit ((hm j b).2 a) (hg.at_ j).1
    unfold findN
    rw [hh, this]
  | none =>
    have hb : begN l (u % 2 ^ D) D = false := by
      cases hb : begN l (u % 2 ^ D) D with
      | false => rfl
      | true =>
        exfalso
        apply h5
        unfold findN
        rw [hh]
        simp [hb]
    have hno : hitN l (u % 2 ^ 15) 15 = none := by
      cases hx : hitN l (u % 2 ^ 15) 15 with
      | none => rfl
      | some j =>
        exfalso
        obtain ⟨a, b⟩ := hit_some hx
        by_cases hj : ln l j ≤ D
        · have := hg.hit ((hm j hj).1 a) hj
          rw [hh] at this
          cases this
        · have : begN l (u % 2 ^ D) D = true := (begN_iff hg).2 ⟨j, by omega, by rw [← a.2, mod_mod_pow u (show ln l j ≤ 15 by omega), mod_mod_pow u (by omega)]⟩
          rw [hb] at this
          cases this
    have hb2 : begN l (u % 2 ^ 15) 15 = false := by
      cases hb : begN l (u % 2 ^ 15) 15 with
      | false => rfl
      | true =>
        exfalso
        obtain ⟨j, a, _⟩ := (begN_iff hg).1 hb
        have := (hg.at_ j).1
        omega
    unfold findN
    rw [hh, hno]
    simp [hb, hb2]
set_option maxHeartbeats 4000000 in
set_option maxRecDepth 100000 in
theorem tableMore_walk (A : Option Addr) (c : Nat) (l : List Int) (vi wi n : Int) (w : World) (h00 : RowOf w .i64 A c l) (h01 : (Lit.int .u32 vi).wf = true) (h02 : (Lit.int .u32 wi).wf = true) (h03 : (Lit.int .i64 n).wf = true) :
    Calls Try.prog 8 #[.slice A l.length c, .int .u32 vi, .int .u32 wi, .int .i64 n] w fun e w' => e = .returned (.bool true) ∧ Below w.heap.size w w' := by
  have ht := fun W => Lib.hid (told8 W)
  have hm := h00.most
  have hcap := h00.cap
  obtain ⟨v, rfl, hv⟩ := u32_nat h01
  obtain ⟨x, rfl, hx⟩ := u32_nat h02
  by_cases h1 : 100 < l.length
  · have h1' : decide ((100 : Int) < l.length) = true := by simp; omega
    go_enter Try.func8, Try.ntmps8
    go_wp2_with (go_at_call 18; refine (ht _).out.mono ?_; rintro e w' ⟨rfl, hb⟩)
    go_ret
    exact ⟨rfl, hb⟩
  have h1' : decide ((100 : Int) < l.length) = false := by simp; omega
  by_cases hok : codesErr l = 0
  · have hgd := good_of hok
    obtain ⟨D, hD, eD⟩ := uint_rem n 16 (by omega) (by omega)
    rw [show ((16 : Nat) : Int) = 16 from rfl] at eD
    have hm1 := mask_u32 v D (by omega)
    obtain ⟨u, hu, hu1, hu2⟩ := mix_u32 hv hx (show D ≤ 15 by omega)
    have HN := Lib.hid (tab_new h00 hok 6 (by omega) (by omega))
    have hmore := find_more hgd (u := u) (show D ≤ 15 by omega)
    have H1 := fun (W : World) (p : Nat) (hT : TOk W w.heap.size l p 6) => hT.find v hv D D (by omega)
    have H2 := fun (W : World) (p : Nat) (hT : TOk W w.heap.size l p 6) => hT.find u hu D D (by omega)
    have H3 := fun (W : World) (p : Nat) (hT : TOk W w.heap.size l p 6) => hT.find u hu 15 15 (by omega)
    rw [hu2] at H2 hmore
    have HD := Lib.hid eD
    obtain ⟨⟨a1, a2, a3⟩, hres⟩ : ∃ r, findN l (v % 2 ^ D) D = r := ⟨_, rfl⟩
    rw [hres] at H1 H2 hmore
    simp only at H1 H2 hmore
    have H1 := Lib.hid H1
    have H2 := Lib.hid H2
    have H3 := Lib.hid H3
    have HMORE := Lib.hid hmore
    clear hmore hok hu2
    have e4 : ((a1 : Int) != a1) = false := by simp
    have e5 : ((a2 : Int) != a2) = false := by simp
    have e6 : ((a3 : Int) != a3) = false := by simp
    have e4' : (a1 != a1) = false := by simp
    have e5' : (a2 != a2) = false := by simp
    have e6' : (a3 != a3) = false := by simp
    clear hres
    generalize v % 2 ^ D = vm at *
    go_enter Try.func8, Try.ntmps8
    go_wp2_with fail
    refine HN.out.mono ?_
    rintro e w1 ⟨p, rfl, hT, hp, hb1⟩
    go_wp2_with fail
    refine (H1.out _ p hT).mono ?_
    rintro e w2 ⟨rfl, hb2⟩
    have hT2 := hT.below hb2
    have hB2 := hb1.trans (hb2.mono hb1.size)
    go_wp2_with fail
    refine (H2.out _ p hT2).mono ?_
    rintro e w3 ⟨rfl, hb3⟩
    have hT3 := hT2.below hb3
    have hB3 := hB2.trans (hb3.mono hB2.size)
    clear hT hT2
    by_cases h5 : a3 = 5
    · subst h5
      go_wp2_with fail
      refine (H3.out _ p hT3).mono ?_
      rintro e w4 ⟨rfl, hb4⟩
      have hB4 := hB3.trans (hb4.mono hB3.size)
      go_wp2_with fail
      refine (ht _).out.mono ?_
      rintro e w9 ⟨rfl, hb9⟩
      go_wp2_with fail
      go_ret
      exact ⟨rfl, hB4.trans (hb9.mono hB4.size)⟩
    · have hmm := HMORE.out h5
      rw [hmm] at H3
      have e7 : ((a3 : Int) == 5) = false := by rw [beq_eq_false_iff_ne]; omega
      have e8 : ((a1 : Int) == a1) = true := by simp
      have e9 : ((a2 : Int) == a2) = true := by simp
      have e10 : ((a3 : Int) == a3) = true := by simp
      clear hmm h5
      go_wp2_with fail
      refine (H3.out _ p hT3).mono ?_
      rintro e w4 ⟨rfl, hb4⟩
      have hB4 := hB3.trans (hb4.mono hB3.size)
      go_wp2_with fail
      refine (ht _).out.mono ?_
      rintro e w9 ⟨rfl, hb9⟩
      go_wp2_with fail
      go_ret
      exact ⟨rfl, hB4.trans (hb9.mono hB4.size)⟩
  · have ce0 : (codesErr l != 0) = true := by simpa using hok
    have H1 := Lib.hid (tab_new_bad1 A c l w h00 hok 6)
    clear hok
    generalize codesErr l = ce at *
    go_enter Try.func8, Try.ntmps8
    go_wp2_with fail
    refine H1.out.mono ?_
    rintro e w1 ⟨rfl, hb1⟩
    go_wp2_with fail
    refine (ht _).out.mono ?_
    rintro e w9 ⟨rfl, hb9⟩
    go_wp2_with fail
    go_ret
    exact ⟨rfl, hb1.trans (hb9.mono hb1.size)⟩
end Go.Proofs.Ytepphflpeobkhaa
