import Derived.Test.YtoofkcbgldbfpaaRRRBlkR
import Derived.Test.YtoofkcbgldbfpaaRRRMay
import Derived.Test.YtoofkcbgldbfpaaRRRArgs
namespace Go.Proofs.YtoofkcbgldbfpaaRRR
set_option linter.unusedVariables false
set_option linter.unusedSimpArgs false
open Go.RowKit
attribute [local go_sem] max2i min2i max2t min2t

def storedN (n : Int) : Int := if n < 0 then 0 else if n = 0 then 5 else min n 1073741824 + 5 * ((min n 1073741824 + 65534) / 65535)
set_option maxHeartbeats 1600000 in
set_option maxRecDepth 100000 in
theorem blk_most (n : Int) (w : World) : Calls Try.prog 28 #[.int .i64 n] w fun e w' => e = .returned (.int .i64 (min (max n 0) 1073741824)) ∧ w' = w := by
  go_enter Try.func28, Try.ntmps28
  go_wp2_with fail
  go_ret
  exact ⟨rfl, rfl⟩
set_option maxHeartbeats 1600000 in
set_option maxRecDepth 100000 in
theorem blk_stored (n : Int) (w : World) : Calls Try.prog 13 #[.int .i64 n] w fun e w' => e = .returned (.int .i64 (storedN n)) ∧ w' = w := by
  unfold storedN
  by_cases h1 : n < 0
  · have e1 : decide (n < 0) = true := by simpa using h1
    rw [if_pos h1]
    go_enter Try.func13, Try.ntmps13
    go_wp2_with fail
    go_ret
    exact ⟨rfl, rfl⟩
  · have e1 : decide (n < 0) = false := by simp; omega
    rw [if_neg h1]
    by_cases h2 : n = 0
    · have e2 : (n == 0) = true := by simpa using h2
      rw [if_pos h2]
      clear h2
      go_enter Try.func13, Try.ntmps13
      go_wp2_with fail
      go_ret
      exact ⟨rfl, rfl⟩
    · have e2 : (n == 0) = false := by simpa using h2
      rw [if_neg h2]
      have hm : max n 0 = n := by omega
      have HM := Lib.hid (blk_most n)
      rw [hm] at HM
      have hb : 0 ≤ min n 1073741824 ∧ min n 1073741824 ≤ 1073741824 := by omega
      generalize min n 1073741824 = m at *
      clear hm h2
      go_enter Try.func13, Try.ntmps13
      go_wp2_with fail
      refine (HM.out _).mono ?_
      rintro e w1 ⟨rfl, hw⟩
      subst hw
      go_wp2_with fail
      go_ret
      exact ⟨rfl, rfl⟩
set_option maxHeartbeats 1600000 in
set_option maxRecDepth 100000 in
theorem ref_stored (n : Int) (w : World) : Calls Try.prog 14 #[.int .i64 n] w fun e w' => e = .returned (.int .i64 (storedN n)) ∧ w' = w := by
  unfold storedN
  by_cases h1 : n < 0
  · have e1 : decide (n < 0) = true := by simpa using h1
    rw [if_pos h1]
    go_enter Try.func14, Try.ntmps14
    go_wp2_with fail
    go_ret
    exact ⟨rfl, rfl⟩
  · have e1 : decide (n < 0) = false := by simp; omega
    rw [if_neg h1]
    by_cases h2 : n = 0
    · have e2 : (n == 0) = true := by simpa using h2
      rw [if_pos h2]
      clear h2
      go_enter Try.func14, Try.ntmps14
      go_wp2_with fail
      go_ret
      exact ⟨rfl, rfl⟩
    · have e2 : (n == 0) = false := by simpa using h2
      rw [if_neg h2]
      have hb : 1 ≤ min n 1073741824 ∧ min n 1073741824 ≤ 1073741824 := by omega
      have hq : min n 1073741824 + 5 * ((min n 1073741824 + 65534) / 65535) = min n 1073741824 + 5 * ((min n 1073741824 - 1) / 65535 + 1) := by omega
      rw [hq]
      clear hq
      generalize hm : min n 1073741824 = m at *
      clear h2
      go_enter Try.func14, Try.ntmps14
      go_wp2_with fail
      go_ret
      exact ⟨rfl, rfl⟩

def fixL (s : Int) : Int := if s < 144 then 8 else if s < 256 then 9 else if s < 280 then 7 else 8
theorem fixL_range (s : Int) : 7 ≤ fixL s ∧ fixL s ≤ 9 := by unfold fixL; split <;> (try split) <;> (try split) <;> omega
theorem symM_range (n : Int) (wide : Bool) : 0 ≤ symM n wide ∧ symM n wide ≤ 16 := by
  unfold symM
  split
  · omega
  · split
    · omega
    · split
      · omega
      · rename_i h1 h2 h3
        have := (len_small _ (lenIx_is (n := n.toNat) (by omega) (by omega)).1).2.2.1
        omega
theorem farM_range (n : Int) (wide : Bool) : 0 ≤ farM n wide ∧ farM n wide ≤ 14 := by
  unfold farM
  split
  · omega
  · have := (far_small _ (farIx_is (n := n.toNat) (by omega) (by omega)).1).2.2.1
    omega
def tokC (a b c : Int) (wide : Bool) : Int := if a = 0 then fixL c else fixL (symS a wide) + symM a wide + 5 + farM b wide
theorem tokC_range (a b c : Int) (wide : Bool) : 0 ≤ tokC a b c wide ∧ tokC a b c wide ≤ 44 := by
  have h1 := fixL_range c
  have h2 := fixL_range (symS a wide)
  have h3 := symM_range a wide
  have h4 := farM_range b wide
  unfold tokC
  split <;> omega
set_option maxHeartbeats 1600000 in
set_option maxRecDepth 100000 in
theorem blk_fixedLen (s : Int) (far : Bool) (w : World) : Calls Try.prog 26 #[.int .i64 s, .bool far] w fun e w' => e = .returned (.int .i64 (if far then 5 else fixL s)) ∧ w' = w := by
  cases far with
  | true =>
    go_enter Try.func26, Try.ntmps26
    go_wp2_with fail
    go_ret
    exact ⟨rfl, rfl⟩
  | false =>
    unfold fixL
    by_cases h1 : s < 144
    · have e1 : decide (s < 144) = true := by simpa using h1
      rw [if_neg (by simp), if_pos h1]
      go_enter Try.func26, Try.ntmps26
      go_wp2_with fail
      go_ret
      exact ⟨rfl, rfl⟩
    · have e1 : decide (s < 144) = false := by simp; omega
      by_cases h2 : s < 256
      · have e2 : decide (s < 256) = true := by simpa using h2
        rw [if_neg (by simp), if_neg h1, if_pos h2]
        go_enter Try.func26, Try.ntmps26
        go_wp2_with fail
        go_ret
        exact ⟨rfl, rfl⟩
      · have e2 : decide (s < 256) = false := by simp; omega
        by_cases h3 : s < 280
        · have e3 : decide (s < 280) = true := by simpa using h3
          rw [if_neg (by simp), if_neg h1, if_neg h2, if_pos h3]
          go_enter Try.func26, Try.ntmps26
          go_wp2_with fail
          go_ret
          exact ⟨rfl, rfl⟩
        · have e3 : decide (s < 280) = false := by simp; omega
          rw [if_neg (by simp), if_neg h1, if_neg h2, if_neg h3]
          go_enter Try.func26, Try.ntmps26
          go_wp2_with fail
          go_ret
          exact ⟨rfl, rfl⟩
set_option maxHeartbeats 1600000 in
set_option maxRecDepth 100000 in
theorem blk_cost (a b c : Int) (wide : Bool) (w : World) (ha : (Lit.int .i64 a).wf = true) (hb : (Lit.int .i64 b).wf = true) (hc : 0 ≤ c ∧ c < 256) :
    Calls Try.prog 25 #[.agg #[.int .i64 a, .int .i64 b, .int .u8 c], .bool wide, .func (Fn.func 26) #[] #[]] w fun e w' => e = .returned (.int .i64 (tokC a b c wide)) ∧ Same (fun _ => False) w w' := by
  unfold tokC
  by_cases h0 : a = 0
  · have e0 : (a == 0) = true := by simpa using h0
    rw [if_pos h0]
    have HF := Lib.hid (fun W => blk_fixedLen c false W)
    rw [if_neg (by simp)] at HF
    clear h0
    go_enter Try.func25, Try.ntmps25
    go_wp2_with fail
    refine (HF.out _).mono ?_
    rintro e w2 ⟨rfl, hw⟩
    subst hw
    go_wp2_with fail
    go_ret
    exact ⟨rfl, (Same.refl _).alloc _⟩
  · have e0 : (a == 0) = false := by simpa using h0
    rw [if_neg h0]
    have HS := Lib.hid (fun W => blk_symbol a wide W ha)
    have HR := Lib.hid (fun W => blk_reach b wide W hb)
    have HF := Lib.hid (fun W => blk_fixedLen (symS a wide) false W)
    rw [if_neg (by simp)] at HF
    have HG := Lib.hid (fun W => blk_fixedLen (farS b wide) true W)
    rw [if_pos rfl] at HG
    have h1 := fixL_range (symS a wide)
    have h2 := symM_range a wide
    have h3 := farM_range b wide
    clear h0
    generalize fixL (symS a wide) = x1 at *
    generalize symS a wide = x2 at *
    generalize symM a wide = x3 at *
    generalize symV a wide = x4 at *
    generalize farS b wide = x5 at *
    generalize farM b wide = x6 at *
    generalize farV b wide = x7 at *
    go_enter Try.func25, Try.ntmps25
    go_wp2_with fail
    refine (HS.out _).mono ?_
    rintro e w2 ⟨rfl, hw⟩
    subst hw
    go_wp2_with fail
    refine (HR.out _).mono ?_
    rintro e w2 ⟨rfl, hw⟩
    subst hw
    go_wp2_with fail
    refine (HF.out _).mono ?_
    rintro e w2 ⟨rfl, hw⟩
    subst hw
    go_wp2_with fail
    refine (HG.out _).mono ?_
    rintro e w2 ⟨rfl, hw⟩
    subst hw
    go_wp2_with fail
    go_ret
    exact ⟨rfl, (Same.refl _).alloc _⟩
abbrev TokS := S43
def fixG (wide : Bool) : List TokS → Int → Int
  | [], n => n
  | t :: l, n => if mayN t.f0 t.f1 t.f2 wide then fixG wide l (n + tokC t.f0 t.f1 t.f2 wide) else -1
structure FxRel (w : World) (l : List TokS) (wide : Bool) (g : Nat) (v5 v10 : Value) (wr : World) : Prop where mk ::
  out_ : ∃ (k : Nat) (n : Int), k ≤ l.length ∧ l.length ≤ g + k ∧ v5 = .int .i64 n ∧ v10 = .int .i64 (k : Int) ∧ 0 ≤ n ∧ n ≤ 10 + 44 * k ∧ fixG wide l 10 = fixG wide (l.drop k) n ∧ Below w.heap.size w wr
set_option maxHeartbeats 1600000 in
set_option maxRecDepth 100000 in
theorem blk_fixed (A : Option Addr) (c : Nat) (l : List TokS) (wide : Bool) (w : World) (h00 : RowS w 3 A c l S43.enc (S43.ok w)) (hl : l.length ≤ 1000000) :
    Calls Try.prog 11 #[.slice A l.length c, .bool wide] w fun e w' => e = .returned (.int .i64 (fixG wide l 10)) ∧ Below w.heap.size w w' := by
  go_enter Try.func11, Try.ntmps11
  go_wp2_with fail
  go_loopg [5, 10] l.length (FxRel w l wide)
  case atStart => exact ⟨0, 10, by omega, by omega, rfl, rfl, by omega, by omega, rfl, Below.refl _ _⟩
  case round =>
    obtain ⟨k, n, hk, hg, rfl, rfl, hn0, hn1, hE, hb⟩ := hrel
    by_cases hlt : k < l.length
    · obtain ⟨x, hx⟩ : ∃ x, l[k]? = some x := ⟨_, List.getElem?_eq_getElem hlt⟩
      obtain ⟨b, off, rfl, q0, q1, q2⟩ := S43.at_ h00 hb hx
      have hdr : l.drop k = x :: l.drop (k + 1) := by
        obtain ⟨h1, e1⟩ := List.getElem?_eq_some_iff.1 hx
        rw [List.drop_eq_getElem_cons h1, e1]
      rw [hdr, fixG] at hE
      obtain ⟨y0, y1, y2⟩ := h00.ok x (List.mem_of_getElem? hx)
      obtain ⟨f0, f1, f2⟩ := x
      simp only at q0 q1 q2 y0 y1 y2 hE
      have HM := Lib.hid (fun W => lz_may f0 f1 f2 wide W)
      have HE := Lib.hid hE
      clear hx hdr hE
      cases hm : mayN f0 f1 f2 wide with
      | false =>
        rw [hm] at HM HE
        go_wp2_with fail
        refine (HM.out _).mono ?_
        rintro e w2 ⟨rfl, s2⟩
        go_wp2_with fail
        go_ret
        rw [HE.out]
        exact ⟨rfl, s2.below_of (hb.alloc hb.size _) (Nat.le_trans hb.size (by simp)) (fun _ _ c => c)⟩
      | true =>
        rw [hm] at HM HE
        rw [if_pos rfl] at HE
        go_wp2_with fail
        refine (HM.out _).mono ?_
        rintro e w2 ⟨rfl, s2⟩
        have r0 : w2.cell? ⟨wr.heap.size, 0, none⟩ = some (.int .i64 f0) := s2.cell (a := ⟨wr.heap.size, 0, none⟩) (by simp) (fun c => c)
        have r1 : w2.cell? ⟨wr.heap.size, 1, none⟩ = some (.int .i64 f1) := s2.cell (a := ⟨wr.heap.size, 1, none⟩) (by simp) (fun c => c)
        have r2 : w2.cell? ⟨wr.heap.size, 2, none⟩ = some (.int .u8 f2) := s2.cell (a := ⟨wr.heap.size, 2, none⟩) (by simp) (fun c => c)
        have hf2 : 0 ≤ f2 ∧ f2 < 256 := by
          simp [Lit.wf, IntKind.min, IntKind.max, IntKind.bits, IntKind.signed] at y2; omega
        have HC := Lib.hid (fun W => blk_cost f0 f1 f2 wide W y0 y1 hf2)
        have hcr := tokC_range f0 f1 f2 wide
        generalize tokC f0 f1 f2 wide = tc at *
        go_wp2_with fail
        refine (HC.out _).mono ?_
        rintro e w3 ⟨rfl, s3⟩
        have hb3 := s3.below_of (s2.below_of (hb.alloc hb.size _) (Nat.le_trans hb.size (by simp)) (fun _ _ c => c)) (s2.below_of (hb.alloc hb.size _) (Nat.le_trans hb.size (by simp)) (fun _ _ c => c)).size (fun _ _ c => c)
        have hn2 : n ≤ 44000010 := by omega
        go_wp2_with fail
        go_roundg (gk - 1)
        case measure => omega
        case rel => exact ⟨k + 1, n + tc, by omega, by omega, rfl, by go_num, by omega, by omega, HE.out, hb3⟩
    · have hkl : k = l.length := by omega
      subst hkl
      rw [List.drop_length, fixG] at hE
      have HE := Lib.hid hE
      clear hE
      go_wp2_with fail
      go_ret
      rw [HE.out]
      exact ⟨rfl, hb⟩
structure FyRel5 (w : World) (l : List TokS) (wide : Bool) (g : Nat) (v5 v6 : Value) (wr : World) : Prop where mk ::
  out_ : ∃ (k : Nat) (n : Int), k ≤ l.length ∧ l.length ≤ g + k ∧ v5 = .int .i64 n ∧ v6 = .int .i64 (k : Int) ∧ 0 ≤ n ∧ n ≤ 10 + 44 * k ∧ fixG wide l 10 = fixG wide (l.drop k) n ∧ Below w.heap.size w wr
set_option maxHeartbeats 1600000 in
set_option maxRecDepth 100000 in
theorem ref_fixed (A : Option Addr) (c : Nat) (l : List TokS) (wide : Bool) (w : World) (h00 : RowS w 3 A c l S43.enc (S43.ok w)) (hl : l.length ≤ 1000000) :
    Calls Try.prog 12 #[.slice A l.length c, .bool wide] w fun e w' => e = .returned (.int .i64 (fixG wide l 10)) ∧ Below w.heap.size w w' := by
  go_enter Try.func12, Try.ntmps12
  go_wp2_with fail
  go_loopg [5, 6] l.length (FyRel5 w l wide)
  case atStart => exact ⟨0, 10, by omega, by omega, rfl, rfl, by omega, by omega, rfl, Below.refl _ _⟩
  case round =>
    obtain ⟨k, n, hk, hg, rfl, rfl, hn0, hn1, hE, hb⟩ := hrel
    by_cases hlt : k < l.length
    · obtain ⟨x, hx⟩ : ∃ x, l[k]? = some x := ⟨_, List.getElem?_eq_getElem hlt⟩
      obtain ⟨b, off, rfl, q0, q1, q2⟩ := S43.at_ h00 hb hx
      have hdr : l.drop k = x :: l.drop (k + 1) := by
        obtain ⟨h1, e1⟩ := List.getElem?_eq_some_iff.1 hx
        rw [List.drop_eq_getElem_cons h1, e1]
      rw [hdr, fixG] at hE
      obtain ⟨y0, y1, y2⟩ := h00.ok x (List.mem_of_getElem? hx)
      obtain ⟨f0, f1, f2⟩ := x
      simp only at q0 q1 q2 y0 y1 y2 hE
      have HM := Lib.hid (fun W => ref_may f0 f1 f2 wide W)
      have HE := Lib.hid hE
      clear hx hdr hE
      cases hm : mayN f0 f1 f2 wide with
      | false =>
        rw [hm] at HM HE
        go_wp2_with fail
        refine (HM.out _).mono ?_
        rintro e w2 ⟨rfl, s2⟩
        go_wp2_with fail
        go_ret
        rw [HE.out]
        exact ⟨rfl, s2.below_of (hb.alloc hb.size _) (Nat.le_trans hb.size (by simp)) (fun _ _ c => c)⟩
      | true =>
        rw [hm] at HM HE
        rw [if_pos rfl] at HE
        have hf2 : 0 ≤ f2 ∧ f2 < 256 := by
          simp [Lit.wf, IntKind.min, IntKind.max, IntKind.bits, IntKind.signed] at y2; omega
        have ht := tokC_range f0 f1 f2 wide
        have htc : tokC f0 f1 f2 wide = if f0 = 0 then fixL f2 else fixL (symS f0 wide) + symM f0 wide + 5 + farM f1 wide := rfl
        have hpos : f0 = 0 ∨ 3 ≤ f0 := by
          by_cases h0 : f0 = 0
          · exact .inl h0
          · right
            unfold mayN at hm
            rw [if_neg h0] at hm
            simp at hm
            omega
        clear hm
        go_wp2_with fail
        refine (HM.out _).mono ?_
        rintro e w2 ⟨rfl, s2⟩
        have hb2 := s2.below_of (hb.alloc hb.size _) (Nat.le_trans hb.size (by simp)) (fun _ _ c => c)
        have r0 : w2.cell? ⟨wr.heap.size, 0, none⟩ = some (.int .i64 f0) := s2.cell (a := ⟨wr.heap.size, 0, none⟩) (by simp) (fun c => c)
        have r1 : w2.cell? ⟨wr.heap.size, 1, none⟩ = some (.int .i64 f1) := s2.cell (a := ⟨wr.heap.size, 1, none⟩) (by simp) (fun c => c)
        have r2 : w2.cell? ⟨wr.heap.size, 2, none⟩ = some (.int .u8 f2) := s2.cell (a := ⟨wr.heap.size, 2, none⟩) (by simp) (fun c => c)
        rcases hpos with rfl | hpos
        · have e0 : decide ((0 : Int) < 0) = false := by simp
          rw [if_pos rfl] at htc
          have HTC := Lib.hid htc
          unfold fixL at HTC
          clear htc
          generalize tokC 0 f1 f2 wide = tc at *
          by_cases c1 : f2 < 144
          · have g1 : decide (f2 < 144) = true := by simpa using c1
            rw [if_pos c1] at HTC
            go_wp2_with fail
            go_roundg (gk - 1)
            case measure => omega
            case rel => exact ⟨k + 1, _, by omega, by omega, rfl, by go_num, by omega, by omega, by rw [HE.out]; congr 1; have := HTC.out; omega, hb2⟩
          · have g1 : decide (f2 < 144) = false := by simp; omega
            have g2 : decide ((280 : Int) ≤ f2) = false := by simp; omega
            have g3 : decide (f2 < 256) = true := by simp; omega
            rw [if_neg c1, if_pos (by omega)] at HTC
            go_wp2_with fail
            go_roundg (gk - 1)
            case measure => omega
            case rel => exact ⟨k + 1, _, by omega, by omega, rfl, by go_num, by omega, by omega, by rw [HE.out]; congr 1; have := HTC.out; omega, hb2⟩
        · have e0 : decide ((0 : Int) < f0) = true := by simp; omega
          rw [if_neg (by omega)] at htc
          have HS := Lib.hid (fun W => ref_symbol f0 wide W y0)
          have hb1 : -9223372036854775808 ≤ f1 ∧ f1 ≤ 9223372036854775807 := by
            simp [Lit.wf, IntKind.min, IntKind.max, IntKind.bits, IntKind.signed] at y1; omega
          have HR := Lib.hid (fun W => ref_reach f1 wide W hb1.1 hb1.2)
          have h2 := symM_range f0 wide
          have h3 := farM_range f1 wide
          have HTC := Lib.hid htc
          clear htc
          generalize tokC f0 f1 f2 wide = tc at *
          generalize symS f0 wide = x2 at *
          generalize symM f0 wide = x3 at *
          generalize symV f0 wide = x4 at *
          generalize farS f1 wide = x5 at *
          generalize farM f1 wide = x6 at *
          generalize farV f1 wide = x7 at *
          unfold fixL at HTC
          have hn2 : n ≤ 44000010 := by omega
          go_wp2_with fail
          refine (HS.out _).mono ?_
          rintro e w3 ⟨rfl, hw⟩
          subst hw
          go_wp2_with fail
          refine (HR.out _).mono ?_
          rintro e w3 ⟨rfl, hw⟩
          subst hw
          by_cases c1 : x2 < 144
          · have g1 : decide (x2 < 144) = true := by simpa using c1
            rw [if_pos c1] at HTC
            go_wp2_with fail
            go_roundg (gk - 1)
            case measure => omega
            case rel => exact ⟨k + 1, _, by omega, by omega, rfl, by go_num, by omega, by omega, by rw [HE.out]; congr 1; have := HTC.out; omega, hb2⟩
          · have g1 : decide (x2 < 144) = false := by simp; omega
            rw [if_neg c1] at HTC
            by_cases c2 : 280 ≤ x2
            · have g2 : decide ((280 : Int) ≤ x2) = true := by simpa using c2
              rw [if_neg (by omega), if_neg (by omega)] at HTC
              go_wp2_with fail
              go_roundg (gk - 1)
              case measure => omega
              case rel => exact ⟨k + 1, _, by omega, by omega, rfl, by go_num, by omega, by omega, by rw [HE.out]; congr 1; have := HTC.out; omega, hb2⟩
            · have g2 : decide ((280 : Int) ≤ x2) = false := by simp; omega
              by_cases c3 : x2 < 256
              · have g3 : decide (x2 < 256) = true := by simpa using c3
                rw [if_pos c3] at HTC
                go_wp2_with fail
                go_roundg (gk - 1)
                case measure => omega
                case rel => exact ⟨k + 1, _, by omega, by omega, rfl, by go_num, by omega, by omega, by rw [HE.out]; congr 1; have := HTC.out; omega, hb2⟩
              · have g3 : decide (x2 < 256) = false := by simp; omega
                rw [if_neg c3, if_pos (by omega)] at HTC
                go_wp2_with fail
                go_roundg (gk - 1)
                case measure => omega
                case rel => exact ⟨k + 1, _, by omega, by omega, rfl, by go_num, by omega, by omega, by rw [HE.out]; congr 1; have := HTC.out; omega, hb2⟩
    · have hkl : k = l.length := by omega
      subst hkl
      rw [List.drop_length, fixG] at hE
      have HE := Lib.hid hE
      clear hE
      go_wp2_with fail
      go_ret
      rw [HE.out]
      exact ⟨rfl, hb⟩
end Go.Proofs.YtoofkcbgldbfpaaRRR
