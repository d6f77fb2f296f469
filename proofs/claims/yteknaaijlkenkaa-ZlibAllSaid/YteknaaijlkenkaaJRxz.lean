import Derived.Test.YteknaaijlkenkaaInfU
import Derived.Test.YteknaaijlkenkaaAdl
import Derived.Test.YteknaaijlkenkaaRxR
import Derived.Test.YteknaaijlkenkaaZlQ
import Derived.Test.YteknaaijlkenkaaZlD
import Derived.Test.YteknaaijlkenkaaZlU
namespace Go.Proofs.Yteknaaijlkenkaa
set_option linter.unusedVariables false
set_option linter.unusedSimpArgs false

/-! ### a run never leaves its bytes, and what comes out is bytes -/
theorem getG_al {bs : List Int} {a n v : Nat} (h : getG bs a n = .ok v) (ha : a ≤ 8 * bs.length) : a + n ≤ 8 * bs.length := by
  have := (getG_ok h).1
  unfold lf at this
  omega
theorem smallG_al {bs : List Int} : ∀ (r : List Nat) (l l' : List Int) (a a' : Nat), smallG bs r l a = .ok (l', a') → a ≤ 8 * bs.length → a' ≤ 8 * bs.length
  | [], l, l', a, a', h, ha => by rw [smallG] at h; injection h with h; simp only [Prod.mk.injEq] at h; omega
  | s :: r, l, l', a, a', h, ha => by
    rw [smallG] at h
    split at h
    · cases h
    · rename_i h1
      exact smallG_al r _ l' _ a' h (getG_al h1 ha)
theorem rowOne_al {bs out : List Int} {s a : Nat} {v : Int} {t a' : Nat} (h : rowOne bs out s a = .ok (v, t, a')) (ha : a ≤ 8 * bs.length) : a' ≤ 8 * bs.length := by
  unfold rowOne at h
  split at h
  · injection h with h; simp only [Prod.mk.injEq] at h; omega
  · split at h
    · split at h
      · cases h
      · split at h
        · cases h
        · rename_i h1; have := getG_al h1 ha; injection h with h; simp only [Prod.mk.injEq] at h; omega
    · split at h
      · split at h
        · cases h
        · rename_i h1; have := getG_al h1 ha; injection h with h; simp only [Prod.mk.injEq] at h; omega
      · split at h
        · cases h
        · rename_i h1; have := getG_al h1 ha; injection h with h; simp only [Prod.mk.injEq] at h; omega
theorem symG_al {l bs : List Int} {a s m : Nat} (h : symG l bs a = .ok (s, m)) (ha : a ≤ 8 * bs.length) : a + m ≤ 8 * bs.length := by
  have := (symG_ok h).2.1
  unfold lf at this
  omega
theorem rowG_al {l bs : List Int} {m : Nat} : ∀ (k : Nat) (out row : List Int) (a a' : Nat), rowG l bs m k out a = .ok (row, a') → a ≤ 8 * bs.length → a' ≤ 8 * bs.length
  | 0, out, row, a, a', h, ha => by rw [rowG] at h; injection h with h; simp only [Prod.mk.injEq] at h; omega
  | k + 1, out, row, a, a', h, ha => by
    rw [rowG] at h
    split at h
    · injection h with h; simp only [Prod.mk.injEq] at h; omega
    · split at h
      · cases h
      · rename_i hsy
        split at h
        · cases h
        · rename_i hone
          have h1 := rowOne_al hone (symG_al hsy ha)
          split at h
          · cases h
          · exact rowG_al k _ row _ a' h h1
theorem headG_al {wide : Bool} {bs : List Int} {n : Nat} {la ld : List Int} {a : Nat} (h : headG wide bs n = .ok (la, ld, a)) (ha : n ≤ 8 * bs.length) : a ≤ 8 * bs.length := by
  unfold headG at h
  split at h
  · cases h
  · rename_i g1
    have a1 := getG_al g1 ha
    split at h
    · cases h
    · split at h
      · cases h
      · rename_i g2
        have a2 := getG_al g2 a1
        split at h
        · cases h
        · split at h
          · cases h
          · rename_i c1 h3
            have a3 := getG_al h3 a2
            cases hsg : smallG bs (ordL.take (c1 + 4)) (List.replicate 19 0) (n + 5 + 5 + 4) with
            | bad e => rw [hsg, headK] at h; cases h
            | ok q =>
              obtain ⟨l, a3'⟩ := q
              have h1 := smallG_al _ _ _ _ _ hsg a3
              rw [hsg, headK] at h
              split at h
              · cases h
              · split at h
                · cases h
                · rename_i row a4 hrow
                  have h2 := rowG_al _ _ _ _ _ hrow h1
                  split at h
                  · cases h
                  · injection h with h
                    simp only [Prod.mk.injEq] at h
                    omega
structure Bnd (x : I) : Prop where
  al : x.at_ ≤ 8 * x.bs.length
  bs : ∀ u ∈ x.bs, 0 ≤ u ∧ u < 256
  all : ∀ u ∈ x.all, 0 ≤ u ∧ u < 256
theorem ext_u8 {all : List Int} (h : ∀ u ∈ all, 0 ≤ u ∧ u < 256) (d : Nat) : ∀ n, ∀ u ∈ ext all d n, 0 ≤ u ∧ u < 256
  | 0, u, hu => h u hu
  | n + 1, u, hu => by
    rw [ext] at hu
    rcases List.mem_append.1 hu with hu | hu
    · exact ext_u8 h d n u hu
    · rw [List.mem_singleton] at hu
      subst hu
      rw [List.getD_eq_getElem?_getD]
      cases hg : (ext all d n)[(ext all d n).length - d]? with
      | none => exact ⟨by decide, by decide⟩
      | some v => exact ext_u8 h d n v (List.mem_of_getElem? hg)
theorem block_bnd {x y : I} (h : blockG x = .ok y) (hp : Bnd x) : Bnd y := by
  unfold blockG at h
  split at h
  · cases h
  · rename_i g1
    have a1 := getG_al g1 hp.al
    split at h
    · cases h
    · rename_i g2
      have a2 := getG_al g2 a1
      split at h
      · split at h
        · cases h
        · rename_i g3
          have := (getG_ok g3).1
          split at h
          · cases h
          · rename_i g4
            have h4 := (getG_ok g4).1
            split at h
            · cases h
            · injection h with h; subst h; exact ⟨by unfold lf at h4; simp only; omega, hp.bs, hp.all⟩
      · split at h
        · injection h with h; subst h; exact ⟨a2, hp.bs, hp.all⟩
        · split at h
          · split at h
            · cases h
            · rename_i hh
              injection h with h; subst h; exact ⟨headG_al hh a2, hp.bs, hp.all⟩
          · cases h
theorem raw_bnd {x y : I} (h : rawG x = .ok y) (hp : Bnd x) : Bnd y := by
  unfold rawG at h
  split at h
  · injection h with h; subst h; exact ⟨hp.al, hp.bs, hp.all⟩
  · split at h
    · cases h
    · split at h
      · cases h
      · injection h with h
        subst h
        have := hp.al
        refine ⟨by unfold lf; simp only; omega, hp.bs, fun u hu => ?_⟩
        rcases List.mem_append.1 hu with hu | hu
        · exact hp.all u hu
        · exact hp.bs u (List.mem_of_mem_drop (List.mem_of_mem_take hu))
theorem token_bnd {x y : I} (h : tokenG x = .ok y) (hp : Bnd x) : Bnd y := by
  unfold tokenG at h
  split at h
  · cases h
  · rename_i s m h1
    have a1 := symG_al h1 hp.al
    split at h
    · injection h with h; subst h; exact ⟨a1, hp.bs, hp.all⟩
    · split at h
      · split at h
        · cases h
        · injection h with h
          subst h
          refine ⟨a1, hp.bs, fun u hu => ?_⟩
          rcases List.mem_append.1 hu with hu | hu
          · exact hp.all u hu
          · rw [List.mem_singleton] at hu; subst hu; omega
      · split at h
        · cases h
        · split at h
          · cases h
          · rename_i g2
            have a2 := getG_al g2 a1
            split at h
            · cases h
            · rename_i h3
              have a3 := symG_al h3 a2
              split at h
              · cases h
              · split at h
                · cases h
                · rename_i g4
                  have a4 := getG_al g4 a3
                  split at h
                  · cases h
                  · split at h
                    · cases h
                    · injection h with h
                      subst h
                      exact ⟨a4, hp.bs, ext_u8 hp.all _ _⟩
theorem step_bnd {x y : I} (h : stepG x = .ok y) (hp : Bnd x) : Bnd y := by
  unfold stepG at h
  split at h
  · exact block_bnd h hp
  · split at h
    · exact raw_bnd h hp
    · exact token_bnd h hp
theorem run_bnd : ∀ (k : Nat) (x : I), Bnd x → x.raw ≤ 65535 → x.st ≤ 3 → Bnd (runP k x).1 ∧ (runP k x).1.bs = x.bs
  | 0, x, hp, _, _ => ⟨hp, rfl⟩
  | k + 1, x, hp, hr, h3 => by
    rw [runP]
    split
    · exact ⟨hp, rfl⟩
    · rename_i hs
      split
      · exact ⟨hp, rfl⟩
      · rename_i y hy
        have g := step_goes hy hr h3 hs
        obtain ⟨h1, h2⟩ := run_bnd k y (step_bnd hy hp) g.raw g.st
        exact ⟨h1, h2.trans g.bs⟩
/-- What comes out of a stream: bytes, no more than may; and no more are used than are there. -/
theorem allQ_fine {bs : List Int} (hb : ∀ u ∈ bs, 0 ≤ u ∧ u < 256) (wide : Bool) (size most : Nat) : (allQ bs wide size most).2.1 ≤ bs.length ∧ (allQ bs wide size most).1.length ≤ most ∧ ∀ u ∈ (allQ bs wide size most).1, 0 ≤ u ∧ u < 256 := by
  obtain ⟨h1, h2⟩ := run_bnd (16 * bs.length + 2) (startI bs wide size most) ⟨Nat.zero_le _, hb, fun u hu => by simp [startI] at hu⟩ (by simp [startI]) (by simp [startI])
  have h3 := run_pre (pre := []) (16 * bs.length + 2) (startI bs wide size most) ⟨rfl, by simp [startI]⟩
  have h4 := run_most (16 * bs.length + 2) (startI bs wide size most) (by simp [startI]) (by simp [startI])
  unfold allQ
  dsimp only
  split
  · have ha := h1.al
    rw [h2] at ha
    have hall : (runP (16 * bs.length + 2) (startI bs wide size most)).1.all = (runP (16 * bs.length + 2) (startI bs wide size most)).1.out := by rw [h3.all, List.nil_append]
    have hc := h3.cap
    rw [h4] at hc
    refine ⟨?_, ?_, ?_⟩
    · have : (startI bs wide size most).bs.length = bs.length := rfl
      simp only
      omega
    · simp only
      rw [← hall]
      exact hc
    · simp only
      rw [← hall]
      exact h1.all
  · exact ⟨by simp, by simp, fun u hu => by simp at hu⟩
end Go.Proofs.Yteknaaijlkenkaa
namespace Go.Proofs.Yteknaaijlkenkaa
open Go.RowKit

/-! ### stevedoreref1.Number of four bytes, the highest first -/
structure NumRel1 (w : World) (l : List Int) (f : Nat) (g : Nat) (v10 v11 : Value) (wr : World) : Prop where mk ::
  out_ : ∃ i : Nat, i ≤ 4 ∧ 4 ≤ g + i ∧ v10 = .int .u64 (beN l f i : Nat) ∧ v11 = .int .i64 (i : Int) ∧ wr = w
theorem be_or (l : List Int) (f i : Nat) (hi : i < 4) (hwf : ∀ x ∈ l, (Lit.int .u8 x).wf = true) (x : Int) (hx : l[f + i]? = some x) : bits .or .u64 (IntKind.u64.wrap ((beN l f i : Nat) * 256)) (IntKind.u64.wrap x) = ((beN l f (i + 1) : Nat) : Int) := by
  have hv := beN_lt l f hwf (i + 1)
  have hpw : 256 ^ (i + 1) ≤ 256 ^ 4 := Nat.pow_le_pow_right (by omega) (by omega)
  have h8 := hwf x (List.mem_of_getElem? hx)
  simp [Lit.wf, IntKind.min, IntKind.max, IntKind.bits, IntKind.signed] at h8
  have hd : l.getD (f + i) 0 = x := by rw [List.getD_eq_getElem?_getD, hx]; rfl
  rw [beN, hd] at hv
  rw [show beN l f (i + 1) = beN l f i * 256 + (l.getD (f + i) 0).toNat from rfl, hd]
  generalize beN l f i = v at *
  obtain ⟨y, rfl⟩ : ∃ y : Nat, x = (y : Int) := ⟨x.toNat, by omega⟩
  rw [Int.toNat_natCast] at *
  have e1 : IntKind.u64.wrap ((v : Int) * 256) = ((v * 256 : Nat) : Int) := by rw [IntKind.wrap]; simp [IntKind.signed, IntKind.bits]; omega
  have e2 : IntKind.u64.wrap (y : Int) = (y : Int) := by rw [IntKind.wrap]; simp [IntKind.signed, IntKind.bits]; omega
  rw [e1, e2]
  exact or_low8 v y (by omega) (by omega)
set_option maxHeartbeats 1600000 in
set_option maxRecDepth 100000 in
theorem ref_num1 (A : Option Addr) (c : Nat) (l : List Int) (f : Nat) (hf : f + 4 ≤ l.length) (hl : l.length ≤ 1000000000) (w : World) (h : RowOf w .u8 A c l) :
    Calls Try.prog 26 #[.slice A l.length c, .int .i64 f, .int .i64 4, .bool true] w fun e w' => e = .returned (.tuple #[.int .u64 (beN l f 4 : Nat), .int .i64 0]) ∧ w' = w := by
  have e3 : decide ((f : Int) < 0) = false := decide_eq_false (by omega)
  have e4 : decide ((l.length : Int) < f) = false := decide_eq_false (by omega)
  have e4' : decide (l.length < f) = false := decide_eq_false (by omega)
  have e5 : decide ((l.length : Int) - f < 4) = false := decide_eq_false (by omega)
  have hm := h.most
  have hcap := h.cap
  go_enter Try.func26, Try.ntmps26
  go_wp2_with fail
  go_loopg [10, 11] 4 (NumRel1 w l f)
  case atStart => exact ⟨⟨0, by omega, by omega, rfl, rfl, rfl⟩⟩
  case round =>
    obtain ⟨i, hi, hg, rfl, rfl, rfl⟩ := hrel.out_
    clear hrel
    rcases Nat.lt_or_ge i 4 with hlt | hge
    · have c1 : decide ((i : Int) < 4) = true := decide_eq_true (by omega)
      obtain ⟨x, hx⟩ : ∃ x, l[f + i]? = some x := ⟨_, List.getElem?_eq_getElem (by omega)⟩
      have HOR := Lib.hid (be_or l f i hlt h.wf x hx)
      obtain ⟨ad, hA, hcx⟩ := h.rd (f + i) x hx
      subst hA
      have hq : f + i < l.length := by omega
      obtain ⟨q, hqe⟩ : ∃ q, f + i = q := ⟨_, rfl⟩
      have hqi : (f : Int) + i = (q : Int) := by omega
      rw [hqe] at hcx hq
      have hor := HOR.out
      generalize beN l f i = v at *
      clear hqe hx HOR
      go_wp2_with fail
      go_roundg (gk - 1)
      case measure => omega
      case rel => exact ⟨⟨i + 1, by omega, by omega, by first | rw [← hor] | exact congrArg (Value.int .u64) hor | rfl, by rw [Int.natCast_add]; rfl, rfl⟩⟩
    · have hi4 : i = 4 := by omega
      subst hi4
      go_wp2_with fail
      go_ret2
      exact ⟨rfl, rfl⟩
set_option maxHeartbeats 1600000 in
set_option maxRecDepth 100000 in
theorem ref_num1S (A : Option Addr) (c len : Nat) (f : Nat) (hf : len < f + 4) (hl : len ≤ 1000000000) (hfr : f ≤ 2000000000) (w : World) :
    Calls Try.prog 26 #[.slice A len c, .int .i64 f, .int .i64 4, .bool true] w fun e w' => e = .returned (.tuple #[.int .u64 0, .int .i64 5]) ∧ w' = w := by
  have e3 : decide ((f : Int) < 0) = false := decide_eq_false (by omega)
  rcases Nat.lt_or_ge len f with h1 | h1
  · have e4 : decide ((len : Int) < f) = true := decide_eq_true (by omega)
    have e4' : decide (len < f) = true := decide_eq_true (by omega)
    go_enter Try.func26, Try.ntmps26
    go_wp2_with fail
    go_ret2
    exact ⟨rfl, rfl⟩
  · have e4 : decide ((len : Int) < f) = false := decide_eq_false (by omega)
    have e4' : decide (len < f) = false := decide_eq_false (by omega)
    have e5 : decide ((len : Int) - f < 4) = true := decide_eq_true (by omega)
    go_enter Try.func26, Try.ntmps26
    go_wp2_with fail
    go_ret2
    exact ⟨rfl, rfl⟩
end Go.Proofs.Yteknaaijlkenkaa
namespace Go.Proofs.Yteknaaijlkenkaa
open Go.RowKit
attribute [local go_sem] max2i min2i max2t min2t

/-! ### the reference's inflate: All answers as the machine does -/
theorem ends_allQ {bs : List Int} {wide : Bool} {size most : Nat} {y : I} {k : Nat} (h : Ends (startI bs wide size most) (y, k)) : allQ bs wide size most = if k = 0 then (y.all, (y.at_ + 7) / 8, 0) else ([], 0, if k = 5 then 2 else k) := by
  have h1 := ends_all h
  have h3 := run_pre (pre := []) (16 * bs.length + 2) (startI bs wide size most) ⟨rfl, by simp [startI]⟩
  rw [h1] at h3
  have hall : y.all = y.out := by rw [h3.all, List.nil_append]
  unfold allQ
  dsimp only
  rw [h1, hall]
set_option maxHeartbeats 4000000 in
set_option maxRecDepth 100000 in
theorem ref_all {A : Option Addr} {c : Nat} {bs : List Int} (wide : Bool) (size most : Nat) (h1 : 1 ≤ size) (h2 : size ≤ 65536) (hm : most ≤ 1073741824) (hl : bs.length ≤ 1000000000) (w : World) (hr : RowOf w .u8 A c bs) :
    Calls Try.prog 15 #[.slice A bs.length c, .bool wide, .int .i64 size, .int .i64 most] w fun e w' => AllPost w (allQ bs wide size most) e w' := by
  have CR := Lib.hid (rx_run wide size most hl hm w hr)
  have b1 : decide ((size : Int) < 1) = false := decide_eq_false (by omega)
  have b1' : decide (size < 1) = false := decide_eq_false (by omega)
  have b2 : decide ((65536 : Int) < size) = false := decide_eq_false (by omega)
  have b2' : decide (65536 < size) = false := decide_eq_false (by omega)
  have b3 : decide ((most : Int) < 0) = false := decide_eq_false (by omega)
  have b4 : decide ((1073741824 : Int) < most) = false := decide_eq_false (by omega)
  have b4' : decide (1073741824 < most) = false := decide_eq_false (by omega)
  go_enter Try.func15, Try.ntmps15
  go_upto_region 4 with (go_at_call 31; refine CR.out.mono ?_; rintro en w1 ⟨y, k, e, vo, outs, hal, hE, rfl, ho, hout, hB⟩)
  have hQ := ends_allQ hE
  clear hE CR b1 b1' b2 b2' b3 b4 b4'
  by_cases he0 : e = 0
  · subst he0
    have hk : k = 0 := by rcases hal with h | ⟨h, h'⟩ <;> omega
    subst hk
    obtain ⟨rfl, hw⟩ := hout rfl
    rw [if_pos rfl] at hQ
    have HQ := Lib.hid hQ
    clear hQ hout
    go_wp2_with fail
    go_ret3
    rw [HQ.out]
    exact ⟨⟨vo, rfl, ho, hB⟩⟩
  · have hk0 : k ≠ 0 := by rcases hal with h | ⟨h, h'⟩ <;> omega
    rw [if_neg hk0] at hQ
    by_cases he5 : e = 5
    · subst he5
      have e1 : (if k = 5 then 2 else k) = 2 := by rcases hal with h | ⟨h, h'⟩ <;> (split <;> omega)
      rw [e1] at hQ
      have HQ := Lib.hid hQ
      clear hQ hout hal
      go_wp2_with fail
      go_ret3
      rw [HQ.out]
      exact ⟨⟨_, rfl, Own.nil _ _ _, hB⟩⟩
    · have e1 : (if k = 5 then 2 else k) = e := by rcases hal with h | ⟨h, h'⟩ <;> (split <;> omega)
      rw [e1] at hQ
      have HQ := Lib.hid hQ
      have c1 : ((e : Int) == 5) = false := by rw [beq_eq_false_iff_ne]; omega
      have c1' : (e == 5) = false := by rw [beq_eq_false_iff_ne]; exact he5
      have c2 : ((e : Int) != 0) = true := by rw [bne_iff_ne]; omega
      have c2' : (e != 0) = true := by rw [bne_iff_ne]; exact he0
      clear hQ hout hal
      go_wp2_with fail
      go_ret3
      rw [HQ.out]
      exact ⟨⟨_, rfl, Own.nil _ _ _, hB⟩⟩
end Go.Proofs.Yteknaaijlkenkaa
namespace Go.Proofs.Yteknaaijlkenkaa
open Go.RowKit Ieee
attribute [local go_sem] max2i min2i max2t min2t

/-! ### stevedoreref17.AllZ answers as zlib.All does -/
set_option maxHeartbeats 1600000 in
set_option maxRecDepth 100000 in
theorem ref_over (n m ratio : Nat) (w : World) : Calls Try.prog 25 #[.int .i64 n, .int .i64 m, .float .f64 ratio] w fun e w' => e = .returned (.bool (overZ n m ratio)) ∧ Same (fun _ => False) w w' := by
  have h1 : max (n : Int) 0 = n := by omega
  have h2 : max (m : Int) 0 = m := by omega
  have hOV := fun W => over_run n m ratio W
  have c0 : ∀ W, (convert 3 23 (.int .i64 (n : Int))).run Try.prog W = .ok (.float .f64 (floatOfInt .f64 (n : Int))) W := fun W => by kernel_rfl
  have c1 : ∀ W, (convert 3 23 (.int .i64 (m : Int))).run Try.prog W = .ok (.float .f64 (floatOfInt .f64 (m : Int))) W := fun W => by kernel_rfl
  generalize floatOfInt .f64 (n : Int) = x at *
  generalize floatOfInt .f64 (m : Int) = y at *
  obtain ⟨c9, W9, hm9, hs9, hg9⟩ := hOV w
  go_enter Try.func25, Try.ntmps25
  go_wp2_with fail
  go_ret
  exact ⟨rfl, hs9⟩
set_option maxHeartbeats 4000000 in
set_option maxRecDepth 100000 in
theorem ref_allz {A : Option Addr} {c : Nat} {bs : List Int} (most : Int) (ratio : Nat) (hl : bs.length ≤ 100000000) (hub : (allQ (bs.drop 2) false (zH bs).1 most.toNat).2.1 ≤ 1000000000) (hol : (allQ (bs.drop 2) false (zH bs).1 most.toNat).1.length ≤ 1099511627776) (hwo : ∀ x ∈ (allQ (bs.drop 2) false (zH bs).1 most.toNat).1, (Lit.int .u8 x).wf = true) (w : World) (h : RowOf w .u8 A c bs) :
    Calls Try.prog 10 #[.slice A bs.length c, .int .i64 most, .float .f64 ratio] w fun e w' => AllPost w (zQ bs most ratio) e w' := by
  have hm := h.most
  have hcap := h.cap
  by_cases hlo : most < 0
  · have e1 : decide (most < 0) = true := by simpa using hlo
    have hz : zQ bs most ratio = ([], 0, 1) := by unfold zQ; rw [if_pos (.inl hlo)]
    rw [hz]
    clear hz hub hol hwo
    go_enter Try.func10, Try.ntmps10
    go_wp2_with fail
    go_ret3
    exact allPost_nil (Below.refl _ _)
  have e1 : decide (most < 0) = false := by simpa using hlo
  by_cases hhi : 1073741824 < most
  · have e2 : decide (1073741824 < most) = true := by simpa using hhi
    have hz : zQ bs most ratio = ([], 0, 1) := by unfold zQ; rw [if_pos (.inr hhi)]
    rw [hz]
    clear hz hub hol hwo
    go_enter Try.func10, Try.ntmps10
    go_wp2_with fail
    go_ret3
    exact allPost_nil (Below.refl _ _)
  have e2 : decide (1073741824 < most) = false := by simpa using hhi
  have CR := ref_readzG w h
  obtain ⟨m, rfl⟩ : ∃ m : Nat, most = m := ⟨most.toNat, by omega⟩
  rw [Int.toNat_natCast] at hub hol hwo
  obtain ⟨sz, er, hzh⟩ : ∃ sz er, zH bs = (sz, er) := ⟨_, _, rfl⟩
  rw [hzh] at CR hub hol hwo
  by_cases her : er ≠ 0
  · have hz : zQ bs m ratio = ([], 0, 2) := by unfold zQ; rw [if_neg (by omega), hzh, if_pos her]
    rw [hz]
    have e3 : ((er : Int) == 0) = false := by rw [beq_eq_false_iff_ne]; omega
    have e3' : (er == 0) = false := by rw [beq_eq_false_iff_ne]; exact her
    have CR := Lib.hid CR
    clear hz hub hol hwo hzh
    go_enter Try.func10, Try.ntmps10
    go_wp2_with fail
    refine CR.out.mono ?_
    rintro e w1 ⟨rfl, hs1⟩
    go_wp2_with fail
    go_ret3
    exact allPost_nil (hs1.below (fun _ _ c => c))
  have her : er = 0 := by omega
  subst her
  have hsz := zH_ok (bs := bs) (by rw [hzh])
  rw [hzh] at hsz
  simp only at hsz hub hol hwo CR
  have hb2 : 2 ≤ bs.length := by
    rcases Nat.lt_or_ge bs.length 2 with h2 | h2
    · rw [zH, if_pos h2] at hzh; cases hzh
    · exact h2
  obtain ⟨bk, o, rfl⟩ := h.addr (fun e => by rw [e] at hb2; simp at hb2)
  obtain ⟨⟨out, used, e⟩, hr⟩ : ∃ r, allQ (bs.drop 2) false sz m = r := ⟨_, rfl⟩
  obtain ⟨A2, hA2⟩ : ∃ A2 : Option Addr, (if c = 2 then some ⟨bk, o, none⟩ else some ⟨bk, o + 2, none⟩) = A2 := ⟨_, rfl⟩
  have hrow2 : ∀ W, Same (fun _ => False) w W → RowOf W .u8 A2 (c - 2) (bs.drop 2) := fun W hs => by
    rw [← hA2]
    have hd := (h.same hs (fun _ _ c => c)).dropK 2 hb2
    split
    · have e0 : bs.drop 2 = [] := List.drop_eq_nil_of_le (by omega)
      rw [e0] at hd ⊢
      exact ⟨fun i x hi => by simp at hi, hd.cap, hd.most, fun x hx => by simp at hx, by simp⟩
    · exact hd
  have CA := fun (W : World) (hs : Same (fun _ => False) w W) => ref_all (A := A2) (c := c - 2) (bs := bs.drop 2) false sz m hsz.1 hsz.2 (by omega) (by rw [List.length_drop]; omega) W (hrow2 W hs)
  have hZQ : zQ bs m ratio = if e ≠ 0 then ([], 0, e) else if overZ out.length used ratio then ([], 0, 3) else if bs.length ≠ used + 6 ∨ beN bs (2 + used) 4 ≠ adlN out then ([], 0, 2) else (out, used, 0) := by
    unfold zQ; rw [if_neg (by omega), hzh, if_neg (by simp), Int.toNat_natCast, hr]
  rw [hZQ]
  have hdl : (bs.drop 2).length = bs.length - 2 := List.length_drop
  rw [hr, hdl] at CA
  rw [hr] at hub hol hwo
  simp only at hub hol hwo
  have CA := Lib.hid CA
  have CR := Lib.hid CR
  clear hZQ hr hzh hdl hrow2
  have l2 : (2 : Int) ≤ (bs.length : Int) := by omega
  have l3 : (2 : Int) ≤ (c : Int) := by omega
  by_cases he0 : e ≠ 0
  · rw [if_pos he0]
    have e3 : ((e : Int) == 0) = false := by rw [beq_eq_false_iff_ne]; omega
    have e3' : (e == 0) = false := by rw [beq_eq_false_iff_ne]; exact he0
    go_enter Try.func10, Try.ntmps10
    go_wp2_with (first
      | (go_at_call 18; refine CR.out.mono ?_; rintro e w1 ⟨rfl, hs1⟩)
      | (go_at_call 15; go_loud (refine (CA.out _ hs1).mono ?_); rintro en w2 ⟨v2, rfl, ho2, hB2⟩; have B2 := (hs1.below (fun _ _ c => c)).trans (hB2.mono hs1.size)))
    go_ret3
    exact allPost_nil B2
  have he0 : e = 0 := by omega
  subst he0
  rw [if_neg (by simp)]
  have HWO := Lib.hid hwo
  have hOV := fun W => ref_over out.length used ratio W
  have hbw := beN_lt bs (2 + used) h.wf 4
  obtain ⟨f, hf⟩ : ∃ f, 2 + used = f := ⟨_, rfl⟩
  have ef : (2 : Int) + (used : Int) = (f : Int) := by omega
  rw [hf] at hbw ⊢
  clear hwo
  cases hov : overZ out.length used ratio with
  | true =>
    rw [if_pos rfl]
    rw [hov] at hOV
    have HOV := Lib.hid hOV
    clear hOV hov hbw
    go_enter Try.func10, Try.ntmps10
    go_wp2_with (first
      | (go_at_call 18; refine CR.out.mono ?_; rintro e w1 ⟨rfl, hs1⟩)
      | (go_at_call 15; go_loud (refine (CA.out _ hs1).mono ?_); rintro en w2 ⟨v2, rfl, ho2, hB2⟩; have B2 := (hs1.below (fun _ _ c => c)).trans (hB2.mono hs1.size); obtain ⟨A5, c5, rfl, hr5, ha5⟩ := ho2.row HWO.out)
      | (go_at_call 25; refine (HOV.out w2).mono ?_; rintro e W9 ⟨rfl, hs9⟩; have B9 := hs9.below_of B2 B2.size (fun _ _ c => c))
      | fail)
    go_ret3
    exact allPost_nil B9
  | false =>
    rw [if_neg (by simp)]
    rw [hov] at hOV
    have HOV := Lib.hid hOV
    obtain ⟨R, hR⟩ : ∃ R, (if bs.length ≠ used + 6 ∨ beN bs f 4 ≠ adlN out then (([] : List Int), 0, 2) else (out, used, 0)) = R := ⟨_, rfl⟩
    rw [hR]
    have HR := Lib.hid hR
    clear hOV hR
    go_enter Try.func10, Try.ntmps10
    go_upto_region 11 with (first
      | (go_at_call 18; refine CR.out.mono ?_; rintro e w1 ⟨rfl, hs1⟩)
      | (go_at_call 15; go_loud (refine (CA.out _ hs1).mono ?_); rintro en w2 ⟨v2, rfl, ho2, hB2⟩; have B2 := (hs1.below (fun _ _ c => c)).trans (hB2.mono hs1.size); obtain ⟨A5, c5, rfl, hr5, ha5⟩ := ho2.row HWO.out)
      | (go_at_call 25; refine (HOV.out w2).mono ?_; rintro e W9 ⟨rfl, hs9⟩; have B9 := hs9.below_of B2 B2.size (fun _ _ c => c))
      | fail)
    clear CR CA HWO HOV hA2
    by_cases hsh : bs.length < f + 4
    · have hR := HR.out
      rw [if_pos (.inl (by omega))] at hR
      have HRN := Lib.hid hR
      clear hR HR
      have CN := Lib.hid (fun W => ref_num1S (some ⟨bk, o, none⟩) c bs.length f hsh (by omega) (by omega) W)
      clear hsh hbw hf
      go_wp2_with (first
        | (go_at_call 26; refine (CN.out W9).mono ?_; rintro e w3 ⟨rfl, hw⟩; subst hw; have B3 := B9)
        | fail)
      go_ret3
      exact allPost_eq HRN.out (allPost_nil B3)
    · have CN := Lib.hid (fun W (hr : RowOf W .u8 (some ⟨bk, o, none⟩) c bs) => ref_num1 (some ⟨bk, o, none⟩) c bs f (by omega) (by omega) W hr)
      have hbw2 : beN bs f 4 < 4294967296 := by simpa using hbw
      have hw3 : IntKind.u32.wrap ((beN bs f 4 : Nat) : Int) = ((beN bs f 4 : Nat) : Int) := by rw [IntKind.wrap_u32]; omega
      have CS := Lib.hid (fun A5 c5 W (hr : RowOf W .u8 A5 c5 out) => ref_adler A5 c5 out hol W hr)
      by_cases had : beN bs f 4 = adlN out
      · by_cases hle : bs.length = used + 6
        · have hR := HR.out
          rw [if_neg (by rw [had]; simp; exact hle)] at hR
          have HRN := Lib.hid hR
          have hle1 : ((bs.length : Int) != (used : Int) + 6) = false := by simp; omega
          clear hR HR
          rw [had] at CN hw3 hbw2
          generalize adlN out = X at *
          have e5 : ((X : Int) != (X : Int)) = false := by simp
          clear had hbw hf hsh hov hle
          go_wp2_with (first
            | (go_at_call 26; refine (CN.out W9 (h.belo B9)).mono ?_; rintro e w3 ⟨rfl, hw⟩; subst hw; have B3 := B9; have hr6 := hr5.same hs9 (fun _ _ c => c))
            | (go_at_call 17; refine (CS.out A5 c5 _ hr6).mono ?_; rintro e w4 ⟨rfl, hw4⟩; subst hw4)
            | fail)
          go_ret3
          exact allPost_eq HRN.out ⟨⟨_, rfl, (ho2.kept hs9 (fun _ _ c => c)).lower hs1.size, B3⟩⟩
        · have hR := HR.out
          rw [if_pos (.inl hle)] at hR
          have HRN := Lib.hid hR
          have hle1 : ((bs.length : Int) != (used : Int) + 6) = true := by simp; omega
          have hle2 : (bs.length != used + 6) = true := by simp; exact hle
          clear hR HR
          rw [had] at CN hw3 hbw2
          generalize adlN out = X at *
          have e5 : ((X : Int) != (X : Int)) = false := by simp
          clear had hbw hf hsh hov hle
          go_wp2_with (first
            | (go_at_call 26; refine (CN.out W9 (h.belo B9)).mono ?_; rintro e w3 ⟨rfl, hw⟩; subst hw; have B3 := B9; have hr6 := hr5.same hs9 (fun _ _ c => c))
            | (go_at_call 17; refine (CS.out A5 c5 _ hr6).mono ?_; rintro e w4 ⟨rfl, hw4⟩; subst hw4)
            | fail)
          go_ret3
          exact allPost_eq HRN.out (allPost_nil B3)
      · have hR := HR.out
        rw [if_pos (.inr had)] at hR
        have HRN := Lib.hid hR
        clear hR HR
        generalize adlN out = X at *
        generalize beN bs f 4 = B at *
        have e5 : ((B : Int) != (X : Int)) = true := by simp; omega
        have e5' : (B != X) = true := by simp; exact had
        clear had hbw hf hsh hov
        go_wp2_with (first
          | (go_at_call 26; refine (CN.out W9 (h.belo B9)).mono ?_; rintro e w3 ⟨rfl, hw⟩; subst hw; have B3 := B9; have hr6 := hr5.same hs9 (fun _ _ c => c))
          | (go_at_call 17; refine (CS.out A5 c5 _ hr6).mono ?_; rintro e w4 ⟨rfl, hw4⟩; subst hw4)
          | fail)
        go_ret3
        exact allPost_eq HRN.out (allPost_nil B3)
end Go.Proofs.Yteknaaijlkenkaa
namespace Go.Proofs.Yteknaaijlkenkaa
open Go.RowKit
attribute [local go_sem] max2i min2i max2t min2t

/-! ### ZlibAll -/
theorem zQ_u8 {bs : List Int} (hb : ∀ u ∈ bs, 0 ≤ u ∧ u < 256) (most : Int) (ratio : Nat) : ∀ u ∈ (zQ bs most ratio).1, (Lit.int .u8 u).wf = true := by
  have h := (allQ_fine (bs := bs.drop 2) (fun u hu => hb u (List.mem_of_mem_drop hu)) false (zH bs).1 most.toNat).2.2
  unfold zQ
  split
  · intro u hu; simp at hu
  · split
    · intro u hu; simp at hu
    · split
      · intro u hu; simp at hu
      · split
        · intro u hu; simp at hu
        · split
          · intro u hu; simp at hu
          · intro u hu
            have := h u hu
            simp [Lit.wf, IntKind.min, IntKind.max, IntKind.bits, IntKind.signed]; omega
set_option maxHeartbeats 1600000 in
set_option maxRecDepth 100000 in
theorem zlib_arg {A : Option Addr} {c n : Nat} (most : Int) (ratio : Nat) (h : 1073741824 < most) (w : World) :
    Calls Try.prog 9 #[.slice A n c, .int .i64 most, .float .f64 ratio] w fun e w' => AllPost w ([], 0, 1) e w' := by
  have e1 : decide (most < 0) = false := decide_eq_false (by omega)
  have e2 : decide (1073741824 < most) = true := decide_eq_true h
  go_enter Try.func9, Try.ntmps9
  go_wp2_with fail
  go_ret3
  exact allPost_nil (Below.refl _ _)
set_option maxHeartbeats 1600000 in
set_option maxRecDepth 100000 in
theorem ref_arg {A : Option Addr} {c n : Nat} (most : Int) (ratio : Nat) (h : 1073741824 < most) (w : World) :
    Calls Try.prog 10 #[.slice A n c, .int .i64 most, .float .f64 ratio] w fun e w' => AllPost w ([], 0, 1) e w' := by
  have e1 : decide (most < 0) = false := decide_eq_false (by omega)
  have e2 : decide (1073741824 < most) = true := decide_eq_true h
  go_enter Try.func10, Try.ntmps10
  go_wp2_with fail
  go_ret3
  exact allPost_nil (Below.refl _ _)
set_option maxHeartbeats 4000000 in
set_option maxRecDepth 100000 in
theorem zlibAll_walk (A : Option Addr) (c : Nat) (l : List Int) (most : Int) (ratio : Nat) (w : World) (h00 : RowOf w .u8 A c l) (h01 : (Lit.int .i64 most).wf = true) (h02 : (Lit.float .f64 ratio).wf = true) :
    Calls Try.prog 3 #[.slice A l.length c, .int .i64 most, .float .f64 ratio] w fun e w' => e = .returned (.bool true) ∧ Below w.heap.size w w' := by
  rcases Nat.lt_or_ge 600 l.length with h | h
  · have b1 : decide ((600 : Int) < l.length) = true := decide_eq_true (by omega)
    have b1' : decide (600 < l.length) = true := decide_eq_true (by omega)
    have hT := fun W => Lib.hid (told18 W)
    go_enter Try.func3, Try.ntmps3
    go_wp2_with (go_at_call 8; refine (hT _).out.mono ?_; rintro e w6 ⟨rfl, hb6⟩)
    go_ret
    exact ⟨rfl, hb6⟩
  have b1 : decide ((600 : Int) < l.length) = false := decide_eq_false (by omega)
  have b1' : decide (600 < l.length) = false := decide_eq_false (by omega)
  by_cases hm1 : 70000 < most
  · have d1 : decide ((70000 : Int) < most) = true := decide_eq_true hm1
    by_cases hm2 : most ≤ 1073741824
    · have d2 : decide (most ≤ (1073741824 : Int)) = true := decide_eq_true hm2
      have hb8 : ∀ u ∈ l, 0 ≤ u ∧ u < 256 := fun u hu => u8_of' (h00.wf u hu)
      obtain ⟨f1, f2, f3⟩ := allQ_fine (bs := l.drop 2) (fun u hu => hb8 u (List.mem_of_mem_drop hu)) false (zH l).1 ((70000 : Int)).toNat
      have f4 : ∀ u ∈ (allQ (l.drop 2) false (zH l).1 ((70000 : Int)).toNat).1, (Lit.int .u8 u).wf = true := fun u hu => by have := f3 u hu; simp [Lit.wf, IntKind.min, IntKind.max, IntKind.bits, IntKind.signed]; omega
      rw [List.length_drop] at f1
      have C1 := fun (W : World) (hr : RowOf W .u8 A c l) => zlib_all ((70000 : Int)) ratio (by omega) (by omega) ((by have : (70000 : Int).toNat = 70000 := rfl; omega)) f4 W hr
      have C2 := fun (W : World) (hr : RowOf W .u8 A c l) => ref_allz ((70000 : Int)) ratio (by omega) (by omega) ((by have : (70000 : Int).toNat = 70000 := rfl; omega)) f4 W hr
      have hzu := zQ_u8 hb8 ((70000 : Int)) ratio
      obtain ⟨R, hR⟩ : ∃ R, zQ l ((70000 : Int)) ratio = R := ⟨_, rfl⟩
      simp only [hR] at C1 C2 hzu
      obtain ⟨outs, used, er⟩ := R
      simp only at hzu
      have C1 := Lib.hid C1
      have C2 := Lib.hid C2
      clear hR f1 f2 f3 f4 hb8
      have hT := fun W => Lib.hid (told18 W)
      go_enter Try.func3, Try.ntmps3
      go_upto_region 7 with (first
        | (go_at_call 9; refine (C1.out _ h00).mono ?_; rintro e w1 ⟨v1, rfl, ho1, hB1⟩)
        | (go_at_call 10; refine (C2.out _ (h00.belo hB1)).mono ?_; rintro e w2 ⟨v2, rfl, ho2, hB2⟩)
        | fail)
      have hB12 := hB1.trans (hB2.mono hB1.size)
      obtain ⟨A1, c1, rfl, hr1, _⟩ := (ho1.kept (Same.of_below (S := fun _ => False) hB2) (fun _ _ c => c)).row hzu
      obtain ⟨A2, c2, rfl, hr2, _⟩ := ho2.row hzu
      have t1 : ∀ W, Below w2.heap.size w2 W → (convert 22 9 (.slice A1 outs.length c1)).run Try.prog W = .ok (.string (strOfNums outs)) W := fun W hb => (hr1.strAt rfl) W (Below.sameF hb)
      have t2 : ∀ W, Below w2.heap.size w2 W → (convert 22 9 (.slice A2 outs.length c2)).run Try.prog W = .ok (.string (strOfNums outs)) W := fun W hb => (hr2.strAt rfl) W (Below.sameF hb)
      generalize strOfNums outs = S at *
      clear ho1 ho2 hr1 hr2 C1 C2 hzu
      go_wp2_with (go_at_call 8; refine (hT _).out.mono ?_; rintro e w3 ⟨rfl, hb3⟩; have k1 := t1 _ hb3; have k2 := t2 _ hb3)
      go_ret
      exact ⟨rfl, hB12.trans (hb3.mono hB12.size)⟩
    · have d2 : decide (most ≤ (1073741824 : Int)) = false := decide_eq_false hm2
      obtain ⟨outs, used, er, hR⟩ : ∃ (outs : List Int) (used er : Nat), (([] : List Int), 0, 1) = (outs, used, er) := ⟨_, _, _, rfl⟩
      have C1 := fun (W : World) (hr : RowOf W .u8 A c l) => zlib_arg (A := A) (c := c) (n := l.length) most ratio (by omega) W
      have C2 := fun (W : World) (hr : RowOf W .u8 A c l) => ref_arg (A := A) (c := c) (n := l.length) most ratio (by omega) W
      rw [hR] at C1 C2
      have hzu : ∀ u ∈ outs, (Lit.int .u8 u).wf = true := by
        injection hR with q1 q2
        rw [← q1]
        intro u hu
        simp at hu
      have C1 := Lib.hid C1
      have C2 := Lib.hid C2
      clear hR
      have hT := fun W => Lib.hid (told18 W)
      go_enter Try.func3, Try.ntmps3
      go_upto_region 7 with (first
        | (go_at_call 9; refine (C1.out _ h00).mono ?_; rintro e w1 ⟨v1, rfl, ho1, hB1⟩)
        | (go_at_call 10; refine (C2.out _ (h00.belo hB1)).mono ?_; rintro e w2 ⟨v2, rfl, ho2, hB2⟩)
        | fail)
      have hB12 := hB1.trans (hB2.mono hB1.size)
      obtain ⟨A1, c1, rfl, hr1, _⟩ := (ho1.kept (Same.of_below (S := fun _ => False) hB2) (fun _ _ c => c)).row hzu
      obtain ⟨A2, c2, rfl, hr2, _⟩ := ho2.row hzu
      have t1 : ∀ W, Below w2.heap.size w2 W → (convert 22 9 (.slice A1 outs.length c1)).run Try.prog W = .ok (.string (strOfNums outs)) W := fun W hb => (hr1.strAt rfl) W (Below.sameF hb)
      have t2 : ∀ W, Below w2.heap.size w2 W → (convert 22 9 (.slice A2 outs.length c2)).run Try.prog W = .ok (.string (strOfNums outs)) W := fun W hb => (hr2.strAt rfl) W (Below.sameF hb)
      generalize strOfNums outs = S at *
      clear ho1 ho2 hr1 hr2 C1 C2 hzu
      go_wp2_with (go_at_call 8; refine (hT _).out.mono ?_; rintro e w3 ⟨rfl, hb3⟩; have k1 := t1 _ hb3; have k2 := t2 _ hb3)
      go_ret
      exact ⟨rfl, hB12.trans (hb3.mono hB12.size)⟩
  · have d1 : decide ((70000 : Int) < most) = false := decide_eq_false hm1
    have hb8 : ∀ u ∈ l, 0 ≤ u ∧ u < 256 := fun u hu => u8_of' (h00.wf u hu)
    obtain ⟨f1, f2, f3⟩ := allQ_fine (bs := l.drop 2) (fun u hu => hb8 u (List.mem_of_mem_drop hu)) false (zH l).1 (most).toNat
    have f4 : ∀ u ∈ (allQ (l.drop 2) false (zH l).1 (most).toNat).1, (Lit.int .u8 u).wf = true := fun u hu => by have := f3 u hu; simp [Lit.wf, IntKind.min, IntKind.max, IntKind.bits, IntKind.signed]; omega
    rw [List.length_drop] at f1
    have C1 := fun (W : World) (hr : RowOf W .u8 A c l) => zlib_all (most) ratio (by omega) (by omega) ((by omega)) f4 W hr
    have C2 := fun (W : World) (hr : RowOf W .u8 A c l) => ref_allz (most) ratio (by omega) (by omega) ((by omega)) f4 W hr
    have hzu := zQ_u8 hb8 (most) ratio
    obtain ⟨R, hR⟩ : ∃ R, zQ l (most) ratio = R := ⟨_, rfl⟩
    simp only [hR] at C1 C2 hzu
    obtain ⟨outs, used, er⟩ := R
    simp only at hzu
    have C1 := Lib.hid C1
    have C2 := Lib.hid C2
    clear hR f1 f2 f3 f4 hb8
    have hT := fun W => Lib.hid (told18 W)
    go_enter Try.func3, Try.ntmps3
    go_upto_region 7 with (first
      | (go_at_call 9; refine (C1.out _ h00).mono ?_; rintro e w1 ⟨v1, rfl, ho1, hB1⟩)
      | (go_at_call 10; refine (C2.out _ (h00.belo hB1)).mono ?_; rintro e w2 ⟨v2, rfl, ho2, hB2⟩)
      | fail)
    have hB12 := hB1.trans (hB2.mono hB1.size)
    obtain ⟨A1, c1, rfl, hr1, _⟩ := (ho1.kept (Same.of_below (S := fun _ => False) hB2) (fun _ _ c => c)).row hzu
    obtain ⟨A2, c2, rfl, hr2, _⟩ := ho2.row hzu
    have t1 : ∀ W, Below w2.heap.size w2 W → (convert 22 9 (.slice A1 outs.length c1)).run Try.prog W = .ok (.string (strOfNums outs)) W := fun W hb => (hr1.strAt rfl) W (Below.sameF hb)
    have t2 : ∀ W, Below w2.heap.size w2 W → (convert 22 9 (.slice A2 outs.length c2)).run Try.prog W = .ok (.string (strOfNums outs)) W := fun W hb => (hr2.strAt rfl) W (Below.sameF hb)
    generalize strOfNums outs = S at *
    clear ho1 ho2 hr1 hr2 C1 C2 hzu
    go_wp2_with (go_at_call 8; refine (hT _).out.mono ?_; rintro e w3 ⟨rfl, hb3⟩; have k1 := t1 _ hb3; have k2 := t2 _ hb3)
    go_ret
    exact ⟨rfl, hB12.trans (hb3.mono hB12.size)⟩
end Go.Proofs.Yteknaaijlkenkaa
