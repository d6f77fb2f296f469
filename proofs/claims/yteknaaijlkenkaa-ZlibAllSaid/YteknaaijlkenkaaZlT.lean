import Derived.Test.YteknaaijlkenkaaZlR
import Derived.Test.YteknaaijlkenkaaJInr
import Derived.Test.YteknaaijlkenkaaEff
namespace Go.Proofs.Yteknaaijlkenkaa
set_option linter.unusedVariables false
set_option linter.unusedSimpArgs false
open Go.RowKit Ieee

theorem allQ_z : allQ [3, 0, 0, 0, 0, 1] false 32768 0 = ([], 2, 0) := by decide +kernel
set_option maxHeartbeats 1600000 in
set_option maxRecDepth 100000 in
theorem zlib_read1 (A : Option Addr) (c : Nat) (w : World) :
    Calls Try.prog 11 #[.slice A 1 c] w fun e w' => e = .returned (.tuple #[.int .i64 0, .int .i64 5]) ∧ w' = w := by
  go_enter Try.func11, Try.ntmps11
  go_wp2_with fail
  go_ret2
  exact ⟨rfl, rfl⟩
theorem mul_nan0 {b : Nat} (hb : nanB b = true) (y : Nat) : FloatKind.f64.format.mul b y = none := by
  have h : (double.read b).isNaN = true := hb
  show ((double.read b).product (double.read y)).map double.write = none
  cases hr : double.read b with
  | nan s t => rfl
  | infinity s => rw [hr] at h; simp [Datum.isNaN] at h
  | number s m e => rw [hr] at h; simp [Datum.isNaN] at h
theorem order_nan2 {c : Nat} (hc : nanB c = true) (x : Nat) : FloatKind.f64.format.order x c = none := by
  have h : (double.read c).isNaN = true := hc
  show (double.read x).order (double.read c) = none
  cases hr : double.read c with
  | nan s t => cases double.read x <;> rfl
  | infinity s => rw [hr] at h; simp [Datum.isNaN] at h
  | number s m e => rw [hr] at h; simp [Datum.isNaN] at h
theorem mul_nan {b : Nat} (hb : nanB b = true) (y : Nat) (w : World) : ∃ c, nanB c = true ∧ (binOp .mul 23 (.float .f64 b) (.float .f64 y)).run Try.prog w = .ok (.float .f64 c) w.drew := by
  refine ⟨_, nan_cut b y (w.tape w.drawn (.nanBits .f64 b y)), ?_⟩
  have e := mul_nan0 hb y
  simp [binOp, Op.floatArith, e, Question.forced]
theorem gtr_nan {c : Nat} (hc : nanB c = true) (x : Nat) (w : World) : (binOp .gtr 23 (.float .f64 x) (.float .f64 c)).run Try.prog w = .ok (.bool false) w := by
  have e := order_nan2 hc x
  simp [binOp, Op.floatCmp, e]
theorem RowOf.dropK {w : World} {k : IntKind} {b o c : Nat} {l : List Int} (h : RowOf w k (some ⟨b, o, none⟩) c l) (n : Nat) (hn : n ≤ l.length) : RowOf w k (some ⟨b, o + n, none⟩) (c - n) (l.drop n) :=
  ⟨fun i x hx => ⟨_, rfl, by
    rw [List.getElem?_drop] at hx
    obtain ⟨ad, e, hc⟩ := h.rd (n + i) x hx
    cases e
    rw [Addr.add_lit] at hc ⊢
    rw [Nat.add_assoc]
    exact hc⟩, by have := h.cap; rw [List.length_drop]; omega, by have := h.most; omega, fun x hx => h.wf x (List.mem_of_mem_drop hx), by simp⟩
set_option maxHeartbeats 1600000 in
set_option maxRecDepth 100000 in
theorem zlib_told (bk : Nat) (w : World) (b : Nat) (hb : nanB b = true) (hr : RowOf w .u8 (some ⟨bk, 0, none⟩) 8 [120, 156, 3, 0, 0, 0, 0, 1]) :
    Calls Try.prog 9 #[.slice (some ⟨bk, 0, none⟩) 8 8, .int .i64 0, .float .f64 b] w fun e w' => (∃ A c, e = .returned (.tuple #[.slice A 0 c, .int .i64 2, .int .i64 0])) ∧ Below w.heap.size w w' := by
  have h0 : w.cell? ⟨bk, 0, none⟩ = some (.int .u8 ((120 : Nat) : Int)) := by obtain ⟨ad, e, hc⟩ := hr.rd 0 120 rfl; cases e; exact hc
  have h1 : w.cell? ⟨bk, 0 + 1, none⟩ = some (.int .u8 ((156 : Nat) : Int)) := by obtain ⟨ad, e, hc⟩ := hr.rd 1 156 rfl; cases e; exact hc
  have CR := zlib_read bk 0 8 [120, 156, 3, 0, 0, 0, 0, 1] 120 156 (by decide) (by decide) (by decide) w (by decide) (by decide) h0 h1
  rw [if_pos (show zok 120 156 = true from by decide)] at CR
  have CR := Lib.hid CR
  have c0 : ∀ W, (convert 3 23 (.int .i64 0)).run Try.prog W = .ok (.float .f64 0) W := fun W => by kernel_rfl
  have c2 : ∀ W, (convert 3 23 (.int .i64 2)).run Try.prog W = .ok (.float .f64 4611686018427387904) W := fun W => by kernel_rfl
  clear h0 h1
  go_enter Try.func9, Try.ntmps9
  go_wp2_with fail
  refine CR.out.mono ?_
  rintro e w1 ⟨rfl, hs1⟩
  have hr1 := hr.same hs1 (fun _ _ c => c)
  have hd1 := hr1.dropK 2 (by decide)
  have CA := inf_all (some ⟨bk, 0 + 2, none⟩) (8 - 2) [3, 0, 0, 0, 0, 1] false 32768 0 (by decide) (by decide) (by decide) w1 hd1 (by decide)
  rw [allQ_z] at CA
  have CA := Lib.hid CA
  go_wp2_with fail
  refine CA.out.mono ?_
  rintro e w2 ⟨v, rfl, ho, hB2⟩
  obtain ⟨A5, c5, rfl, hr5, _⟩ := ho.row (fun x hx => by cases hx)
  obtain ⟨c9, hc9, hm9⟩ := mul_nan hb 4611686018427387904 w2
  have hg9 := order_nan2 hc9 0
  go_wp2_with fail
  have hr2 := (hr1.belo hB2).drew
  have hS1 : Below w.heap.size w w1 := hs1.below (fun _ _ c => c)
  have hB12 := (hS1.trans (hB2.mono hS1.size)).drew
  have CB := num_big (some ⟨bk, 0, none⟩) 8 [120, 156, 3, 0, 0, 0, 0, 1] 4 4 (by decide) (by decide) (by decide) (by decide) w2.drew hr2
  refine CB.mono ?_
  rintro e w3 ⟨rfl, hB3⟩
  rw [show beN [120, 156, 3, 0, 0, 0, 0, 1] 4 4 = 1 from by decide]
  have hr3 := hr5.drew.belo hB3
  have CS := adler_sum A5 c5 [] (by decide) w3 hr3
  rw [show adlN [] = 1 from by decide] at CS
  have CS := Lib.hid CS
  have hB13 := hB12.trans (hB3.mono hB12.size)
  clear CB hr1 hd1 hr2 hr5 hr3
  go_wp2_with fail
  refine CS.out.mono ?_
  rintro e w4 ⟨rfl, hw⟩
  subst hw
  go_wp2_with fail
  go_ret3
  exact ⟨⟨A5, c5, rfl⟩, hB13⟩
end Go.Proofs.Yteknaaijlkenkaa
