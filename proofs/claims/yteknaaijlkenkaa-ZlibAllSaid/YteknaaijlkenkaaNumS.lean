import Derived.Test.YteknaaijlkenkaaNum
namespace Go.Proofs.Yteknaaijlkenkaa
set_option linter.unusedVariables false
set_option linter.unusedSimpArgs false
open Go.RowKit

/-! ### num.read where the bytes are not there -/
set_option maxHeartbeats 1600000 in
set_option maxRecDepth 100000 in
theorem num_fail (code : Int) (w : World) : Calls Try.prog 48 #[.int .i64 code] w fun e w' => e = .panicked [faultI code] ∧ w' = w := by
  go_enter Try.func48, Try.ntmps48
  go_wp2_with fail
  exact ⟨rfl, rfl, rfl⟩
set_option maxHeartbeats 1600000 in
set_option maxRecDepth 100000 in
theorem num_at_bad (A : Option Addr) (c n : Nat) (i : Nat) (hi : n ≤ i) (w : World) :
    Calls Try.prog 49 #[.slice A n c, .int .i64 i] w fun e w' => e = .panicked [faultI 5] ∧ w' = w := by
  have e1 : decide ((i : Int) < 0) = false := by simp
  have e2 : decide ((n : Int) ≤ i) = true := by simp; omega
  have e2' : decide (n ≤ i) = true := by simp; omega
  have HF := Lib.hid (num_fail 5 w)
  go_enter Try.func49, Try.ntmps49
  go_wp2_with fail
  refine HF.out.mono ?_
  rintro e w1 ⟨rfl, rfl⟩
  go_wp2_with fail
  exact ⟨rfl, rfl, rfl⟩
set_option maxHeartbeats 1600000 in
set_option maxRecDepth 100000 in
theorem read_catch (bv be : Nat) (v0 e0 : Int) (older : List PanicEntry) (w : World) (hv : Blk w bv 41 #[.int .u64 v0]) (he : Blk w be 25 #[.int .i64 e0]) (code : Int) :
    CallsD Try.prog 47 #[.pointer (some ⟨bv, 0, none⟩), .pointer (some ⟨be, 0, none⟩)] (.panicking (faultI code :: older)) w fun e u' w' =>
      e = .returned (.tuple #[]) ∧ u' = .panicking ({ faultI code with recovered := true } :: older) ∧ Blk w' bv 41 #[.int .u64 0] ∧ Blk w' be 25 #[.int .i64 code] ∧ Same (fun k => k = bv ∨ k = be) w w' := by
  have nve : bv ≠ be := hv.ne_ he (by decide)
  have hta := fun w => run_assert_faultI code w
  have v2 : Blk (w.setCell ⟨bv, 0, none⟩ (.int .u64 0)) bv 41 #[.int .u64 0] := hv.set_ 0 (.int .u64 0)
  have e2 := he.far (p := ⟨bv, 0, none⟩) (by simp only; omega) (.int .u64 0)
  have e3 : Blk ((w.setCell ⟨bv, 0, none⟩ (.int .u64 0)).setCell ⟨be, 0, none⟩ (.int .i64 code)) be 25 #[.int .i64 code] := e2.set_ 0 (.int .i64 code)
  have hs2 := Same.set_ (S := fun k => k = bv ∨ k = be) (p := ⟨bv, 0, none⟩) (Same.refl w) (fun _ => .inl rfl) (.int .u64 0)
  have V3 := Lib.hid ((v2.far (p := ⟨be, 0, none⟩) (by simp only; omega) (.int .i64 code)).alloc (.cells #[.int .i64 code, .int .i64 0] 93))
  have E3 := Lib.hid (e3.alloc (.cells #[.int .i64 code, .int .i64 0] 93))
  have HS3 := Lib.hid ((hs2.set_ (p := ⟨be, 0, none⟩) (fun _ => .inr rfl) (.int .i64 code)).alloc (.cells #[.int .i64 code, .int .i64 0] 93))
  have cv := hv.cell 0
  have fv := hv.frozen 0
  have ce := he.cell 0
  have fe := he.frozen 0
  have lv := hv.lt
  have le := he.lt
  clear v2 e2 e3 hs2
  refine callsD_of_wpS Try.func47 rfl fun c₀ cs₀ hu => ?_
  have hrec : recoverD (c₀ :: cs₀) = some (.iface 93 (.agg #[.int .i64 code, .int .i64 0]), { c₀ with mode := .panicking ({ faultI code with recovered := true } :: older) } :: cs₀) := by simp [recoverD, hu, faultI]
  have HR := Lib.hid hrec
  clear hrec hu hv he
  apply wpS_seq
  refine wpS_recover_someI rfl (by simp [go_sem]) HR.out ?_
  clear HR
  generalize hcs : ({ c₀ with mode := .panicking ({ faultI code with recovered := true } :: older) } :: cs₀ : List Frame) = cs'
  have HC := Lib.hid hcs
  clear hcs
  simp only [Try.ntmps47, List.size_toArray, List.length_cons, List.length_nil, Nat.reduceAdd, Nat.reduceSub, Array.replicate_succ, Array.replicate_zero, List.push_toArray, List.append_toArray, List.nil_append, List.cons_append, Act.put]
  go_wp2
  simp only [Exit.thenS]
  refine wpS_of_wp ?_
  go_wp2
  go_region
  all_goals go_wp2
  all_goals exact ⟨rfl, _, HC.out.symm, .tuple #[], by simp [results, Try.results47], rfl, rfl, V3.out.drew, E3.out.drew, HS3.out.drew⟩
set_option maxHeartbeats 4000000 in
set_option maxRecDepth 100000 in
theorem num_readS (A : Option Addr) (c len : Nat) (from_ n : Nat) (h1 : 1 ≤ n) (h8 : n ≤ 8) (hf : len < from_ + n) (hl : len ≤ 1000000000) (hfr : from_ ≤ 2000000000) (pl : Value) (w : World) :
    Calls Try.prog 37 #[.slice A len c, .int .i64 from_, .int .i64 n, pl] w fun e w' => e = .returned (.tuple #[.int .u64 0, .int .i64 5]) ∧ Below w.heap.size w w' := by
  have e1 : decide ((n : Int) < 1) = false := by simp; omega
  have e1' : decide (n < 1) = false := by simp; omega
  have e2 : decide ((8 : Int) < n) = false := by simp; omega
  have e2' : decide (8 < n) = false := by simp; omega
  have e3 : decide ((from_ : Int) < 0) = false := by simp
  have hB0 := (((Below.refl w.heap.size w).alloc (Nat.le_refl _) (.cells #[.int .u64 0] 41)).alloc (by simp) (.cells #[.int .i64 0] 25))
  have hx0 : Blk ((w.alloc (.cells #[.int .u64 0] 41)).alloc (.cells #[.int .i64 0] 25)) w.heap.size 41 #[.int .u64 0] := (Blk.new w _ _).alloc _
  have hx1 := Blk.new (w.alloc (.cells #[.int .u64 0] 41)) 25 #[.int .i64 0]
  rw [World.size_alloc] at hx1
  have HC := Lib.hid (read_catch w.heap.size (w.heap.size + 1) 0 0 [] _ hx0 hx1 5)
  have HA := num_at_bad A c len (from_ + n - 1) (by omega) ((w.alloc (.cells #[.int .u64 0] 41)).alloc (.cells #[.int .i64 0] 25))
  rw [show ((from_ + n - 1 : Nat) : Int) = (from_ : Int) + n - 1 from by omega] at HA
  have HA := Lib.hid HA
  have HF := Lib.hid (num_fail 5 ((w.alloc (.cells #[.int .u64 0] 41)).alloc (.cells #[.int .i64 0] 25)))
  rcases Nat.lt_or_ge len from_ with hlt | hge
  · have e4 : decide ((len : Int) < from_) = true := by simp; omega
    have e4' : decide (len < from_) = true := by simp; omega
    go_enter_defers Try.func37, Try.ntmps37
    go_wp2_with fail
    refine HF.out.mono ?_
    rintro e w1 ⟨rfl, rfl⟩
    go_wp2_with fail
    refine leaves_cons (f := 47) (args := #[.pointer (some ⟨w.heap.size, 0, none⟩), .pointer (some ⟨w.heap.size + 1, 0, none⟩)]) (by simp) (by simp [go_sem]) ?_
    refine HC.out.mono ?_
    rintro e u' w5 ⟨rfl, rfl, V5, E5, S5⟩
    have B5 := S5.below_of hB0 hB0.size (fun k hk e => by rcases e with e | e <;> omega)
    simp only [settle, List.dropWhile_nil]
    have r0 := V5.cell 0
    have r1 := E5.cell 0
    refine ⟨.tuple #[.int .u64 0, .int .i64 5], ?_, rfl, B5⟩
    simp [results, Try.results37, go_sem, r0, r1]
  · have e4 : decide ((len : Int) < from_) = false := by simp; omega
    have e4' : decide (len < from_) = false := by simp; omega
    go_enter_defers Try.func37, Try.ntmps37
    go_wp2_with fail
    refine HA.out.mono ?_
    rintro e w1 ⟨rfl, rfl⟩
    go_wp2_with fail
    refine leaves_cons (f := 47) (args := #[.pointer (some ⟨w.heap.size, 0, none⟩), .pointer (some ⟨w.heap.size + 1, 0, none⟩)]) (by simp) (by simp [go_sem]) ?_
    refine HC.out.mono ?_
    rintro e u' w5 ⟨rfl, rfl, V5, E5, S5⟩
    have B5 := S5.below_of hB0 hB0.size (fun k hk e => by rcases e with e | e <;> omega)
    simp only [settle, List.dropWhile_nil]
    have r0 := V5.cell 0
    have r1 := E5.cell 0
    refine ⟨.tuple #[.int .u64 0, .int .i64 5], ?_, rfl, B5⟩
    simp [results, Try.results37, go_sem, r0, r1]
end Go.Proofs.Yteknaaijlkenkaa
