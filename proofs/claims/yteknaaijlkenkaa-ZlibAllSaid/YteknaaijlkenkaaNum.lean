import Derived.Test.YteknaaijlkenkaaJInn
namespace Go.Proofs.Yteknaaijlkenkaa
set_option linter.unusedVariables false
set_option linter.unusedSimpArgs false
open Go.RowKit

theorem or_low8 (v x : Nat) (hx : x < 256) (hv : v * 256 + x < 2 ^ 32) : bits .or .u64 ((v * 256 : Nat) : Int) (x : Int) = ((v * 256 + x : Nat) : Int) := by
  have h := or_addK .u64 (by simp) x v 8 hx (by simp only [IntKind.bits]; omega)
  have hc : bits .or .u64 ((v * 256 : Nat) : Int) (x : Int) = bits .or .u64 (x : Int) ((v : Int) * 2 ^ 8) := by
    show IntKind.u64.wrap ((BitVec.ofInt IntKind.u64.bits ((v * 256 : Nat) : Int) ||| BitVec.ofInt IntKind.u64.bits (x : Int)).toNat : Int) = IntKind.u64.wrap ((BitVec.ofInt IntKind.u64.bits (x : Int) ||| BitVec.ofInt IntKind.u64.bits ((v : Int) * 2 ^ 8)).toNat : Int)
    rw [BitVec.or_comm, show ((v * 256 : Nat) : Int) = (v : Int) * 2 ^ 8 from by omega]
  rw [hc, h]
  omega
set_option maxHeartbeats 1600000 in
set_option maxRecDepth 100000 in
theorem num_at (A : Option Addr) (c : Nat) (l : List Int) (i : Nat) (hi : i < l.length) (w : World) (h : RowOf w .u8 A c l) :
    Calls Try.prog 49 #[.slice A l.length c, .int .i64 i] w fun e w' => e = .returned (.int .u8 (l.getD i 0)) ∧ w' = w := by
  obtain ⟨ad, rfl, hc⟩ := h.rd.at_ hi
  have hm := h.most
  have hcap := h.cap
  have e1 : decide ((i : Int) < 0) = false := by simp
  have e2 : decide ((l.length : Int) ≤ i) = false := by simp; omega
  have e2' : decide (l.length ≤ i) = false := by simp; omega
  generalize l.getD i 0 = x at *
  go_enter Try.func49, Try.ntmps49
  go_wp2_with fail
  go_ret
  exact ⟨rfl, rfl⟩
set_option maxHeartbeats 1600000 in
set_option maxRecDepth 100000 in
theorem num_big1 (i : Int) (w : World) : Calls Try.prog 38 #[.int .i64 i] w fun e w' => e = .returned (.int .i64 i) ∧ w' = w := by
  go_enter Try.func38, Try.ntmps38
  go_wp2_with fail
  go_ret
  exact ⟨rfl, rfl⟩
set_option maxHeartbeats 1600000 in
set_option maxRecDepth 100000 in
theorem read_idle (p0 p1 : Value) (w : World) :
    CallsD Try.prog 47 #[p0, p1] .returning w fun e u' w' => e = .returned (.tuple #[]) ∧ u' = .returning ∧ w' = w.alloc (.cells #[.int .i64 0, .int .i64 0] 93) := by
  refine callsD_of_wpS Try.func47 rfl fun c₀ cs hu => ?_
  have hta : ∀ w, (Instr.typeAssert .nilIface 20 93 true).run Try.prog w = .ok (.tuple #[.agg #[.int .i64 0, .int .i64 0], .bool false]) w := fun _ => by kernel_rfl
  have hrec : recoverD (c₀ :: cs) = none := by simp [recoverD, hu]
  have HR := Lib.hid hrec
  have HU := Lib.hid hu
  clear hrec hu
  apply wpS_seq
  refine wpS_recover_noneI rfl (by simp [go_sem]) HR.out ?_
  clear HR
  simp only [Try.ntmps47, List.size_toArray, List.length_cons, List.length_nil, Nat.reduceAdd, Nat.reduceSub, Array.replicate_succ, Array.replicate_zero, List.push_toArray, List.append_toArray, List.nil_append, List.cons_append, Act.put]
  go_wp2
  simp only [Exit.thenS]
  refine wpS_of_wp ?_
  go_wp2
  refine ⟨rfl, _, ?_, .tuple #[], by simp [results, Try.results47], rfl, rfl, rfl⟩
  have := HU.out
  cases c₀
  simp_all
/-- A number of the next n bytes, the highest first. -/
def beN (l : List Int) (from_ : Nat) : Nat → Nat
  | 0 => 0
  | n + 1 => beN l from_ n * 256 + (l.getD (from_ + n) 0).toNat
theorem beN_lt (l : List Int) (from_ : Nat) (hwf : ∀ x ∈ l, (Lit.int .u8 x).wf = true) : ∀ n, beN l from_ n < 256 ^ n
  | 0 => by simp [beN]
  | n + 1 => by
    have h := beN_lt l from_ hwf n
    have hx : (l.getD (from_ + n) 0).toNat < 256 := by
      rw [List.getD_eq_getElem?_getD]
      cases he : l[from_ + n]? with
      | none => simp
      | some x =>
        have := hwf x (List.mem_of_getElem? he)
        simp [Lit.wf, IntKind.min, IntKind.max, IntKind.bits, IntKind.signed] at this
        simp
        omega
    rw [beN, Nat.pow_succ]
    omega
structure BeRel (w : World) (l : List Int) (from_ n : Nat) (g : Nat) (v35 : Value) (wr : World) : Prop where mk ::
  out_ : ∃ i : Nat, i ≤ n ∧ n ≤ g + i ∧ v35 = .int .i64 (i : Int) ∧ Blk wr w.heap.size 41 #[.int .u64 (beN l from_ i : Nat)] ∧ Blk wr (w.heap.size + 1) 25 #[.int .i64 0] ∧ Below w.heap.size w wr
def BeDone (w : World) (l : List Int) (from_ n : Nat) (wr : World) : Prop := Blk wr w.heap.size 41 #[.int .u64 (beN l from_ n : Nat)] ∧ Blk wr (w.heap.size + 1) 25 #[.int .i64 0] ∧ Below w.heap.size w wr
set_option maxHeartbeats 4000000 in
set_option maxRecDepth 100000 in
theorem num_read (A : Option Addr) (c : Nat) (l : List Int) (from_ n : Nat) (h1 : 1 ≤ n) (h4 : n ≤ 4) (hf : from_ + n ≤ l.length) (hl : l.length ≤ 1000000000) (w : World) (h : RowOf w .u8 A c l) :
    Calls Try.prog 37 #[.slice A l.length c, .int .i64 from_, .int .i64 n, .func (.func 38) #[] #[]] w fun e w' => e = .returned (.tuple #[.int .u64 (beN l from_ n : Nat), .int .i64 0]) ∧ Below w.heap.size w w' := by
  have e1 : decide ((n : Int) < 1) = false := by simp; omega
  have e1' : decide (n < 1) = false := by simp; omega
  have e2 : decide ((8 : Int) < n) = false := by simp; omega
  have e2' : decide (8 < n) = false := by simp; omega
  have e3 : decide ((from_ : Int) < 0) = false := by simp
  have e4 : decide ((l.length : Int) < from_) = false := by simp; omega
  have e4' : decide (l.length < from_) = false := by simp; omega
  have hB0 := (((Below.refl w.heap.size w).alloc (Nat.le_refl _) (.cells #[.int .u64 0] 41)).alloc (by simp) (.cells #[.int .i64 0] 25))
  have hx0 : Blk ((w.alloc (.cells #[.int .u64 0] 41)).alloc (.cells #[.int .i64 0] 25)) w.heap.size 41 #[.int .u64 0] := (Blk.new w _ _).alloc _
  have hx1 := Blk.new (w.alloc (.cells #[.int .u64 0] 41)) 25 #[.int .i64 0]
  rw [World.size_alloc] at hx1
  have HA := num_at A c l (from_ + n - 1) (by omega) _ (h.belo hB0)
  rw [show ((from_ + n - 1 : Nat) : Int) = (from_ : Int) + n - 1 from by omega] at HA
  have HA := Lib.hid HA
  go_enter_defers Try.func37, Try.ntmps37
  go_wp2_with fail
  refine HA.out.mono ?_
  rintro e w1 ⟨rfl, rfl⟩
  go_wp2_with fail
  generalize (w.alloc (.cells #[.int .u64 0] 41)).alloc (.cells #[.int .i64 0] 25) = W1 at *
  go_loopg [35] n (BeRel w l from_ n)
  case atStart => exact ⟨0, by omega, by omega, rfl, hx0, hx1, hB0⟩
  case round =>
    obtain ⟨i, hin, hg, rfl, b0, b1, hB⟩ := hrel.out_
    have d0 : wr.cell? ⟨w.heap.size, 0, none⟩ = some (.int .u64 (beN l from_ i : Nat)) := b0.cell 0
    have f0 := b0.frozen 0
    have d1 : wr.cell? ⟨w.heap.size + 1, 0, none⟩ = some (.int .i64 0) := b1.cell 0
    have f1 := b1.frozen 0
    rcases Nat.lt_or_ge i n with hlt | hge
    · have c1 : decide ((i : Int) < n) = true := by simp; omega
      have hrow := h.belo hB
      have HA := (fun (W : World) (hs : Same (fun _ => False) wr W) => num_at A c l (from_ + i) (by omega) W (hrow.same hs (fun _ _ c => c)))
      have hv := beN_lt l from_ h.wf (i + 1)
      rw [beN] at hv
      simp only [Int.natCast_add] at HA
      have hsum : IntKind.i64.wrap ((from_ : Int) + i) = (from_ : Int) + i := IntWalk.i64_in _ (by omega)
      have hx : (0 : Int) ≤ l[from_ + i]?.getD 0 ∧ l[from_ + i]?.getD 0 < 256 := by
        cases he : l[from_ + i]? with
        | none => simp
        | some x =>
          have := h.wf x (List.mem_of_getElem? he)
          simp [Lit.wf, IntKind.min, IntKind.max, IntKind.bits, IntKind.signed] at this
          simp
          omega
      have hpw : 256 ^ (i + 1) ≤ 256 ^ 4 := Nat.pow_le_pow_right (by omega) (by omega)
      have hor : bits .or .u64 (IntKind.u64.wrap ((beN l from_ i : Nat) * 256)) (IntKind.u64.wrap (l[from_ + i]?.getD 0)) = ((beN l from_ (i + 1) : Nat) : Int) := by
        rw [show beN l from_ (i + 1) = beN l from_ i * 256 + (l.getD (from_ + i) 0).toNat from rfl]
        rw [List.getD_eq_getElem?_getD] at *
        generalize l[from_ + i]?.getD 0 = x at *
        generalize beN l from_ i = v at *
        obtain ⟨y, rfl⟩ : ∃ y : Nat, x = (y : Int) := ⟨x.toNat, by omega⟩
        rw [Int.toNat_natCast] at *
        have e1 : IntKind.u64.wrap ((v : Int) * 256) = ((v * 256 : Nat) : Int) := by rw [IntKind.wrap]; simp [IntKind.signed, IntKind.bits]; omega
        have e2 : IntKind.u64.wrap (y : Int) = (y : Int) := by rw [IntKind.wrap]; simp [IntKind.signed, IntKind.bits]; omega
        rw [e1, e2]
        exact or_low8 v y (by omega) (by omega)
      have HOR := Lib.hid hor
      clear hv hx hpw hor
      go_upto_region 10 with fail
      refine wp_region_noPanic ?_
      go_region_with (first
        | (go_at_call 38; refine (num_big1 _ _).mono ?_; rintro e w5 ⟨rfl, hw⟩; subst hw)
        | (go_at_call 49; refine (HA _ ?_).mono ?_; (first | exact (Same.refl _).drew | exact Same.refl _ | assumption); rintro e w4 ⟨rfl, hw⟩; subst hw))
      all_goals
        refine NoPanic.normal ?_
        rw [HOR.out]
        have hs0 := (b0.set_ 0 (.int .u64 (beN l from_ (i + 1) : Nat))).drew
        have hs1 := (b1.far (p := ⟨w.heap.size, 0, none⟩) (by simp only; omega) (.int .u64 (beN l from_ (i + 1) : Nat))).drew
        have hB7 := (below_set hB (p := ⟨w.heap.size, 0, none⟩) (by simp only; omega) (.int .u64 (beN l from_ (i + 1) : Nat))).drew
        have hwi : IntKind.i64.wrap ((i : Int) + 1) = (i : Int) + 1 := IntWalk.i64_in _ (by omega)
        generalize (wr.setCell ⟨w.heap.size, 0, none⟩ (.int .u64 (beN l from_ (i + 1) : Nat))).drew = w9 at *
        clear b0 b1 d0 f0 d1 f1
        go_wp2_with fail
        go_roundg (gk - 1)
        case measure => omega
        case rel => exact ⟨i + 1, by omega, by omega, by go_num, hs0, hs1, hB7⟩
    · have : i = n := by omega
      subst this
      have c1 : decide ((i : Int) < i) = false := by simp
      have m0 := b0.set_ 0 (.int .u64 (beN l from_ i : Nat))
      have m1 := ((b1.far (p := ⟨w.heap.size, 0, none⟩) (by simp only; omega) (.int .u64 (beN l from_ i : Nat))).set_ 0 (.int .i64 0))
      have m0' := m0.far (p := ⟨w.heap.size + 1, 0, none⟩) (by simp only; omega) (.int .i64 0)
      have hB5 := below_set (below_set hB (p := ⟨w.heap.size, 0, none⟩) (by simp only; omega) (.int .u64 (beN l from_ i : Nat))) (p := ⟨w.heap.size + 1, 0, none⟩) (by simp only; omega) (.int .i64 0)
      have r0 := (m0'.alloc (.cells #[.int .i64 0, .int .i64 0] 93)).cell 0
      have r1 := (m1.alloc (.cells #[.int .i64 0, .int .i64 0] 93)).cell 0
      have f2 := (b1.far (p := ⟨w.heap.size, 0, none⟩) (by simp only; omega) (.int .u64 (beN l from_ i : Nat))).frozen 0
      have hB6 := hB5.alloc (by have := hB5.size; omega) (.cells #[.int .i64 0, .int .i64 0] 93)
      clear b0 b1 m0 m1 m0'
      go_wp2_with fail
      refine leaves_cons (f := 47) (args := #[.pointer (some ⟨w.heap.size, 0, none⟩), .pointer (some ⟨w.heap.size + 1, 0, none⟩)]) (by simp) (by simp [go_sem]) ?_
      refine (read_idle _ _ _).mono ?_
      rintro e u' w7 ⟨rfl, rfl, rfl⟩
      simp only [settle]
      refine ⟨.tuple #[.int .u64 (beN l from_ i : Nat), .int .i64 0], ?_, rfl, hB6⟩
      simp [results, Try.results37, go_sem, r0, r1]
end Go.Proofs.Yteknaaijlkenkaa
