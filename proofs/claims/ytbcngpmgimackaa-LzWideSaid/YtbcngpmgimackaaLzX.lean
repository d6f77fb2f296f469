import Derived.Test.YtbcngpmgimackaaLzE
import Derived.Recover
import Derived.Laws.Pointers
namespace Go.Proofs.Ytbcngpmgimackaa
open Go.RowKit
attribute [local go_sem] max2i min2i max2t min2t

/-- The three named results, each in a block of its own. -/
structure Named (w : World) (p0 p1 p2 : Nat) (v : Value) (at_ e : Int) : Prop where
  b0 : Blk w p0 28 #[v]
  b1 : Blk w p1 3 #[.int .i64 at_]
  b2 : Blk w p2 24 #[.int .i64 e]

section
variable {P : Program} {Q : Exit → Act → List Frame → World → Prop} {a : Act} {cs cs' : List Frame} {w : World} {o : Oper} {l : List Oper} {v : Value} {id : Nat}
theorem range_succ_list (n : Nat) : List.range (n + 1) = 0 :: List.range' 1 n := by
  rw [List.range_eq_range', List.range'_succ]
/-- A deferred closure whose first region begins with 'recover()': what is recovered stands in the slot, the rest is walked as ever. -/
theorem wpS_recover_some (hgd : o.guard = none) (hop : (execOp a.eval o).run P w = .ok .recover w) (hc : recoverD cs = some (v, cs'))
    (h : wpList P (o :: l).toArray (fun e a' w' => Q e a' cs' w') l (a.put o.dst v) w) : (Code.region id (o :: l).toArray false).wpS P Q a cs w := by
  intro b k hb hro
  have ho : ((o :: l).toArray)[0]? = some o := by simp
  have hw : Region.wanted o (yielded (o :: l).toArray a.tmps) = true := by simp [Region.wanted, hgd]
  have hl : wpOps P (o :: l).toArray (fun e a' w' => Q e a' cs' w') (List.range' 1 l.length) (a.put o.dst v) w := by
    rw [wpOps_eq_wpList l 1 (fun j => by simp [Nat.add_comm 1 j])]; exact h
  obtain ⟨e, a', w', q, harr⟩ := wp_ops _ _ _ hl b k cs'
  have hg := stepG_op (P := P) (b := b) (k := k) (cs := cs) (w := w) (rest := List.range' 1 l.length) ho hw
  have hfin : (b.at a (.inRegion (o :: l).toArray (0 :: List.range' 1 l.length) :: k)).finish v = b.at (a.put o.dst v) (.inRegion (o :: l).toArray (List.range' 1 l.length) :: k) := by
    rw [Frame.finish_at, ho]; rfl
  have hk : (b.at a (.inRegion (o :: l).toArray (0 :: List.range' 1 l.length) :: k)).kind = .deferred := hb
  have htr := tryRecover_deferred hk cs
  have h1 : step P (lone (b.at a (.code (.region id (o :: l).toArray false) :: k)) cs w) = .next (lone (b.at a (.inRegion (o :: l).toArray (0 :: List.range' 1 l.length) :: k)) cs w) := by
    have := step_region (P := P) (b := b) (a := a) (k := k) (cs := cs) (w := w) (ops := (o :: l).toArray) (id := id)
    rw [this]
    simp only [List.size_toArray, List.length_cons, range_succ_list]
  refine ⟨e, a', cs', w', q, .of_steps (.head h1 (.one (step_lone_go ?_))) harr⟩
  rw [hg, ← hfin]
  simp only [Frame.at] at htr ⊢
  simp [stepG.apply, hop, htr, hc]
theorem wpS_recover_none (hgd : o.guard = none) (hop : (execOp a.eval o).run P w = .ok .recover w) (hc : recoverD cs = none)
    (h : wpList P (o :: l).toArray (fun e a' w' => Q e a' cs w') l (a.put o.dst .nilIface) w) : (Code.region id (o :: l).toArray false).wpS P Q a cs w := by
  intro b k hb hro
  have ho : ((o :: l).toArray)[0]? = some o := by simp
  have hw : Region.wanted o (yielded (o :: l).toArray a.tmps) = true := by simp [Region.wanted, hgd]
  have hl : wpOps P (o :: l).toArray (fun e a' w' => Q e a' cs w') (List.range' 1 l.length) (a.put o.dst .nilIface) w := by
    rw [wpOps_eq_wpList l 1 (fun j => by simp [Nat.add_comm 1 j])]; exact h
  obtain ⟨e, a', w', q, harr⟩ := wp_ops _ _ _ hl b k cs
  have hg := stepG_op (P := P) (b := b) (k := k) (cs := cs) (w := w) (rest := List.range' 1 l.length) ho hw
  have hfin : (b.at a (.inRegion (o :: l).toArray (0 :: List.range' 1 l.length) :: k)).finish .nilIface = b.at (a.put o.dst .nilIface) (.inRegion (o :: l).toArray (List.range' 1 l.length) :: k) := by
    rw [Frame.finish_at, ho]; rfl
  have hk : (b.at a (.inRegion (o :: l).toArray (0 :: List.range' 1 l.length) :: k)).kind = .deferred := hb
  have htr := tryRecover_deferred hk cs
  have h1 : step P (lone (b.at a (.code (.region id (o :: l).toArray false) :: k)) cs w) = .next (lone (b.at a (.inRegion (o :: l).toArray (0 :: List.range' 1 l.length) :: k)) cs w) := by
    have := step_region (P := P) (b := b) (a := a) (k := k) (cs := cs) (w := w) (ops := (o :: l).toArray) (id := id)
    rw [this]
    simp only [List.size_toArray, List.length_cons, range_succ_list]
  refine ⟨e, a', cs, w', q, .of_steps (.head h1 (.one (step_lone_go ?_))) harr⟩
  rw [hg, ← hfin]
  simp only [Frame.at] at htr ⊢
  simp [stepG.apply, hop, htr, hc]
end

theorem run_assert_fault (code at_ : Int) (w : World) :
    (Instr.typeAssert (.iface 54 (.agg #[.int .i64 code, .int .i64 at_])) 20 54 true).run Try.prog w = .ok (.tuple #[.agg #[.int .i64 code, .int .i64 at_], .bool true]) w := by
  kernel_rfl

set_option maxHeartbeats 100000 in
theorem catch_panics (p0 p1 p2 : Nat) (A : Option Addr) (n c : Nat) (at0 e0 code at_ : Int) (older : List PanicEntry) (w : World) (h : Named w p0 p1 p2 (.slice A n c) at0 e0) :
    CallsD Try.prog 24 #[.pointer (some ⟨p0, 0, none⟩), .pointer (some ⟨p1, 0, none⟩), .pointer (some ⟨p2, 0, none⟩)] (.panicking (faultOf code at_ :: older)) w fun e u' w' =>
      e = .returned (.tuple #[]) ∧ u' = .panicking ({ faultOf code at_ with recovered := true } :: older) ∧ w' = ((((w.alloc (.cells #[.int .i64 code, .int .i64 at_] 54)).setCell ⟨p0, 0, none⟩ (.slice none 0 0)).setCell ⟨p1, 0, none⟩ (.int .i64 at_)).setCell ⟨p2, 0, none⟩ (.int .i64 code)).drew := by
  have c0 := h.b0.cell 0
  have c1 := h.b1.cell 0
  have c2 := h.b2.cell 0
  have f0 := h.b0.frozen 0
  have f1 := h.b1.frozen 0
  have f2 := h.b2.frozen 0
  have n01 : p0 ≠ p1 := h.b0.ne_ h.b1 (by decide)
  have n02 : p0 ≠ p2 := h.b0.ne_ h.b2 (by decide)
  have n12 : p1 ≠ p2 := h.b1.ne_ h.b2 (by decide)
  have l0 := h.b0.lt
  have l1 := h.b1.lt
  have l2 := h.b2.lt
  refine callsD_of_wpS Try.func24 rfl fun c₀ cs hu => ?_
  have hta := fun w => run_assert_fault code at_ w
  have hrec : recoverD (c₀ :: cs) = some (.iface 54 (.agg #[.int .i64 code, .int .i64 at_]), { c₀ with mode := .panicking ({ faultOf code at_ with recovered := true } :: older) } :: cs) := by simp [recoverD, hu, faultOf]
  have HR := Lib.hid hrec
  clear hrec hu h
  apply wpS_seq
  refine wpS_recover_some rfl (by simp [go_sem]) HR.out ?_
  clear HR
  generalize hcs : ({ c₀ with mode := .panicking ({ faultOf code at_ with recovered := true } :: older) } :: cs : List Frame) = cs'
  have HC := Lib.hid hcs
  clear hcs
  simp only [Try.ntmps24, List.size_toArray, List.length_cons, List.length_nil, Nat.reduceAdd, Nat.reduceSub, Array.replicate_succ, Array.replicate_zero, List.push_toArray, List.append_toArray, List.nil_append, List.cons_append, Act.put]
  go_wp2
  simp only [Exit.thenS]
  refine wpS_of_wp ?_
  go_wp2
  go_region
  all_goals go_wp2
  all_goals exact ⟨rfl, _, HC.out.symm, .tuple #[], by simp [results, Try.results24], rfl, rfl, rfl⟩

set_option maxHeartbeats 1600000 in
set_option maxRecDepth 100000 in
theorem catch_idle (p0 p1 p2 : Value) (w : World) :
    CallsD Try.prog 24 #[p0, p1, p2] .returning w fun e u' w' => e = .returned (.tuple #[]) ∧ u' = .returning ∧ w' = w.alloc (.cells #[.int .i64 0, .int .i64 0] 54) := by
  refine callsD_of_wpS Try.func24 rfl fun c₀ cs hu => ?_
  have hta : ∀ w, (Instr.typeAssert .nilIface 20 54 true).run Try.prog w = .ok (.tuple #[.agg #[.int .i64 0, .int .i64 0], .bool false]) w := fun _ => by kernel_rfl
  have hrec : recoverD (c₀ :: cs) = none := by simp [recoverD, hu]
  have HR := Lib.hid hrec
  have HU := Lib.hid hu
  clear hrec hu
  apply wpS_seq
  refine wpS_recover_none rfl (by simp [go_sem]) HR.out ?_
  clear HR
  simp only [Try.ntmps24, List.size_toArray, List.length_cons, List.length_nil, Nat.reduceAdd, Nat.reduceSub, Array.replicate_succ, Array.replicate_zero, List.push_toArray, List.append_toArray, List.nil_append, List.cons_append, Act.put]
  go_wp2
  simp only [Exit.thenS]
  refine wpS_of_wp ?_
  go_wp2
  refine ⟨rfl, _, ?_, .tuple #[], by simp [results, Try.results24], rfl, rfl, rfl⟩
  have := HU.out
  cases c₀
  simp_all
end Go.Proofs.Ytbcngpmgimackaa
