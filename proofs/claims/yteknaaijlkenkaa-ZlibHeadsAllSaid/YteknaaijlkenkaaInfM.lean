import Derived.Test.YteknaaijlkenkaaInfL
import Derived.Recover
import Derived.Laws.Pointers
namespace Go.Proofs.Yteknaaijlkenkaa
set_option linter.unusedVariables false
set_option linter.unusedSimpArgs false
open Go.RowKit
attribute [local go_sem] max2i min2i max2t min2t

section
variable {P : Program} {Q : Exit → Act → List Frame → World → Prop} {a : Act} {cs cs' : List Frame} {w : World} {o : Oper} {l : List Oper} {v : Value} {id : Nat}
theorem range_succ_listI (n : Nat) : List.range (n + 1) = 0 :: List.range' 1 n := by
  rw [List.range_eq_range', List.range'_succ]
/-- A deferred closure whose first region begins with 'recover()': what is recovered stands in the slot, the rest is walked as ever. -/
theorem wpS_recover_someI (hgd : o.guard = none) (hop : (execOp a.eval o).run P w = .ok .recover w) (hc : recoverD cs = some (v, cs'))
    (h : wpList P (o :: l).toArray (fun e a' w' => Q e a' cs' w') l (a.put o.dst v) w) : (Code.region id (o :: l).toArray false).wpS P Q a cs w := by
  intro b k hb hro
  have ho : ((o :: l).toArray)[0]? = some o := by simp
  have hw : Region.wanted o (yielded (o :: l).toArray a.tmps) = true := by simp [Region.wanted, hgd]
  have hl : wpOps P (o :: l).toArray (fun e a' w' => Q e a' cs' w') (List.range' 1 l.length) (a.put o.dst v) w := by
    rw [wpOps_eq_wpList l 1 (fun j => by simp [Nat.add_comm 1 j])]; exact h
  obtain ⟨e, a', w', q, harr⟩ := wp_ops _ _ _ hl b k cs'
  have hg := stepG_op (P := P) (b := b) (k := k) (cs := cs) (w := w) (rest := List.range' 1 l.length) ho hw
  have hfin : (b.at a (.inRegion (o :: l).toArray (0 :: List.range' 1 l.length) :: k)).finish v = b.at (a.put o.dst v) (.inRegion (o :: l).toArray (List.range' 1 l.length) :: k) := by
    rw [Frame.finish_at, ho]; rfl
  have hk : (b.at a (.inRegion (o :: l).toArray (0 :: List.range' 1 l.length) :: k)).kind = .deferred := hb
  have htr := tryRecover_deferred hk cs
  have h1 : step P (lone (b.at a (.code (.region id (o :: l).toArray false) :: k)) cs w) = .next (lone (b.at a (.inRegion (o :: l).toArray (0 :: List.range' 1 l.length) :: k)) cs w) := by
    have := step_region (P := P) (b := b) (a := a) (k := k) (cs := cs) (w := w) (ops := (o :: l).toArray) (id := id)
    rw [this]
    simp only [List.size_toArray, List.length_cons, range_succ_listI]
  refine ⟨e, a', cs', w', q, .of_steps (.head h1 (.one (step_lone_go ?_))) harr⟩
  rw [hg, ← hfin]
  simp only [Frame.at] at htr ⊢
  simp [stepG.apply, hop, htr, hc]
theorem wpS_recover_noneI (hgd : o.guard = none) (hop : (execOp a.eval o).run P w = .ok .recover w) (hc : recoverD cs = none)
    (h : wpList P (o :: l).toArray (fun e a' w' => Q e a' cs w') l (a.put o.dst .nilIface) w) : (Code.region id (o :: l).toArray false).wpS P Q a cs w := by
  intro b k hb hro
  have ho : ((o :: l).toArray)[0]? = some o := by simp
  have hw : Region.wanted o (yielded (o :: l).toArray a.tmps) = true := by simp [Region.wanted, hgd]
  have hl : wpOps P (o :: l).toArray (fun e a' w' => Q e a' cs w') (List.range' 1 l.length) (a.put o.dst .nilIface) w := by
    rw [wpOps_eq_wpList l 1 (fun j => by simp [Nat.add_comm 1 j])]; exact h
  obtain ⟨e, a', w', q, harr⟩ := wp_ops _ _ _ hl b k cs
  have hg := stepG_op (P := P) (b := b) (k := k) (cs := cs) (w := w) (rest := List.range' 1 l.length) ho hw
  have hfin : (b.at a (.inRegion (o :: l).toArray (0 :: List.range' 1 l.length) :: k)).finish .nilIface = b.at (a.put o.dst .nilIface) (.inRegion (o :: l).toArray (List.range' 1 l.length) :: k) := by
    rw [Frame.finish_at, ho]; rfl
  have hk : (b.at a (.inRegion (o :: l).toArray (0 :: List.range' 1 l.length) :: k)).kind = .deferred := hb
  have htr := tryRecover_deferred hk cs
  have h1 : step P (lone (b.at a (.code (.region id (o :: l).toArray false) :: k)) cs w) = .next (lone (b.at a (.inRegion (o :: l).toArray (0 :: List.range' 1 l.length) :: k)) cs w) := by
    have := step_region (P := P) (b := b) (a := a) (k := k) (cs := cs) (w := w) (ops := (o :: l).toArray) (id := id)
    rw [this]
    simp only [List.size_toArray, List.length_cons, range_succ_listI]
  refine ⟨e, a', cs, w', q, .of_steps (.head h1 (.one (step_lone_go ?_))) harr⟩
  rw [hg, ← hfin]
  simp only [Frame.at] at htr ⊢
  simp [stepG.apply, hop, htr, hc]
end


theorem run_assert_faultI (code : Int) (w : World) :
    (Instr.typeAssert (.iface 93 (.agg #[.int .i64 code, .int .i64 0])) 20 93 true).run Try.prog w = .ok (.tuple #[.agg #[.int .i64 code, .int .i64 0], .bool true]) w := by
  kernel_rfl
set_option maxHeartbeats 1600000 in
set_option maxRecDepth 100000 in
theorem step_catch5 (bm bx ba p : Nat) (m0 : Bool) (at0 a0 e0 : Int) (cs : Array Value) (older : List PanicEntry) (w : World) (hm : Blk w bm 4 #[.bool m0]) (hx : Blk w bx 64 #[.pointer (some ⟨p, 0, none⟩)]) (ha : Blk w ba 3 #[.int .i64 at0])
    (hp : Blk w p 91 cs) (h13 : cs[13]? = some (.int .i64 e0)) (h4 : cs[4]? = some (.int .i64 a0)) (code : Int) (hc : code = 5) :
    CallsD Try.prog 60 #[.pointer (some ⟨bm, 0, none⟩), .pointer (some ⟨bx, 0, none⟩), .pointer (some ⟨ba, 0, none⟩)] (.panicking (faultI code :: older)) w fun e u' w' =>
      e = .returned (.tuple #[]) ∧ u' = .panicking ({ faultI code with recovered := true } :: older) ∧ w' = (((w.alloc (.cells #[.int .i64 code, .int .i64 0] 93)).setCell ⟨bm, 0, none⟩ (.bool false)).setCell ⟨p, 13, none⟩ (.int .i64 code)).drew.setCell ⟨p, 4, none⟩ (.int .i64 at0) := by
  have ec : (code == 5) = true := by simp [hc]
  clear hc
  have cm := hm.cell 0
  have cx := hx.cell 0
  have ca := ha.cell 0
  have fm := hm.frozen 0
  have cp := (hp.cell 13).trans h13
  have fp := hp.frozen 13
  have cp4 := (hp.cell 4).trans h4
  have fp4 := hp.frozen 4
  have nmp : bm ≠ p := hm.ne_ hp (by decide)
  have nmx : bm ≠ bx := hm.ne_ hx (by decide)
  have nma : bm ≠ ba := hm.ne_ ha (by decide)
  have nxp : bx ≠ p := hx.ne_ hp (by decide)
  have nap : ba ≠ p := ha.ne_ hp (by decide)
  have lm := hm.lt
  have lx := hx.lt
  have la := ha.lt
  have lp := hp.lt
  refine callsD_of_wpS Try.func60 rfl fun c₀ cs₀ hu => ?_
  have hta := fun w => run_assert_faultI code w
  have hrec : recoverD (c₀ :: cs₀) = some (.iface 93 (.agg #[.int .i64 code, .int .i64 0]), { c₀ with mode := .panicking ({ faultI code with recovered := true } :: older) } :: cs₀) := by simp [recoverD, hu, faultI]
  have HR := Lib.hid hrec
  clear hrec hu hm hx ha hp
  apply wpS_seq
  refine wpS_recover_someI rfl (by simp [go_sem]) HR.out ?_
  clear HR
  generalize hcs : ({ c₀ with mode := .panicking ({ faultI code with recovered := true } :: older) } :: cs₀ : List Frame) = cs'
  have HC := Lib.hid hcs
  clear hcs
  simp only [Try.ntmps60, List.size_toArray, List.length_cons, List.length_nil, Nat.reduceAdd, Nat.reduceSub, Array.replicate_succ, Array.replicate_zero, List.push_toArray, List.append_toArray, List.nil_append, List.cons_append, Act.put]
  go_wp2
  simp only [Exit.thenS]
  refine wpS_of_wp ?_
  go_wp2
  go_region
  all_goals go_wp2
  all_goals exact ⟨rfl, _, HC.out.symm, .tuple #[], by simp [results, Try.results60], rfl, rfl, rfl⟩
set_option maxHeartbeats 1600000 in
set_option maxRecDepth 100000 in
theorem step_catch (bm bx ba p : Nat) (m0 : Bool) (at0 a0 e0 : Int) (cs : Array Value) (older : List PanicEntry) (w : World) (hm : Blk w bm 4 #[.bool m0]) (hx : Blk w bx 64 #[.pointer (some ⟨p, 0, none⟩)]) (ha : Blk w ba 3 #[.int .i64 at0])
    (hp : Blk w p 91 cs) (h13 : cs[13]? = some (.int .i64 e0)) (h4 : cs[4]? = some (.int .i64 a0)) (code : Int) (hc : code ≠ 5) :
    CallsD Try.prog 60 #[.pointer (some ⟨bm, 0, none⟩), .pointer (some ⟨bx, 0, none⟩), .pointer (some ⟨ba, 0, none⟩)] (.panicking (faultI code :: older)) w fun e u' w' =>
      e = .returned (.tuple #[]) ∧ u' = .panicking ({ faultI code with recovered := true } :: older) ∧ w' = (((w.alloc (.cells #[.int .i64 code, .int .i64 0] 93)).setCell ⟨bm, 0, none⟩ (.bool false)).setCell ⟨p, 13, none⟩ (.int .i64 code)).drew := by
  have ec : (code == 5) = false := by rw [beq_eq_false_iff_ne]; exact hc
  have cm := hm.cell 0
  have cx := hx.cell 0
  have ca := ha.cell 0
  have fm := hm.frozen 0
  have cp := (hp.cell 13).trans h13
  have fp := hp.frozen 13
  have cp4 := (hp.cell 4).trans h4
  have fp4 := hp.frozen 4
  have nmp : bm ≠ p := hm.ne_ hp (by decide)
  have nmx : bm ≠ bx := hm.ne_ hx (by decide)
  have nma : bm ≠ ba := hm.ne_ ha (by decide)
  have nxp : bx ≠ p := hx.ne_ hp (by decide)
  have nap : ba ≠ p := ha.ne_ hp (by decide)
  have lm := hm.lt
  have lx := hx.lt
  have la := ha.lt
  have lp := hp.lt
  refine callsD_of_wpS Try.func60 rfl fun c₀ cs₀ hu => ?_
  have hta := fun w => run_assert_faultI code w
  have hrec : recoverD (c₀ :: cs₀) = some (.iface 93 (.agg #[.int .i64 code, .int .i64 0]), { c₀ with mode := .panicking ({ faultI code with recovered := true } :: older) } :: cs₀) := by simp [recoverD, hu, faultI]
  have HR := Lib.hid hrec
  clear hrec hu hm hx ha hp
  apply wpS_seq
  refine wpS_recover_someI rfl (by simp [go_sem]) HR.out ?_
  clear HR
  generalize hcs : ({ c₀ with mode := .panicking ({ faultI code with recovered := true } :: older) } :: cs₀ : List Frame) = cs'
  have HC := Lib.hid hcs
  clear hcs
  simp only [Try.ntmps60, List.size_toArray, List.length_cons, List.length_nil, Nat.reduceAdd, Nat.reduceSub, Array.replicate_succ, Array.replicate_zero, List.push_toArray, List.append_toArray, List.nil_append, List.cons_append, Act.put]
  go_wp2
  simp only [Exit.thenS]
  refine wpS_of_wp ?_
  go_wp2
  go_region
  all_goals go_wp2
  all_goals exact ⟨rfl, _, HC.out.symm, .tuple #[], by simp [results, Try.results60], rfl, rfl, rfl⟩
set_option maxHeartbeats 1600000 in
set_option maxRecDepth 100000 in
theorem step_idle (p0 p1 p2 : Value) (w : World) :
    CallsD Try.prog 60 #[p0, p1, p2] .returning w fun e u' w' => e = .returned (.tuple #[]) ∧ u' = .returning ∧ w' = w.alloc (.cells #[.int .i64 0, .int .i64 0] 93) := by
  refine callsD_of_wpS Try.func60 rfl fun c₀ cs hu => ?_
  have hta : ∀ w, (Instr.typeAssert .nilIface 20 93 true).run Try.prog w = .ok (.tuple #[.agg #[.int .i64 0, .int .i64 0], .bool false]) w := fun _ => by kernel_rfl
  have hrec : recoverD (c₀ :: cs) = none := by simp [recoverD, hu]
  have HR := Lib.hid hrec
  have HU := Lib.hid hu
  clear hrec hu
  apply wpS_seq
  refine wpS_recover_noneI rfl (by simp [go_sem]) HR.out ?_
  clear HR
  simp only [Try.ntmps60, List.size_toArray, List.length_cons, List.length_nil, Nat.reduceAdd, Nat.reduceSub, Array.replicate_succ, Array.replicate_zero, List.push_toArray, List.append_toArray, List.nil_append, List.cons_append, Act.put]
  go_wp2
  simp only [Exit.thenS]
  refine wpS_of_wp ?_
  go_wp2
  refine ⟨rfl, _, ?_, .tuple #[], by simp [results, Try.results60], rfl, rfl, rfl⟩
  have := HU.out
  cases c₀
  simp_all
end Go.Proofs.Yteknaaijlkenkaa
