import Derived.Test.YtfmglcgdcdcpaaaPkM
namespace Go.Proofs.Ytfmglcgdcdcpaaa
set_option linter.unusedVariables false
set_option linter.unusedSimpArgs false
open Go.RowKit
attribute [local go_sem] max2i min2i max2t min2t

section
variable {P : Program} (w : World)
/-- append(nil, make([]E, m)...) -/
theorem run_append_make0 (base : Nat) (t kt ty e : TypeId) (kk : IntKind) (i : TypeInfo) (z : Value) (size bytes : Nat) (ht : P.underlying t = some (.slice e)) (hkt : P.underlying kt = some (.int kk)) (hi : P.info? e = some i) (hz : i.zero = some z)
    (hsize : i.size = size) (hby : i.bytes = bytes) (hzs : z.cells.size = size) (hsz : 0 < size)
    (m : Nat) (hm : 0 < m) (news : List Value) (hnews : (Builtin.zeroCells z.cells m).toList = news)
    (h63 : m ≤ maxLen) (hbytes : m * bytes ≤ 140737488355328) (hbase : base ≤ w.heap.size) :
    ∃ cap' w', (Builtin.append_ #[t, kt] ty #[.slice none 0 0, .int .i64 m]).run P w = .ok (.slice (some ⟨w.heap.size, 0, none⟩) m cap') w' ∧ w'.ownsRow base e size (.slice (some ⟨w.heap.size, 0, none⟩) m cap') m news ∧ w.grownBy w' none := by
  subst hsize
  subst hby
  have hsmall : m ≤ 9223372036854775807 := by simp only [maxLen] at h63; omega
  have hl : news.length = m * i.size := by rw [← hnews, Array.length_toList, size_zeroCells, hzs]
  have hwr : IntKind.i64.wrap (m : Int) = m := by rw [IntKind.wrap_i64]; omega
  have hneg : ¬ (m : Int) < 0 := by omega
  have h48 : ¬ (281474976710656 < (m : Int) * i.bytes) := by
    have : ((m * i.bytes : Nat) : Int) ≤ 140737488355328 := by omega
    rw [Int.natCast_mul] at this; omega
  have hms : ¬ (m * i.size = 0) := by have := Nat.mul_pos hm hsz; omega
  have hge := grownCap_ge w m 0 e
  have hcm2 : grownCap w m 0 e ≤ maxLen := grownCap_le_maxLen w m 0 e h63
  have hfit := growslice_fits (bytes := i.bytes) (show 0 < m by omega) hbytes
  have hn' : ¬ (m ≤ 0) := by omega
  have hm0 : ¬ (m = 0) := by omega
  have h63' : ¬ (9223372036854775807 < (m : Int)) := by omega
  have h48' : ¬ (281474976710656 < Builtin.nextslicecap m 0 * i.bytes) := by omega
  refine ⟨grownCap w m 0 e, w.drew.alloc (.cells (news.toArray ++ Builtin.zeroCells z.cells (grownCap w m 0 e - m)) e), ?_, ⟨hl, .inr ⟨w.heap.size, _, _, rfl, hbase, heap_alloc_new w.drew _, hge, hcm2, ?_, ?_⟩⟩, ⟨rfl, rfl, rfl, by simp, fun k hk _ => Below.heap_alloc w.drew _ k hk⟩⟩
  · have hna : Builtin.zeroCells z.cells m = news.toArray := by rw [← hnews]
    simp [Builtin.append_, run_underlying ht, run_underlying hkt, sizeOf, typeInfo, zeroValue, hi, hz, hwr, hneg, h48, hms, asInt, asIntOf, hm0, h63', h48', Question.forced, Builtin.firstCells, newRow, grownCap, hna]
  · simp only [Array.size_append, List.size_toArray, size_zeroCells, hzs, hl, ← Nat.add_mul]
    congr 1
    omega
  · simp only [Array.toList_append]
    rw [← hl]
    exact List.take_left
end
section
variable {P : Program} {ops : Array Oper} {rest : List Oper} {o : Oper} {a : Act} {Q : Exit → Act → World → Prop}
theorem wpList_make0 {w : World} (base : Nat) (hgd : o.guard = none) (s x : Operand) (t kt e : TypeId) (kk : IntKind) (z : Value) (size bytes : Nat)
    (ho : o.op = .call { callee := .builtin .append, args := #[s, x], argTypes := #[t, kt] })
    (ht : P.underlying t = some (.slice e)) (hkt : P.underlying kt = some (.int kk)) (hinfo : (P.info? e).map (fun i => (i.zero, i.size, i.bytes)) = some (some z, size, bytes)) (hzs : z.cells.size = size) (hsz : 0 < size)
    (m : Nat) (hs : a.eval s = .slice none 0 0) (hx : a.eval x = .int .i64 (m : Int)) (hm : 0 < m) (news : List Value) (hnews : (Builtin.zeroCells z.cells m).toList = news)
    (h63 : m ≤ 140737488355328) (hbytes : m * bytes ≤ 140737488355328) (hbase : base ≤ w.heap.size)
    (h : ∀ cap' w', w'.ownsRow base e size (.slice (some ⟨w.heap.size, 0, none⟩) m cap') m news → Same (fun _ => False) w w' → wpList P ops Q rest (a.put o.dst (.slice (some ⟨w.heap.size, 0, none⟩) m cap')) w') :
    wpList P ops Q (o :: rest) a w := by
  obtain ⟨i0, hi, hzz⟩ := Option.map_eq_some_iff.1 hinfo
  simp only [Prod.mk.injEq] at hzz
  obtain ⟨hz0, hz1, hz2⟩ := hzz
  obtain ⟨cap', w', hr, h2, h3⟩ := run_append_make0 (P := P) w base t kt o.type e kk i0 z size bytes ht hkt hi hz0 hz1 hz2 hzs hsz m hm news hnews (by simp only [maxLen]; omega) hbytes hbase
  refine wpList_plain hgd fun K hK => ?_
  unfold Oper.wp execOp
  simp only [ho, resolve, invoke, builtin, Sem.run_bind, Sem.run_pure, Result.andThen_ok, List.map_toArray, List.map_cons, List.map_nil, hs, hx, hr]
  exact hK _ _ (h cap' w' h2 ⟨h3.os, h3.tape, h3.output, h3.size, fun k hk hS => h3.block k hk (by simp)⟩)
end

theorem owns_cap {w : World} {base size n c : Nat} {e : TypeId} {ad : Addr} {xs : List Value} (h : w.ownsRow base e size (.slice (some ad) n c) n xs) : n ≤ c := by
  rcases h.2 with ⟨h9, _⟩ | ⟨g9, cap9, cur9, h9, q1, q2, q3, _⟩
  · cases h9
  · injection h9 with e1 e2 e3; omega
set_option maxHeartbeats 1600000 in
set_option maxRecDepth 100000 in
theorem grow_nil (n : Nat) (hn : n ≤ 1000000) (w : World) :
    Calls Try.prog 25 #[.slice none 0 0, .int .i64 n] w fun e w' => ∃ v, e = .returned v ∧ Own w' w.heap.size 3 v [] ∧ Below w.heap.size w w' := by
  have d0 : decide ((n : Int) < 0) = false := by simp
  by_cases h : 0 < n
  · have d1 : decide ((0 : Int) < n) = true := by simpa using h
    go_enter Try.func25, Try.ntmps25
    go_wp2_with (at_builtin; go_loud (refine wpList_make0 w.heap.size rfl (.tmp 20) (.tmp 21) 22 3 3 .i64 (.int .i64 0) 1 8 rfl Try.underlying22 Try.underlying3 Try.intinfo rfl (by decide) n rfl rfl h _ rfl (by omega) (by omega) (Nat.le_refl _) ?_); intro c9 w9 ho9 hs9; have hc9 := owns_cap ho9)
    go_ret
    refine ⟨_, rfl, ?_, hs9.below (fun _ _ c => c)⟩
    rcases ho9.2 with ⟨h, _⟩ | ⟨g, cap, cur, h, h1, h2, h3, h4, h5, h6⟩
    · cases h
    · injection h with e1 e2 e3
      exact ⟨rfl, .inr ⟨g, cap, cur, by rw [e1, e3]; rfl, h1, h2, by simp, h4, h5, by simp⟩⟩
  · have d1 : decide ((0 : Int) < n) = false := by simp; omega
    have h0 : n = 0 := by omega
    subst h0
    go_enter Try.func25, Try.ntmps25
    go_wp2_with fail
    go_ret
    exact ⟨_, rfl, Own.nil _ _ _, Below.refl _ _⟩
def preN (i n m : Nat) : Nat := if i = 0 then 0 else if i = 1 then n else n + m
def preL (i : Nat) (xs ys : List Int) : List Int := if i = 0 then [] else if i = 1 then xs else xs ++ ys
structure CcRel1 (w : World) (n m : Nat) (gk : Nat) (v3 v5 v11 : Value) (wr : World) : Prop where mk ::
  out_ : ∃ i : Nat, i ≤ 2 ∧ 2 ≤ gk + i ∧ v11 = .int .i64 (i : Int) ∧ v3 = .int .i64 (preN i n m : Nat) ∧ wr = w
structure CcRel2 (w : World) (xs ys : List Int) (gk : Nat) (v6 v8 v27 : Value) (wr : World) : Prop where mk ::
  out_ : ∃ i : Nat, i ≤ 2 ∧ 2 ≤ gk + i ∧ v27 = .int .i64 (i : Int) ∧ Own wr w.heap.size 3 v6 (ints .i64 (preL i xs ys)) ∧ Below w.heap.size w wr
set_option maxHeartbeats 4000000 in
set_option maxRecDepth 100000 in
theorem concat2 {Ax Ay : Option Addr} {cx cy : Nat} {xs ys : List Int} {w : World} (hx : RowOf w .i64 Ax cx xs) (hy : RowOf w .i64 Ay cy ys) (lx : xs.length ≤ 100000) (ly : ys.length ≤ 100000) {g : Nat} (hb : Blk w g 22 #[.slice Ax xs.length cx, .slice Ay ys.length cy]) :
    Calls Try.prog 22 #[.slice (some ⟨g, 0, none⟩) 2 2] w fun e w' => ∃ A c, e = .returned (.slice A (xs.length + ys.length) c) ∧ RowOf w' .i64 A c (xs ++ ys) ∧ Below w.heap.size w w' ∧ ∀ ad, A = some ad → w.heap.size ≤ ad.block := by
  have hg := hb.lt
  go_enter Try.func22, Try.ntmps22
  go_wp2_with fail
  go_loopg [3, 5, 11] 2 (CcRel1 w xs.length ys.length)
  case atStart => exact ⟨⟨0, by omega, by omega, rfl, rfl, rfl⟩⟩
  case round =>
    obtain ⟨i, hi, hgi, rfl, rfl, rfl⟩ := hrel.out_
    clear hrel
    have k0 : wr.cell? ⟨g, 0, none⟩ = some (.slice Ax xs.length cx) := hb.cell 0
    have k1 : wr.cell? ⟨g, 1, none⟩ = some (.slice Ay ys.length cy) := hb.cell 1
    rcases (by omega : i = 0 ∨ i = 1 ∨ i = 2) with rfl | rfl | rfl
    · have e0 : preN 0 xs.length ys.length = 0 := rfl
      rw [e0]
      have d3 : decide ((xs.length : Int) < 0) = false := by simp
      go_wp2_with fail
      go_roundg (gk - 1)
      case measure => omega
      case rel => exact ⟨⟨1, by omega, by omega, by go_num, by unfold preN; go_num, rfl⟩⟩
    · have e0 : preN 1 xs.length ys.length = xs.length := rfl
      rw [e0]
      have d3 : decide ((xs.length : Int) + ys.length < 0) = false := by simp; omega
      go_wp2_with fail
      go_roundg (gk - 1)
      case measure => omega
      case rel => exact ⟨⟨2, by omega, by omega, by go_num, by unfold preN; go_num, rfl⟩⟩
    · have e0 : ((preN 2 xs.length ys.length : Nat) : Int) = ((xs.length + ys.length : Nat) : Int) := rfl
      rw [e0]
      have d3 : decide ((xs.length : Int) + ys.length < 0) = false := by simp; omega
      have CG := Lib.hid (grow_nil (xs.length + ys.length) (by omega) wr)
      rw [Int.natCast_add] at CG ⊢
      go_wp2_with (go_at_call 25; refine CG.out.mono ?_; rintro e w2 ⟨v2, rfl, ho2, hB2⟩)
      clear k0 k1
      go_loopg [6, 8, 27] 2 (CcRel2 wr xs ys)
      case atStart => exact ⟨⟨0, by omega, by omega, rfl, ho2, hB2⟩⟩
      case round =>
        rename World => wi
        rename Nat => gq
        obtain ⟨i, hi2, hgi2, rfl, ho, hB⟩ := hrel.out_
        clear hrel ho2 hB2
        have hz := hB.size
        have k0 : wi.cell? ⟨g, 0, none⟩ = some (.slice Ax xs.length cx) := (hb.below hB hg).cell 0
        have k1 : wi.cell? ⟨g, 1, none⟩ = some (.slice Ay ys.length cy) := (hb.below hB hg).cell 1
        have hxi := hx.belo hB
        have hyi := hy.belo hB
        rcases (by omega : i = 0 ∨ i = 1 ∨ i = 2) with rfl | rfl | rfl
        · go_wp2_with (at_builtin; go_loud (refine wpList_cat .i64 wr.heap.size rfl (.tmp 31) (.tmp 32) 22 3 8 rfl Try.underlying22 Try.intinfo u6 [] Ax cx xs rfl rfl ho hxi hz (xs.length) (by simp) (by omega) (by omega) (by simp) ?_); intro A9 c9 w9 ho9 hr9 hs9 hat9; have B9 := hs9.below_of hB hB.size (fun k hk e => by have := ho.base_le k e; omega); clear hat9)
          go_roundg (gq - 1)
          case measure => omega
          case rel => exact ⟨⟨1, by omega, by omega, by go_num, ho9, B9⟩⟩
        · go_wp2_with (at_builtin; go_loud (refine wpList_cat .i64 wr.heap.size rfl (.tmp 31) (.tmp 32) 22 3 8 rfl Try.underlying22 Try.intinfo u6 xs Ay cy ys rfl rfl ho hyi hz (xs.length + ys.length) rfl (by omega) (by omega) hx.wf ?_); intro A9 c9 w9 ho9 hr9 hs9 hat9; have B9 := hs9.below_of hB hB.size (fun k hk e => by have := ho.base_le k e; omega); clear hat9)
          go_roundg (gq - 1)
          case measure => omega
          case rel => exact ⟨⟨2, by omega, by omega, by go_num, ho9, B9⟩⟩
        · obtain ⟨A9, c9, e9, hr9, ha9⟩ := Own.row (xs := xs ++ ys) ho (fun q hq => by rcases List.mem_append.1 hq with hq | hq; exact hx.wf q hq; exact hy.wf q hq)
          rw [List.length_append] at e9
          subst e9
          have hge : ∀ ad, A9 = some ad → wr.heap.size ≤ ad.block := fun ad e => ho.base_le _ (ha9 ad e)
          clear ha9
          go_wp2_with fail
          go_ret
          exact ⟨A9, c9, rfl, hr9, hB, hge⟩
end Go.Proofs.Ytfmglcgdcdcpaaa
