import Derived.Test.YteknaaijlkenkaaBase
import Derived.Deep.RegionLaw
import Derived.Test.YteknaaijlkenkaaJTan
namespace Go.Proofs.Yteknaaijlkenkaa
set_option linter.unusedVariables false
set_option linter.unusedSimpArgs false
open Go.RowKit

/-! ### append(s, make([]T, m)...) onto a row of the call's own -/
section
variable {P : Program} (w : World)
theorem run_append_make (base : Nat) (t kt ty e : TypeId) (kk : IntKind) (i : TypeInfo) (z : Value) (size bytes : Nat) (ht : P.underlying t = some (.slice e)) (hkt : P.underlying kt = some (.int kk)) (hi : P.info? e = some i) (hz : i.zero = some z)
    (hsize : i.size = size) (hby : i.bytes = bytes) (hzs : z.cells.size = size) (hsz : 0 < size)
    (g cap n : Nat) (xs : List Value) (hown : w.ownsRow base e size (.slice (some ⟨g, 0, none⟩) n cap) n xs)
    (m : Nat) (hm : 0 < m) (news : List Value) (hnews : (Builtin.zeroCells z.cells m).toList = news) (h1 : ∀ u ∈ news, u.oneCell' = true)
    (h63 : n + m ≤ maxLen) (hbytes : (n + m) * bytes ≤ 140737488355328) (hbase : base ≤ w.heap.size) :
    ∃ g' cap' w', (Builtin.append_ #[t, kt] ty #[.slice (some ⟨g, 0, none⟩) n cap, .int .i64 m]).run P w = .ok (.slice (some ⟨g', 0, none⟩) (n + m) cap') w' ∧ w'.ownsRow base e size (.slice (some ⟨g', 0, none⟩) (n + m) cap') (n + m) (xs ++ news) ∧ w.grownBy w' (some g) ∧
      (g' = g ∨ g' = w.heap.size) := by
  subst hsize
  subst hby
  have hsmall : n + m ≤ 9223372036854775807 := by simp only [maxLen] at h63; omega
  have hl : news.length = m * i.size := by rw [← hnews, Array.length_toList, size_zeroCells, hzs]
  have hlen : (xs ++ news).length = (n + m) * i.size := by rw [List.length_append, hown.1, hl, Nat.add_mul]
  have hmb : m * i.bytes ≤ 140737488355328 := Nat.le_trans (Nat.mul_le_mul_right _ (by omega)) hbytes
  have hwr : IntKind.i64.wrap (m : Int) = m := by rw [IntKind.wrap_i64]; omega
  have hneg : ¬ (m : Int) < 0 := by omega
  have h48 : ¬ (281474976710656 < (m : Int) * i.bytes) := by
    have : ((m * i.bytes : Nat) : Int) ≤ 140737488355328 := by omega
    rw [Int.natCast_mul] at this; omega
  have hms : ¬ (m * i.size = 0) := by have := Nat.mul_pos hm hsz; omega
  rcases hown.2 with ⟨h, _⟩ | ⟨g0, cap0, cur, hv, hbg, hg, hnc, hcm, hcs, htake⟩
  · cases h
  · injection hv with hv1 hv2 hv3
    injection hv1 with hv1
    injection hv1 with hv1
    subst hv1
    subst hv3
    by_cases hroom : n + m ≤ cap
    · have hfit : n * i.size + news.length ≤ cur.size := by rw [hl, hcs, ← Nat.add_mul]; exact Nat.mul_le_mul_right _ hroom
      have hst := run_storeCells_at P g (n * i.size) e news 0 cur w hg (by simpa using hfit) h1
      simp only [Nat.add_zero] at hst
      refine ⟨g, cap, w.setRow g (cur.toList.take (n * i.size) ++ news ++ cur.toList.drop (n * i.size + news.length)).toArray, ?_, ⟨hlen, .inr ⟨g, cap, _, rfl, hbg, setRow_heap w g cur _ e _ hg, hroom, hcm, ?_, ?_⟩⟩, ⟨rfl, rfl, rfl, by simp, fun k _ hk => setRow_other w g k _ (fun e => hk (by simp [e]))⟩, Or.inl rfl⟩
      · simp [Builtin.append_, run_underlying ht, run_underlying hkt, sizeOf, typeInfo, zeroValue, hi, hz, hwr, hneg, h48, hms, asInt, asIntOf, hroom, Addr.add_lit, hnews, hst]
      · simp only [List.size_toArray, List.length_append, List.length_take, List.length_drop, Array.length_toList]
        omega
      · rw [htake, ← hlen]
        exact List.take_left
    · have hge := grownCap_ge w (n + m) cap e
      have hcm2 : grownCap w (n + m) cap e ≤ maxLen := grownCap_le_maxLen w (n + m) cap e h63
      have holds : ∀ j u, xs[j]? = some u → w.cell? ((⟨g, 0, none⟩ : Addr).add j) = some u := hown.cells (g := g) rfl
      have hfit := growslice_fits (bytes := i.bytes) (show cap < n + m by omega) hbytes
      have hn' : ¬ (n + m ≤ cap) := by omega
      have h63' : ¬ (9223372036854775807 < ((n : Int) + (m : Int))) := by omega
      have h48' : ¬ (281474976710656 < Builtin.nextslicecap (n + m) cap * i.bytes) := by omega
      have hfo := run_firstCells_some (P := P) w.drew i.size n ⟨g, 0, none⟩ n cap xs hown.1 (by simpa using holds)
      refine ⟨w.heap.size, grownCap w (n + m) cap e, w.drew.alloc (.cells (xs.toArray ++ news.toArray ++ Builtin.zeroCells z.cells (grownCap w (n + m) cap e - (n + m))) e), ?_, ⟨hlen, .inr ⟨w.heap.size, _, _, rfl, hbase, heap_alloc_new w.drew _, hge, hcm2, ?_, ?_⟩⟩, ⟨rfl, rfl, rfl, by simp, fun k hk _ => Below.heap_alloc w.drew _ k hk⟩, Or.inr rfl⟩
      · have hna : Builtin.zeroCells z.cells m = news.toArray := by rw [← hnews]
        simp [Builtin.append_, run_underlying ht, run_underlying hkt, sizeOf, typeInfo, zeroValue, hi, hz, hwr, hneg, h48, hms, asInt, asIntOf, hn', h63', h48', Question.forced, hfo, newRow, grownCap, hna]
        congr 2
        apply Array.ext'
        simp [List.append_assoc]
      · simp only [Array.size_append, List.size_toArray, size_zeroCells, hzs, hown.1, hl, ← Nat.add_mul]
        congr 1
        omega
      · simp only [Array.toList_append, List.append_assoc]
        rw [← List.append_assoc, ← hlen]
        exact List.take_left
/-- As one step of a region that draws. -/
theorem step_append_make {ops : Array Oper} {o : Oper} {a : Act} {K : Act → World → Prop} {Q : Exit → Act → World → Prop} {E : Prop} (hgd : o.guard = none) (s x : Operand) (t kt : TypeId)
    (ho : o.op = .call { callee := .builtin .append, args := #[s, x], argTypes := #[t, kt] })
    (base : Nat) (e : TypeId) (kk : IntKind) (z : Value) (size bytes : Nat) (ht : P.underlying t = some (.slice e)) (hkt : P.underlying kt = some (.int kk))
    (hinfo : (P.info? e).map (fun i => (i.zero, i.size, i.bytes)) = some (some z, size, bytes)) (hzs : z.cells.size = size) (hsz : 0 < size)
    (g cap n : Nat) (xs : List Value) (hs : a.eval s = .slice (some ⟨g, 0, none⟩) n cap) (hown : w.ownsRow base e size (.slice (some ⟨g, 0, none⟩) n cap) n xs)
    (mi : Int) (m : Nat) (hmi : mi = m) (hx : a.eval x = .int .i64 mi) (hm : 0 < m) (news : List Value) (hnews : (Builtin.zeroCells z.cells m).toList = news) (h1 : ∀ u ∈ news, u.oneCell' = true)
    (h63 : n + m ≤ 140737488355328) (hbytes : (n + m) * bytes ≤ 140737488355328) (hbase : base ≤ w.heap.size)
    (h : ∀ g' cap' w', w'.ownsRow base e size (.slice (some ⟨g', 0, none⟩) (n + m) cap') (n + m) (xs ++ news) → Same (fun k => k = g) w w' → (g' = g ∨ g' = w.heap.size) → K (a.put o.dst (.slice (some ⟨g', 0, none⟩) (n + m) cap')) w') :
    if Region.wanted o (yielded ops a.tmps) = true then Oper.wp P o a w K Q else E := by
  have hw : Region.wanted o (yielded ops a.tmps) = true := by simp [Region.wanted, hgd]
  rw [if_pos hw]
  obtain ⟨i0, hi, hzz⟩ := Option.map_eq_some_iff.1 hinfo
  simp only [Prod.mk.injEq] at hzz
  obtain ⟨hz0, hz1, hz2⟩ := hzz
  subst hmi
  obtain ⟨g', cap', w', hr, h2, h3, h4⟩ := run_append_make (P := P) w base t kt o.type e kk i0 z size bytes ht hkt hi hz0 hz1 hz2 hzs hsz g cap n xs hown m hm news hnews h1 (by simp only [maxLen]; omega) hbytes hbase
  unfold Oper.wp execOp
  simp only [ho, resolve, invoke, builtin, Sem.run_bind, Sem.run_pure, Result.andThen_ok, List.map_toArray, List.map_cons, List.map_nil, hs, hx, hr]
  exact h g' cap' w' h2 ⟨h3.os, h3.tape, h3.output, h3.size, fun k hk hS => h3.block k hk (fun e => hS (by injection e with e))⟩ h4
end
end Go.Proofs.Yteknaaijlkenkaa
namespace Go.Proofs.Yteknaaijlkenkaa
open Go.RowKit
attribute [local go_sem] max2i min2i max2t min2t

theorem flat_set : ∀ {P : List Pl} {q : Nat} (x : Pl), (((flat P).set (q * 3) (.int .i64 x.k)).set (q * 3 + 1) (.int .i64 x.s)).set (q * 3 + 2) (.int .i64 x.n) = flat (P.set q x)
  | [], q, x => by simp [flat]
  | y :: P, 0, x => rfl
  | y :: P, q + 1, x => by
    have e : ∀ z : Pl, ∀ R, flat (z :: R) = .int .i64 z.k :: .int .i64 z.s :: .int .i64 z.n :: flat R := fun _ _ => rfl
    rw [List.set_cons_succ, e, e, ← flat_set (P := P) (q := q) x, show (q + 1) * 3 = q * 3 + 3 from by omega, show q * 3 + 3 + 1 = (q * 3 + 1) + 3 from by omega, show q * 3 + 3 + 2 = (q * 3 + 2) + 3 from by omega]
    simp only [List.set_cons_succ]
theorem TabAt.froz {w : World} {base p F g n cap : Nat} {P : List Pl} {fr ct : Nat → Int} (h : TabAt w base p F (.slice (some ⟨g, 0, none⟩) n cap) P fr ct) (o : Nat) : w.frozen? ⟨g, o, none⟩ = false := by
  have hr := h.row
  have hn : n = P.length := by
    rcases h.row.2 with ⟨e, _⟩ | ⟨g, cap, cur, e, _⟩
    · cases e
    · injection e
  subst hn
  exact World.ownsRow.frozenAt hr o
theorem TabAt.cells {w : World} {base p F g n cap : Nat} {P : List Pl} {fr ct : Nat → Int} (h : TabAt w base p F (.slice (some ⟨g, 0, none⟩) n cap) P fr ct) {q : Nat} (hq : q < P.length) :
    w.cell? ⟨g, q * 3, none⟩ = some (.int .i64 (pg P q).k) ∧ w.cell? ⟨g, q * 3 + 1, none⟩ = some (.int .i64 (pg P q).s) ∧ w.cell? ⟨g, q * 3 + 2, none⟩ = some (.int .i64 (pg P q).n) := by
  obtain ⟨g', cap', e, _, _, _, _, _, hc⟩ := h.form (by omega)
  injection e with e1 e2 e3
  injection e1 with e1
  injection e1 with e1
  subst e1
  exact hc q hq
theorem pow_var {F : Nat} (hF : F ≤ 15) : ∃ N : Nat, N = 2 ^ F ∧ 1 ≤ N ∧ N ≤ 32768 ∧ wrap64 (2 ^ F) = (N : Int) := by
  have hN : 2 ^ F ≤ 32768 := by have := Nat.pow_le_pow_right (n := 2) (by decide) hF; simpa using this
  have h0 : 0 < 2 ^ F := Nat.pow_pos (by decide)
  refine ⟨2 ^ F, rfl, h0, hN, ?_⟩
  have e : (2 : Int) ^ F = ((2 ^ F : Nat) : Int) := by rw [Int.natCast_pow]; rfl
  rw [e, IntWalk.wrap64_in _ (by omega)]
theorem TabAt.stored {w : World} {base p F g n cap : Nat} {P : List Pl} {fr ct : Nat → Int} (h : TabAt w base p F (.slice (some ⟨g, 0, none⟩) n cap) P fr ct) (hgp : g ≠ p) (q : Nat) (x : Pl) :
    TabAt (((w.setCell ⟨g, q * 3, none⟩ (.int .i64 x.k)).setCell ⟨g, q * 3 + 1, none⟩ (.int .i64 x.s)).setCell ⟨g, q * 3 + 2, none⟩ (.int .i64 x.n)) base p F (.slice (some ⟨g, 0, none⟩) n cap) (P.set q x) fr ct := by
  have hr := h.row
  have hn : n = P.length := by
    rcases h.row.2 with ⟨e, _⟩ | ⟨g, cap, cur, e, _⟩
    · cases e
    · injection e
  subst hn
  refine ⟨Blk.far (Blk.far (Blk.far h.pb (p := ⟨g, q * 3, none⟩) (fun e => hgp e.symm) _) (p := ⟨g, q * 3 + 1, none⟩) (fun e => hgp e.symm) _) (p := ⟨g, q * 3 + 2, none⟩) (fun e => hgp e.symm) _, ?_⟩
  rw [← flat_set, List.length_set]
  exact (World.ownsRow.stored (World.ownsRow.stored (World.ownsRow.stored hr (q * 3) _).1 (q * 3 + 1) _).1 (q * 3 + 2) _).1
structure LsRel (w : World) (base p F N M b gr : Nat) (v : Value) (P : List Pl) (fr ct : Nat → Int) (i n t : Nat) (g : Nat) (v8 : Value) (wr : World) : Prop where mk ::
  out_ : ∃ (j : Nat) (P' : List Pl), t ≤ j ∧ j ≤ 65536 ∧ N ≤ g + j ∧ j % M = t ∧ v8 = .int .i64 (j : Int) ∧ P'.length = P.length ∧ (∀ q, q < P.length → pg P' q = if q < N ∧ q < j ∧ q % M = t then ⟨1, i, n⟩ else pg P q) ∧ TabAt wr base p F v P' fr ct ∧
    Blk wr b 134 #[.int .i64 1, .int .i64 i, .int .i64 n] ∧ Same (fun k => k = gr ∨ k = p) w wr
set_option maxHeartbeats 1600000 in
set_option maxRecDepth 100000 in
theorem tab_lay_short {w : World} {base p F g cap : Nat} {P : List Pl} {fr ct : Nat → Int} (h : TabAt w base p F (.slice (some ⟨g, 0, none⟩) P.length cap) P fr ct) (hF : F ≤ 15) (hlen : 2 ^ F ≤ P.length) (i n t : Nat) (h1 : 1 ≤ n) (hn : n ≤ F) (ht : t < 2 ^ n) (A : Option Addr) (L c : Nat) :
    Calls Try.prog 85 #[.pointer (some ⟨p, 0, none⟩), .agg #[.int .i64 1, .int .i64 i, .int .i64 n], .int .u32 t, .slice A L c] w fun e w' => e = .returned (.tuple #[]) ∧ ∃ P', P'.length = P.length ∧ (∀ q, q < P.length → pg P' q = if q < 2 ^ F ∧ q % 2 ^ n = t then ⟨1, i, n⟩ else pg P q) ∧
      TabAt w' base p F (.slice (some ⟨g, 0, none⟩) P.length cap) P' fr ct ∧ Same (fun k => k = g ∨ k = p) w w' := by
  have f0 := TabB.first h.pb
  have hpl : p < w.heap.size := Blk.lt h.pb
  obtain ⟨_, _, ev, hc1, hc2, _, hgl, hgp, _⟩ := h.form (by have : 0 < 2 ^ F := Nat.pow_pos (by decide); omega)
  injection ev with e1 _ e3
  injection e1 with e1
  injection e1 with e1
  subst e1 e3
  have hpn : p ≠ w.heap.size := by omega
  have hgb : w.heap.size ≠ g := by omega
  have hbx := Blk.new w 134 #[.int .i64 1, .int .i64 i, .int .i64 n]
  have h' : TabAt (w.alloc (.cells #[.int .i64 1, .int .i64 i, .int .i64 n] 134)) base p F (.slice (some ⟨g, 0, none⟩) P.length cap) P fr ct := h.same ((Same.refl w).alloc _)
  have hs0 : Same (fun k => k = g ∨ k = p) w (w.alloc (.cells #[.int .i64 1, .int .i64 i, .int .i64 n] 134)) := (Same.refl w).alloc _
  obtain ⟨N, hN, hN1, hN2, hN3⟩ := pow_var (F := F) hF
  obtain ⟨M, hM, hM1, hM2, hM3⟩ := pow_var (F := n) (by omega)
  have hMN : M ≤ N := by rw [hN, hM]; exact Nat.pow_le_pow_right (by decide) hn
  rw [← hM] at ht
  rw [← hN] at hlen
  have HN := Lib.hid hN
  have HM := Lib.hid hM
  have HN3 := Lib.hid hN3
  have HM3 := Lib.hid hM3
  clear hN hM hN3 hM3
  have d1 : decide ((n : Int) ≤ F) = true := by simp; omega
  have d2 : decide (n ≤ F) = true := by simp; omega
  go_enter Try.func85, Try.ntmps85
  go_wp2_with fail
  go_region
  go_wp2_with fail
  have h' := h'.same (Same.refl _).drew
  have hbx := hbx.drew
  have hs0 := hs0.drew
  generalize (w.alloc (.cells #[.int .i64 1, .int .i64 i, .int .i64 n] 134)).drew = w2 at *
  go_loopg [8] N (LsRel w base p F N M w.heap.size g (.slice (some ⟨g, 0, none⟩) P.length cap) P fr ct i n t)
  case atStart => exact ⟨t, P, Nat.le_refl _, by omega, by omega, Nat.mod_eq_of_lt ht, rfl, rfl, fun q hq => by rw [if_neg (fun c => by have := Nat.mod_eq_of_lt (show q < M by omega); omega)], h', hbx, hs0⟩
  case round =>
    clear h' hbx hs0
    obtain ⟨j, P', hj0, hj1, hgj, hjm, rfl, hPl, hP, hT, hB, hs⟩ := hrel
    have HP := Lib.hid hP
    have HPL := Lib.hid hPl
    have HJM := Lib.hid hjm
    clear hP hPl hjm
    have f0 := TabB.first hT.pb
    have f1 := TabB.rows hT.pb
    have b0 := hB.cell 0
    have b1 := hB.cell 1
    have b2 := hB.cell 2
    by_cases hlt : j < N
    · have d1 : decide ((j : Int) < wrap64 (2 ^ F)) = true := by rw [HN3.out]; simp; omega
      have hjl : j < P'.length := by have := HPL.out; omega
      obtain ⟨c0, c1, c2⟩ := hT.cells hjl
      have z0 := hT.froz (j * 3)
      have z1 := hT.froz (j * 3 + 1)
      have z2 := hT.froz (j * 3 + 2)
      have hj2 : (j : Int) < P.length := by omega
      go_wp2_with fail
      go_region
      have hT3 := (hT.stored hgp j ⟨1, i, n⟩).same (Same.refl _).drew
      have hB3 := (((hB.far (p := ⟨g, j * 3, none⟩) hgb (.int .i64 1)).far (p := ⟨g, j * 3 + 1, none⟩) hgb (.int .i64 i)).far (p := ⟨g, j * 3 + 2, none⟩) hgb (.int .i64 n)).drew
      have hs3 := (((hs.set_ (p := ⟨g, j * 3, none⟩) (fun _ => .inl rfl) (.int .i64 1)).set_ (p := ⟨g, j * 3 + 1, none⟩) (fun _ => .inl rfl) (.int .i64 i)).set_ (p := ⟨g, j * 3 + 2, none⟩) (fun _ => .inl rfl) (.int .i64 n)).drew
      clear f0 f1 b0 b1 b2 c0 c1 c2 z0 z1 z2 hT hB hs
      generalize (((wr.setCell ⟨g, j * 3, none⟩ (.int .i64 1)).setCell ⟨g, j * 3 + 1, none⟩ (.int .i64 i)).setCell ⟨g, j * 3 + 2, none⟩ (.int .i64 n)).drew = w3 at *
      have b2 := hB3.cell 2
      go_wp2_with fail
      go_roundg (gk - M)
      case measure => omega
      case rel =>
        refine ⟨j + M, P'.set j ⟨1, i, n⟩, by omega, by omega, by omega, by rw [Nat.add_mod_right]; exact HJM.out, by rw [HM3.out, IntWalk.wrap64_in _ (by omega)]; go_num, by rw [List.length_set]; exact HPL.out, fun q hq => ?_, hT3, hB3, hs3⟩
        have e : pg (P'.set j ⟨1, i, n⟩) q = if q = j then ⟨1, i, n⟩ else pg P' q := getD_set P' j q _ _ hjl
        rw [e, HP.out q hq]
        by_cases e1 : q = j
        · subst e1
          rw [if_pos rfl, if_pos ⟨hlt, by omega, HJM.out⟩]
        · rw [if_neg e1]
          by_cases c : q < N ∧ q % M = t
          · by_cases c2 : q < j
            · rw [if_pos ⟨c.1, c2, c.2⟩, if_pos ⟨c.1, by omega, c.2⟩]
            · rw [if_neg (fun d => c2 d.2.1), if_neg (fun d => ?_)]
              have hjq : j < q := by omega
              have e3 := HJM.out
              have e4 := Nat.div_add_mod q M
              have e5 := Nat.div_add_mod j M
              have e6 := d.2.1
              rw [c.2] at e4
              rw [e3] at e5
              have h7 : M * (q / M) < M * (j / M + 1) := by rw [Nat.mul_add]; omega
              have h8 : M * (j / M) < M * (q / M) := by omega
              have h9 := Nat.lt_of_mul_lt_mul_left h7
              have h10 := Nat.lt_of_mul_lt_mul_left h8
              omega
          · rw [if_neg (fun d => c ⟨d.1, d.2.2⟩), if_neg (fun d => c ⟨d.1, d.2.2⟩)]
    · have d1 : decide ((j : Int) < wrap64 (2 ^ F)) = false := by rw [HN3.out]; simp; omega
      go_wp2_with fail
      ((try simp only [Exit.inBlock, Exit.then]); first | refine bodyPost_end (results_none rfl _ _ _) rfl ?_ | refine bodyPost_ret (results_none rfl _ _ _) rfl ?_)
      refine ⟨rfl, P', HPL.out, fun q hq => ?_, hT, hs⟩
      rw [HP.out q hq, ← HN.out, ← HM.out]
      by_cases c : q < N ∧ q % M = t
      · rw [if_pos ⟨c.1, by omega, c.2⟩, if_pos c]
      · rw [if_neg (fun d => c ⟨d.1, d.2.2⟩), if_neg c]
end Go.Proofs.Yteknaaijlkenkaa
namespace Go.Proofs.Yteknaaijlkenkaa
open Go.RowKit
attribute [local go_sem] max2i min2i max2t min2t

theorem RowOf.addr_ {w : World} {k : IntKind} {A : Option Addr} {c : Nat} {xs : List Int} (h : RowOf w k A c xs) (hx : xs ≠ []) : ∃ b o, A = some ⟨b, o, none⟩ := by
  have h0 : 0 < xs.length := List.length_pos_iff.2 hx
  obtain ⟨ad, e, hc⟩ := h.rd 0 _ (List.getElem?_eq_getElem h0)
  have hs := (cell_plain hc).2 rfl
  exact ⟨ad.block, ad.off, by rw [e]; cases ad; simp at hs; subst hs; rfl⟩
theorem zero_news : ∀ m : Nat, (Builtin.zeroCells (Value.agg #[.int .i64 0, .int .i64 0, .int .i64 0]).cells m).toList = flat (List.replicate m Pl.z) := fun m => by
  have hc : (Value.agg #[.int .i64 0, .int .i64 0, .int .i64 0]).cells = #[.int .i64 0, .int .i64 0, .int .i64 0] := rfl
  rw [hc]
  apply List.ext_getElem?
  intro i
  have hr : ∀ (m i : Nat), i < m * 3 → (flat (List.replicate m Pl.z))[i]? = some (.int .i64 0) := fun m => by
    induction m with
    | zero => intro i h; omega
    | succ m ih =>
      intro i h
      have e : flat (List.replicate (m + 1) Pl.z) = .int .i64 0 :: .int .i64 0 :: .int .i64 0 :: flat (List.replicate m Pl.z) := rfl
      rw [e]
      match i, h with
      | 0, _ => rfl
      | 1, _ => rfl
      | 2, _ => rfl
      | i + 3, h => exact ih i (by omega)
  by_cases hi : i < m * 3
  · rw [hr m i hi]
    have h3 : i % 3 = 0 ∨ i % 3 = 1 ∨ i % 3 = 2 := by omega
    rcases h3 with h3 | h3 | h3 <;> simp [Builtin.zeroCells, hi, h3]
  · rw [List.getElem?_eq_none (by simp [Builtin.zeroCells]; omega), List.getElem?_eq_none (by rw [flat_length, List.length_replicate]; omega)]
theorem flat_append (P Q : List Pl) : flat (P ++ Q) = flat P ++ flat Q := List.flatMap_append
theorem flat_one (P : List Pl) : ∀ u ∈ flat P, u.oneCell' = true := fun u hu => by
  obtain ⟨x, _, hx⟩ := List.mem_flatMap.1 hu
  simp only [List.mem_cons, List.not_mem_nil, or_false] at hx
  rcases hx with rfl | rfl | rfl <;> rfl
theorem Try.placeinfo : (Try.prog.info? 134).map (fun i => (i.zero, i.size, i.bytes)) = some (some (.agg #[.int .i64 0, .int .i64 0, .int .i64 0]), 3, 24) := by kernel_rfl
theorem shl_var {d : Nat} (hd : d ≤ 15) : IntKind.i64.wrap (2 ^ min (IntKind.u64.wrap (d : Int)).toNat 64) = ((2 ^ d : Nat) : Int) := by
  have h : ∀ d : Fin 16, IntKind.i64.wrap (2 ^ min (IntKind.u64.wrap (d.val : Int)).toNat 64) = ((2 ^ d.val : Nat) : Int) := by decide +kernel
  exact h ⟨d, by omega⟩
structure LlRel (w : World) (base p F b s E M : Nat) (v : Value) (S : Nat → Prop) (P : List Pl) (fr ct : Nat → Int) (i n t u d : Nat) (g : Nat) (v11 : Value) (wr : World) : Prop where mk ::
  out_ : ∃ (j : Nat) (P' : List Pl), t ≤ j ∧ j ≤ 65536 ∧ E ≤ g + j ∧ j % M = t ∧ v11 = .int .i64 (j : Int) ∧ P'.length = P.length ∧ (∀ q, q < P.length → pg P' q = if s ≤ q ∧ q < s + E ∧ q < s + j ∧ (q - s) % M = t then ⟨1, i, n⟩ else pg P q) ∧ TabAt wr base p F v P' fr ct ∧
    Blk wr b 134 #[.int .i64 1, .int .i64 i, .int .i64 n] ∧ Blk wr u 134 #[.int .i64 2, .int .i64 s, .int .i64 d] ∧ Same S w wr
structure LcMid (w : World) (base p F b g : Nat) (i n : Nat) (P : List Pl) (fr ct : Nat → Int) (wx : World) : Prop where mk ::
  out_ : ∃ g3 cap3, TabAt wx base p F (.slice (some ⟨g3, 0, none⟩) P.length cap3) P fr ct ∧ Blk wx b 134 #[.int .i64 1, .int .i64 i, .int .i64 n] ∧ Same (fun k => k = g ∨ k = p) w wx ∧ b ≠ g3 ∧ (g3 = g ∨ w.heap.size ≤ g3)
set_option maxHeartbeats 1600000 in
set_option maxRecDepth 100000 in
theorem tab_lay_long {w : World} {base p F g cap : Nat} {P : List Pl} {fr ct : Nat → Int} {D : List Nat} {A : Option Addr} {c N : Nat} (h : TabAt w base p F (.slice (some ⟨g, 0, none⟩) P.length cap) P fr ct) (hF1 : 1 ≤ F) (hF : F ≤ 15) (hlen : 2 ^ F ≤ P.length) (hPb : P.length ≤ 100000) (hbase : base ≤ w.heap.size) (i n t : Nat) (hn : F < n) (hn15 : n ≤ 15) (ht : t < 2 ^ n)
    (hr : RowOf w .i64 A c (nats D)) (hDl : D.length = N) (hNF : N = 2 ^ F) (hAp : ∀ ad, A = some ad → ad.block ≠ g ∧ ad.block ≠ p) (s d p1 : Nat) (hp1 : t % 2 ^ F = p1) (hd : D.getD p1 0 = d) (hd15 : d ≤ 15 - F) (hnd : n - F ≤ d) (P1 : List Pl)
    (hcase : (pg P p1 = Pl.z ∧ s = P.length ∧ P1 = P.set p1 ⟨2, P.length, d⟩ ++ List.replicate (2 ^ d) Pl.z) ∨ (pg P p1 = ⟨2, s, d⟩ ∧ s + 2 ^ d ≤ P.length ∧ P1 = P)) :
    Calls Try.prog 85 #[.pointer (some ⟨p, 0, none⟩), .agg #[.int .i64 1, .int .i64 i, .int .i64 n], .int .u32 t, .slice A N c] w fun e w' => e = .returned (.tuple #[]) ∧ ∃ g' cap' P', P'.length = P1.length ∧ (∀ q, q < P1.length → pg P' q = if s ≤ q ∧ q < s + 2 ^ d ∧ (q - s) % 2 ^ (n - F) = t / 2 ^ F then ⟨1, i, n⟩ else pg P1 q) ∧
      TabAt w' base p F (.slice (some ⟨g', 0, none⟩) P'.length cap') P' fr ct ∧ Same (fun k => k = g ∨ k = p) w w' ∧ (g' = g ∨ w.heap.size ≤ g') := by
  have hd15 : d ≤ 15 := by omega
  have f0 := TabB.first h.pb
  have f1 := TabB.rows h.pb
  have hpl : p < w.heap.size := Blk.lt h.pb
  have hm1 := mask_u32 t F (by omega)
  rw [hp1] at hm1
  have hp1N : p1 < N := by rw [hNF, ← hp1]; exact Nat.mod_lt _ (Nat.pow_pos (by decide))
  rw [← hNF] at hlen
  have hp1P : p1 < P.length := by omega
  have HNF := Lib.hid hNF
  have HP1 := Lib.hid hp1
  have HDL := Lib.hid hDl
  clear hp1 hNF hDl
  obtain ⟨_, _, ev, hc1, hc2, _, hgl, hgp, _⟩ := h.form (by omega)
  injection ev with e1 _ e3
  injection e1 with e1
  injection e1 with e1
  subst e1 e3
  have hpn : p ≠ w.heap.size := by omega
  have hgn : g ≠ w.heap.size := by omega
  have hgb : w.heap.size ≠ g := by omega
  have ht15 : t < 32768 := Nat.lt_of_lt_of_le ht (by have := Nat.pow_le_pow_right (n := 2) (by decide) hn15; simpa using this)
  have hbx := Blk.new w 134 #[.int .i64 1, .int .i64 i, .int .i64 n]
  have h' : TabAt (w.alloc (.cells #[.int .i64 1, .int .i64 i, .int .i64 n] 134)) base p F (.slice (some ⟨g, 0, none⟩) P.length cap) P fr ct := h.same ((Same.refl w).alloc _)
  have hs0 : Same (fun k => k = g ∨ k = p) w (w.alloc (.cells #[.int .i64 1, .int .i64 i, .int .i64 n] 134)) := (Same.refl w).alloc _
  have hr' := hr.belo ((Below.refl w.heap.size w).alloc (Nat.le_refl _) (.cells #[.int .i64 1, .int .i64 i, .int .i64 n] 134))
  have d1 : decide ((n : Int) ≤ F) = false := by simp; omega
  have d2 : decide (n ≤ F) = false := by simp; omega
  obtain ⟨c0, c1, c2⟩ := h.cells hp1P
  obtain ⟨ab, ao, rfl⟩ := hr.addr_ (fun e => by have := congrArg List.length e; rw [nats_length, HDL.out] at this; simp at this; omega)
  obtain ⟨ad, ead, qd⟩ := hr.rd p1 (d : Int) (by rw [nats_at, List.getElem?_eq_getElem (by rw [HDL.out]; exact hp1N), ← hd, List.getD_eq_getElem?_getD, List.getElem?_eq_getElem (by rw [HDL.out]; exact hp1N)]; rfl)
  injection ead with ead
  subst ead
  rw [Addr.add_lit] at qd
  have hqb := World.block_lt_of_cell? w _ qd
  have hag := hAp _ rfl
  simp only at hag hqb
  obtain ⟨hag1, hag2⟩ := hag
  rcases hcase with ⟨hx, hs, hP1⟩ | ⟨hx, hsd, hP1⟩
  · have hx : pg P p1 = ⟨0, 0, 0⟩ := hx
    rw [hx] at c0 c1 c2
    have hPL : (P.set p1 ⟨2, P.length, d⟩).length = P.length := List.length_set
    have hp2 := Nat.pow_le_pow_right (n := 2) (by decide) hd15
    have hp20 : 0 < 2 ^ d := Nat.pow_pos (by decide)
    have h215 : 2 ^ 15 = 32768 := by decide
    obtain ⟨E0, hE0, hE01, hE02, hE03⟩ := pow_var (F := d) hd15
    rw [← hE0] at hP1 hp2 hp20
    have hshl := shl_var hd15
    rw [← hE0] at hshl
    have HSHL := Lib.hid hshl
    clear hshl
    have HE0 := Lib.hid hE0
    have HE03 := Lib.hid hE03
    have HP1e := Lib.hid hP1
    have HS := Lib.hid hs
    clear hE0 hE03 hP1 hs
    go_enter Try.func85, Try.ntmps85
    go_wp2_with fail
    go_region
    obtain ⟨w1, hw1⟩ : ∃ w1, (w.alloc (.cells #[.int .i64 1, .int .i64 i, .int .i64 n] 134)).drew = w1 := ⟨_, rfl⟩
    have hT1 := h'.same (Same.refl _).drew
    have hB1 := hbx.drew
    have hs1 := hs0.drew
    have g0 := hT1.cells hp1P
    rw [hx] at g0
    obtain ⟨g00, g01, g02⟩ := g0
    simp only at g00 g01 g02
    have hB0 := ((Below.refl w.heap.size w).alloc (Nat.le_refl _) (.cells #[.int .i64 1, .int .i64 i, .int .i64 n] 134)).drew
    rw [hw1] at hT1 hB1 hs1 g00 g01 g02 hB0 ⊢
    have qd1 := (hB0.cell (p := ⟨ab, ao + p1, none⟩) hqb).trans qd
    clear hw1 h' hbx hs0 f0 f1 c0 c1 c2 hB0 qd
    have f0 := TabB.first hT1.pb
    have f1 := TabB.rows hT1.pb
    have z0 := hT1.froz (p1 * 3)
    have z1 := hT1.froz (p1 * 3 + 1)
    have z2 := hT1.froz (p1 * 3 + 2)
    go_wp2_with fail
    go_region
    have hT2 := (hT1.stored hgp p1 ⟨2, P.length, d⟩).same (Same.refl _).drew
    have hB2 := (((hB1.far (p := ⟨g, p1 * 3, none⟩) hgb (.int .i64 2)).far (p := ⟨g, p1 * 3 + 1, none⟩) hgb (.int .i64 P.length)).far (p := ⟨g, p1 * 3 + 2, none⟩) hgb (.int .i64 d)).drew
    have hs12 := ((((Same.refl (S := fun k => k = g) w1).set_ (p := ⟨g, p1 * 3, none⟩) (fun _ => rfl) (.int .i64 2)).set_ (p := ⟨g, p1 * 3 + 1, none⟩) (fun _ => rfl) (.int .i64 P.length)).set_ (p := ⟨g, p1 * 3 + 2, none⟩) (fun _ => rfl) (.int .i64 d)).drew
    have qd2 := hs12.cell qd1 hag1
    have hs2 := hs1.trans hs12 (fun _ _ e => .inl e)
    have hz12 := hs12.size
    clear f0 f1 g00 g01 g02 z0 z1 z2 hT1 hB1 hs1 hs12 qd1
    generalize (((w1.setCell ⟨g, p1 * 3, none⟩ (.int .i64 2)).setCell ⟨g, p1 * 3 + 1, none⟩ (.int .i64 P.length)).setCell ⟨g, p1 * 3 + 2, none⟩ (.int .i64 d)).drew = w2 at *
    have f0 := TabB.first hT2.pb
    have f1 := TabB.rows hT2.pb
    have hpl2 : p < w2.heap.size := Blk.lt hT2.pb
    have hbl2 : w.heap.size < w2.heap.size := hB2.lt
    have hb1 : P.length + E0 ≤ 140737488355328 := by omega
    have hb2 : (P.length + E0) * 24 ≤ 140737488355328 := by omega
    have hb3 : base ≤ w2.heap.size := by omega
    have hrow := hT2.row
    rw [hPL] at hrow
    go_upto_region 9 with fail
    go_cut [] (fun wx => LcMid w base p F w.heap.size g i n P1 fr ct wx)
    case first =>
      go_region_law (refine step_append_make _ rfl (.tmp 80) (.tmp 86) 127 3 rfl base 134 .i64 (.agg #[.int .i64 0, .int .i64 0, .int .i64 0]) 3 24 Try.underlying127 Try.underlying3 Try.placeinfo rfl (by omega) g cap P.length (flat (P.set p1 ⟨2, P.length, d⟩)) rfl hrow (IntKind.i64.wrap (2 ^ min (IntKind.u64.wrap (d : Int)).toNat 64)) E0 HSHL.out rfl hp20 (flat (List.replicate E0 Pl.z)) (zero_news E0) (flat_one _) hb1 hb2 hb3 ?_; intro g3 cap3 w3 ho3 hs3 hg3; have hs3 := hs3.drew_left; have pb3 := Blk.same hT2.pb hs3 (fun e => hgp e.symm); have p3 := TabB.rows (v := .slice (some ⟨g, 0, none⟩) P.length cap) pb3; have pf3 := Blk.frozen pb3 1)
      all_goals
        go_wp2_with fail
        go_meet
        have hg3p : g3 ≠ p := by
          rcases hg3 with e | e
          · rw [e]; exact hgp
          · rw [e]; show w2.heap.size ≠ p; omega
        have hg3b : w.heap.size ≠ g3 := by
          rcases hg3 with e | e
          · rw [e]; exact hgb
          · rw [e]; show w.heap.size ≠ w2.heap.size; omega
        have hl : P1.length = P.length + E0 := by rw [HP1e.out, List.length_append, hPL, List.length_replicate]
        refine ⟨g3, cap3, ⟨?_, ?_⟩, ?_, ?_, hg3b, ?_⟩
        · have := Blk.set_ pb3 1 (.slice (some ⟨g3, 0, none⟩) (P.length + E0) cap3)
          rw [tab_set] at this
          rw [hl]
          show Blk _ _ _ _
          rw [tab_congr (n := 34) (g := fun j => if j = 1 then (.slice (some ⟨g3, 0, none⟩) (P.length + E0) cap3) else tblF F (.slice (some ⟨g, 0, none⟩) P.length cap) fr ct j)]
          · exact this
          · intro q _
            unfold tblF
            by_cases e1 : q = 1
            · subst e1; rfl
            · simp only [if_neg e1]
        · rw [hl, HP1e.out, flat_append]
          exact ownsRow_kept ho3 ((Same.refl (S := fun k => k = p) w3).set_ (p := ⟨p, 1, none⟩) (fun _ => rfl) _) (fun q hq e => by
            have : q = g3 := by simpa [Value.ownBlock] using hq.symm
            omega)
        · exact (Blk.same hB2 hs3 hgb).far (p := ⟨p, 1, none⟩) (fun e => by simp only at e; omega) _
        · exact (hs2.trans hs3 (fun _ _ e => .inl e)).set_ (p := ⟨p, 1, none⟩) (fun _ => .inr rfl) _
        · rcases hg3 with e | e
          · exact .inl e
          · right; rw [e]; show w.heap.size ≤ w2.heap.size; omega
    case rest =>
      obtain ⟨g1, cap1, hT1, hB1, hs1, hgb1', hg1⟩ := hcut
      have hl : P1.length = P.length + E0 := by rw [HP1e.out, List.length_append, hPL, List.length_replicate]
      have hx1 : pg P1 p1 = ⟨2, s, d⟩ := by
        rw [HP1e.out, HS.out]
        unfold pg
        rw [List.getD_eq_getElem?_getD, List.getElem?_append_left (by rw [hPL]; exact hp1P), List.getElem?_set_self hp1P]
        rfl
      have hp1l : p1 < P1.length := by omega
      have hsd : s + 2 ^ d ≤ P1.length := by rw [hl, HS.out, HE0.out]; exact Nat.le_refl _
      have hP1b : P1.length ≤ 200000 := by omega
      obtain ⟨w1, hw1⟩ : ∃ w1 : World, w1 = wc := ⟨_, rfl⟩
      subst hw1
      clear hl hx f0 f1 hpl2 hbl2 hrow hB2 hT2 hs2 qd2 hb1 hb2 hb3
      obtain ⟨E, hE, hE1, hE2, hE3⟩ := pow_var (F := d) hd15
      obtain ⟨M, hM, hM1, hM2, hM3⟩ := pow_var (F := n - F) (by omega)
      have hME : M ≤ E := by rw [hE, hM]; exact Nat.pow_le_pow_right (by decide) hnd
      have htM : t / 2 ^ F < M := by
        rw [hM, Nat.div_lt_iff_lt_mul (Nat.pow_pos (by decide)), ← Nat.pow_add, show n - F + F = n from by omega]; exact ht
      rw [← hE] at hsd
      have HE := Lib.hid hE
      have HM := Lib.hid hM
      have HE3 := Lib.hid hE3
      have HM3 := Lib.hid hM3
      clear hE hM hE3 hM3
      obtain ⟨tq, htq⟩ : ∃ tq, t / 2 ^ F = tq := ⟨_, rfl⟩
      rw [htq] at htM
      have htq2 : (t : Int) / 2 ^ F = (tq : Int) := by rw [← htq, Int.natCast_ediv, Int.natCast_pow]; rfl
      have HTQ := Lib.hid htq
      clear htq
      have htM2 : tq < 32768 := by omega
      have u0 := hT1.cells (q := p1) hp1l
      rw [hx1] at u0
      obtain ⟨u00, u01, u02⟩ := u0
      simp only at u00 u01 u02
      have f0 := TabB.first hT1.pb
      have f1 := TabB.rows hT1.pb
      have hpl1 : p < w1.heap.size := Blk.lt hT1.pb
      have hbl1 : w.heap.size < w1.heap.size := hB1.lt
      obtain ⟨_, _, ev, hc1', hc2', _, hgl1, hgp1, _⟩ := hT1.form (by omega)
      injection ev with e1 _ e3
      injection e1 with e1
      injection e1 with e1
      rw [← e1] at hgl1 hgp1
      rw [← e3] at hc1' hc2'
      clear e1 e3
      have hx2 := Blk.new w1 134 #[.int .i64 2, .int .i64 s, .int .i64 d]
      have hT2 : TabAt (w1.alloc (.cells #[.int .i64 2, .int .i64 s, .int .i64 d] 134)) base p F (.slice (some ⟨g1, 0, none⟩) P1.length cap1) P1 fr ct := hT1.same ((Same.refl w1).alloc _)
      have hB2 := hB1.alloc (.cells #[.int .i64 2, .int .i64 s, .int .i64 d] 134)
      have hs2 := hs1.alloc (.cells #[.int .i64 2, .int .i64 s, .int .i64 d] 134)
      have hpn1 : p ≠ w1.heap.size := by omega
      have hgn1 : g1 ≠ w1.heap.size := by omega
      have hun : w1.heap.size ≠ g1 := by omega
      have hgb1 : w.heap.size ≠ g1 := hgb1'
      go_wp2_with fail
      generalize hw2 : w1.alloc (.cells #[.int .i64 2, .int .i64 s, .int .i64 d] 134) = w2 at *
      have HW2 := Lib.hid hw2
      clear hw2 hs1 hB1 hT1
      go_loopg [11] E (LlRel w base p F w.heap.size s E M (.slice (some ⟨g1, 0, none⟩) P1.length cap1) (fun k => k = g ∨ k = p) P1 fr ct i n tq w1.heap.size d)
      case atStart => exact ⟨tq, P1, Nat.le_refl _, by omega, by omega, Nat.mod_eq_of_lt htM, rfl, rfl, fun q hq => by rw [if_neg (fun c => by have := Nat.mod_eq_of_lt (show q - s < M by omega); omega)], hT2, hB2, hx2, hs2⟩
      case round =>
        clear hT2 hB2 hx2 hs2
        obtain ⟨j, P', hj0, hj1, hgj, hjm, rfl, hPl, hP, hT, hB, hX, hs'⟩ := hrel
        have HP := Lib.hid hP
        have HPL := Lib.hid hPl
        have HJM := Lib.hid hjm
        clear hP hPl hjm
        have f0 := TabB.first hT.pb
        have f1 := TabB.rows hT.pb
        have b0 := hB.cell 0
        have b1 := hB.cell 1
        have b2 := hB.cell 2
        have x1 := hX.cell 1
        have x2 := hX.cell 2
        by_cases hlt : j < E
        · have d3 : decide ((j : Int) < wrap64 (2 ^ d)) = true := by rw [HE3.out]; simp; omega
          have hjl : s + j < P'.length := by have := HPL.out; omega
          obtain ⟨c0, c1, c2⟩ := hT.cells hjl
          have z0 := hT.froz ((s + j) * 3)
          have z1 := hT.froz ((s + j) * 3 + 1)
          have z2 := hT.froz ((s + j) * 3 + 2)
          have hj2 : (s : Int) + j < (P1.length : Nat) := by omega
          have hj3 : (0 : Int) ≤ (s : Int) + j := by omega
          have hj4 : ((s : Int) + j).toNat = s + j := by omega
          have hj5 : IntKind.i64.wrap ((s : Int) + j) = (s : Int) + j := IntWalk.i64_in _ (by omega)
          go_wp2_with fail
          go_region
          have hT3 := (hT.stored hgp1 (s + j) ⟨1, i, n⟩).same (Same.refl _).drew
          have hB3 := (((hB.far (p := ⟨g1, (s + j) * 3, none⟩) hgb1 (.int .i64 1)).far (p := ⟨g1, (s + j) * 3 + 1, none⟩) hgb1 (.int .i64 i)).far (p := ⟨g1, (s + j) * 3 + 2, none⟩) hgb1 (.int .i64 n)).drew
          have hX3 := (((hX.far (p := ⟨g1, (s + j) * 3, none⟩) hun (.int .i64 1)).far (p := ⟨g1, (s + j) * 3 + 1, none⟩) hun (.int .i64 i)).far (p := ⟨g1, (s + j) * 3 + 2, none⟩) hun (.int .i64 n)).drew
          have hs3 := (((hs'.set_ (p := ⟨g1, (s + j) * 3, none⟩) (fun h => by rcases hg1 with e | e; exact .inl e; exact absurd h (by simp only; omega)) (.int .i64 1)).set_ (p := ⟨g1, (s + j) * 3 + 1, none⟩) (fun h => by rcases hg1 with e | e; exact .inl e; exact absurd h (by simp only; omega)) (.int .i64 i)).set_ (p := ⟨g1, (s + j) * 3 + 2, none⟩) (fun h => by rcases hg1 with e | e; exact .inl e; exact absurd h (by simp only; omega)) (.int .i64 n)).drew
          clear f0 f1 b0 b1 b2 x1 x2 c0 c1 c2 z0 z1 z2 hT hB hX hs' hj2 hj3 hj4 hj5
          generalize (((wr.setCell ⟨g1, (s + j) * 3, none⟩ (.int .i64 1)).setCell ⟨g1, (s + j) * 3 + 1, none⟩ (.int .i64 i)).setCell ⟨g1, (s + j) * 3 + 2, none⟩ (.int .i64 n)).drew = w3 at *
          have f0 := TabB.first hT3.pb
          have b2 := hB3.cell 2
          have n1 : IntKind.i64.wrap ((n : Int) - F) = (n : Int) - F := IntWalk.i64_in _ (by omega)
          have n2 : (0 : Int) ≤ (n : Int) - F := by omega
          have n3 : ((n : Int) - F).toNat = n - F := by omega
          go_wp2_with fail
          go_region
          go_wp2_with fail
          go_roundg (gk - M)
          case measure => omega
          case rel =>
            refine ⟨j + M, P'.set (s + j) ⟨1, i, n⟩, by omega, by omega, by omega, by rw [Nat.add_mod_right]; exact HJM.out, by rw [HM3.out, IntWalk.wrap64_in _ (by omega)]; go_num, by rw [List.length_set]; exact HPL.out, fun q hq => ?_, hT3.same (Same.refl _).drew, hB3.drew, hX3.drew, hs3.drew⟩
            have e : pg (P'.set (s + j) ⟨1, i, n⟩) q = if q = s + j then ⟨1, i, n⟩ else pg P' q := getD_set P' (s + j) q _ _ hjl
            rw [e, HP.out q hq]
            by_cases e1 : q = s + j
            · subst e1
              rw [if_pos rfl, if_pos ⟨by omega, by omega, by omega, by rw [Nat.add_sub_cancel_left]; exact HJM.out⟩]
            · rw [if_neg e1]
              by_cases c : s ≤ q ∧ q < s + E ∧ (q - s) % M = tq
              · by_cases c2 : q < s + j
                · rw [if_pos ⟨c.1, c.2.1, c2, c.2.2⟩, if_pos ⟨c.1, c.2.1, by omega, c.2.2⟩]
                · rw [if_neg (fun d => c2 d.2.2.1), if_neg (fun d => ?_)]
                  have hjq : j < q - s := by omega
                  have e3 := HJM.out
                  have e4 := Nat.div_add_mod (q - s) M
                  have e5 := Nat.div_add_mod j M
                  have e6 := d.2.2.1
                  rw [c.2.2] at e4
                  rw [e3] at e5
                  have h7 : M * ((q - s) / M) < M * (j / M + 1) := by rw [Nat.mul_add]; omega
                  have h8 : M * (j / M) < M * ((q - s) / M) := by omega
                  have h9 := Nat.lt_of_mul_lt_mul_left h7
                  have h10 := Nat.lt_of_mul_lt_mul_left h8
                  omega
              · rw [if_neg (fun d => c ⟨d.1, d.2.1, d.2.2.2⟩), if_neg (fun d => c ⟨d.1, d.2.1, d.2.2.2⟩)]
        · have d3 : decide ((j : Int) < wrap64 (2 ^ d)) = false := by rw [HE3.out]; simp; omega
          go_wp2_with fail
          ((try simp only [Exit.inBlock, Exit.then]); first | refine bodyPost_end (results_none rfl _ _ _) rfl ?_ | refine bodyPost_ret (results_none rfl _ _ _) rfl ?_)
          refine ⟨rfl, g1, cap1, P', HPL.out, fun q hq => ?_, by rw [HPL.out]; exact hT, hs', hg1⟩
          rw [HP.out q hq, ← HE.out, ← HM.out, HTQ.out]
          by_cases c : s ≤ q ∧ q < s + E ∧ (q - s) % M = tq
          · rw [if_pos ⟨c.1, c.2.1, by omega, c.2.2⟩, if_pos c]
          · rw [if_neg (fun d => c ⟨d.1, d.2.1, d.2.2.2⟩), if_neg c]
  · rw [hx] at c0 c1 c2
    subst hP1
    have e20 : ((2 : Int) == 0) = false := by decide
    go_enter Try.func85, Try.ntmps85
    go_wp2_with fail
    go_region
    obtain ⟨w1, hw1⟩ : ∃ w1, (w.alloc (.cells #[.int .i64 1, .int .i64 i, .int .i64 n] 134)).drew = w1 := ⟨_, rfl⟩
    have hT1 := h'.same (Same.refl _).drew
    have hB1 := hbx.drew
    have hs1 := hs0.drew
    have g0 := hT1.cells hp1P
    rw [hx] at g0
    obtain ⟨g00, g01, g02⟩ := g0
    simp only at g00 g01 g02
    rw [hw1] at hT1 hB1 hs1 g00 g01 g02 ⊢
    clear hw1 h' hbx hs0 f0 f1 c0 c1 c2
    have hx1 := hx
    have hp1l := hp1P
    obtain ⟨E, hE, hE1, hE2, hE3⟩ := pow_var (F := d) hd15
    obtain ⟨M, hM, hM1, hM2, hM3⟩ := pow_var (F := n - F) (by omega)
    have hME : M ≤ E := by rw [hE, hM]; exact Nat.pow_le_pow_right (by decide) hnd
    have htM : t / 2 ^ F < M := by
      rw [hM, Nat.div_lt_iff_lt_mul (Nat.pow_pos (by decide)), ← Nat.pow_add, show n - F + F = n from by omega]; exact ht
    rw [← hE] at hsd
    have HE := Lib.hid hE
    have HM := Lib.hid hM
    have HE3 := Lib.hid hE3
    have HM3 := Lib.hid hM3
    clear hE hM hE3 hM3
    obtain ⟨tq, htq⟩ : ∃ tq, t / 2 ^ F = tq := ⟨_, rfl⟩
    rw [htq] at htM
    have htq2 : (t : Int) / 2 ^ F = (tq : Int) := by rw [← htq, Int.natCast_ediv, Int.natCast_pow]; rfl
    have HTQ := Lib.hid htq
    clear htq
    have htM2 : tq < 32768 := by omega
    have u0 := hT1.cells (q := p1) hp1l
    rw [hx1] at u0
    obtain ⟨u00, u01, u02⟩ := u0
    simp only at u00 u01 u02
    have f0 := TabB.first hT1.pb
    have f1 := TabB.rows hT1.pb
    have hpl1 : p < w1.heap.size := Blk.lt hT1.pb
    have hbl1 : w.heap.size < w1.heap.size := hB1.lt
    obtain ⟨_, _, ev, hc1', hc2', _, hgl1, hgp1, _⟩ := hT1.form (by omega)
    injection ev with e1 _ e3
    injection e1 with e1
    injection e1 with e1
    rw [← e1] at hgl1 hgp1
    rw [← e3] at hc1' hc2'
    clear e1 e3
    have hx2 := Blk.new w1 134 #[.int .i64 2, .int .i64 s, .int .i64 d]
    have hT2 : TabAt (w1.alloc (.cells #[.int .i64 2, .int .i64 s, .int .i64 d] 134)) base p F (.slice (some ⟨g, 0, none⟩) P1.length cap) P1 fr ct := hT1.same ((Same.refl w1).alloc _)
    have hB2 := hB1.alloc (.cells #[.int .i64 2, .int .i64 s, .int .i64 d] 134)
    have hs2 := hs1.alloc (.cells #[.int .i64 2, .int .i64 s, .int .i64 d] 134)
    have hpn1 : p ≠ w1.heap.size := by omega
    have hgn1 : g ≠ w1.heap.size := by omega
    have hun : w1.heap.size ≠ g := by omega
    have hgb1 : w.heap.size ≠ g := hgb
    go_wp2_with fail
    generalize hw2 : w1.alloc (.cells #[.int .i64 2, .int .i64 s, .int .i64 d] 134) = w2 at *
    have HW2 := Lib.hid hw2
    clear hw2 hs1 hB1 hT1
    go_loopg [11] E (LlRel w base p F w.heap.size s E M (.slice (some ⟨g, 0, none⟩) P1.length cap) (fun k => k = g ∨ k = p) P1 fr ct i n tq w1.heap.size d)
    case atStart => exact ⟨tq, P1, Nat.le_refl _, by omega, by omega, Nat.mod_eq_of_lt htM, rfl, rfl, fun q hq => by rw [if_neg (fun c => by have := Nat.mod_eq_of_lt (show q - s < M by omega); omega)], hT2, hB2, hx2, hs2⟩
    case round =>
      clear hT2 hB2 hx2 hs2
      obtain ⟨j, P', hj0, hj1, hgj, hjm, rfl, hPl, hP, hT, hB, hX, hs'⟩ := hrel
      have HP := Lib.hid hP
      have HPL := Lib.hid hPl
      have HJM := Lib.hid hjm
      clear hP hPl hjm
      have f0 := TabB.first hT.pb
      have f1 := TabB.rows hT.pb
      have b0 := hB.cell 0
      have b1 := hB.cell 1
      have b2 := hB.cell 2
      have x1 := hX.cell 1
      have x2 := hX.cell 2
      by_cases hlt : j < E
      · have d3 : decide ((j : Int) < wrap64 (2 ^ d)) = true := by rw [HE3.out]; simp; omega
        have hjl : s + j < P'.length := by have := HPL.out; omega
        obtain ⟨c0, c1, c2⟩ := hT.cells hjl
        have z0 := hT.froz ((s + j) * 3)
        have z1 := hT.froz ((s + j) * 3 + 1)
        have z2 := hT.froz ((s + j) * 3 + 2)
        have hj2 : (s : Int) + j < (P1.length : Nat) := by omega
        have hj3 : (0 : Int) ≤ (s : Int) + j := by omega
        have hj4 : ((s : Int) + j).toNat = s + j := by omega
        have hj5 : IntKind.i64.wrap ((s : Int) + j) = (s : Int) + j := IntWalk.i64_in _ (by omega)
        go_wp2_with fail
        go_region
        have hT3 := (hT.stored hgp1 (s + j) ⟨1, i, n⟩).same (Same.refl _).drew
        have hB3 := (((hB.far (p := ⟨g, (s + j) * 3, none⟩) hgb1 (.int .i64 1)).far (p := ⟨g, (s + j) * 3 + 1, none⟩) hgb1 (.int .i64 i)).far (p := ⟨g, (s + j) * 3 + 2, none⟩) hgb1 (.int .i64 n)).drew
        have hX3 := (((hX.far (p := ⟨g, (s + j) * 3, none⟩) hun (.int .i64 1)).far (p := ⟨g, (s + j) * 3 + 1, none⟩) hun (.int .i64 i)).far (p := ⟨g, (s + j) * 3 + 2, none⟩) hun (.int .i64 n)).drew
        have hs3 := (((hs'.set_ (p := ⟨g, (s + j) * 3, none⟩) (fun _ => .inl rfl) (.int .i64 1)).set_ (p := ⟨g, (s + j) * 3 + 1, none⟩) (fun _ => .inl rfl) (.int .i64 i)).set_ (p := ⟨g, (s + j) * 3 + 2, none⟩) (fun _ => .inl rfl) (.int .i64 n)).drew
        clear f0 f1 b0 b1 b2 x1 x2 c0 c1 c2 z0 z1 z2 hT hB hX hs' hj2 hj3 hj4 hj5
        generalize (((wr.setCell ⟨g, (s + j) * 3, none⟩ (.int .i64 1)).setCell ⟨g, (s + j) * 3 + 1, none⟩ (.int .i64 i)).setCell ⟨g, (s + j) * 3 + 2, none⟩ (.int .i64 n)).drew = w3 at *
        have f0 := TabB.first hT3.pb
        have b2 := hB3.cell 2
        have n1 : IntKind.i64.wrap ((n : Int) - F) = (n : Int) - F := IntWalk.i64_in _ (by omega)
        have n2 : (0 : Int) ≤ (n : Int) - F := by omega
        have n3 : ((n : Int) - F).toNat = n - F := by omega
        go_wp2_with fail
        go_region
        go_wp2_with fail
        go_roundg (gk - M)
        case measure => omega
        case rel =>
          refine ⟨j + M, P'.set (s + j) ⟨1, i, n⟩, by omega, by omega, by omega, by rw [Nat.add_mod_right]; exact HJM.out, by rw [HM3.out, IntWalk.wrap64_in _ (by omega)]; go_num, by rw [List.length_set]; exact HPL.out, fun q hq => ?_, hT3.same (Same.refl _).drew, hB3.drew, hX3.drew, hs3.drew⟩
          have e : pg (P'.set (s + j) ⟨1, i, n⟩) q = if q = s + j then ⟨1, i, n⟩ else pg P' q := getD_set P' (s + j) q _ _ hjl
          rw [e, HP.out q hq]
          by_cases e1 : q = s + j
          · subst e1
            rw [if_pos rfl, if_pos ⟨by omega, by omega, by omega, by rw [Nat.add_sub_cancel_left]; exact HJM.out⟩]
          · rw [if_neg e1]
            by_cases c : s ≤ q ∧ q < s + E ∧ (q - s) % M = tq
            · by_cases c2 : q < s + j
              · rw [if_pos ⟨c.1, c.2.1, c2, c.2.2⟩, if_pos ⟨c.1, c.2.1, by omega, c.2.2⟩]
              · rw [if_neg (fun d => c2 d.2.2.1), if_neg (fun d => ?_)]
                have hjq : j < q - s := by omega
                have e3 := HJM.out
                have e4 := Nat.div_add_mod (q - s) M
                have e5 := Nat.div_add_mod j M
                have e6 := d.2.2.1
                rw [c.2.2] at e4
                rw [e3] at e5
                have h7 : M * ((q - s) / M) < M * (j / M + 1) := by rw [Nat.mul_add]; omega
                have h8 : M * (j / M) < M * ((q - s) / M) := by omega
                have h9 := Nat.lt_of_mul_lt_mul_left h7
                have h10 := Nat.lt_of_mul_lt_mul_left h8
                omega
            · rw [if_neg (fun d => c ⟨d.1, d.2.1, d.2.2.2⟩), if_neg (fun d => c ⟨d.1, d.2.1, d.2.2.2⟩)]
      · have d3 : decide ((j : Int) < wrap64 (2 ^ d)) = false := by rw [HE3.out]; simp; omega
        go_wp2_with fail
        ((try simp only [Exit.inBlock, Exit.then]); first | refine bodyPost_end (results_none rfl _ _ _) rfl ?_ | refine bodyPost_ret (results_none rfl _ _ _) rfl ?_)
        refine ⟨rfl, g, cap, P', HPL.out, fun q hq => ?_, by rw [HPL.out]; exact hT, hs', .inl rfl⟩
        rw [HP.out q hq, ← HE.out, ← HM.out, HTQ.out]
        by_cases c : s ≤ q ∧ q < s + E ∧ (q - s) % M = tq
        · rw [if_pos ⟨c.1, c.2.1, by omega, c.2.2⟩, if_pos c]
        · rw [if_neg (fun d => c ⟨d.1, d.2.1, d.2.2.2⟩), if_neg c]
end Go.Proofs.Yteknaaijlkenkaa
namespace Go.Proofs.Yteknaaijlkenkaa
open Go.RowKit
attribute [local go_sem] max2i min2i max2t min2t

def ctF (l : List Int) (k j : Nat) : Int := if j = 0 then 0 else ((l.take k).count (j : Int) : Nat)
def frF (l : List Int) (k j : Nat) : Int := if j ≠ 0 ∧ 0 < (l.take k).count (j : Int) then nxt l j else 0
section
variable {w : World} {p F : Nat} {v : Value} {fr ct fr' ct' : Nat → Int}
theorem TabB.congr (h : TabB w p F v fr ct) (h1 : ∀ q, q < 16 → fr q = fr' q) (h2 : ∀ q, q < 16 → ct q = ct' q) : TabB w p F v fr' ct' := by
  have e : tab 34 (tblF F v fr' ct') = tab 34 (tblF F v fr ct) := tab_congr (fun i hi => by
    unfold tblF
    split
    · rfl
    · split
      · rfl
      · split
        · rw [h1 _ (by omega)]
        · rw [h2 _ (by omega)])
  show Blk _ _ _ _
  rw [e]; exact h
theorem TabB.setFr (h : TabB w p F v fr ct) {j : Nat} (hj : j < 16) (x : Int) : TabB (w.setCell ⟨p, 2 + j, none⟩ (.int .u32 x)) p F v (fun q => if q = j then x else fr q) ct := by
  have := Blk.set_ h (2 + j) (.int .u32 x)
  rw [tab_set] at this
  show Blk _ _ _ _
  rw [tab_congr (n := 34) (g := fun i => if i = 2 + j then .int .u32 x else tblF F v fr ct i)]
  · exact this
  · intro i hi
    unfold tblF
    by_cases e : i = 2 + j
    · subst e; simp [hj, show 2 + j < 18 from by omega, show ¬ (2 + j = 0) from by omega, show ¬ (2 + j = 1) from by omega]
    · simp only [if_neg e]
      split
      · rfl
      · split
        · rfl
        · split
          · rw [if_neg (by omega)]
          · rfl
theorem TabB.setCt (h : TabB w p F v fr ct) {j : Nat} (hj : j < 16) (x : Int) : TabB (w.setCell ⟨p, 18 + j, none⟩ (.int .u32 x)) p F v fr (fun q => if q = j then x else ct q) := by
  have := Blk.set_ h (18 + j) (.int .u32 x)
  rw [tab_set] at this
  show Blk _ _ _ _
  rw [tab_congr (n := 34) (g := fun i => if i = 18 + j then .int .u32 x else tblF F v fr ct i)]
  · exact this
  · intro i hi
    unfold tblF
    by_cases e : i = 18 + j
    · subst e; simp [show ¬ (18 + j < 18) from by omega, show ¬ (18 + j = 0) from by omega, show ¬ (18 + j = 1) from by omega]
    · simp only [if_neg e]
      split
      · rfl
      · split
        · rfl
        · split
          · rfl
          · rw [if_neg (by omega)]
end
theorem tbl_zero (F : Nat) (v : Value) : tab 34 (tblF F v (fun _ => 0) (fun _ => 0)) = #[.int .i64 F, v, .int .u32 0, .int .u32 0, .int .u32 0, .int .u32 0, .int .u32 0, .int .u32 0, .int .u32 0, .int .u32 0, .int .u32 0, .int .u32 0, .int .u32 0, .int .u32 0, .int .u32 0, .int .u32 0, .int .u32 0, .int .u32 0, .int .u32 0, .int .u32 0, .int .u32 0, .int .u32 0, .int .u32 0, .int .u32 0, .int .u32 0, .int .u32 0, .int .u32 0, .int .u32 0, .int .u32 0, .int .u32 0, .int .u32 0, .int .u32 0, .int .u32 0, .int .u32 0] := by kernel_rfl
theorem codes_wf {l : List Int} (hg : Good l) : ∀ x ∈ codes l, (Lit.int .u32 x).wf = true := fun x hx => by
  obtain ⟨i, _, rfl⟩ := List.mem_map.1 hx
  have h : 0 ≤ code l i ∧ code l i < 4294967296 := by
    by_cases h0 : ln l i = 0
    · unfold ln at h0
      unfold code
      rw [if_pos h0]; omega
    · obtain ⟨a, b⟩ := hg.cod (j := i) (by omega)
      have h15 := Nat.pow_le_pow_right (n := 2) (by decide) (hg.at_ i).1
      have : 2 ^ 15 = 32768 := by decide
      rw [a]; omega
  simp [Lit.wf, IntKind.min, IntKind.max, IntKind.bits, IntKind.signed]; omega
structure N2Rel (w4 : World) (l : List Int) (base p F g0 : Nat) (D : List Nat) (fr ct : Nat → Int) (gq : Nat) (v79 : Value) (wr : World) : Prop where mk ::
  out_ : ∃ (k : Nat) (P : List Pl) (g cap : Nat), k ≤ l.length ∧ l.length ≤ gq + k ∧ v79 = .int .i64 (k : Int) ∧ TabAt wr base p F (.slice (some ⟨g, 0, none⟩) P.length cap) P fr ct ∧ TInv l F D k k P ∧ (g = g0 ∨ w4.heap.size ≤ g) ∧ Same (fun q => q = p ∨ q = g0) w4 wr
structure N1Rel (w : World) (l : List Int) (F p : Nat) (v : Value) (g : Nat) (v39 : Value) (wr : World) : Prop where mk ::
  out_ : ∃ (k : Nat), k ≤ l.length ∧ l.length ≤ g + k ∧ v39 = .int .i64 (k : Int) ∧ TabB wr p F v (frF l k) (ctF l k) ∧ Same (fun k => k = p) w wr
set_option maxHeartbeats 1600000 in
set_option maxRecDepth 100000 in
theorem tab_new_ok (A : Option Addr) (c : Nat) (l : List Int) (w : World) (hr : RowOf w .i64 A c l) (hE : codesErr l = 0) (F : Nat) (hF1 : 1 ≤ F) (hF : F ≤ 15) :
    Calls Try.prog 77 #[.slice A l.length c, .int .i64 F] w fun e w' => ∃ p v P fr ct, e = .returned (.tuple #[.pointer (some ⟨p, 0, none⟩), .int .i64 0]) ∧ TabAt w' w.heap.size p F v P fr ct ∧ TFin l F P fr ct ∧ w.heap.size ≤ p ∧ Below w.heap.size w w' := by
  have hm := hr.most
  have hcap := hr.cap
  have hgd := good_of hE
  have hl65 : l.length ≤ 65536 := (kraft_good (l := l) (by unfold codesErr at hE; split at hE <;> omega)).1
  have hco : codesOut l = codes l := by rw [codesOut, if_pos hE]
  have HC := Lib.hid (canon_codes A c l w hr)
  rw [hE, hco] at HC
  clear hE hco
  obtain ⟨N, hN, hN1, hN2, hN3⟩ := pow_var (F := F) hF
  obtain ⟨i0, hi, hz0, hz1, hz2⟩ := info_parts Try.placeinfo
  have hmk : ∀ w : World, (Instr.makeSlice 127 (.int .i64 (wrap64 (2 ^ F))) (.int .i64 (wrap64 (2 ^ F)))).run Try.prog w = .ok (.slice (some ⟨w.heap.size, 0, none⟩) N N) (w.alloc (.cells (madeCells #[.int .i64 0, .int .i64 0, .int .i64 0] (N * 3)) 134)) := fun w => by
    rw [hN3]
    have := run_make (P := Try.prog) w 127 134 i0 _ Try.underlying127 hi hz0 .i64 .i64 N N (by omega) (by omega) (by rw [hz2]; omega) (by omega)
    rw [hz1] at this
    exact this
  have HN := Lib.hid hN
  clear hN hN3 hi hz0 hz1 hz2
  go_enter Try.func77, Try.ntmps77
  go_wp2_with fail
  refine HC.out.mono ?_
  rintro e w1 ⟨v1, rfl, ho1, hb1⟩
  clear HC
  obtain ⟨A2, c2, rfl, hr2, _⟩ := ho1.row (codes_wf hgd)
  have hpb : TabB ((w1.alloc (.cells (madeCells #[.int .i64 0, .int .i64 0, .int .i64 0] (N * 3)) 134)).alloc (.cells #[.int .i64 F, .slice (some ⟨w1.heap.size, 0, none⟩) N N, .int .u32 0, .int .u32 0, .int .u32 0, .int .u32 0, .int .u32 0, .int .u32 0, .int .u32 0, .int .u32 0, .int .u32 0, .int .u32 0, .int .u32 0, .int .u32 0, .int .u32 0, .int .u32 0, .int .u32 0, .int .u32 0, .int .u32 0, .int .u32 0, .int .u32 0, .int .u32 0, .int .u32 0, .int .u32 0, .int .u32 0, .int .u32 0, .int .u32 0, .int .u32 0, .int .u32 0, .int .u32 0, .int .u32 0, .int .u32 0, .int .u32 0, .int .u32 0] 130)) (w1.heap.size + 1) F (.slice (some ⟨w1.heap.size, 0, none⟩) N N) (fun _ => 0) (fun _ => 0) := by
    have := Blk.new (w1.alloc (.cells (madeCells #[.int .i64 0, .int .i64 0, .int .i64 0] (N * 3)) 134)) 130 #[.int .i64 F, .slice (some ⟨w1.heap.size, 0, none⟩) N N, .int .u32 0, .int .u32 0, .int .u32 0, .int .u32 0, .int .u32 0, .int .u32 0, .int .u32 0, .int .u32 0, .int .u32 0, .int .u32 0, .int .u32 0, .int .u32 0, .int .u32 0, .int .u32 0, .int .u32 0, .int .u32 0, .int .u32 0, .int .u32 0, .int .u32 0, .int .u32 0, .int .u32 0, .int .u32 0, .int .u32 0, .int .u32 0, .int .u32 0, .int .u32 0, .int .u32 0, .int .u32 0, .int .u32 0, .int .u32 0, .int .u32 0, .int .u32 0]
    rw [show (w1.alloc (.cells (madeCells #[.int .i64 0, .int .i64 0, .int .i64 0] (N * 3)) 134)).heap.size = w1.heap.size + 1 from by simp] at this
    show Blk _ _ _ _
    rw [tbl_zero]
    exact this
  have hrow : (w1.alloc (.cells (madeCells #[.int .i64 0, .int .i64 0, .int .i64 0] (N * 3)) 134)).ownsRow w.heap.size 134 3 (.slice (some ⟨w1.heap.size, 0, none⟩) N N) N (flat (List.replicate N Pl.z)) := by
    refine ⟨by rw [flat_length, List.length_replicate], .inr ⟨w1.heap.size, N, _, rfl, hb1.size, heap_alloc_new w1 _, Nat.le_refl _, by simp [maxLen]; omega, by simp [madeCells], ?_⟩⟩
    have e := zero_news N
    have e2 : (Builtin.zeroCells (Value.agg #[.int .i64 0, .int .i64 0, .int .i64 0]).cells N) = madeCells #[.int .i64 0, .int .i64 0, .int .i64 0] (N * 3) := rfl
    rw [e2] at e
    rw [e, List.take_of_length_le (by rw [flat_length, List.length_replicate]; exact Nat.le_refl _)]
  go_wp2_with fail
  have hb2 := (hb1.alloc hb1.size (.cells (madeCells #[.int .i64 0, .int .i64 0, .int .i64 0] (N * 3)) 134))
  have hrow2 := hrow
  generalize hwa : w1.alloc (.cells (madeCells #[.int .i64 0, .int .i64 0, .int .i64 0] (N * 3)) 134) = wa at *
  have hcl : (codes l).length = l.length := by simp [codes]
  rw [hcl]
  generalize hp : w1.heap.size + 1 = p at *
  have hps : w1.heap.size < p := by omega
  have hrow := World.ownsRow.alloc hrow (.cells #[.int .i64 F, .slice (some ⟨w1.heap.size, 0, none⟩) N N, .int .u32 0, .int .u32 0, .int .u32 0, .int .u32 0, .int .u32 0, .int .u32 0, .int .u32 0, .int .u32 0, .int .u32 0, .int .u32 0, .int .u32 0, .int .u32 0, .int .u32 0, .int .u32 0, .int .u32 0, .int .u32 0, .int .u32 0, .int .u32 0, .int .u32 0, .int .u32 0, .int .u32 0, .int .u32 0, .int .u32 0, .int .u32 0, .int .u32 0, .int .u32 0, .int .u32 0, .int .u32 0, .int .u32 0, .int .u32 0, .int .u32 0, .int .u32 0] 130)
  have hb3 := hb2.alloc hb2.size (.cells #[.int .i64 F, .slice (some ⟨w1.heap.size, 0, none⟩) N N, .int .u32 0, .int .u32 0, .int .u32 0, .int .u32 0, .int .u32 0, .int .u32 0, .int .u32 0, .int .u32 0, .int .u32 0, .int .u32 0, .int .u32 0, .int .u32 0, .int .u32 0, .int .u32 0, .int .u32 0, .int .u32 0, .int .u32 0, .int .u32 0, .int .u32 0, .int .u32 0, .int .u32 0, .int .u32 0, .int .u32 0, .int .u32 0, .int .u32 0, .int .u32 0, .int .u32 0, .int .u32 0, .int .u32 0, .int .u32 0, .int .u32 0, .int .u32 0] 130)
  have hbb := ((Same.refl (S := fun _ => False) w1).alloc (.cells (madeCells #[.int .i64 0, .int .i64 0, .int .i64 0] (N * 3)) 134)).alloc (.cells #[.int .i64 F, .slice (some ⟨w1.heap.size, 0, none⟩) N N, .int .u32 0, .int .u32 0, .int .u32 0, .int .u32 0, .int .u32 0, .int .u32 0, .int .u32 0, .int .u32 0, .int .u32 0, .int .u32 0, .int .u32 0, .int .u32 0, .int .u32 0, .int .u32 0, .int .u32 0, .int .u32 0, .int .u32 0, .int .u32 0, .int .u32 0, .int .u32 0, .int .u32 0, .int .u32 0, .int .u32 0, .int .u32 0, .int .u32 0, .int .u32 0, .int .u32 0, .int .u32 0, .int .u32 0, .int .u32 0, .int .u32 0, .int .u32 0] 130)
  rw [hwa] at hbb
  have hz1 := hb1.size
  clear hb2 hrow2 hmk hwa
  generalize hg0 : w1.heap.size = g0 at *
  generalize wa.alloc (.cells #[.int .i64 F, .slice (some ⟨g0, 0, none⟩) N N, .int .u32 0, .int .u32 0, .int .u32 0, .int .u32 0, .int .u32 0, .int .u32 0, .int .u32 0, .int .u32 0, .int .u32 0, .int .u32 0, .int .u32 0, .int .u32 0, .int .u32 0, .int .u32 0, .int .u32 0, .int .u32 0, .int .u32 0, .int .u32 0, .int .u32 0, .int .u32 0, .int .u32 0, .int .u32 0, .int .u32 0, .int .u32 0, .int .u32 0, .int .u32 0, .int .u32 0, .int .u32 0, .int .u32 0, .int .u32 0, .int .u32 0, .int .u32 0] 130) = wb at *
  have hr0 := hr.belo hb3
  have hr2b : RowOf wb .u32 A2 c2 (codes l) := hr2.same hbb (fun _ _ c => c)
  go_loopg [39] l.length (N1Rel wb l F p (.slice (some ⟨g0, 0, none⟩) N N))
  case atStart => exact ⟨0, by omega, by omega, rfl, hpb.congr (fun q _ => by simp [frF]) (fun q _ => by simp [ctF]), Same.refl _⟩
  case round =>
    clear hpb
    obtain ⟨k, hk, hgk, rfl, hT, hs⟩ := hrel
    by_cases hlt : k < l.length
    · have hgat := hgd.at_ k
      obtain ⟨x, hx⟩ : ∃ x, l[k]? = some x := ⟨_, List.getElem?_eq_getElem hlt⟩
      have hln : l.getD k 0 = x := by rw [List.getD_eq_getElem?_getD, hx]; rfl
      obtain ⟨n, hn⟩ : ∃ n, n = ln l k := ⟨_, rfl⟩
      rw [← hn] at hgat
      obtain rfl : x = n := by rw [← hln]; exact hgat.2
      obtain ⟨ad, rfl, q0⟩ := hr.rd k n hx
      have q0b := World.block_lt_of_cell? w _ q0
      have q0 := (hb3.cell q0b).trans q0
      have q0 := hs.cell q0 (fun e => by omega)
      have hn15 := hgat.1
      have hcc := take_count hx
      clear hgat
      by_cases hn0 : n = 0
      · subst hn0
        have HCC := Lib.hid hcc
        clear hcc hn hx hln
        go_wp2_with fail
        go_roundg (gk - 1)
        case measure => omega
        case rel =>
          refine ⟨k + 1, by omega, by omega, by go_num, hT.congr (fun q hq => ?_) (fun q hq => ?_), hs⟩
          · unfold frF
            by_cases e : q = 0
            · simp [e]
            · rw [HCC.out, if_neg (show ¬ ((0 : Nat) : Int) = q by omega), Nat.add_zero]
          · unfold ctF
            by_cases e : q = 0
            · simp [e]
            · rw [if_neg e, if_neg e, HCC.out, if_neg (show ¬ ((0 : Nat) : Int) = q by omega), Nat.add_zero]
      · have d1 : decide ((0 : Int) < n) = true := by simp; omega
        have d1' : decide (0 < n) = true := by simp; omega
        have cc := TabB.cnt hT (k := n) (by omega)
        have cf := Blk.frozen hT (18 + n)
        have i1 : (n : Int) < 16 := by omega
        have hcb : (l.take k).count (n : Int) ≤ 65536 := Nat.le_trans (List.count_le_length) (by have := List.length_take_le k l; omega)
        rw [ctF, if_neg hn0] at cc
        obtain ⟨hco, hcol⟩ := hgd.cod (j := k) (by omega)
        have hcode : code l k = adv (nxt l n) ((l.take k).count (n : Int)) := by
          unfold code
          rw [hln, Int.toNat_natCast, if_neg hn0]
        have HCC := Lib.hid hcc
        have HN2 := Lib.hid hn
        have HN0 := Lib.hid hn0
        obtain ⟨ad2, rfl, q2⟩ := hr2b.rd k (code l k) (by simp [codes, hlt])
        have q2b : (ad2.add k).block < g0 := by
          obtain ⟨ad3, e3, q3⟩ := hr2.rd k (code l k) (by simp [codes, hlt])
          injection e3 with e3
          subst e3
          rw [← hg0]; exact World.block_lt_of_cell? w1 _ q3
        have q2 := hs.cell q2 (fun e => by omega)
        by_cases c0 : (l.take k).count (n : Int) = 0
        · rw [c0] at cc hcode
          have hcn : code l k = nxt l n := hcode
          have HCN := Lib.hid hcn
          have ff := TabB.frm hT (k := n) (by omega)
          have fz := Blk.frozen hT (2 + n)
          have HC0 := Lib.hid c0
          clear hcc hn hx hln hn0 hcode hcn hco c0
          generalize code l k = C at *
          go_wp2_with fail
          go_region
          have hT1 := Blk.drew (TabB.setFr hT (j := n) (by omega) C)
          have hs1 := (hs.set_ (p := ⟨p, 2 + n, none⟩) (fun _ => rfl) (.int .u32 C)).drew
          clear cc cf ff fz q2 hT hs q0
          generalize (wr.setCell ⟨p, 2 + n, none⟩ (.int .u32 C)).drew = w3 at *
          have cc := TabB.cnt hT1 (k := n) (by omega)
          rw [ctF, if_neg HN0.out, HC0.out] at cc
          have cf := Blk.frozen hT1 (18 + n)
          go_wp2_with fail
          go_region
          go_wp2_with fail
          go_roundg (gk - 1)
          case measure => omega
          case rel =>
            have hT2 := Blk.drew (TabB.setCt hT1 (j := n) (by omega) 1)
            refine ⟨k + 1, by omega, by omega, by go_num, TabB.congr hT2 (fun q hq => ?_) (fun q hq => ?_), (hs1.set_ (p := ⟨p, 18 + n, none⟩) (fun _ => rfl) _).drew⟩
            · unfold frF
              by_cases e : q = n
              · subst e
                rw [if_pos rfl, HCC.out, if_pos rfl, if_pos ⟨HN0.out, by omega⟩, HCN.out]
              · rw [if_neg e, HCC.out, if_neg (show ¬ (n : Int) = q by omega), Nat.add_zero]
            · unfold ctF
              by_cases e : q = n
              · subst e
                rw [if_pos rfl, if_neg HN0.out, HCC.out, if_pos rfl, HC0.out]; rfl
              · rw [if_neg e, HCC.out, if_neg (show ¬ (n : Int) = q by omega), Nat.add_zero]
        · obtain ⟨cN, hcN⟩ : ∃ cN, (l.take k).count (n : Int) = cN := ⟨_, rfl⟩
          rw [hcN] at cc hcb c0
          have e0 : ((cN : Int) == 0) = false := by rw [beq_eq_false_iff_ne]; omega
          have HCNN := Lib.hid hcN
          clear hcc hn hx hln hn0 hcode hco hcN q2
          have u1 : IntKind.u32.wrap ((cN : Int) + 1) = (cN : Int) + 1 := by rw [IntKind.wrap_u32]; omega
          go_wp2_with fail
          go_region
          go_wp2_with fail
          go_roundg (gk - 1)
          case measure => omega
          case rel =>
            have hT2 := Blk.drew (TabB.setCt hT (j := n) (by omega) ((cN : Int) + 1))
            refine ⟨k + 1, by omega, by omega, by go_num, TabB.congr hT2 (fun q hq => ?_) (fun q hq => ?_), (hs.set_ (p := ⟨p, 18 + n, none⟩) (fun _ => rfl) _).drew⟩
            · unfold frF
              by_cases e : q = n
              · subst e
                rw [HCC.out, if_pos rfl, if_pos ⟨HN0.out, by rw [HCNN.out]; omega⟩, if_pos ⟨HN0.out, by omega⟩]
              · rw [HCC.out, if_neg (show ¬ (n : Int) = q by omega), Nat.add_zero]
            · unfold ctF
              by_cases e : q = n
              · subst e
                rw [if_pos rfl, if_neg HN0.out, HCC.out, if_pos rfl, HCNN.out]; rfl
              · rw [if_neg e, HCC.out, if_neg (show ¬ (n : Int) = q by omega), Nat.add_zero]
    · have hkl : k = l.length := by omega
      subst hkl
      obtain ⟨frq, hfrq⟩ : ∃ f, frF l l.length = f := ⟨_, rfl⟩
      obtain ⟨ctq, hctq⟩ : ∃ f, ctF l l.length = f := ⟨_, rfl⟩
      rw [hfrq, hctq] at hT
      have HFR : Hid (∀ k, 1 ≤ k → k ≤ 15 → 0 < cnt l k → frq k = nxt l k) := Lib.hid (fun k h1 h2 h3 => by
        rw [← hfrq, frF, List.take_length]
        unfold cnt at h3
        rw [if_neg (by omega)] at h3
        rw [if_pos ⟨by omega, h3⟩])
      have HCT : Hid (∀ k, 1 ≤ k → k ≤ 15 → ctq k = cnt l k) := Lib.hid (fun k h1 h2 => by
        rw [← hctq, ctF, List.take_length, cnt, if_neg (by omega), if_neg (by omega)])
      clear hfrq hctq
      have hrw : RowOf wr .i64 A c l := by
        by_cases hle : l = []
        · subst hle; exact hr.empty
        · exact hr0.same hs (fun ad e => by have := hr.lt hle ad e; omega)
      have hr2w : RowOf wr .u32 A2 c2 (codes l) := by
        by_cases hle : codes l = []
        · rw [hle] at hr2 ⊢; exact hr2.empty
        · exact hr2b.same hs (fun ad e => by have := hr2.lt hle ad e; omega)
      have HDP := Lib.hid (tab_deep hgd hF1 hF HN.out hT hrw hr2w)
      have hb4 := hs.below_of hb3 hb3.size (fun q hq e => by omega)
      have hrowr := ownsRow_kept hrow hs (fun q hq e => by
        have : q = g0 := by simpa [Value.ownBlock] using hq.symm
        omega)
      have hpr : p < wr.heap.size := Blk.lt hT
      have hgr : g0 < wr.heap.size := by omega
      go_wp2_with fail
      refine HDP.out.mono ?_
      rintro e w4 ⟨gd, capd, D, rfl, hoD, hDl, hD1, hD2, hbd⟩
      have hgdb := hoD.base_le gd rfl
      have hgdl := hoD.lt gd rfl
      have hb5 := hb4.trans (hbd.mono hb4.size)
      have hT4 : TabAt w4 w.heap.size p F (.slice (some ⟨g0, 0, none⟩) (List.replicate N Pl.z).length N) (List.replicate N Pl.z) frq ctq := by
        rw [List.length_replicate]
        refine ⟨Blk.below hT hbd hpr, ?_⟩
        rw [List.length_replicate]
        exact ownsRow_kept hrowr (Same.of_below (S := fun _ => False) hbd) (fun _ _ c => c)
      obtain ⟨Ad, cd, ed, hrD, _⟩ := hoD.row (fun x hx => by
        obtain ⟨y, hy, rfl⟩ := List.mem_map.1 hx
        obtain ⟨q, hq⟩ := List.getElem?_of_mem hy
        have := hD1 q
        rw [List.getD_eq_getElem?_getD, hq, Option.getD_some] at this
        exact WalkArith.wf_i64 (by omega))
      injection ed with ed1 ed3 ed2
      clear ed3
      subst ed1 ed2
      have hr4 := hrw.belo hbd
      have hr24 := hr2w.belo hbd
      have HD1 := Lib.hid hD1
      have HD2 := Lib.hid hD2
      have HDL := Lib.hid hDl
      have hI0 := TInv.start l F D
      rw [← HN.out] at hI0
      have HI0 := Lib.hid hI0
      clear hD1 hD2 hDl hT hs hrow hrowr HDP hb4 hrw hr2w hI0
      go_wp2_with fail
      go_loopg [79] l.length (N2Rel w4 l w.heap.size p F g0 D frq ctq)
      case atStart => exact ⟨0, List.replicate N Pl.z, g0, N, by omega, by omega, rfl, hT4, HI0.out, .inl rfl, Same.refl _⟩
      case round =>
        rename Nat => gq
        obtain ⟨wo, hwo⟩ : ∃ wo : World, wo = w4 := ⟨_, rfl⟩
        clear hT4
        obtain ⟨k, P, g, cap, hk, hgk, rfl, hT, hI, hg, hs⟩ := hrel
        have HI := Lib.hid hI
        have hPs := hI.size hF
        have hPlen := hI.len
        rw [← HN.out] at hPs hPlen
        clear hI
        have hz := hs.size
        by_cases hlt : k < l.length
        · have hgat := hgd.at_ k
          obtain ⟨x, hx⟩ : ∃ x, l[k]? = some x := ⟨_, List.getElem?_eq_getElem hlt⟩
          have hln : l.getD k 0 = x := by rw [List.getD_eq_getElem?_getD, hx]; rfl
          obtain ⟨n, hn⟩ : ∃ n, n = ln l k := ⟨_, rfl⟩
          rw [← hn] at hgat
          obtain rfl : x = n := by rw [← hln]; exact hgat.2
          obtain ⟨ad, rfl, q0⟩ := hr4.rd k n hx
          have q0b : (ad.add k).block < g0 := by
            have h1 := World.block_lt_of_cell? w _ (by
              obtain ⟨ad3, e3, q3⟩ := hr.rd k n hx
              injection e3 with e3
              rw [← e3] at q3
              exact q3)
            omega
          have q0 := hs.cell q0 (fun e => by omega)
          have hn15 := hgat.1
          clear hx hln hgat
          have HNn := Lib.hid hn
          by_cases hn0 : n = 0
          · have d1 : decide ((0 : Int) < n) = false := by simp; omega
            have d1' : decide (0 < n) = false := by simp; omega
            have hI2 := Lib.hid (HI.out.skip (by omega))
            clear hn
            go_wp2_with fail
            go_roundg (gq - 1)
            case measure => omega
            case rel => exact ⟨k + 1, P, g, cap, by omega, by omega, by go_num, hT, hI2.out, hg, hs⟩
          · have d1 : decide ((0 : Int) < n) = true := by simp; omega
            have d1' : decide (0 < n) = true := by simp; omega
            obtain ⟨hco, hcol⟩ := hgd.cod (j := k) (by omega)
            have htt := hgd.tc_turn (j := k) (by omega)
            have htl := hgd.tc_lt (i := k) (by omega)
            obtain ⟨ad2, rfl, q2⟩ := hr24.rd k (code l k) (by simp [codes, hlt])
            have q2b : (ad2.add k).block < g0 := by
              obtain ⟨ad3, e3, q3⟩ := hr2.rd k (code l k) (by simp [codes, hlt])
              injection e3 with e3
              subst e3
              rw [← hg0]; exact World.block_lt_of_cell? w1 _ q3
            have q2 := hs.cell q2 (fun e => by omega)
            rw [hco] at q2
            rw [← hn] at hcol htt htl
            have HTU := Lib.hid (fun W => tab_turned (codeN l k) n W hcol hn15)
            rw [← htt] at HTU
            have hrDr : RowOf wr .i64 (some ⟨gd, 0, none⟩) capd (nats D) := hrD.same hs (fun ad e => by injection e with e; subst e; simp only; omega)
            have hgne : gd ≠ g := by omega
            have hgnp : gd ≠ p := by omega
            by_cases hnF : n ≤ F
            · have HL := Lib.hid (tab_lay_short hT hF (by rw [← HN.out]; omega) k n (tc l k) (by omega) hnF htl (some ⟨gd, 0, none⟩) N capd)
              have HIN := Lib.hid (fun P' h1 h2 => HI.out.short (P' := P') hgd (by omega) (by omega) h1 h2)
              rw [← hn] at HIN
              clear hco hcol htt htl hn
              generalize codeN l k = cc at *
              generalize tc l k = tt at *
              go_wp2_with fail
              refine (HTU.out _).mono ?_
              rintro e w5 ⟨rfl, hw⟩
              subst hw
              go_wp2_with fail
              refine HL.out.mono ?_
              rintro e w6 ⟨rfl, P', hPl, hPe, hT6, hs6⟩
              go_wp2_with fail
              go_roundg (gq - 1)
              case measure => omega
              case rel => exact ⟨k + 1, P', g, cap, by omega, by omega, by go_num, by rw [hPl]; exact hT6, HIN.out P' hPl hPe, hg, hs.trans hs6 (fun q hq e => by rcases e with e | e <;> omega)⟩
            · have hF2 : F < n := by omega
              have hpl := HI.out.place hgd (p := tc l k % 2 ^ F) (by omega) rfl
              have hD2k := HD2.out k hlt (by omega)
              rw [← hn] at hD2k
              have hdd := HD1.out (tc l k % 2 ^ F)
              have hpF : tc l k % 2 ^ F < 2 ^ F := Nat.mod_lt _ (Nat.pow_pos (by decide))
              obtain ⟨s, P1, hcase, hI1, hk2, hs1⟩ : ∃ s P1, ((pg P (tc l k % 2 ^ F) = Pl.z ∧ s = P.length ∧ P1 = P.set (tc l k % 2 ^ F) ⟨2, P.length, D.getD (tc l k % 2 ^ F) 0⟩ ++ List.replicate (2 ^ D.getD (tc l k % 2 ^ F) 0) Pl.z) ∨ (pg P (tc l k % 2 ^ F) = ⟨2, s, D.getD (tc l k % 2 ^ F) 0⟩ ∧ s + 2 ^ D.getD (tc l k % 2 ^ F) 0 ≤ P.length ∧ P1 = P)) ∧
                  TInv l F D k (k + 1) P1 ∧ (pg P1 (tc l k % 2 ^ F)).k = 2 ∧ (pg P1 (tc l k % 2 ^ F)).s = s := by
                rcases hpl with hz0 | hk2
                · refine ⟨P.length, _, .inl ⟨hz0, rfl, rfl⟩, HI.out.fresh hF hpF hz0 hdd ⟨by omega, rfl⟩, ?_, ?_⟩
                  · unfold pg
                    rw [List.getD_eq_getElem?_getD, List.getElem?_append_left (by rw [List.length_set]; have := HI.out.len; omega), List.getElem?_set_self (by have := HI.out.len; omega)]
                    rfl
                  · unfold pg
                    rw [List.getD_eq_getElem?_getD, List.getElem?_append_left (by rw [List.length_set]; have := HI.out.len; omega), List.getElem?_set_self (by have := HI.out.len; omega)]
                    rfl
                · obtain ⟨m1, m2, m3⟩ := HI.out.more _ hpF hk2
                  refine ⟨(pg P (tc l k % 2 ^ F)).s, P, .inr ⟨?_, m3, rfl⟩, HI.out.wide, hk2, rfl⟩
                  rw [← m1]
                  generalize pg P (tc l k % 2 ^ F) = x at *
                  obtain ⟨a, b, c⟩ := x
                  simp only at hk2
                  subst hk2
                  rfl
              have HL := Lib.hid (tab_lay_long hT hF1 hF (by rw [← HN.out]; omega) (by omega) (by omega) k n (tc l k) hF2 hn15 htl hrDr HDL.out HN.out (fun ad e => by injection e with e; subst e; exact ⟨hgne, hgnp⟩) s (D.getD (tc l k % 2 ^ F) 0) _ rfl rfl hdd hD2k P1 hcase)
              have HIN := Lib.hid (fun P' h1 h2 => hI1.long (P' := P') hgd (by omega) rfl hk2 hs1 (by rw [← hn]; exact hD2k) h1 h2)
              rw [← hn] at HIN
              clear hco hcol htt htl hn hcase hI1 hk2 hs1 hpl hD2k hdd hpF
              generalize codeN l k = cc at *
              generalize D.getD (tc l k % 2 ^ F) 0 = dd at *
              generalize tc l k = tt at *
              go_wp2_with fail
              refine (HTU.out _).mono ?_
              rintro e w5 ⟨rfl, hw⟩
              subst hw
              go_wp2_with fail
              refine HL.out.mono ?_
              rintro e w6 ⟨rfl, g', cap', P', hPl, hPe, hT6, hs6, hg6⟩
              go_wp2_with fail
              go_roundg (gq - 1)
              case measure => omega
              case rel => exact ⟨k + 1, P', g', cap', by omega, by omega, by go_num, hT6, HIN.out P' hPl hPe, by omega, hs.trans hs6 (fun q hq e => by rcases e with e | e <;> omega)⟩
        · have hkl : k = l.length := by omega
          subst hkl
          go_wp2_with fail
          go_ret2
          exact ⟨p, _, P, frq, ctq, rfl, hT, ⟨hgd, hF1, hF, ⟨D, HI.out, fun q _ => by have := HD1.out q; omega⟩, HFR.out, HCT.out⟩, by omega, hs.below_of hb5 hb5.size (fun q hq e => by omega)⟩
end Go.Proofs.Yteknaaijlkenkaa
