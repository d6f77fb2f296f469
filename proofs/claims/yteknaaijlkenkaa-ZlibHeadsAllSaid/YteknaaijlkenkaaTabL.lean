import Derived.Test.YteknaaijlkenkaaTabD
import Derived.Test.YteknaaijlkenkaaAppM
namespace Go.Proofs.Yteknaaijlkenkaa
set_option linter.unusedVariables false
set_option linter.unusedSimpArgs false
open Go.RowKit
attribute [local go_sem] max2i min2i max2t min2t

theorem flat_set : ∀ {P : List Pl} {q : Nat} (x : Pl), (((flat P).set (q * 3) (.int .i64 x.k)).set (q * 3 + 1) (.int .i64 x.s)).set (q * 3 + 2) (.int .i64 x.n) = flat (P.set q x)
  | [], q, x => by simp [flat]
  | y :: P, 0, x => rfl
  | y :: P, q + 1, x => by
    have e : ∀ z : Pl, ∀ R, flat (z :: R) = .int .i64 z.k :: .int .i64 z.s :: .int .i64 z.n :: flat R := fun _ _ => rfl
    rw [List.set_cons_succ, e, e, ← flat_set (P := P) (q := q) x, show (q + 1) * 3 = q * 3 + 3 from by omega, show q * 3 + 3 + 1 = (q * 3 + 1) + 3 from by omega, show q * 3 + 3 + 2 = (q * 3 + 2) + 3 from by omega]
    simp only [List.set_cons_succ]
theorem TabAt.froz {w : World} {base p F g n cap : Nat} {P : List Pl} {fr ct : Nat → Int} (h : TabAt w base p F (.slice (some ⟨g, 0, none⟩) n cap) P fr ct) (o : Nat) : w.frozen? ⟨g, o, none⟩ = false := by
  have hr := h.row
  have hn : n = P.length := by
    rcases h.row.2 with ⟨e, _⟩ | ⟨g, cap, cur, e, _⟩
    · cases e
    · injection e
  subst hn
  exact World.ownsRow.frozenAt hr o
theorem TabAt.cells {w : World} {base p F g n cap : Nat} {P : List Pl} {fr ct : Nat → Int} (h : TabAt w base p F (.slice (some ⟨g, 0, none⟩) n cap) P fr ct) {q : Nat} (hq : q < P.length) :
    w.cell? ⟨g, q * 3, none⟩ = some (.int .i64 (pg P q).k) ∧ w.cell? ⟨g, q * 3 + 1, none⟩ = some (.int .i64 (pg P q).s) ∧ w.cell? ⟨g, q * 3 + 2, none⟩ = some (.int .i64 (pg P q).n) := by
  obtain ⟨g', cap', e, _, _, _, _, _, hc⟩ := h.form (by omega)
  injection e with e1 e2 e3
  injection e1 with e1
  injection e1 with e1
  subst e1
  exact hc q hq
theorem pow_var {F : Nat} (hF : F ≤ 15) : ∃ N : Nat, N = 2 ^ F ∧ 1 ≤ N ∧ N ≤ 32768 ∧ wrap64 (2 ^ F) = (N : Int) := by
  have hN : 2 ^ F ≤ 32768 := by have := Nat.pow_le_pow_right (n := 2) (by decide) hF; simpa using this
  have h0 : 0 < 2 ^ F := Nat.pow_pos (by decide)
  refine ⟨2 ^ F, rfl, h0, hN, ?_⟩
  have e : (2 : Int) ^ F = ((2 ^ F : Nat) : Int) := by rw [Int.natCast_pow]; rfl
  rw [e, IntWalk.wrap64_in _ (by omega)]
theorem TabAt.stored {w : World} {base p F g n cap : Nat} {P : List Pl} {fr ct : Nat → Int} (h : TabAt w base p F (.slice (some ⟨g, 0, none⟩) n cap) P fr ct) (hgp : g ≠ p) (q : Nat) (x : Pl) :
    TabAt (((w.setCell ⟨g, q * 3, none⟩ (.int .i64 x.k)).setCell ⟨g, q * 3 + 1, none⟩ (.int .i64 x.s)).setCell ⟨g, q * 3 + 2, none⟩ (.int .i64 x.n)) base p F (.slice (some ⟨g, 0, none⟩) n cap) (P.set q x) fr ct := by
  have hr := h.row
  have hn : n = P.length := by
    rcases h.row.2 with ⟨e, _⟩ | ⟨g, cap, cur, e, _⟩
    · cases e
    · injection e
  subst hn
  refine ⟨Blk.far (Blk.far (Blk.far h.pb (p := ⟨g, q * 3, none⟩) (fun e => hgp e.symm) _) (p := ⟨g, q * 3 + 1, none⟩) (fun e => hgp e.symm) _) (p := ⟨g, q * 3 + 2, none⟩) (fun e => hgp e.symm) _, ?_⟩
  rw [← flat_set, List.length_set]
  exact (World.ownsRow.stored (World.ownsRow.stored (World.ownsRow.stored hr (q * 3) _).1 (q * 3 + 1) _).1 (q * 3 + 2) _).1
structure LsRel (w : World) (base p F N M b gr : Nat) (v : Value) (P : List Pl) (fr ct : Nat → Int) (i n t : Nat) (g : Nat) (v8 : Value) (wr : World) : Prop where mk ::
  out_ : ∃ (j : Nat) (P' : List Pl), t ≤ j ∧ j ≤ 65536 ∧ N ≤ g + j ∧ j % M = t ∧ v8 = .int .i64 (j : Int) ∧ P'.length = P.length ∧ (∀ q, q < P.length → pg P' q = if q < N ∧ q < j ∧ q % M = t then ⟨1, i, n⟩ else pg P q) ∧ TabAt wr base p F v P' fr ct ∧
    Blk wr b 134 #[.int .i64 1, .int .i64 i, .int .i64 n] ∧ Same (fun k => k = gr ∨ k = p) w wr
set_option maxHeartbeats 1600000 in
set_option maxRecDepth 100000 in
theorem tab_lay_short {w : World} {base p F g cap : Nat} {P : List Pl} {fr ct : Nat → Int} (h : TabAt w base p F (.slice (some ⟨g, 0, none⟩) P.length cap) P fr ct) (hF : F ≤ 15) (hlen : 2 ^ F ≤ P.length) (i n t : Nat) (h1 : 1 ≤ n) (hn : n ≤ F) (ht : t < 2 ^ n) (A : Option Addr) (L c : Nat) :
    Calls Try.prog 85 #[.pointer (some ⟨p, 0, none⟩), .agg #[.int .i64 1, .int .i64 i, .int .i64 n], .int .u32 t, .slice A L c] w fun e w' => e = .returned (.tuple #[]) ∧ ∃ P', P'.length = P.length ∧ (∀ q, q < P.length → pg P' q = if q < 2 ^ F ∧ q % 2 ^ n = t then ⟨1, i, n⟩ else pg P q) ∧
      TabAt w' base p F (.slice (some ⟨g, 0, none⟩) P.length cap) P' fr ct ∧ Same (fun k => k = g ∨ k = p) w w' := by
  have f0 := TabB.first h.pb
  have hpl : p < w.heap.size := Blk.lt h.pb
  obtain ⟨_, _, ev, hc1, hc2, _, hgl, hgp, _⟩ := h.form (by have : 0 < 2 ^ F := Nat.pow_pos (by decide); omega)
  injection ev with e1 _ e3
  injection e1 with e1
  injection e1 with e1
  subst e1 e3
  have hpn : p ≠ w.heap.size := by omega
  have hgb : w.heap.size ≠ g := by omega
  have hbx := Blk.new w 134 #[.int .i64 1, .int .i64 i, .int .i64 n]
  have h' : TabAt (w.alloc (.cells #[.int .i64 1, .int .i64 i, .int .i64 n] 134)) base p F (.slice (some ⟨g, 0, none⟩) P.length cap) P fr ct := h.same ((Same.refl w).alloc _)
  have hs0 : Same (fun k => k = g ∨ k = p) w (w.alloc (.cells #[.int .i64 1, .int .i64 i, .int .i64 n] 134)) := (Same.refl w).alloc _
  obtain ⟨N, hN, hN1, hN2, hN3⟩ := pow_var (F := F) hF
  obtain ⟨M, hM, hM1, hM2, hM3⟩ := pow_var (F := n) (by omega)
  have hMN : M ≤ N := by rw [hN, hM]; exact Nat.pow_le_pow_right (by decide) hn
  rw [← hM] at ht
  rw [← hN] at hlen
  have HN := Lib.hid hN
  have HM := Lib.hid hM
  have HN3 := Lib.hid hN3
  have HM3 := Lib.hid hM3
  clear hN hM hN3 hM3
  have d1 : decide ((n : Int) ≤ F) = true := by simp; omega
  have d2 : decide (n ≤ F) = true := by simp; omega
  go_enter Try.func85, Try.ntmps85
  go_wp2_with fail
  go_region
  go_wp2_with fail
  have h' := h'.same (Same.refl _).drew
  have hbx := hbx.drew
  have hs0 := hs0.drew
  generalize (w.alloc (.cells #[.int .i64 1, .int .i64 i, .int .i64 n] 134)).drew = w2 at *
  go_loopg [8] N (LsRel w base p F N M w.heap.size g (.slice (some ⟨g, 0, none⟩) P.length cap) P fr ct i n t)
  case atStart => exact ⟨t, P, Nat.le_refl _, by omega, by omega, Nat.mod_eq_of_lt ht, rfl, rfl, fun q hq => by rw [if_neg (fun c => by have := Nat.mod_eq_of_lt (show q < M by omega); omega)], h', hbx, hs0⟩
  case round =>
    clear h' hbx hs0
    obtain ⟨j, P', hj0, hj1, hgj, hjm, rfl, hPl, hP, hT, hB, hs⟩ := hrel
    have HP := Lib.hid hP
    have HPL := Lib.hid hPl
    have HJM := Lib.hid hjm
    clear hP hPl hjm
    have f0 := TabB.first hT.pb
    have f1 := TabB.rows hT.pb
    have b0 := hB.cell 0
    have b1 := hB.cell 1
    have b2 := hB.cell 2
    by_cases hlt : j < N
    · have d1 : decide ((j : Int) < wrap64 (2 ^ F)) = true := by rw [HN3.out]; simp; omega
      have hjl : j < P'.length := by have := HPL.out; omega
      obtain ⟨c0, c1, c2⟩ := hT.cells hjl
      have z0 := hT.froz (j * 3)
      have z1 := hT.froz (j * 3 + 1)
      have z2 := hT.froz (j * 3 + 2)
      have hj2 : (j : Int) < P.length := by omega
      go_wp2_with fail
      go_region
      have hT3 := (hT.stored hgp j ⟨1, i, n⟩).same (Same.refl _).drew
      have hB3 := (((hB.far (p := ⟨g, j * 3, none⟩) hgb (.int .i64 1)).far (p := ⟨g, j * 3 + 1, none⟩) hgb (.int .i64 i)).far (p := ⟨g, j * 3 + 2, none⟩) hgb (.int .i64 n)).drew
      have hs3 := (((hs.set_ (p := ⟨g, j * 3, none⟩) (fun _ => .inl rfl) (.int .i64 1)).set_ (p := ⟨g, j * 3 + 1, none⟩) (fun _ => .inl rfl) (.int .i64 i)).set_ (p := ⟨g, j * 3 + 2, none⟩) (fun _ => .inl rfl) (.int .i64 n)).drew
      clear f0 f1 b0 b1 b2 c0 c1 c2 z0 z1 z2 hT hB hs
      generalize (((wr.setCell ⟨g, j * 3, none⟩ (.int .i64 1)).setCell ⟨g, j * 3 + 1, none⟩ (.int .i64 i)).setCell ⟨g, j * 3 + 2, none⟩ (.int .i64 n)).drew = w3 at *
      have b2 := hB3.cell 2
      go_wp2_with fail
      go_roundg (gk - M)
      case measure => omega
      case rel =>
        refine ⟨j + M, P'.set j ⟨1, i, n⟩, by omega, by omega, by omega, by rw [Nat.add_mod_right]; exact HJM.out, by rw [HM3.out, IntWalk.wrap64_in _ (by omega)]; go_num, by rw [List.length_set]; exact HPL.out, fun q hq => ?_, hT3, hB3, hs3⟩
        have e : pg (P'.set j ⟨1, i, n⟩) q = if q = j then ⟨1, i, n⟩ else pg P' q := getD_set P' j q _ _ hjl
        rw [e, HP.out q hq]
        by_cases e1 : q = j
        · subst e1
          rw [if_pos rfl, if_pos ⟨hlt, by omega, HJM.out⟩]
        · rw [if_neg e1]
          by_cases c : q < N ∧ q % M = t
          · by_cases c2 : q < j
            · rw [if_pos ⟨c.1, c2, c.2⟩, if_pos ⟨c.1, by omega, c.2⟩]
            · rw [if_neg (fun d => c2 d.2.1), if_neg (fun d => ?_)]
              have hjq : j < q := by omega
              have e3 := HJM.out
              have e4 := Nat.div_add_mod q M
              have e5 := Nat.div_add_mod j M
              have e6 := d.2.1
              rw [c.2] at e4
              rw [e3] at e5
              have h7 : M * (q / M) < M * (j / M + 1) := by rw [Nat.mul_add]; omega
              have h8 : M * (j / M) < M * (q / M) := by omega
              have h9 := Nat.lt_of_mul_lt_mul_left h7
              have h10 := Nat.lt_of_mul_lt_mul_left h8
              omega
          · rw [if_neg (fun d => c ⟨d.1, d.2.2⟩), if_neg (fun d => c ⟨d.1, d.2.2⟩)]
    · have d1 : decide ((j : Int) < wrap64 (2 ^ F)) = false := by rw [HN3.out]; simp; omega
      go_wp2_with fail
      ((try simp only [Exit.inBlock, Exit.then]); first | refine bodyPost_end (results_none rfl _ _ _) rfl ?_ | refine bodyPost_ret (results_none rfl _ _ _) rfl ?_)
      refine ⟨rfl, P', HPL.out, fun q hq => ?_, hT, hs⟩
      rw [HP.out q hq, ← HN.out, ← HM.out]
      by_cases c : q < N ∧ q % M = t
      · rw [if_pos ⟨c.1, by omega, c.2⟩, if_pos c]
      · rw [if_neg (fun d => c ⟨d.1, d.2.2⟩), if_neg c]
end Go.Proofs.Yteknaaijlkenkaa
