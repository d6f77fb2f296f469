import Derived.Test.YteknaaijlkenkaaTabL
namespace Go.Proofs.Yteknaaijlkenkaa
set_option linter.unusedVariables false
set_option linter.unusedSimpArgs false
open Go.RowKit
attribute [local go_sem] max2i min2i max2t min2t

theorem RowOf.addr_ {w : World} {k : IntKind} {A : Option Addr} {c : Nat} {xs : List Int} (h : RowOf w k A c xs) (hx : xs ≠ []) : ∃ b o, A = some ⟨b, o, none⟩ := by
  have h0 : 0 < xs.length := List.length_pos_iff.2 hx
  obtain ⟨ad, e, hc⟩ := h.rd 0 _ (List.getElem?_eq_getElem h0)
  have hs := (cell_plain hc).2 rfl
  exact ⟨ad.block, ad.off, by rw [e]; cases ad; simp at hs; subst hs; rfl⟩
theorem zero_news : ∀ m : Nat, (Builtin.zeroCells (Value.agg #[.int .i64 0, .int .i64 0, .int .i64 0]).cells m).toList = flat (List.replicate m Pl.z) := fun m => by
  have hc : (Value.agg #[.int .i64 0, .int .i64 0, .int .i64 0]).cells = #[.int .i64 0, .int .i64 0, .int .i64 0] := rfl
  rw [hc]
  apply List.ext_getElem?
  intro i
  have hr : ∀ (m i : Nat), i < m * 3 → (flat (List.replicate m Pl.z))[i]? = some (.int .i64 0) := fun m => by
    induction m with
    | zero => intro i h; omega
    | succ m ih =>
      intro i h
      have e : flat (List.replicate (m + 1) Pl.z) = .int .i64 0 :: .int .i64 0 :: .int .i64 0 :: flat (List.replicate m Pl.z) := rfl
      rw [e]
      match i, h with
      | 0, _ => rfl
      | 1, _ => rfl
      | 2, _ => rfl
      | i + 3, h => exact ih i (by omega)
  by_cases hi : i < m * 3
  · rw [hr m i hi]
    have h3 : i % 3 = 0 ∨ i % 3 = 1 ∨ i % 3 = 2 := by omega
    rcases h3 with h3 | h3 | h3 <;> simp [Builtin.zeroCells, hi, h3]
  · rw [List.getElem?_eq_none (by simp [Builtin.zeroCells]; omega), List.getElem?_eq_none (by rw [flat_length, List.length_replicate]; omega)]
theorem flat_append (P Q : List Pl) : flat (P ++ Q) = flat P ++ flat Q := List.flatMap_append
theorem flat_one (P : List Pl) : ∀ u ∈ flat P, u.oneCell' = true := fun u hu => by
  obtain ⟨x, _, hx⟩ := List.mem_flatMap.1 hu
  simp only [List.mem_cons, List.not_mem_nil, or_false] at hx
  rcases hx with rfl | rfl | rfl <;> rfl
theorem Try.placeinfo : (Try.prog.info? 134).map (fun i => (i.zero, i.size, i.bytes)) = some (some (.agg #[.int .i64 0, .int .i64 0, .int .i64 0]), 3, 24) := by kernel_rfl
theorem shl_var {d : Nat} (hd : d ≤ 15) : IntKind.i64.wrap (2 ^ min (IntKind.u64.wrap (d : Int)).toNat 64) = ((2 ^ d : Nat) : Int) := by
  have h : ∀ d : Fin 16, IntKind.i64.wrap (2 ^ min (IntKind.u64.wrap (d.val : Int)).toNat 64) = ((2 ^ d.val : Nat) : Int) := by decide +kernel
  exact h ⟨d, by omega⟩
structure LlRel (w : World) (base p F b s E M : Nat) (v : Value) (S : Nat → Prop) (P : List Pl) (fr ct : Nat → Int) (i n t u d : Nat) (g : Nat) (v11 : Value) (wr : World) : Prop where mk ::
  out_ : ∃ (j : Nat) (P' : List Pl), t ≤ j ∧ j ≤ 65536 ∧ E ≤ g + j ∧ j % M = t ∧ v11 = .int .i64 (j : Int) ∧ P'.length = P.length ∧ (∀ q, q < P.length → pg P' q = if s ≤ q ∧ q < s + E ∧ q < s + j ∧ (q - s) % M = t then ⟨1, i, n⟩ else pg P q) ∧ TabAt wr base p F v P' fr ct ∧
    Blk wr b 134 #[.int .i64 1, .int .i64 i, .int .i64 n] ∧ Blk wr u 134 #[.int .i64 2, .int .i64 s, .int .i64 d] ∧ Same S w wr
structure LcMid (w : World) (base p F b g : Nat) (i n : Nat) (P : List Pl) (fr ct : Nat → Int) (wx : World) : Prop where mk ::
  out_ : ∃ g3 cap3, TabAt wx base p F (.slice (some ⟨g3, 0, none⟩) P.length cap3) P fr ct ∧ Blk wx b 134 #[.int .i64 1, .int .i64 i, .int .i64 n] ∧ Same (fun k => k = g ∨ k = p) w wx ∧ b ≠ g3 ∧ (g3 = g ∨ w.heap.size ≤ g3)
set_option maxHeartbeats 1600000 in
set_option maxRecDepth 100000 in
theorem tab_lay_long {w : World} {base p F g cap : Nat} {P : List Pl} {fr ct : Nat → Int} {D : List Nat} {A : Option Addr} {c N : Nat} (h : TabAt w base p F (.slice (some ⟨g, 0, none⟩) P.length cap) P fr ct) (hF1 : 1 ≤ F) (hF : F ≤ 15) (hlen : 2 ^ F ≤ P.length) (hPb : P.length ≤ 100000) (hbase : base ≤ w.heap.size) (i n t : Nat) (hn : F < n) (hn15 : n ≤ 15) (ht : t < 2 ^ n)
    (hr : RowOf w .i64 A c (nats D)) (hDl : D.length = N) (hNF : N = 2 ^ F) (hAp : ∀ ad, A = some ad → ad.block ≠ g ∧ ad.block ≠ p) (s d p1 : Nat) (hp1 : t % 2 ^ F = p1) (hd : D.getD p1 0 = d) (hd15 : d ≤ 15 - F) (hnd : n - F ≤ d) (P1 : List Pl)
    (hcase : (pg P p1 = Pl.z ∧ s = P.length ∧ P1 = P.set p1 ⟨2, P.length, d⟩ ++ List.replicate (2 ^ d) Pl.z) ∨ (pg P p1 = ⟨2, s, d⟩ ∧ s + 2 ^ d ≤ P.length ∧ P1 = P)) :
    Calls Try.prog 85 #[.pointer (some ⟨p, 0, none⟩), .agg #[.int .i64 1, .int .i64 i, .int .i64 n], .int .u32 t, .slice A N c] w fun e w' => e = .returned (.tuple #[]) ∧ ∃ g' cap' P', P'.length = P1.length ∧ (∀ q, q < P1.length → pg P' q = if s ≤ q ∧ q < s + 2 ^ d ∧ (q - s) % 2 ^ (n - F) = t / 2 ^ F then ⟨1, i, n⟩ else pg P1 q) ∧
      TabAt w' base p F (.slice (some ⟨g', 0, none⟩) P'.length cap') P' fr ct ∧ Same (fun k => k = g ∨ k = p) w w' ∧ (g' = g ∨ w.heap.size ≤ g') := by
  have hd15 : d ≤ 15 := by omega
  have f0 := TabB.first h.pb
  have f1 := TabB.rows h.pb
  have hpl : p < w.heap.size := Blk.lt h.pb
  have hm1 := mask_u32 t F (by omega)
  rw [hp1] at hm1
  have hp1N : p1 < N := by rw [hNF, ← hp1]; exact Nat.mod_lt _ (Nat.pow_pos (by decide))
  rw [← hNF] at hlen
  have hp1P : p1 < P.length := by omega
  have HNF := Lib.hid hNF
  have HP1 := Lib.hid hp1
  have HDL := Lib.hid hDl
  clear hp1 hNF hDl
  obtain ⟨_, _, ev, hc1, hc2, _, hgl, hgp, _⟩ := h.form (by omega)
  injection ev with e1 _ e3
  injection e1 with e1
  injection e1 with e1
  subst e1 e3
  have hpn : p ≠ w.heap.size := by omega
  have hgn : g ≠ w.heap.size := by omega
  have hgb : w.heap.size ≠ g := by omega
  have ht15 : t < 32768 := Nat.lt_of_lt_of_le ht (by have := Nat.pow_le_pow_right (n := 2) (by decide) hn15; simpa using this)
  have hbx := Blk.new w 134 #[.int .i64 1, .int .i64 i, .int .i64 n]
  have h' : TabAt (w.alloc (.cells #[.int .i64 1, .int .i64 i, .int .i64 n] 134)) base p F (.slice (some ⟨g, 0, none⟩) P.length cap) P fr ct := h.same ((Same.refl w).alloc _)
  have hs0 : Same (fun k => k = g ∨ k = p) w (w.alloc (.cells #[.int .i64 1, .int .i64 i, .int .i64 n] 134)) := (Same.refl w).alloc _
  have hr' := hr.belo ((Below.refl w.heap.size w).alloc (Nat.le_refl _) (.cells #[.int .i64 1, .int .i64 i, .int .i64 n] 134))
  have d1 : decide ((n : Int) ≤ F) = false := by simp; omega
  have d2 : decide (n ≤ F) = false := by simp; omega
  obtain ⟨c0, c1, c2⟩ := h.cells hp1P
  obtain ⟨ab, ao, rfl⟩ := hr.addr_ (fun e => by have := congrArg List.length e; rw [nats_length, HDL.out] at this; simp at this; omega)
  obtain ⟨ad, ead, qd⟩ := hr.rd p1 (d : Int) (by rw [nats_at, List.getElem?_eq_getElem (by rw [HDL.out]; exact hp1N), ← hd, List.getD_eq_getElem?_getD, List.getElem?_eq_getElem (by rw [HDL.out]; exact hp1N)]; rfl)
  injection ead with ead
  subst ead
  rw [Addr.add_lit] at qd
  have hqb := World.block_lt_of_cell? w _ qd
  have hag := hAp _ rfl
  simp only at hag hqb
  obtain ⟨hag1, hag2⟩ := hag
  rcases hcase with ⟨hx, hs, hP1⟩ | ⟨hx, hsd, hP1⟩
  · have hx : pg P p1 = ⟨0, 0, 0⟩ := hx
    rw [hx] at c0 c1 c2
    have hPL : (P.set p1 ⟨2, P.length, d⟩).length = P.length := List.length_set
    have hp2 := Nat.pow_le_pow_right (n := 2) (by decide) hd15
    have hp20 : 0 < 2 ^ d := Nat.pow_pos (by decide)
    have h215 : 2 ^ 15 = 32768 := by decide
    obtain ⟨E0, hE0, hE01, hE02, hE03⟩ := pow_var (F := d) hd15
    rw [← hE0] at hP1 hp2 hp20
    have hshl := shl_var hd15
    rw [← hE0] at hshl
    have HSHL := Lib.hid hshl
    clear hshl
    have HE0 := Lib.hid hE0
    have HE03 := Lib.hid hE03
    have HP1e := Lib.hid hP1
    have HS := Lib.hid hs
    clear hE0 hE03 hP1 hs
    go_enter Try.func85, Try.ntmps85
    go_wp2_with fail
    go_region
    obtain ⟨w1, hw1⟩ : ∃ w1, (w.alloc (.cells #[.int .i64 1, .int .i64 i, .int .i64 n] 134)).drew = w1 := ⟨_, rfl⟩
    have hT1 := h'.same (Same.refl _).drew
    have hB1 := hbx.drew
    have hs1 := hs0.drew
    have g0 := hT1.cells hp1P
    rw [hx] at g0
    obtain ⟨g00, g01, g02⟩ := g0
    simp only at g00 g01 g02
    have hB0 := ((Below.refl w.heap.size w).alloc (Nat.le_refl _) (.cells #[.int .i64 1, .int .i64 i, .int .i64 n] 134)).drew
    rw [hw1] at hT1 hB1 hs1 g00 g01 g02 hB0 ⊢
    have qd1 := (hB0.cell (p := ⟨ab, ao + p1, none⟩) hqb).trans qd
    clear hw1 h' hbx hs0 f0 f1 c0 c1 c2 hB0 qd
    have f0 := TabB.first hT1.pb
    have f1 := TabB.rows hT1.pb
    have z0 := hT1.froz (p1 * 3)
    have z1 := hT1.froz (p1 * 3 + 1)
    have z2 := hT1.froz (p1 * 3 + 2)
    go_wp2_with fail
    go_region
    have hT2 := (hT1.stored hgp p1 ⟨2, P.length, d⟩).same (Same.refl _).drew
    have hB2 := (((hB1.far (p := ⟨g, p1 * 3, none⟩) hgb (.int .i64 2)).far (p := ⟨g, p1 * 3 + 1, none⟩) hgb (.int .i64 P.length)).far (p := ⟨g, p1 * 3 + 2, none⟩) hgb (.int .i64 d)).drew
    have hs12 := ((((Same.refl (S := fun k => k = g) w1).set_ (p := ⟨g, p1 * 3, none⟩) (fun _ => rfl) (.int .i64 2)).set_ (p := ⟨g, p1 * 3 + 1, none⟩) (fun _ => rfl) (.int .i64 P.length)).set_ (p := ⟨g, p1 * 3 + 2, none⟩) (fun _ => rfl) (.int .i64 d)).drew
    have qd2 := hs12.cell qd1 hag1
    have hs2 := hs1.trans hs12 (fun _ _ e => .inl e)
    have hz12 := hs12.size
    clear f0 f1 g00 g01 g02 z0 z1 z2 hT1 hB1 hs1 hs12 qd1
    generalize (((w1.setCell ⟨g, p1 * 3, none⟩ (.int .i64 2)).setCell ⟨g, p1 * 3 + 1, none⟩ (.int .i64 P.length)).setCell ⟨g, p1 * 3 + 2, none⟩ (.int .i64 d)).drew = w2 at *
    have f0 := TabB.first hT2.pb
    have f1 := TabB.rows hT2.pb
    have hpl2 : p < w2.heap.size := Blk.lt hT2.pb
    have hbl2 : w.heap.size < w2.heap.size := hB2.lt
    have hb1 : P.length + E0 ≤ 140737488355328 := by omega
    have hb2 : (P.length + E0) * 24 ≤ 140737488355328 := by omega
    have hb3 : base ≤ w2.heap.size := by omega
    have hrow := hT2.row
    rw [hPL] at hrow
    go_upto_region 9 with fail
    go_cut [] (fun wx => LcMid w base p F w.heap.size g i n P1 fr ct wx)
    case first =>
      go_region_law (refine step_append_make _ rfl (.tmp 80) (.tmp 86) 127 3 rfl base 134 .i64 (.agg #[.int .i64 0, .int .i64 0, .int .i64 0]) 3 24 Try.underlying127 Try.underlying3 Try.placeinfo rfl (by omega) g cap P.length (flat (P.set p1 ⟨2, P.length, d⟩)) rfl hrow (IntKind.i64.wrap (2 ^ min (IntKind.u64.wrap (d : Int)).toNat 64)) E0 HSHL.out rfl hp20 (flat (List.replicate E0 Pl.z)) (zero_news E0) (flat_one _) hb1 hb2 hb3 ?_; intro g3 cap3 w3 ho3 hs3 hg3; have hs3 := hs3.drew_left; have pb3 := Blk.same hT2.pb hs3 (fun e => hgp e.symm); have p3 := TabB.rows (v := .slice (some ⟨g, 0, none⟩) P.length cap) pb3; have pf3 := Blk.frozen pb3 1)
      all_goals
        go_wp2_with fail
        go_meet
        have hg3p : g3 ≠ p := by
          rcases hg3 with e | e
          · rw [e]; exact hgp
          · rw [e]; show w2.heap.size ≠ p; omega
        have hg3b : w.heap.size ≠ g3 := by
          rcases hg3 with e | e
          · rw [e]; exact hgb
          · rw [e]; show w.heap.size ≠ w2.heap.size; omega
        have hl : P1.length = P.length + E0 := by rw [HP1e.out, List.length_append, hPL, List.length_replicate]
        refine ⟨g3, cap3, ⟨?_, ?_⟩, ?_, ?_, hg3b, ?_⟩
        · have := Blk.set_ pb3 1 (.slice (some ⟨g3, 0, none⟩) (P.length + E0) cap3)
          rw [tab_set] at this
          rw [hl]
          show Blk _ _ _ _
          rw [tab_congr (n := 34) (g := fun j => if j = 1 then (.slice (some ⟨g3, 0, none⟩) (P.length + E0) cap3) else tblF F (.slice (some ⟨g, 0, none⟩) P.length cap) fr ct j)]
          · exact this
          · intro q _
            unfold tblF
            by_cases e1 : q = 1
            · subst e1; rfl
            · simp only [if_neg e1]
        · rw [hl, HP1e.out, flat_append]
          exact ownsRow_kept ho3 ((Same.refl (S := fun k => k = p) w3).set_ (p := ⟨p, 1, none⟩) (fun _ => rfl) _) (fun q hq e => by
            have : q = g3 := by simpa [Value.ownBlock] using hq.symm
            omega)
        · exact (Blk.same hB2 hs3 hgb).far (p := ⟨p, 1, none⟩) (fun e => by simp only at e; omega) _
        · exact (hs2.trans hs3 (fun _ _ e => .inl e)).set_ (p := ⟨p, 1, none⟩) (fun _ => .inr rfl) _
        · rcases hg3 with e | e
          · exact .inl e
          · right; rw [e]; show w.heap.size ≤ w2.heap.size; omega
    case rest =>
      obtain ⟨g1, cap1, hT1, hB1, hs1, hgb1', hg1⟩ := hcut
      have hl : P1.length = P.length + E0 := by rw [HP1e.out, List.length_append, hPL, List.length_replicate]
      have hx1 : pg P1 p1 = ⟨2, s, d⟩ := by
        rw [HP1e.out, HS.out]
        unfold pg
        rw [List.getD_eq_getElem?_getD, List.getElem?_append_left (by rw [hPL]; exact hp1P), List.getElem?_set_self hp1P]
        rfl
      have hp1l : p1 < P1.length := by omega
      have hsd : s + 2 ^ d ≤ P1.length := by rw [hl, HS.out, HE0.out]; exact Nat.le_refl _
      have hP1b : P1.length ≤ 200000 := by omega
      obtain ⟨w1, hw1⟩ : ∃ w1 : World, w1 = wc := ⟨_, rfl⟩
      subst hw1
      clear hl hx f0 f1 hpl2 hbl2 hrow hB2 hT2 hs2 qd2 hb1 hb2 hb3
      obtain ⟨E, hE, hE1, hE2, hE3⟩ := pow_var (F := d) hd15
      obtain ⟨M, hM, hM1, hM2, hM3⟩ := pow_var (F := n - F) (by omega)
      have hME : M ≤ E := by rw [hE, hM]; exact Nat.pow_le_pow_right (by decide) hnd
      have htM : t / 2 ^ F < M := by
        rw [hM, Nat.div_lt_iff_lt_mul (Nat.pow_pos (by decide)), ← Nat.pow_add, show n - F + F = n from by omega]; exact ht
      rw [← hE] at hsd
      have HE := Lib.hid hE
      have HM := Lib.hid hM
      have HE3 := Lib.hid hE3
      have HM3 := Lib.hid hM3
      clear hE hM hE3 hM3
      obtain ⟨tq, htq⟩ : ∃ tq, t / 2 ^ F = tq := ⟨_, rfl⟩
      rw [htq] at htM
      have htq2 : (t : Int) / 2 ^ F = (tq : Int) := by rw [← htq, Int.natCast_ediv, Int.natCast_pow]; rfl
      have HTQ := Lib.hid htq
      clear htq
      have htM2 : tq < 32768 := by omega
      have u0 := hT1.cells (q := p1) hp1l
      rw [hx1] at u0
      obtain ⟨u00, u01, u02⟩ := u0
      simp only at u00 u01 u02
      have f0 := TabB.first hT1.pb
      have f1 := TabB.rows hT1.pb
      have hpl1 : p < w1.heap.size := Blk.lt hT1.pb
      have hbl1 : w.heap.size < w1.heap.size := hB1.lt
      obtain ⟨_, _, ev, hc1', hc2', _, hgl1, hgp1, _⟩ := hT1.form (by omega)
      injection ev with e1 _ e3
      injection e1 with e1
      injection e1 with e1
      rw [← e1] at hgl1 hgp1
      rw [← e3] at hc1' hc2'
      clear e1 e3
      have hx2 := Blk.new w1 134 #[.int .i64 2, .int .i64 s, .int .i64 d]
      have hT2 : TabAt (w1.alloc (.cells #[.int .i64 2, .int .i64 s, .int .i64 d] 134)) base p F (.slice (some ⟨g1, 0, none⟩) P1.length cap1) P1 fr ct := hT1.same ((Same.refl w1).alloc _)
      have hB2 := hB1.alloc (.cells #[.int .i64 2, .int .i64 s, .int .i64 d] 134)
      have hs2 := hs1.alloc (.cells #[.int .i64 2, .int .i64 s, .int .i64 d] 134)
      have hpn1 : p ≠ w1.heap.size := by omega
      have hgn1 : g1 ≠ w1.heap.size := by omega
      have hun : w1.heap.size ≠ g1 := by omega
      have hgb1 : w.heap.size ≠ g1 := hgb1'
      go_wp2_with fail
      generalize hw2 : w1.alloc (.cells #[.int .i64 2, .int .i64 s, .int .i64 d] 134) = w2 at *
      have HW2 := Lib.hid hw2
      clear hw2 hs1 hB1 hT1
      go_loopg [11] E (LlRel w base p F w.heap.size s E M (.slice (some ⟨g1, 0, none⟩) P1.length cap1) (fun k => k = g ∨ k = p) P1 fr ct i n tq w1.heap.size d)
      case atStart => exact ⟨tq, P1, Nat.le_refl _, by omega, by omega, Nat.mod_eq_of_lt htM, rfl, rfl, fun q hq => by rw [if_neg (fun c => by have := Nat.mod_eq_of_lt (show q - s < M by omega); omega)], hT2, hB2, hx2, hs2⟩
      case round =>
        clear hT2 hB2 hx2 hs2
        obtain ⟨j, P', hj0, hj1, hgj, hjm, rfl, hPl, hP, hT, hB, hX, hs'⟩ := hrel
        have HP := Lib.hid hP
        have HPL := Lib.hid hPl
        have HJM := Lib.hid hjm
        clear hP hPl hjm
        have f0 := TabB.first hT.pb
        have f1 := TabB.rows hT.pb
        have b0 := hB.cell 0
        have b1 := hB.cell 1
        have b2 := hB.cell 2
        have x1 := hX.cell 1
        have x2 := hX.cell 2
        by_cases hlt : j < E
        · have d3 : decide ((j : Int) < wrap64 (2 ^ d)) = true := by rw [HE3.out]; simp; omega
          have hjl : s + j < P'.length := by have := HPL.out; omega
          obtain ⟨c0, c1, c2⟩ := hT.cells hjl
          have z0 := hT.froz ((s + j) * 3)
          have z1 := hT.froz ((s + j) * 3 + 1)
          have z2 := hT.froz ((s + j) * 3 + 2)
          have hj2 : (s : Int) + j < (P1.length : Nat) := by omega
          have hj3 : (0 : Int) ≤ (s : Int) + j := by omega
          have hj4 : ((s : Int) + j).toNat = s + j := by omega
          have hj5 : IntKind.i64.wrap ((s : Int) + j) = (s : Int) + j := IntWalk.i64_in _ (by omega)
          go_wp2_with fail
          go_region
          have hT3 := (hT.stored hgp1 (s + j) ⟨1, i, n⟩).same (Same.refl _).drew
          have hB3 := (((hB.far (p := ⟨g1, (s + j) * 3, none⟩) hgb1 (.int .i64 1)).far (p := ⟨g1, (s + j) * 3 + 1, none⟩) hgb1 (.int .i64 i)).far (p := ⟨g1, (s + j) * 3 + 2, none⟩) hgb1 (.int .i64 n)).drew
          have hX3 := (((hX.far (p := ⟨g1, (s + j) * 3, none⟩) hun (.int .i64 1)).far (p := ⟨g1, (s + j) * 3 + 1, none⟩) hun (.int .i64 i)).far (p := ⟨g1, (s + j) * 3 + 2, none⟩) hun (.int .i64 n)).drew
          have hs3 := (((hs'.set_ (p := ⟨g1, (s + j) * 3, none⟩) (fun h => by rcases hg1 with e | e; exact .inl e; exact absurd h (by simp only; omega)) (.int .i64 1)).set_ (p := ⟨g1, (s + j) * 3 + 1, none⟩) (fun h => by rcases hg1 with e | e; exact .inl e; exact absurd h (by simp only; omega)) (.int .i64 i)).set_ (p := ⟨g1, (s + j) * 3 + 2, none⟩) (fun h => by rcases hg1 with e | e; exact .inl e; exact absurd h (by simp only; omega)) (.int .i64 n)).drew
          clear f0 f1 b0 b1 b2 x1 x2 c0 c1 c2 z0 z1 z2 hT hB hX hs' hj2 hj3 hj4 hj5
          generalize (((wr.setCell ⟨g1, (s + j) * 3, none⟩ (.int .i64 1)).setCell ⟨g1, (s + j) * 3 + 1, none⟩ (.int .i64 i)).setCell ⟨g1, (s + j) * 3 + 2, none⟩ (.int .i64 n)).drew = w3 at *
          have f0 := TabB.first hT3.pb
          have b2 := hB3.cell 2
          have n1 : IntKind.i64.wrap ((n : Int) - F) = (n : Int) - F := IntWalk.i64_in _ (by omega)
          have n2 : (0 : Int) ≤ (n : Int) - F := by omega
          have n3 : ((n : Int) - F).toNat = n - F := by omega
          go_wp2_with fail
          go_region
          go_wp2_with fail
          go_roundg (gk - M)
          case measure => omega
          case rel =>
            refine ⟨j + M, P'.set (s + j) ⟨1, i, n⟩, by omega, by omega, by omega, by rw [Nat.add_mod_right]; exact HJM.out, by rw [HM3.out, IntWalk.wrap64_in _ (by omega)]; go_num, by rw [List.length_set]; exact HPL.out, fun q hq => ?_, hT3.same (Same.refl _).drew, hB3.drew, hX3.drew, hs3.drew⟩
            have e : pg (P'.set (s + j) ⟨1, i, n⟩) q = if q = s + j then ⟨1, i, n⟩ else pg P' q := getD_set P' (s + j) q _ _ hjl
            rw [e, HP.out q hq]
            by_cases e1 : q = s + j
            · subst e1
              rw [if_pos rfl, if_pos ⟨by omega, by omega, by omega, by rw [Nat.add_sub_cancel_left]; exact HJM.out⟩]
            · rw [if_neg e1]
              by_cases c : s ≤ q ∧ q < s + E ∧ (q - s) % M = tq
              · by_cases c2 : q < s + j
                · rw [if_pos ⟨c.1, c.2.1, c2, c.2.2⟩, if_pos ⟨c.1, c.2.1, by omega, c.2.2⟩]
                · rw [if_neg (fun d => c2 d.2.2.1), if_neg (fun d => ?_)]
                  have hjq : j < q - s := by omega
                  have e3 := HJM.out
                  have e4 := Nat.div_add_mod (q - s) M
                  have e5 := Nat.div_add_mod j M
                  have e6 := d.2.2.1
                  rw [c.2.2] at e4
                  rw [e3] at e5
                  have h7 : M * ((q - s) / M) < M * (j / M + 1) := by rw [Nat.mul_add]; omega
                  have h8 : M * (j / M) < M * ((q - s) / M) := by omega
                  have h9 := Nat.lt_of_mul_lt_mul_left h7
                  have h10 := Nat.lt_of_mul_lt_mul_left h8
                  omega
              · rw [if_neg (fun d => c ⟨d.1, d.2.1, d.2.2.2⟩), if_neg (fun d => c ⟨d.1, d.2.1, d.2.2.2⟩)]
        · have d3 : decide ((j : Int) < wrap64 (2 ^ d)) = false := by rw [HE3.out]; simp; omega
          go_wp2_with fail
          ((try simp only [Exit.inBlock, Exit.then]); first | refine bodyPost_end (results_none rfl _ _ _) rfl ?_ | refine bodyPost_ret (results_none rfl _ _ _) rfl ?_)
          refine ⟨rfl, g1, cap1, P', HPL.out, fun q hq => ?_, by rw [HPL.out]; exact hT, hs', hg1⟩
          rw [HP.out q hq, ← HE.out, ← HM.out, HTQ.out]
          by_cases c : s ≤ q ∧ q < s + E ∧ (q - s) % M = tq
          · rw [if_pos ⟨c.1, c.2.1, by omega, c.2.2⟩, if_pos c]
          · rw [if_neg (fun d => c ⟨d.1, d.2.1, d.2.2.2⟩), if_neg c]
  · rw [hx] at c0 c1 c2
    subst hP1
    have e20 : ((2 : Int) == 0) = false := by decide
    go_enter Try.func85, Try.ntmps85
    go_wp2_with fail
    go_region
    obtain ⟨w1, hw1⟩ : ∃ w1, (w.alloc (.cells #[.int .i64 1, .int .i64 i, .int .i64 n] 134)).drew = w1 := ⟨_, rfl⟩
    have hT1 := h'.same (Same.refl _).drew
    have hB1 := hbx.drew
    have hs1 := hs0.drew
    have g0 := hT1.cells hp1P
    rw [hx] at g0
    obtain ⟨g00, g01, g02⟩ := g0
    simp only at g00 g01 g02
    rw [hw1] at hT1 hB1 hs1 g00 g01 g02 ⊢
    clear hw1 h' hbx hs0 f0 f1 c0 c1 c2
    have hx1 := hx
    have hp1l := hp1P
    obtain ⟨E, hE, hE1, hE2, hE3⟩ := pow_var (F := d) hd15
    obtain ⟨M, hM, hM1, hM2, hM3⟩ := pow_var (F := n - F) (by omega)
    have hME : M ≤ E := by rw [hE, hM]; exact Nat.pow_le_pow_right (by decide) hnd
    have htM : t / 2 ^ F < M := by
      rw [hM, Nat.div_lt_iff_lt_mul (Nat.pow_pos (by decide)), ← Nat.pow_add, show n - F + F = n from by omega]; exact ht
    rw [← hE] at hsd
    have HE := Lib.hid hE
    have HM := Lib.hid hM
    have HE3 := Lib.hid hE3
    have HM3 := Lib.hid hM3
    clear hE hM hE3 hM3
    obtain ⟨tq, htq⟩ : ∃ tq, t / 2 ^ F = tq := ⟨_, rfl⟩
    rw [htq] at htM
    have htq2 : (t : Int) / 2 ^ F = (tq : Int) := by rw [← htq, Int.natCast_ediv, Int.natCast_pow]; rfl
    have HTQ := Lib.hid htq
    clear htq
    have htM2 : tq < 32768 := by omega
    have u0 := hT1.cells (q := p1) hp1l
    rw [hx1] at u0
    obtain ⟨u00, u01, u02⟩ := u0
    simp only at u00 u01 u02
    have f0 := TabB.first hT1.pb
    have f1 := TabB.rows hT1.pb
    have hpl1 : p < w1.heap.size := Blk.lt hT1.pb
    have hbl1 : w.heap.size < w1.heap.size := hB1.lt
    obtain ⟨_, _, ev, hc1', hc2', _, hgl1, hgp1, _⟩ := hT1.form (by omega)
    injection ev with e1 _ e3
    injection e1 with e1
    injection e1 with e1
    rw [← e1] at hgl1 hgp1
    rw [← e3] at hc1' hc2'
    clear e1 e3
    have hx2 := Blk.new w1 134 #[.int .i64 2, .int .i64 s, .int .i64 d]
    have hT2 : TabAt (w1.alloc (.cells #[.int .i64 2, .int .i64 s, .int .i64 d] 134)) base p F (.slice (some ⟨g, 0, none⟩) P1.length cap) P1 fr ct := hT1.same ((Same.refl w1).alloc _)
    have hB2 := hB1.alloc (.cells #[.int .i64 2, .int .i64 s, .int .i64 d] 134)
    have hs2 := hs1.alloc (.cells #[.int .i64 2, .int .i64 s, .int .i64 d] 134)
    have hpn1 : p ≠ w1.heap.size := by omega
    have hgn1 : g ≠ w1.heap.size := by omega
    have hun : w1.heap.size ≠ g := by omega
    have hgb1 : w.heap.size ≠ g := hgb
    go_wp2_with fail
    generalize hw2 : w1.alloc (.cells #[.int .i64 2, .int .i64 s, .int .i64 d] 134) = w2 at *
    have HW2 := Lib.hid hw2
    clear hw2 hs1 hB1 hT1
    go_loopg [11] E (LlRel w base p F w.heap.size s E M (.slice (some ⟨g, 0, none⟩) P1.length cap) (fun k => k = g ∨ k = p) P1 fr ct i n tq w1.heap.size d)
    case atStart => exact ⟨tq, P1, Nat.le_refl _, by omega, by omega, Nat.mod_eq_of_lt htM, rfl, rfl, fun q hq => by rw [if_neg (fun c => by have := Nat.mod_eq_of_lt (show q - s < M by omega); omega)], hT2, hB2, hx2, hs2⟩
    case round =>
      clear hT2 hB2 hx2 hs2
      obtain ⟨j, P', hj0, hj1, hgj, hjm, rfl, hPl, hP, hT, hB, hX, hs'⟩ := hrel
      have HP := Lib.hid hP
      have HPL := Lib.hid hPl
      have HJM := Lib.hid hjm
      clear hP hPl hjm
      have f0 := TabB.first hT.pb
      have f1 := TabB.rows hT.pb
      have b0 := hB.cell 0
      have b1 := hB.cell 1
      have b2 := hB.cell 2
      have x1 := hX.cell 1
      have x2 := hX.cell 2
      by_cases hlt : j < E
      · have d3 : decide ((j : Int) < wrap64 (2 ^ d)) = true := by rw [HE3.out]; simp; omega
        have hjl : s + j < P'.length := by have := HPL.out; omega
        obtain ⟨c0, c1, c2⟩ := hT.cells hjl
        have z0 := hT.froz ((s + j) * 3)
        have z1 := hT.froz ((s + j) * 3 + 1)
        have z2 := hT.froz ((s + j) * 3 + 2)
        have hj2 : (s : Int) + j < (P1.length : Nat) := by omega
        have hj3 : (0 : Int) ≤ (s : Int) + j := by omega
        have hj4 : ((s : Int) + j).toNat = s + j := by omega
        have hj5 : IntKind.i64.wrap ((s : Int) + j) = (s : Int) + j := IntWalk.i64_in _ (by omega)
        go_wp2_with fail
        go_region
        have hT3 := (hT.stored hgp1 (s + j) ⟨1, i, n⟩).same (Same.refl _).drew
        have hB3 := (((hB.far (p := ⟨g, (s + j) * 3, none⟩) hgb1 (.int .i64 1)).far (p := ⟨g, (s + j) * 3 + 1, none⟩) hgb1 (.int .i64 i)).far (p := ⟨g, (s + j) * 3 + 2, none⟩) hgb1 (.int .i64 n)).drew
        have hX3 := (((hX.far (p := ⟨g, (s + j) * 3, none⟩) hun (.int .i64 1)).far (p := ⟨g, (s + j) * 3 + 1, none⟩) hun (.int .i64 i)).far (p := ⟨g, (s + j) * 3 + 2, none⟩) hun (.int .i64 n)).drew
        have hs3 := (((hs'.set_ (p := ⟨g, (s + j) * 3, none⟩) (fun _ => .inl rfl) (.int .i64 1)).set_ (p := ⟨g, (s + j) * 3 + 1, none⟩) (fun _ => .inl rfl) (.int .i64 i)).set_ (p := ⟨g, (s + j) * 3 + 2, none⟩) (fun _ => .inl rfl) (.int .i64 n)).drew
        clear f0 f1 b0 b1 b2 x1 x2 c0 c1 c2 z0 z1 z2 hT hB hX hs' hj2 hj3 hj4 hj5
        generalize (((wr.setCell ⟨g, (s + j) * 3, none⟩ (.int .i64 1)).setCell ⟨g, (s + j) * 3 + 1, none⟩ (.int .i64 i)).setCell ⟨g, (s + j) * 3 + 2, none⟩ (.int .i64 n)).drew = w3 at *
        have f0 := TabB.first hT3.pb
        have b2 := hB3.cell 2
        have n1 : IntKind.i64.wrap ((n : Int) - F) = (n : Int) - F := IntWalk.i64_in _ (by omega)
        have n2 : (0 : Int) ≤ (n : Int) - F := by omega
        have n3 : ((n : Int) - F).toNat = n - F := by omega
        go_wp2_with fail
        go_region
        go_wp2_with fail
        go_roundg (gk - M)
        case measure => omega
        case rel =>
          refine ⟨j + M, P'.set (s + j) ⟨1, i, n⟩, by omega, by omega, by omega, by rw [Nat.add_mod_right]; exact HJM.out, by rw [HM3.out, IntWalk.wrap64_in _ (by omega)]; go_num, by rw [List.length_set]; exact HPL.out, fun q hq => ?_, hT3.same (Same.refl _).drew, hB3.drew, hX3.drew, hs3.drew⟩
          have e : pg (P'.set (s + j) ⟨1, i, n⟩) q = if q = s + j then ⟨1, i, n⟩ else pg P' q := getD_set P' (s + j) q _ _ hjl
          rw [e, HP.out q hq]
          by_cases e1 : q = s + j
          · subst e1
            rw [if_pos rfl, if_pos ⟨by omega, by omega, by omega, by rw [Nat.add_sub_cancel_left]; exact HJM.out⟩]
          · rw [if_neg e1]
            by_cases c : s ≤ q ∧ q < s + E ∧ (q - s) % M = tq
            · by_cases c2 : q < s + j
              · rw [if_pos ⟨c.1, c.2.1, c2, c.2.2⟩, if_pos ⟨c.1, c.2.1, by omega, c.2.2⟩]
              · rw [if_neg (fun d => c2 d.2.2.1), if_neg (fun d => ?_)]
                have hjq : j < q - s := by omega
                have e3 := HJM.out
                have e4 := Nat.div_add_mod (q - s) M
                have e5 := Nat.div_add_mod j M
                have e6 := d.2.2.1
                rw [c.2.2] at e4
                rw [e3] at e5
                have h7 : M * ((q - s) / M) < M * (j / M + 1) := by rw [Nat.mul_add]; omega
                have h8 : M * (j / M) < M * ((q - s) / M) := by omega
                have h9 := Nat.lt_of_mul_lt_mul_left h7
                have h10 := Nat.lt_of_mul_lt_mul_left h8
                omega
            · rw [if_neg (fun d => c ⟨d.1, d.2.1, d.2.2.2⟩), if_neg (fun d => c ⟨d.1, d.2.1, d.2.2.2⟩)]
      · have d3 : decide ((j : Int) < wrap64 (2 ^ d)) = false := by rw [HE3.out]; simp; omega
        go_wp2_with fail
        ((try simp only [Exit.inBlock, Exit.then]); first | refine bodyPost_end (results_none rfl _ _ _) rfl ?_ | refine bodyPost_ret (results_none rfl _ _ _) rfl ?_)
        refine ⟨rfl, g, cap, P', HPL.out, fun q hq => ?_, by rw [HPL.out]; exact hT, hs', .inl rfl⟩
        rw [HP.out q hq, ← HE.out, ← HM.out, HTQ.out]
        by_cases c : s ≤ q ∧ q < s + E ∧ (q - s) % M = tq
        · rw [if_pos ⟨c.1, c.2.1, by omega, c.2.2⟩, if_pos c]
        · rw [if_neg (fun d => c ⟨d.1, d.2.1, d.2.2.2⟩), if_neg c]
end Go.Proofs.Yteknaaijlkenkaa
