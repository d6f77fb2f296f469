import Derived.Test.YteknaaijlkenkaaRxL
import Derived.Test.YteknaaijlkenkaaRxT
import Derived.Test.YteknaaijlkenkaaRxF
namespace Go.Proofs.Yteknaaijlkenkaa
set_option linter.unusedVariables false
set_option linter.unusedSimpArgs false
open Go.RowKit
attribute [local go_sem] max2i min2i max2t min2t

/-! ### the reference's inflate: Run -/
theorem token_keep {x y : I} (h : tokenG x = .ok y) : y.lit = x.lit ∧ y.dist = x.dist ∧ y.last = x.last ∧ (y.st = x.st ∨ y.st = if x.last then 3 else 0) := by
  unfold tokenG at h
  split at h
  · cases h
  · split at h
    · injection h with h; subst h; exact ⟨rfl, rfl, rfl, .inr rfl⟩
    · split at h
      · split at h
        · cases h
        · injection h with h; subst h; exact ⟨rfl, rfl, rfl, .inl rfl⟩
      · split at h
        · cases h
        · split at h
          · cases h
          · split at h
            · cases h
            · split at h
              · cases h
              · split at h
                · cases h
                · split at h
                  · cases h
                  · split at h
                    · cases h
                    · injection h with h; subst h; exact ⟨rfl, rfl, rfl, .inl rfl⟩
theorem token_cap {x y : I} (h : tokenG x = .ok y) (hc : x.all.length ≤ x.most) : y.all.length ≤ y.most := by
  unfold tokenG at h
  split at h
  · cases h
  · split at h
    · injection h with h; subst h; exact hc
    · split at h
      · split at h
        · cases h
        · injection h with h
          subst h
          simp only [List.length_append, List.length_singleton]
          omega
      · split at h
        · cases h
        · split at h
          · cases h
          · split at h
            · cases h
            · split at h
              · cases h
              · split at h
                · cases h
                · split at h
                  · cases h
                  · split at h
                    · cases h
                    · injection h with h
                      subst h
                      simp only [ext_length]
                      omega
/-- What a run ends with, told by the error's number: 2 and 5 are one to All. -/
def Alike (k e : Nat) : Prop := k = e ∨ ((k = 2 ∨ k = 5) ∧ (e = 2 ∨ e = 5))
structure RunPost12 (w : World) (x0 : I) (en : Ending) (w' : World) : Prop where mk ::
  out_ : ∃ (y : I) (k e : Nat) (vo : Value) (outs : List Int), Alike k e ∧ Ends x0 (y, k) ∧ en = .returned (.tuple #[vo, .int .i64 (e : Int), .int .i64 (if e = 0 then ((y.at_ + 7) / 8 : Nat) else 0 : Nat)]) ∧ Own w' w.heap.size 5 vo (ints .u8 outs) ∧ (e = 0 → outs = y.all ∧ ∀ u ∈ outs, (Lit.int .u8 u).wf = true) ∧ Below w.heap.size w w'
structure TkRel12 (w : World) (p : Nat) (A : Option Addr) (c : Nat) (x0 y1 : I) (bF : Nat) (vF vG : Value) (bL : Nat) (vL vD : Value) (g : Nat) (v18 v21 : Value) (wr : World) : Prop where mk ::
  out_ : ∃ (z : I) (vo : Value), z.lit = y1.lit ∧ z.dist = y1.dist ∧ z.last = y1.last ∧ z.all.length ≤ z.most ∧ Own wr bF 9 vF (strs fixL) ∧ Own wr bF 9 vG (strs fixD) ∧ Own wr bL 9 vL (strs y1.lit) ∧ Own wr bL 9 vD (strs y1.dist) ∧ Below w.heap.size w wr ∧
    ((v18 = .bool true ∧ v21 = .int .i64 0 ∧ z.st = 2 ∧ mu z < g ∧ Via y1 z ∧ XAt wr w.heap.size p A c vo z.bs z.at_ z.all z.wide z.size z.most 0) ∨
     (v18 = .bool true ∧ v21 = .int .i64 1 ∧ z.st = (if y1.last then 3 else 0) ∧ Via y1 z ∧ XAt wr w.heap.size p A c vo z.bs z.at_ z.all z.wide z.size z.most 0) ∨
     (∃ (e : Nat) (z' : I), e ≠ 0 ∧ v18 = .bool false ∧ v21 = .int .i64 2 ∧ Ends y1 (z', e) ∧ XAt wr w.heap.size p A c vo z.bs z.at_ z.all z.wide z.size z.most (e : Int)))
structure OrRel (w : World) (p : Nat) (A : Option Addr) (c : Nat) (x0 : I) (bF : Nat) (vF vG : Value) (g : Nat) (wr : World) : Prop where mk ::
  out_ : ∃ (y : I) (vo : Value), Via x0 y ∧ y.st = 0 ∧ mu y < g ∧ y.all.length ≤ y.most ∧ XAt wr w.heap.size p A c vo y.bs y.at_ y.all y.wide y.size y.most 0 ∧ Own wr bF 9 vF (strs fixL) ∧ Own wr bF 9 vG (strs fixD) ∧ Below w.heap.size w wr
theorem Mn.below {w wr w' : World} {p : Nat} {A : Option Addr} {c : Nat} {vo : Value} {bs : List Int} {a : Nat} {out : List Int} {wide : Bool} {size most : Nat} {code : Int} (hB : Below w.heap.size w wr) (h : XAt wr w.heap.size p A c vo bs a out wide size most code) (hs : Same (Mn p vo) wr w') : Below w.heap.size w w' :=
  hs.below_of hB hB.size (fun k hk e => by
    rcases e with e | e
    · have := h.pB; omega
    · have := h.own.base_le k e; omega)
theorem Mn.ofp {w w' : World} {p : Nat} (vo : Value) (hs : Same (fun k => k = p) w w') : Same (Mn p vo) w w' := hs.mono (fun _ _ e => .inl e)
structure BdRel (w7 : World) (g : Nat) (v18 v21 : Value) (wr : World) : Prop where mk ::
  out_ : v18 = .bool false ∧ v21 = .int .i64 0 ∧ wr = w7
theorem RunPost12.bad {w w' : World} {x0 y : I} {k e : Nat} {vo : Value} {outs : List Int} (ha : Alike k e) (hE : Ends x0 (y, k)) (he : e ≠ 0) (ho : Own w' w.heap.size 5 vo (ints .u8 outs)) (hB : Below w.heap.size w w') : RunPost12 w x0 (.returned (.tuple #[vo, .int .i64 (e : Int), .int .i64 0])) w' :=
  ⟨⟨y, k, e, vo, outs, ha, hE, by rw [if_neg he]; rfl, ho, fun h => absurd h he, hB⟩⟩
theorem RunPost12.fine {w w' : World} {x0 y : I} {vo : Value} {U : Int} (hE : Ends x0 (y, 0)) (ho : Own w' w.heap.size 5 vo (ints .u8 y.all)) (hw : ∀ u ∈ y.all, (Lit.int .u8 u).wf = true) (hB : Below w.heap.size w w') (hU : U = (((y.at_ + 7) / 8 : Nat) : Int)) : RunPost12 w x0 (.returned (.tuple #[vo, .int .i64 0, .int .i64 U])) w' :=
  ⟨⟨y, 0, 0, vo, y.all, .inl rfl, hE, by rw [if_pos rfl, hU]; rfl, ho, fun _ => ⟨rfl, hw⟩, hB⟩⟩
theorem storedG_code {bs : List Int} {a : Nat} {all : List Int} {most e : Nat} (h : storedG bs a all most = .bad e) : e ≠ 0 := by
  unfold storedG at h
  split at h
  · injection h with h; omega
  · split at h
    · injection h with h; omega
    · split at h
      · cases h
      · injection h with h
        split at h <;> omega
theorem storedG_cap {bs : List Int} {a : Nat} {all : List Int} {most a' : Nat} {all' : List Int} (h : storedG bs a all most = .ok (a', all')) (hc : all.length ≤ most) : all'.length ≤ most := by
  unfold storedG at h
  split at h
  · cases h
  · split at h
    · cases h
    · split at h
      · rename_i hh
        injection h with h
        simp only [Prod.mk.injEq] at h
        rw [← h.2, List.length_append, List.length_take]
        omega
      · cases h
theorem tokenG_code {x : I} {e : Nat} (h : tokenG x = .bad e) : e ≠ 0 := by
  unfold tokenG at h
  split at h
  · rename_i h1; injection h with h; have := (symG_bad h1).2; omega
  · split at h
    · cases h
    · split at h
      · split at h
        · injection h with h; omega
        · cases h
      · split at h
        · injection h with h; omega
        · split at h
          · rename_i h1; injection h with h; have := getG_bad5 h1; omega
          · split at h
            · rename_i h1; injection h with h; have := (symG_bad h1).2; omega
            · split at h
              · injection h with h; omega
              · split at h
                · rename_i h1; injection h with h; have := getG_bad5 h1; omega
                · split at h
                  · injection h with h; omega
                  · split at h
                    · injection h with h; omega
                    · cases h
set_option maxHeartbeats 16000000 in
set_option maxRecDepth 100000 in
theorem rx_run {A : Option Addr} {c : Nat} {bs : List Int} (wide : Bool) (size most : Nat) (hl : bs.length ≤ 1000000000) (hm : most ≤ 1073741824) (w : World) (hr : RowOf w .u8 A c bs) :
    Calls Try.prog 31 #[.slice A bs.length c, .bool wide, .int .i64 size, .int .i64 most] w fun e w' => RunPost12 w (startI bs wide size most) e w' := by
  have hmu0 : mu (startI bs wide size most) ≤ 16 * bs.length := by unfold mu startI lf; simp; omega
  obtain ⟨x0, hx0⟩ : ∃ x, startI bs wide size most = x := ⟨_, rfl⟩
  rw [hx0] at hmu0 ⊢
  have hx0m : x0.most = most := by rw [← hx0]; rfl
  obtain ⟨W1, hW1⟩ : ∃ W, W = w.alloc (.cells #[.slice A bs.length c, .int .i64 0, .slice none 0 0, .bool wide, .int .i64 size, .int .i64 most, .int .i64 0] 75) := ⟨_, rfl⟩
  have hB1 : Below w.heap.size w W1 := by rw [hW1]; exact (Below.refl _ _).alloc (Nat.le_refl _) _
  have hX1 : XAt W1 w.heap.size w.heap.size A c (.slice none 0 0) x0.bs x0.at_ x0.all x0.wide x0.size x0.most 0 := by
    rw [← hx0, hW1]
    exact ⟨Blk.new w _ _, hr.belo ((Below.refl _ _).alloc (Nat.le_refl _) _), Own.nil _ _ _, fun u hu => by simp [startI] at hu, by simp, Nat.le_refl _, fun h => hr.lt h, hl, Nat.zero_le _⟩
  have hv0 : Via x0 x0 := Via.refl (by rw [← hx0]; simp [startI]) (by rw [← hx0]; simp [startI])
  have hx0s : x0.st = 0 := by rw [← hx0]; rfl
  have hx0c : x0.all.length ≤ x0.most := by rw [← hx0]; simp [startI]
  clear hr
  go_enter Try.func31, Try.ntmps31
  go_upto_region 2 with fail
  rw [← hW1]
  clear hW1 hx0
  go_upto_region 3 with (go_at_call 40; refine (rx_fixed W1).mono ?_; rintro en w2 ⟨AF, cF, AG, cG, rfl, oF2, oG2, hB2⟩)
  have hX2 := hX1.belo hB2
  have hB2 := hB1.trans (hB2.mono (by have := hX1.bB; omega))
  obtain ⟨bF, hbF⟩ : ∃ b, b = W1.heap.size := ⟨_, rfl⟩
  rw [← hbF] at oF2 oG2
  clear hX1 hB1 hbF
  go_loopg [] (mu x0 + 1) (OrRel w w.heap.size A c x0 bF (.slice AF 288 cF) (.slice AG 32 cG))
  case atStart => exact ⟨⟨x0, _, hv0, hx0s, by omega, hx0c, hX2, oF2, oG2, hB2⟩⟩
  case round =>
    obtain ⟨y, vo, hv, yst, ymu, ycap, hX, oF, oG, hB⟩ := hrel.out_
    clear hrel hX2 oF2 oG2 hB2 hmu0
    obtain ⟨go, hgo⟩ : ∃ g, g = gk := ⟨_, rfl⟩
    have hyst3 : y.st ≠ 3 := by omega
    have hyal := hX.al
    have hsB : stepG y = blockG y := by unfold stepG; rw [if_pos yst]
    have hym : y.most ≤ 1073741824 := by rw [hv.most, hx0m]; exact hm
    by_cases h1 : lf y.bs y.at_ < 1
    · have hE := hv.ends _ (.bad hyst3 (by rw [hsB]; unfold blockG; rw [getG_no h1]))
      have CG1 := Lib.hid (rx_getno hX 1 (by decide) h1)
      have CG2 := Lib.hid (fun (W : World) (hx : XAt W w.heap.size w.heap.size A c vo y.bs y.at_ y.all y.wide y.size y.most 0) => rx_getno hx 2 (by decide) (by omega))
      go_upto_region 4 with (go_at_call 41; refine CG1.out.mono ?_; rintro en w5 ⟨rfl, h5, hB5⟩)
      have CG2 := Lib.hid (CG2.out w5 h5)
      go_upto_region 6 with (go_at_call 41; refine CG2.out.mono ?_; rintro en w6 ⟨rfl, h6, hB6⟩)
      have k2 : w6.cell? ⟨w.heap.size, 2, none⟩ = some vo := h6.blk.cell 2
      have hB6 := (hB.trans (hB5.mono hB.size)).trans (hB6.mono (hB.trans (hB5.mono hB.size)).size)
      go_wp2_with fail
      go_ret3
      exact RunPost12.bad (e := 5) (.inl rfl) hE (by decide) h6.own hB6
    by_cases h2 : lf y.bs (y.at_ + 1) < 2
    · have hE := hv.ends _ (.bad hyst3 (by rw [hsB]; unfold blockG; rw [getG_at (by omega)]; simp only; rw [getG_no h2]))
      have CG1 := Lib.hid (rx_get hX 1 (by decide) (by omega))
      generalize pk y.bs y.at_ 1 = l at *
      go_upto_region 4 with (go_at_call 41; refine CG1.out.mono ?_; rintro en w5 ⟨rfl, h5, s5⟩)
      have CG2 := Lib.hid (rx_getno h5 2 (by decide) h2)
      go_upto_region 6 with (go_at_call 41; refine CG2.out.mono ?_; rintro en w6 ⟨rfl, h6, hB6⟩)
      have k2 : w6.cell? ⟨w.heap.size, 2, none⟩ = some vo := h6.blk.cell 2
      have hB5 := Mn.below hB hX (Mn.ofp vo s5)
      have hB6 := hB5.trans (hB6.mono hB5.size)
      go_wp2_with fail
      go_ret3
      exact RunPost12.bad (e := 5) (.inl rfl) hE (by decide) h6.own hB6
    have hlf3 : 3 ≤ lf y.bs y.at_ := by unfold lf at *; omega
    have hl2 : pk y.bs y.at_ 1 < 2 := pk_lt _ _ 1
    have hk4 : pk y.bs (y.at_ + 1) 2 < 4 := pk_lt _ _ 2
    have CG1 := Lib.hid (rx_get hX 1 (by decide) (by omega))
    have CG2 := Lib.hid (fun (W : World) (hx : XAt W w.heap.size w.heap.size A c vo y.bs (y.at_ + 1) y.all y.wide y.size y.most 0) => rx_get hx 2 (by decide) (by omega))
    have g1 := getG_at (bs := y.bs) (a := y.at_) (n := 1) (by omega)
    have g2 := getG_at (bs := y.bs) (a := y.at_ + 1) (n := 2) (by omega)
    have hSB := fun e (h : storedG y.bs (y.at_ + 3) y.all y.most = .bad e) (hk : pk y.bs (y.at_ + 1) 2 = 0) => stored_bad yst hyal hlf3 hk h
    have hSO := fun a' l' (h : storedG y.bs (y.at_ + 3) y.all y.most = .ok (a', l')) (hk : pk y.bs (y.at_ + 1) 2 = 0) => stored_ok yst hyal hv.raw hlf3 hk h
    obtain ⟨l, hl⟩ : ∃ l, pk y.bs y.at_ 1 = l := ⟨_, rfl⟩
    obtain ⟨kd, hkd⟩ : ∃ k, pk y.bs (y.at_ + 1) 2 = k := ⟨_, rfl⟩
    rw [hl] at CG1 hl2 g1 hSO
    rw [hkd] at CG2 hk4 g2 hSB hSO
    clear hl hkd
    go_upto_region 4 with (go_at_call 41; refine CG1.out.mono ?_; rintro en w5 ⟨rfl, h5, s5⟩)
    have CG2 := Lib.hid (CG2.out w5 h5)
    go_upto_region 7 with (go_at_call 41; refine CG2.out.mono ?_; rintro en w6 ⟨rfl, h6, s6⟩)
    have m6 : Same (Mn w.heap.size vo) wr w6 := Mn.ofp vo (s5.then s6)
    have B6 := Mn.below hB hX m6
    have oF6 := hX.codes oF m6
    have oG6 := hX.codes oG m6
    have h6 : XAt w6 w.heap.size w.heap.size A c vo y.bs (y.at_ + 3) y.all y.wide y.size y.most 0 := h6
    clear CG1 CG2 h5 s5 s6 m6 hX oF oG hB h1 h2
    rcases (by omega : kd = 0 ∨ kd = 1 ∨ kd = 2 ∨ kd = 3) with rfl | rfl | rfl | rfl
    · have CS : Calls Try.prog 42 #[.pointer (some ⟨w.heap.size, 0, none⟩)] w6 fun e w' => StoPost w6 w.heap.size w.heap.size A c vo { y with at_ := y.at_ + 3 } 0 (storedG y.bs (y.at_ + 3) y.all y.most) e w' := rx_stored (x := { y with at_ := y.at_ + 3 }) h6 ycap hym
      cases hst : storedG y.bs (y.at_ + 3) y.all y.most with
      | bad e =>
        have CS' : Calls Try.prog 42 #[.pointer (some ⟨w.heap.size, 0, none⟩)] w6 fun en w' => en = .returned (.bool false) ∧ ∃ (vo' : Value) (a' : Nat) (all' : List Int), XAt w' w.heap.size w.heap.size A c vo' y.bs a' all' y.wide y.size y.most (e : Nat) ∧ Same (Mn w.heap.size vo) w6 w' := by rw [hst] at CS; exact CS
        obtain ⟨z', hE⟩ := hSB e hst rfl
        have CS' := Lib.hid CS'
        clear CS hSB hSO
        go_upto_region 20 with (go_at_call 42; refine CS'.out.mono ?_; rintro en w7 ⟨rfl, vo7, a7, all7, h7, s7⟩)
        -- it ended by the error e: the code lies in x
        have m6 : ∀ d : Ext (fun _ => False) w7, d.world.cell? ⟨w.heap.size, 6, none⟩ = some (.int .i64 (e : Int)) := fun d => ((h7).same d.same).blk.cell 6
        have m2 : ∀ d : Ext (fun _ => False) w7, d.world.cell? ⟨w.heap.size, 2, none⟩ = some vo7 := fun d => ((h7).same d.same).blk.cell 2
        have HX := Lib.hid (h7)
        have HE := Lib.hid (hv.ends _ hE)
        have HBB := Lib.hid ((Mn.below B6 h6 s7))
        go_upto_region 21 with fail
        refine wp_region_ext (fun _ => False) (by kernel_rfl) (by kernel_rfl) ?_
        repeat (go_big_quiet_step (fail))
        refine wpQuiet_nil ?_
        rintro _ ⟨d, rfl⟩
        go_wp2_with fail
        go_ret3
        have hXd := HX.out.same d.same
        exact RunPost12.bad (e := e) (.inl rfl) HE.out (storedG_code hst) hXd.own (Mn.below HBB.out HX.out d.same.any)
      | ok r =>
        obtain ⟨a', all'⟩ := r
        have CS' : Calls Try.prog 42 #[.pointer (some ⟨w.heap.size, 0, none⟩)] w6 fun en w' => ∃ vo' : Value, en = .returned (.bool true) ∧ XAt w' w.heap.size w.heap.size A c vo' y.bs a' all' y.wide y.size y.most 0 ∧ Same (Mn w.heap.size vo) w6 w' := by rw [hst] at CS; exact CS.mono fun e w' ⟨vo', he, hx, hs, _⟩ => ⟨vo', he, hx, hs⟩
        obtain ⟨z, zv, zmu, zst, za, zl⟩ := hSO a' all' hst rfl
        have zcap : z.all.length ≤ z.most := by rw [zl, zv.most]; exact storedG_cap hst ycap
        have hzx : ∀ {W : World} {v : Value}, XAt W w.heap.size w.heap.size A c v y.bs a' all' y.wide y.size y.most 0 → XAt W w.heap.size w.heap.size A c v z.bs z.at_ z.all z.wide z.size z.most 0 := fun h => by rw [za, zl, zv.bs, zv.wide, zv.size, zv.most]; exact h
        have CS' := Lib.hid CS'
        clear CS hSB hSO
        go_upto_region 20 with (go_at_call 42; refine CS'.out.mono ?_; rintro en w7 ⟨vo7, rfl, h7, s7⟩)
        have oF7 := h6.codes oF6 s7
        have oG7 := h6.codes oG6 s7
        have B7 := Mn.below B6 h6 s7
        have h7 := hzx h7
        clear h6 oF6 oG6 B6 s7
        -- it ended, or goes on: the state z in the world w7
        by_cases hl1 : l = 1
        · have c1 : ((l : Int) == 1) = true := by rw [beq_iff_eq]; omega
          have c1' : (l == 1) = true := by rw [beq_iff_eq]; exact hl1
          have m1 : ∀ d : Ext (fun _ => False) w7, d.world.cell? ⟨w.heap.size, 1, none⟩ = some (.int .i64 z.at_) := fun d => ((h7).same d.same).blk.cell 1
          have m2 : ∀ d : Ext (fun _ => False) w7, d.world.cell? ⟨w.heap.size, 2, none⟩ = some vo7 := fun d => ((h7).same d.same).blk.cell 2
          have HX := Lib.hid (h7)
          have HE := Lib.hid ((fun (h : l = 1) => (hv.trans zv).ends _ (.over (by rw [zst]; simp [h]))) hl1)
          have hzal := (h7).al
          have hzhl := (h7).hl
          have HBB := Lib.hid (B7)
          go_upto_region 23 with fail
          refine wp_region_ext (fun _ => False) (by kernel_rfl) (by kernel_rfl) ?_
          repeat (go_big_quiet_step (fail))
          refine wpQuiet_nil ?_
          rintro _ ⟨d, rfl⟩
          go_wp2_with fail
          go_ret3
          have hXd := HX.out.same d.same
          exact RunPost12.fine HE.out hXd.own hXd.outw (Mn.below HBB.out HX.out d.same.any) (by omega)
        · have c1 : ((l : Int) == 1) = false := by rw [beq_eq_false_iff_ne]; omega
          have c1' : (l == 1) = false := by rw [beq_eq_false_iff_ne]; exact hl1
          have HX := Lib.hid (h7)
          have HN := Lib.hid ((fun (h : ¬ l = 1) => (⟨hv.trans zv, by rw [zst]; simp [h], zmu⟩ : Via x0 z ∧ z.st = 0 ∧ mu z < mu y)) hl1)
          have HBB := Lib.hid (B7)
          have HF := Lib.hid (oF7)
          have HG := Lib.hid (oG7)
          go_wp2_with fail
          go_roundg (go - 1)
          case measure => omega
          case rel => exact ⟨⟨z, vo7, HN.out.1, HN.out.2.1, by have := HN.out.2.2; omega, zcap, HX.out, HF.out, HG.out, HBB.out⟩⟩
    · have hs1 : stepG y = .ok { y with lit := fixL, dist := fixD, st := 2, at_ := y.at_ + 3, last := decide (l = 1) } := by rw [hsB]; unfold blockG; rw [g1]; simp only; rw [g2]; rfl
      obtain ⟨y1, hy1⟩ : ∃ z : I, z = { y with lit := fixL, dist := fixD, st := 2, at_ := y.at_ + 3, last := decide (l = 1) } := ⟨_, rfl⟩
      rw [← hy1] at hs1
      obtain ⟨zv0, mu1⟩ := Via.step hs1 (by omega) hv.raw hyst3
      have hv1 := hv.trans zv0
      have hX1 : XAt w6 w.heap.size w.heap.size A c vo y1.bs y1.at_ y1.all y1.wide y1.size y1.most 0 := by rw [hy1]; exact h6
      have cap1 : y1.all.length ≤ y1.most := by rw [hy1]; exact ycap
      have st1 : y1.st = 2 := by rw [hy1]
      have raw1 := zv0.raw
      have hlast : y1.last = decide (l = 1) := by rw [hy1]
      have hlit : y1.lit = fixL := by rw [hy1]
      have hdst : y1.dist = fixD := by rw [hy1]
      have hnL : y1.lit.length = 288 := by rw [hlit, fixL_len]
      have hnD : y1.dist.length = 32 := by rw [hdst, fixD_len]
      have gl1 : Good y1.lit := by rw [hlit]; exact good_of fixL_code
      have gd1 : Good y1.dist := by rw [hdst]; exact good_of fixD_code
      have ll1 : 288 ≤ 300 := by omega
      have ld1 : 32 ≤ 32 := by omega
      have mm1 : y1.most ≤ 1073741824 := by rw [hv1.most, hx0m]; exact hm
      have oF1 := oF6
      have oG1 := oG6
      have oL1 : Own w6 bF 9 (.slice AF 288 cF) (strs y1.lit) := by rw [hlit]; exact oF6
      have oD1 : Own w6 bF 9 (.slice AG 32 cG) (strs y1.dist) := by rw [hdst]; exact oG6
      have B1 := B6
      clear hy1 h6 B6 oF6 oG6 hSB hSO hlit hdst hs1 g1 g2 hlf3 hl2 hk4 hyal
      -- the block's tokens: y1 the state ahead of them in the world wt
      go_wp2_with fail
      go_loopg [18, 21] (mu y1 + 1) (TkRel12 w w.heap.size A c x0 y1 bF (.slice AF 288 cF) (.slice AG 32 cG) bF (.slice AF 288 cF) (.slice AG 32 cG))
      case atStart => exact ⟨⟨y1, vo, rfl, rfl, rfl, cap1, oF1, oG1, oL1, oD1, B1, .inl ⟨rfl, rfl, st1, by omega, Via.refl (by omega) raw1, hX1⟩⟩⟩
      case round =>
        obtain ⟨z, vz, zl, zd, zla, zc, oF, oG, oL, oD, hB, hcase⟩ := hrel.out_
        clear hrel oF1 oG1 oL1 oD1 B1 hX1
        rcases hcase with ⟨rfl, rfl, zst, zmu, zv, hX⟩ | ⟨rfl, rfl, zst, zv, hX⟩ | ⟨e, z', he0, rfl, rfl, hE, hX⟩
        · have zst3 : z.st ≠ 3 := by omega
          have CT := rx_token hX (by rw [zl]; exact gl1) (by rw [zd]; exact gd1) (by rw [zl, hnL]; exact ll1) (by rw [zd, hnD]; exact ld1) AF cF bF (by rw [zl, hnL]; exact oL) AG cG bF (by rw [zd, hnD]; exact oD) zc (by rw [zv.most]; exact mm1) zst
          rw [zl, zd, hnL, hnD] at CT
          have hsG : stepG z = tokenG z := by unfold stepG; rw [if_neg (by omega), if_neg (by omega)]
          cases htk : tokenG z with
          | bad e =>
            rw [htk] at CT hsG
            have he0 : e ≠ 0 := tokenG_code htk
            have hE := zv.ends _ (.bad zst3 hsG)
            have CT := Lib.hid CT
            have e1 : (2 : Int) ≠ 1 := by decide
            go_wp2_with (go_at_call 44; refine CT.out.mono ?_; rintro en w8 ⟨rfl, h8, s8⟩)
            go_roundg (gk - 1)
            case measure => omega
            case rel => exact ⟨⟨z, vz, zl, zd, zla, zc, hX.codes oF s8, hX.codes oG s8, hX.codes oL s8, hX.codes oD s8, Mn.below hB hX s8, .inr (.inr ⟨e, z, he0, rfl, rfl, hE, h8⟩)⟩⟩
          | ok y2 =>
            rw [htk] at CT hsG
            obtain ⟨kl, kd', kla, kst⟩ := token_keep htk
            have kc := token_cap htk zc
            obtain ⟨v2, mu2⟩ := Via.step hsG (by omega) zv.raw zst3
            have zv2 := zv.trans v2
            have hx2 : ∀ {W : World} {vo3 : Value}, XAt W w.heap.size w.heap.size A c vo3 z.bs y2.at_ y2.all z.wide z.size z.most 0 → XAt W w.heap.size w.heap.size A c vo3 y2.bs y2.at_ y2.all y2.wide y2.size y2.most 0 := fun h => by rw [v2.bs, v2.wide, v2.size, v2.most]; exact h
            by_cases hs2 : y2.st = 2
            · have hCT : Calls Try.prog 44 #[.pointer (some ⟨w.heap.size, 0, none⟩), .slice AF 288 cF, .slice AG 32 cG] wr fun e w' => ∃ vo' : Value, e = .returned (.int .i64 0) ∧ XAt w' w.heap.size w.heap.size A c vo' z.bs y2.at_ y2.all z.wide z.size z.most 0 ∧ Same (Mn w.heap.size vz) wr w' := CT.mono fun e w' ⟨vo', he, hx, hs, _⟩ => ⟨vo', by rw [he, if_pos hs2], hx, hs⟩
              have CT := Lib.hid hCT
              clear hCT
              go_wp2_with (go_at_call 44; refine CT.out.mono ?_; rintro en w8 ⟨vo3, rfl, h8, s8⟩)
              go_roundg (gk - 1)
              case measure => omega
              case rel => exact ⟨⟨y2, vo3, kl.trans zl, kd'.trans zd, kla.trans zla, kc, hX.codes oF s8, hX.codes oG s8, hX.codes oL s8, hX.codes oD s8, Mn.below hB hX s8, .inl ⟨rfl, rfl, hs2, by omega, zv2, hx2 h8⟩⟩⟩
            · have hs3 : y2.st = if y1.last then 3 else 0 := by
                rcases kst with h | h
                · omega
                · rw [h, zla]
              have hCT : Calls Try.prog 44 #[.pointer (some ⟨w.heap.size, 0, none⟩), .slice AF 288 cF, .slice AG 32 cG] wr fun e w' => ∃ vo' : Value, e = .returned (.int .i64 1) ∧ XAt w' w.heap.size w.heap.size A c vo' z.bs y2.at_ y2.all z.wide z.size z.most 0 ∧ Same (Mn w.heap.size vz) wr w' := CT.mono fun e w' ⟨vo', he, hx, hs, _⟩ => ⟨vo', by rw [he, if_neg hs2], hx, hs⟩
              have CT := Lib.hid hCT
              clear hCT
              go_wp2_with (go_at_call 44; refine CT.out.mono ?_; rintro en w8 ⟨vo3, rfl, h8, s8⟩)
              go_roundg (gk - 1)
              case measure => omega
              case rel => exact ⟨⟨y2, vo3, kl.trans zl, kd'.trans zd, kla.trans zla, kc, hX.codes oF s8, hX.codes oG s8, hX.codes oL s8, hX.codes oD s8, Mn.below hB hX s8, .inr (.inl ⟨rfl, rfl, hs3, zv2, hx2 h8⟩)⟩⟩
        · rw [hlast] at zst
          -- it ended, or goes on: the state z in the world wr
          by_cases hl1 : l = 1
          · have c1 : ((l : Int) == 1) = true := by rw [beq_iff_eq]; omega
            have c1' : (l == 1) = true := by rw [beq_iff_eq]; exact hl1
            have m1 : ∀ d : Ext (fun _ => False) wr, d.world.cell? ⟨w.heap.size, 1, none⟩ = some (.int .i64 z.at_) := fun d => ((hX).same d.same).blk.cell 1
            have m2 : ∀ d : Ext (fun _ => False) wr, d.world.cell? ⟨w.heap.size, 2, none⟩ = some vz := fun d => ((hX).same d.same).blk.cell 2
            have HX := Lib.hid (hX)
            have HE := Lib.hid ((fun (h : l = 1) => (hv1.trans zv).ends _ (.over (by rw [zst]; simp [h]))) hl1)
            have hzal := (hX).al
            have hzhl := (hX).hl
            have HBB := Lib.hid (hB)
            go_upto_region 23 with fail
            refine wp_region_ext (fun _ => False) (by kernel_rfl) (by kernel_rfl) ?_
            repeat (go_big_quiet_step (fail))
            refine wpQuiet_nil ?_
            rintro _ ⟨d, rfl⟩
            go_wp2_with fail
            go_ret3
            have hXd := HX.out.same d.same
            exact RunPost12.fine HE.out hXd.own hXd.outw (Mn.below HBB.out HX.out d.same.any) (by omega)
          · have c1 : ((l : Int) == 1) = false := by rw [beq_eq_false_iff_ne]; omega
            have c1' : (l == 1) = false := by rw [beq_eq_false_iff_ne]; exact hl1
            have HX := Lib.hid (hX)
            have HN := Lib.hid ((fun (h : ¬ l = 1) => (⟨hv1.trans zv, by rw [zst]; simp [h], Nat.lt_of_le_of_lt zv.le mu1⟩ : Via x0 z ∧ z.st = 0 ∧ mu z < mu y)) hl1)
            have HBB := Lib.hid (hB)
            have HF := Lib.hid (oF)
            have HG := Lib.hid (oG)
            go_wp2_with fail
            go_roundg (go - 1)
            case measure => omega
            case rel => exact ⟨⟨z, vz, HN.out.1, HN.out.2.1, by have := HN.out.2.2; omega, zc, HX.out, HF.out, HG.out, HBB.out⟩⟩
        · skip
          -- it ended by the error e: the code lies in x
          have m6 : ∀ d : Ext (fun _ => False) wr, d.world.cell? ⟨w.heap.size, 6, none⟩ = some (.int .i64 (e : Int)) := fun d => ((hX).same d.same).blk.cell 6
          have m2 : ∀ d : Ext (fun _ => False) wr, d.world.cell? ⟨w.heap.size, 2, none⟩ = some vz := fun d => ((hX).same d.same).blk.cell 2
          have HX := Lib.hid (hX)
          have HE := Lib.hid (hv1.ends _ hE)
          have HBB := Lib.hid (hB)
          go_upto_region 21 with fail
          refine wp_region_ext (fun _ => False) (by kernel_rfl) (by kernel_rfl) ?_
          repeat (go_big_quiet_step (fail))
          refine wpQuiet_nil ?_
          rintro _ ⟨d, rfl⟩
          go_wp2_with fail
          go_ret3
          have hXd := HX.out.same d.same
          exact RunPost12.bad (e := e) (.inl rfl) HE.out (he0) hXd.own (Mn.below HBB.out HX.out d.same.any)
    · have CH := rx_lengths h6
      cases hh : headG y.wide y.bs (y.at_ + 3) with
      | bad e =>
        have hE := hv.ends _ (.bad hyst3 (by rw [hsB]; unfold blockG; rw [g1]; simp only; rw [g2]; simp only [hh]; rfl))
        have he := headG_bad hh
        have CH' : Calls Try.prog 43 #[.pointer (some ⟨w.heap.size, 0, none⟩)] w6 fun en w' => en = .returned (.tuple #[.slice none 0 0, .slice none 0 0, .bool false]) ∧ ∃ a' e' : Nat, (e' = 2 ∨ e' = 5) ∧ XAt w' w.heap.size w.heap.size A c vo y.bs a' y.all y.wide y.size y.most (e' : Nat) ∧ Same (fun k => k = w.heap.size) w6 w' := by rw [hh] at CH; exact CH
        have CH' := Lib.hid CH'
        clear CH hSB hSO
        go_upto_region 12 with (go_at_call 43; refine CH'.out.mono ?_; rintro en w7 ⟨rfl, a7, e7, he7, h7, s7⟩)
        have B7 := Mn.below B6 h6 (Mn.ofp vo s7)
        clear h6 oF6 oG6 B6 s7
        go_wp2_with fail
        go_loopg [18, 21] 0 (BdRel w7)
        case atStart => exact ⟨⟨rfl, rfl, rfl⟩⟩
        case round =>
          obtain ⟨rfl, rfl, hw⟩ := hrel.out_
          subst hw
          clear hrel
          -- it ended by the error e7: the code lies in x
          have m6 : ∀ d : Ext (fun _ => False) wr, d.world.cell? ⟨w.heap.size, 6, none⟩ = some (.int .i64 (e7 : Int)) := fun d => ((h7).same d.same).blk.cell 6
          have m2 : ∀ d : Ext (fun _ => False) wr, d.world.cell? ⟨w.heap.size, 2, none⟩ = some vo := fun d => ((h7).same d.same).blk.cell 2
          have HX := Lib.hid (h7)
          have HE := Lib.hid (hE)
          have HBB := Lib.hid (B7)
          go_upto_region 21 with fail
          refine wp_region_ext (fun _ => False) (by kernel_rfl) (by kernel_rfl) ?_
          repeat (go_big_quiet_step (fail))
          refine wpQuiet_nil ?_
          rintro _ ⟨d, rfl⟩
          go_wp2_with fail
          go_ret3
          have hXd := HX.out.same d.same
          exact RunPost12.bad (e := e7) (.inr ⟨he, he7⟩) HE.out ((by omega)) hXd.own (Mn.below HBB.out HX.out d.same.any)
      | ok r =>
        obtain ⟨la, ld, q⟩ := r
        have CH' : Calls Try.prog 43 #[.pointer (some ⟨w.heap.size, 0, none⟩)] w6 fun en w' => ∃ (A1 : Option Addr) (c1 : Nat) (A2 : Option Addr) (c2 : Nat), en = .returned (.tuple #[.slice A1 la.length c1, .slice A2 ld.length c2, .bool true]) ∧ Own w' w6.heap.size 9 (.slice A1 la.length c1) (strs la) ∧ Own w' w6.heap.size 9 (.slice A2 ld.length c2) (strs ld) ∧ Good la ∧ Good ld ∧ la.length ≤ 300 ∧ ld.length ≤ 32 ∧ XAt w' w.heap.size w.heap.size A c vo y.bs q y.all y.wide y.size y.most 0 ∧ Same (fun k => k = w.heap.size) w6 w' := by rw [hh] at CH; exact CH
        have hs1 : stepG y = .ok { y with lit := la, dist := ld, st := 2, at_ := q, last := decide (l = 1) } := by rw [hsB]; unfold blockG; rw [g1]; simp only; rw [g2]; simp only [hh]; rfl
        obtain ⟨y1, hy1⟩ : ∃ z : I, z = { y with lit := la, dist := ld, st := 2, at_ := q, last := decide (l = 1) } := ⟨_, rfl⟩
        rw [← hy1] at hs1
        obtain ⟨zv0, mu1⟩ := Via.step hs1 (by omega) hv.raw hyst3
        have hv1 := hv.trans zv0
        have cap1 : y1.all.length ≤ y1.most := by rw [hy1]; exact ycap
        have st1 : y1.st = 2 := by rw [hy1]
        have raw1 := zv0.raw
        have hlast : y1.last = decide (l = 1) := by rw [hy1]
        have hlit : y1.lit = la := by rw [hy1]
        have hdst : y1.dist = ld := by rw [hy1]
        have mm1 : y1.most ≤ 1073741824 := by rw [hv1.most, hx0m]; exact hm
        obtain ⟨nL, hnL0⟩ : ∃ n, la.length = n := ⟨_, rfl⟩
        obtain ⟨nD, hnD0⟩ : ∃ n, ld.length = n := ⟨_, rfl⟩
        have hnL : y1.lit.length = nL := by rw [hlit, hnL0]
        have hnD : y1.dist.length = nD := by rw [hdst, hnD0]
        have hx1 : ∀ {W : World}, XAt W w.heap.size w.heap.size A c vo y.bs q y.all y.wide y.size y.most 0 → XAt W w.heap.size w.heap.size A c vo y1.bs y1.at_ y1.all y1.wide y1.size y1.most 0 := fun h => by rw [hy1]; exact h
        rw [hnL0, hnD0] at CH'
        have CH' := Lib.hid CH'
        clear CH hSB hSO hy1 hs1 g1 g2 hlf3 hl2 hk4 hyal
        go_upto_region 12 with (go_at_call 43; refine CH'.out.mono ?_; rintro en w7 ⟨AL, cL, AD, cD, rfl, oL7, oD7, gl, gd, ll1, ld1, h7, s7⟩)
        have m7 := Mn.ofp vo s7
        have oF1 := h6.codes oF6 m7
        have oG1 := h6.codes oG6 m7
        have B1 := Mn.below B6 h6 m7
        have hX1 := hx1 h7
        have gl1 : Good y1.lit := by rw [hlit]; exact gl
        have gd1 : Good y1.dist := by rw [hdst]; exact gd
        obtain ⟨bL, hbL⟩ : ∃ b, w6.heap.size = b := ⟨_, rfl⟩
        rw [hbL] at oL7 oD7
        have oL1 : Own w7 bL 9 (.slice AL nL cL) (strs y1.lit) := by rw [hlit]; exact oL7
        have oD1 : Own w7 bL 9 (.slice AD nD cD) (strs y1.dist) := by rw [hdst]; exact oD7
        clear h6 B6 oF6 oG6 oL7 oD7 gl gd h7 s7 m7 hlit hdst hbL CH' hnL0 hnD0 hx1
        -- the block's tokens: y1 the state ahead of them in the world wt
        go_wp2_with fail
        go_loopg [18, 21] (mu y1 + 1) (TkRel12 w w.heap.size A c x0 y1 bF (.slice AF 288 cF) (.slice AG 32 cG) bL (.slice AL nL cL) (.slice AD nD cD))
        case atStart => exact ⟨⟨y1, vo, rfl, rfl, rfl, cap1, oF1, oG1, oL1, oD1, B1, .inl ⟨rfl, rfl, st1, by omega, Via.refl (by omega) raw1, hX1⟩⟩⟩
        case round =>
          obtain ⟨z, vz, zl, zd, zla, zc, oF, oG, oL, oD, hB, hcase⟩ := hrel.out_
          clear hrel oF1 oG1 oL1 oD1 B1 hX1
          rcases hcase with ⟨rfl, rfl, zst, zmu, zv, hX⟩ | ⟨rfl, rfl, zst, zv, hX⟩ | ⟨e, z', he0, rfl, rfl, hE, hX⟩
          · have zst3 : z.st ≠ 3 := by omega
            have CT := rx_token hX (by rw [zl]; exact gl1) (by rw [zd]; exact gd1) (by rw [zl, hnL]; exact ll1) (by rw [zd, hnD]; exact ld1) AL cL bL (by rw [zl, hnL]; exact oL) AD cD bL (by rw [zd, hnD]; exact oD) zc (by rw [zv.most]; exact mm1) zst
            rw [zl, zd, hnL, hnD] at CT
            have hsG : stepG z = tokenG z := by unfold stepG; rw [if_neg (by omega), if_neg (by omega)]
            cases htk : tokenG z with
            | bad e =>
              rw [htk] at CT hsG
              have he0 : e ≠ 0 := tokenG_code htk
              have hE := zv.ends _ (.bad zst3 hsG)
              have CT := Lib.hid CT
              have e1 : (2 : Int) ≠ 1 := by decide
              go_wp2_with (go_at_call 44; refine CT.out.mono ?_; rintro en w8 ⟨rfl, h8, s8⟩)
              go_roundg (gk - 1)
              case measure => omega
              case rel => exact ⟨⟨z, vz, zl, zd, zla, zc, hX.codes oF s8, hX.codes oG s8, hX.codes oL s8, hX.codes oD s8, Mn.below hB hX s8, .inr (.inr ⟨e, z, he0, rfl, rfl, hE, h8⟩)⟩⟩
            | ok y2 =>
              rw [htk] at CT hsG
              obtain ⟨kl, kd', kla, kst⟩ := token_keep htk
              have kc := token_cap htk zc
              obtain ⟨v2, mu2⟩ := Via.step hsG (by omega) zv.raw zst3
              have zv2 := zv.trans v2
              have hx2 : ∀ {W : World} {vo3 : Value}, XAt W w.heap.size w.heap.size A c vo3 z.bs y2.at_ y2.all z.wide z.size z.most 0 → XAt W w.heap.size w.heap.size A c vo3 y2.bs y2.at_ y2.all y2.wide y2.size y2.most 0 := fun h => by rw [v2.bs, v2.wide, v2.size, v2.most]; exact h
              by_cases hs2 : y2.st = 2
              · have hCT : Calls Try.prog 44 #[.pointer (some ⟨w.heap.size, 0, none⟩), .slice AL nL cL, .slice AD nD cD] wr fun e w' => ∃ vo' : Value, e = .returned (.int .i64 0) ∧ XAt w' w.heap.size w.heap.size A c vo' z.bs y2.at_ y2.all z.wide z.size z.most 0 ∧ Same (Mn w.heap.size vz) wr w' := CT.mono fun e w' ⟨vo', he, hx, hs, _⟩ => ⟨vo', by rw [he, if_pos hs2], hx, hs⟩
                have CT := Lib.hid hCT
                clear hCT
                go_wp2_with (go_at_call 44; refine CT.out.mono ?_; rintro en w8 ⟨vo3, rfl, h8, s8⟩)
                go_roundg (gk - 1)
                case measure => omega
                case rel => exact ⟨⟨y2, vo3, kl.trans zl, kd'.trans zd, kla.trans zla, kc, hX.codes oF s8, hX.codes oG s8, hX.codes oL s8, hX.codes oD s8, Mn.below hB hX s8, .inl ⟨rfl, rfl, hs2, by omega, zv2, hx2 h8⟩⟩⟩
              · have hs3 : y2.st = if y1.last then 3 else 0 := by
                  rcases kst with h | h
                  · omega
                  · rw [h, zla]
                have hCT : Calls Try.prog 44 #[.pointer (some ⟨w.heap.size, 0, none⟩), .slice AL nL cL, .slice AD nD cD] wr fun e w' => ∃ vo' : Value, e = .returned (.int .i64 1) ∧ XAt w' w.heap.size w.heap.size A c vo' z.bs y2.at_ y2.all z.wide z.size z.most 0 ∧ Same (Mn w.heap.size vz) wr w' := CT.mono fun e w' ⟨vo', he, hx, hs, _⟩ => ⟨vo', by rw [he, if_neg hs2], hx, hs⟩
                have CT := Lib.hid hCT
                clear hCT
                go_wp2_with (go_at_call 44; refine CT.out.mono ?_; rintro en w8 ⟨vo3, rfl, h8, s8⟩)
                go_roundg (gk - 1)
                case measure => omega
                case rel => exact ⟨⟨y2, vo3, kl.trans zl, kd'.trans zd, kla.trans zla, kc, hX.codes oF s8, hX.codes oG s8, hX.codes oL s8, hX.codes oD s8, Mn.below hB hX s8, .inr (.inl ⟨rfl, rfl, hs3, zv2, hx2 h8⟩)⟩⟩
          · rw [hlast] at zst
            -- it ended, or goes on: the state z in the world wr
            by_cases hl1 : l = 1
            · have c1 : ((l : Int) == 1) = true := by rw [beq_iff_eq]; omega
              have c1' : (l == 1) = true := by rw [beq_iff_eq]; exact hl1
              have m1 : ∀ d : Ext (fun _ => False) wr, d.world.cell? ⟨w.heap.size, 1, none⟩ = some (.int .i64 z.at_) := fun d => ((hX).same d.same).blk.cell 1
              have m2 : ∀ d : Ext (fun _ => False) wr, d.world.cell? ⟨w.heap.size, 2, none⟩ = some vz := fun d => ((hX).same d.same).blk.cell 2
              have HX := Lib.hid (hX)
              have HE := Lib.hid ((fun (h : l = 1) => (hv1.trans zv).ends _ (.over (by rw [zst]; simp [h]))) hl1)
              have hzal := (hX).al
              have hzhl := (hX).hl
              have HBB := Lib.hid (hB)
              go_upto_region 23 with fail
              refine wp_region_ext (fun _ => False) (by kernel_rfl) (by kernel_rfl) ?_
              repeat (go_big_quiet_step (fail))
              refine wpQuiet_nil ?_
              rintro _ ⟨d, rfl⟩
              go_wp2_with fail
              go_ret3
              have hXd := HX.out.same d.same
              exact RunPost12.fine HE.out hXd.own hXd.outw (Mn.below HBB.out HX.out d.same.any) (by omega)
            · have c1 : ((l : Int) == 1) = false := by rw [beq_eq_false_iff_ne]; omega
              have c1' : (l == 1) = false := by rw [beq_eq_false_iff_ne]; exact hl1
              have HX := Lib.hid (hX)
              have HN := Lib.hid ((fun (h : ¬ l = 1) => (⟨hv1.trans zv, by rw [zst]; simp [h], Nat.lt_of_le_of_lt zv.le mu1⟩ : Via x0 z ∧ z.st = 0 ∧ mu z < mu y)) hl1)
              have HBB := Lib.hid (hB)
              have HF := Lib.hid (oF)
              have HG := Lib.hid (oG)
              go_wp2_with fail
              go_roundg (go - 1)
              case measure => omega
              case rel => exact ⟨⟨z, vz, HN.out.1, HN.out.2.1, by have := HN.out.2.2; omega, zc, HX.out, HF.out, HG.out, HBB.out⟩⟩
          · skip
            -- it ended by the error e: the code lies in x
            have m6 : ∀ d : Ext (fun _ => False) wr, d.world.cell? ⟨w.heap.size, 6, none⟩ = some (.int .i64 (e : Int)) := fun d => ((hX).same d.same).blk.cell 6
            have m2 : ∀ d : Ext (fun _ => False) wr, d.world.cell? ⟨w.heap.size, 2, none⟩ = some vz := fun d => ((hX).same d.same).blk.cell 2
            have HX := Lib.hid (hX)
            have HE := Lib.hid (hv1.ends _ hE)
            have HBB := Lib.hid (hB)
            go_upto_region 21 with fail
            refine wp_region_ext (fun _ => False) (by kernel_rfl) (by kernel_rfl) ?_
            repeat (go_big_quiet_step (fail))
            refine wpQuiet_nil ?_
            rintro _ ⟨d, rfl⟩
            go_wp2_with fail
            go_ret3
            have hXd := HX.out.same d.same
            exact RunPost12.bad (e := e) (.inl rfl) HE.out (he0) hXd.own (Mn.below HBB.out HX.out d.same.any)
    · have hE := hv.ends _ (.bad hyst3 (by rw [hsB]; unfold blockG; rw [g1]; simp only; rw [g2]; rfl))
      have k2 : w6.cell? ⟨w.heap.size, 2, none⟩ = some vo := h6.blk.cell 2
      go_wp2_with fail
      go_ret3
      exact RunPost12.bad (e := 2) (.inl rfl) hE (by decide) h6.own B6
end Go.Proofs.Yteknaaijlkenkaa
