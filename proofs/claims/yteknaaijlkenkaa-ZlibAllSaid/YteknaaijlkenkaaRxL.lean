import Derived.Test.YteknaaijlkenkaaRxP
import Derived.Test.YteknaaijlkenkaaInfH
namespace Go.Proofs.Yteknaaijlkenkaa
set_option linter.unusedVariables false
set_option linter.unusedSimpArgs false
open Go.RowKit
attribute [local go_sem] max2i min2i max2t min2t

/-! ### the reference's inflate: a head's lengths -/
def HdPost12 (w : World) (B p : Nat) (A : Option Addr) (c : Nat) (vo : Value) (bs out : List Int) (wide : Bool) (size most : Nat) (code : Int) (r : G (List Int × List Int × Nat)) (en : Ending) (w' : World) : Prop := match r with
  | .bad _ => en = .returned (.tuple #[.slice none 0 0, .slice none 0 0, .bool false]) ∧ ∃ a' e' : Nat, (e' = 2 ∨ e' = 5) ∧ XAt w' B p A c vo bs a' out wide size most (e' : Nat) ∧ Same (fun k => k = p) w w'
  | .ok (la, ld, a) => ∃ (A1 : Option Addr) (c1 : Nat) (A2 : Option Addr) (c2 : Nat), en = .returned (.tuple #[.slice A1 la.length c1, .slice A2 ld.length c2, .bool true]) ∧ Own w' w.heap.size 9 (.slice A1 la.length c1) (strs la) ∧ Own w' w.heap.size 9 (.slice A2 ld.length c2) (strs ld) ∧ Good la ∧ Good ld ∧ la.length ≤ 300 ∧ ld.length ≤ 32 ∧ XAt w' B p A c vo bs a out wide size most code ∧ Same (fun k => k = p) w w'
structure HwRel (w : World) (B p : Nat) (A : Option Addr) (c : Nat) (vo : Value) (bs : List Int) (a : Nat) (out : List Int) (wide : Bool) (size most : Nat) (code : Int) (g : Nat) (v13 : Value) (wr : World) : Prop where mk ::
  out_ : v13 = .int .i64 0 ∧ XAt wr B p A c vo bs a out wide size most code ∧ Same (fun k => k = p) w wr
theorem ordA_at : ∀ i, i < 19 → ∃ s : Nat, s < 19 ∧ ordA[i]? = some (.int .i64 (s : Int)) ∧ ordL[i]? = some s := by
  intro i hi
  match i, hi with
  | 0, _ => exact ⟨16, by decide, rfl, rfl⟩
  | 1, _ => exact ⟨17, by decide, rfl, rfl⟩
  | 2, _ => exact ⟨18, by decide, rfl, rfl⟩
  | 3, _ => exact ⟨0, by decide, rfl, rfl⟩
  | 4, _ => exact ⟨8, by decide, rfl, rfl⟩
  | 5, _ => exact ⟨7, by decide, rfl, rfl⟩
  | 6, _ => exact ⟨9, by decide, rfl, rfl⟩
  | 7, _ => exact ⟨6, by decide, rfl, rfl⟩
  | 8, _ => exact ⟨10, by decide, rfl, rfl⟩
  | 9, _ => exact ⟨5, by decide, rfl, rfl⟩
  | 10, _ => exact ⟨11, by decide, rfl, rfl⟩
  | 11, _ => exact ⟨4, by decide, rfl, rfl⟩
  | 12, _ => exact ⟨12, by decide, rfl, rfl⟩
  | 13, _ => exact ⟨3, by decide, rfl, rfl⟩
  | 14, _ => exact ⟨13, by decide, rfl, rfl⟩
  | 15, _ => exact ⟨2, by decide, rfl, rfl⟩
  | 16, _ => exact ⟨14, by decide, rfl, rfl⟩
  | 17, _ => exact ⟨1, by decide, rfl, rfl⟩
  | 18, _ => exact ⟨15, by decide, rfl, rfl⟩
  | i + 19, h => omega
def restK (m : Nat) : G (List Int × Nat) → G (List Int × List Int × Nat)
  | .bad e => .bad e
  | .ok (row, a4) =>
    if row.getD 256 0 = 0 ∨ ¬ (kind (row.take m) = 1 ∨ kind (row.take m) = 2) ∨ ¬ (kind (row.drop m) = 1 ∨ kind (row.drop m) = 2 ∨ kind (row.drop m) = 0) then .bad 2
    else .ok (row.take m, row.drop m, a4)
theorem headK_ok (bs : List Int) (m k : Nat) (l : List Int) (a3 : Nat) : headK bs m k (.ok (l, a3)) = if kind l ≠ 1 then .bad 2 else restK m (rowG l bs (m + k) (m + k) [] a3) := by
  rw [headK]
  split
  · rfl
  · cases rowG l bs (m + k) (m + k) [] a3 with
    | bad e => rfl
    | ok r => rfl
structure HsRel (w : World) (B p : Nat) (A : Option Addr) (c : Nat) (vo : Value) (bs out : List Int) (wide : Bool) (size most : Nat) (code : Int) (q n4 m k : Nat) (res : G (List Int × List Int × Nat)) (g : Nat) (v13 : Value) (wr : World) : Prop where mk ::
  out_ : ∃ (i at_ : Nat) (L : List Int), i ≤ n4 ∧ n4 ≤ g + i ∧ v13 = .int .i64 (i : Int) ∧ L.length = 19 ∧ (∀ x ∈ L, 0 ≤ x ∧ x ≤ 15) ∧ Blk wr q 3 ordA ∧ Blk wr (q + 1) 3 (ints .i64 L).toArray ∧ XAt wr B p A c vo bs at_ out wide size most code ∧ Same (fun g => g = p) w wr ∧ headK bs m k (smallG bs ((ordL.take n4).drop i) L at_) = res
structure HrRel (w : World) (B p : Nat) (A : Option Addr) (c : Nat) (vo : Value) (bs out : List Int) (wide : Bool) (size most : Nat) (code : Int) (L : List Int) (lo b16 : Nat) (v16 : Value) (n m : Nat) (res : G (List Int × List Int × Nat)) (g : Nat) (v18 : Value) (wr : World) : Prop where mk ::
  out_ : ∃ (row : List Int) (at_ : Nat), n - row.length ≤ g ∧ row.length ≤ n ∧ (∀ x ∈ row, 0 ≤ x ∧ x ≤ 15) ∧ Own wr lo 3 v18 (ints .i64 row) ∧ Own wr b16 9 v16 (strs L) ∧ XAt wr B p A c vo bs at_ out wide size most code ∧ Same (fun g => g = p) w wr ∧ lo ≤ wr.heap.size ∧ restK m (rowG L bs n g row at_) = res
structure HcRel (w : World) (B p : Nat) (A : Option Addr) (c : Nat) (vo : Value) (bs out : List Int) (wide : Bool) (size most : Nat) (code : Int) (L : List Int) (lo b16 : Nat) (v16 : Value) (row : List Int) (at_ t : Nat) (y : Int) (g : Nat) (v18 v22 : Value) (wr : World) : Prop where mk ::
  out_ : ∃ i j : Nat, i + j = t ∧ j ≤ g ∧ v22 = .int .i64 (j : Int) ∧ Own wr lo 3 v18 (ints .i64 (row ++ List.replicate i y)) ∧ Own wr b16 9 v16 (strs L) ∧ XAt wr B p A c vo bs at_ out wide size most code ∧ Same (fun g => g = p) w wr ∧ lo ≤ wr.heap.size
theorem XAt.beyond {w w' : World} {B p : Nat} {A : Option Addr} {c : Nat} {vo : Value} {bs : List Int} {a : Nat} {out : List Int} {wide : Bool} {size most : Nat} {code : Int} (h : XAt w B p A c vo bs a out wide size most code) {lo : Nat} (hp : p < lo) (hv : ∀ g, vo.ownBlock = some g → g < lo) {S : Nat → Prop} (hs : Same S w w') (hS : ∀ k, S k → lo ≤ k) : XAt w' B p A c vo bs a out wide size most code :=
  ⟨h.blk.same hs (fun e => by have := hS p e; omega), by
    by_cases h0 : bs = []
    · subst h0; exact h.row.empty
    · refine h.row.same hs (fun ad e hk => ?_)
      have h1 := h.ne h0 ad e
      have h2 := hS _ hk
      have := h.pB
      omega, h.own.kept hs (fun g hg e => by have := hS g e; have := hv g hg; omega), h.outw, Nat.le_trans h.bB hs.size, h.pB, h.ne, h.hl, h.al⟩
theorem same_beyond {w w' w'' : World} {p lo : Nat} (hs : Same (fun g => g = p) w w') {S : Nat → Prop} (hs2 : Same S w' w'') (hlo : w.heap.size ≤ lo) (hS : ∀ k, S k → lo ≤ k) : Same (fun g => g = p) w w'' :=
  hs.trans hs2 (fun k hk e => by have := hS k e; omega)
theorem code_kr {l : List Int} (h : codesErr l = 0) : 0 ≤ kraft l ∧ kind l ≠ 4 := by
  have h0 : 0 ≤ kraft l := by unfold codesErr at h; split at h <;> omega
  refine ⟨h0, ?_⟩
  unfold codesErr at h; split at h; omega; split at h; omega; assumption
theorem kind_range (l : List Int) : 0 ≤ kind l ∧ kind l ≤ 4 := by
  unfold kind kindOf
  split
  · omega
  · split
    · omega
    · split
      · omega
      · split <;> omega
theorem own_lo {w : World} {b b' : Nat} {e : TypeId} {v : Value} {xs : List Value} (h : Own w b e v xs) (hb : b' ≤ b) : Own w b' e v xs := by
  obtain ⟨h1, h2⟩ := h
  refine ⟨h1, ?_⟩
  rcases h2 with h2 | ⟨g, cap, cur, e1, e2, e3⟩
  · exact .inl h2
  · exact .inr ⟨g, cap, cur, e1, Nat.le_trans hb e2, e3⟩
set_option maxHeartbeats 20000000 in
set_option maxRecDepth 100000 in
theorem rx_lengths {w : World} {B p : Nat} {A : Option Addr} {c : Nat} {vo : Value} {bs : List Int} {a : Nat} {out : List Int} {wide : Bool} {size most : Nat} {code : Int} (h : XAt w B p A c vo bs a out wide size most code) :
    Calls Try.prog 43 #[.pointer (some ⟨p, 0, none⟩)] w fun e w' => HdPost12 w B p A c vo bs out wide size most code (headG wide bs a) e w' := by
  obtain ⟨res, hres⟩ : ∃ r, headG wide bs a = r := ⟨_, rfl⟩
  rw [hres]
  have hhl := h.hl
  have hmk : ∀ W, (Instr.makeSlice 97 (.int .i64 19) (.int .i64 19)).run Try.prog W = .ok (.slice (some ⟨W.heap.size, 0, none⟩) 19 19) (W.alloc (.cells (madeCells #[Value.int .i64 0] 19) 3)) := run_make1 (P := Try.prog) 97 3 (.int .i64 0) 8 Try.underlying97 Try.intinf rfl 19 19 (Nat.le_refl _) (by omega) (by omega)
  rw [headG] at hres
  by_cases hg1 : lf bs a < 5
  · rw [getG, if_pos hg1] at hres
    have HR := Lib.hid hres
    clear hres
    have CG := fun (W : World) (hx : XAt W B p A c vo bs a out wide size most code) => rx_getno hx 5 (by decide) hg1
    have CG1 := Lib.hid (CG w h)
    have CG := Lib.hid CG
    go_enter Try.func43, Try.ntmps43
    go_upto_region 2 with (go_at_call 41; refine CG1.out.mono ?_; rintro e w1 ⟨rfl, h1, hB1⟩)
    have CG2 := Lib.hid (CG.out w1 h1)
    go_upto_region 6 with (go_at_call 41; refine CG2.out.mono ?_; rintro e w2 ⟨rfl, h2, hB2⟩)
    have s2 : Same (fun k => k = p) w w2 := ((Below.sameF hB1).then (Below.sameF hB2)).any
    clear CG CG1 CG2 hB1 hB2 h1
    by_cases hg4 : lf bs a < 4
    · have CG3 := Lib.hid (rx_getno h2 4 (by decide) hg4)
      go_upto_region 8 with (go_at_call 41; refine CG3.out.mono ?_; rintro e w3 ⟨rfl, h3, hB3⟩)
      have kk6 := (h3).blk.cell 6
      have ff6 := (h3).blk.frozen 6
      have HXF := Lib.hid ((h3).fail 5)
      have HSF := Lib.hid (Same.set_ (S := fun k => k = p) (p := ⟨p, 6, none⟩) (Same.refl w3) (fun _ => rfl) (.int .i64 5))
      have HSS := Lib.hid ((s2.then (Below.sameF hB3).any))
      go_wp2_with fail
      go_ret3
      show HdPost12 _ _ _ _ _ _ _ _ _ _ _ _ _ _ _
      rw [← HR.out]
      exact ⟨rfl, _, 5, by decide, HXF.out, HSS.out.then HSF.out⟩
    · have hl4 : lf bs (a + 4) < 3 := by unfold lf at *; omega
      -- four bits more are there, and no three behind them: world w2, h2 at a
      have CG4 := Lib.hid (rx_get (h2) 4 (by decide) (by omega))
      have hv4 : pk bs (a) 4 < 16 := pk_lt bs (a) 4
      generalize pk bs (a) 4 = v4 at *
      have c9 : decide ((0 : Int) < (v4 : Int) + 4) = true := by simp; omega
      have HS0 := Lib.hid (s2)
      go_upto_region 7 with (first | (go_at_call 41; refine CG4.out.mono ?_; rintro e w9 ⟨rfl, h9, s9⟩; have hs9 := HS0.out.then s9) | fail)
      -- the two tables: world w9 behind the get of four
      obtain ⟨W4, hW4⟩ : ∃ W, W = ((w9).alloc (.cells ordA 3)).alloc (.cells (madeCells #[Value.int .i64 0] 19) 3) := ⟨_, rfl⟩
      have h4 : XAt W4 B p A c vo bs (a + 4) out wide size most code := by rw [hW4]; exact (h9).same (((Same.refl (S := fun _ => False) (w9)).alloc (.cells ordA 3)).alloc (.cells (madeCells #[Value.int .i64 0] 19) 3))
      have s4 : Same (fun k => k = p) w W4 := by rw [hW4]; exact ((hs9).alloc (.cells ordA 3)).alloc (.cells (madeCells #[Value.int .i64 0] 19) 3)
      have b41 : Blk W4 (w9).heap.size 3 ordA := by rw [hW4]; exact (Blk.new (w9) 3 ordA).alloc _
      have b42 : Blk W4 ((w9).heap.size + 1) 3 (ints .i64 (List.replicate 19 0)).toArray := by
        have := Blk.new ((w9).alloc (.cells ordA 3)) 3 (madeCells #[Value.int .i64 0] 19)
        rw [World.size_alloc, made_ints] at this
        rw [hW4, made_ints]; exact this
      have hq0 : w.heap.size ≤ (w9).heap.size := (hs9).size
      unfold ordA at hW4
      go_upto_region 12 with fail
      rw [← hW4]
      clear hW4
      generalize w9.heap.size = q at *
      go_wp2_with fail
      go_loopg [13] 0 (HwRel w B p A c vo bs (a + 4) out wide size most code)
      case atStart => exact ⟨⟨rfl, h4, s4⟩⟩
      case round =>
        obtain ⟨rfl, hX, hsX⟩ := hrel.out_
        clear hrel
        have CN := Lib.hid (rx_getno hX 3 (by decide) hl4)
        go_upto_region 16 with (go_at_call 41; refine CN.out.mono ?_; rintro e w5 ⟨rfl, h5, hB5⟩)
        have kk6 := (h5).blk.cell 6
        have ff6 := (h5).blk.frozen 6
        have HXF := Lib.hid ((h5).fail 5)
        have HSF := Lib.hid (Same.set_ (S := fun k => k = p) (p := ⟨p, 6, none⟩) (Same.refl w5) (fun _ => rfl) (.int .i64 5))
        have HSS := Lib.hid ((hsX.then (Below.sameF hB5).any))
        go_wp2_with fail
        go_ret3
        show HdPost12 _ _ _ _ _ _ _ _ _ _ _ _ _ _ _
        rw [← HR.out]
        exact ⟨rfl, _, 5, by decide, HXF.out, HSS.out.then HSF.out⟩
  rw [getG_at (by omega)] at hres
  simp only at hres
  have hv1 : pk bs a 5 < 32 := pk_lt bs a 5
  have CG1 := Lib.hid (rx_get h 5 (by decide) (by omega))
  generalize pk bs a 5 = lit at *
  have HRES := Lib.hid hres
  clear hres hg1
  go_enter Try.func43, Try.ntmps43
  go_upto_region 2 with (go_at_call 41; refine CG1.out.mono ?_; rintro e w1 ⟨rfl, h1, s1⟩)
  have hres := HRES.out
  clear HRES CG1 h
  by_cases hl1 : 286 < lit + 257
  · rw [if_pos hl1] at hres
    have HR := Lib.hid hres
    have d1 : decide ((29 : Int) < lit) = true := by simp; omega
    have d1' : decide (29 < lit) = true := by simp; omega
    clear hres hl1
    by_cases hg2 : lf bs (a + 5) < 5
    · have CG2 := Lib.hid (rx_getno h1 5 (by decide) hg2)
      go_upto_region 4 with (go_at_call 41; refine CG2.out.mono ?_; rintro e w2 ⟨rfl, h2, hB2⟩)
      have kk6 := (h2).blk.cell 6
      have ff6 := (h2).blk.frozen 6
      have HXF := Lib.hid ((h2).fail 2)
      have HSF := Lib.hid (Same.set_ (S := fun k => k = p) (p := ⟨p, 6, none⟩) (Same.refl w2) (fun _ => rfl) (.int .i64 2))
      have HSS := Lib.hid ((s1.then (Below.sameF hB2).any))
      go_wp2_with fail
      go_ret3
      show HdPost12 _ _ _ _ _ _ _ _ _ _ _ _ _ _ _
      rw [← HR.out]
      exact ⟨rfl, _, 2, by decide, HXF.out, HSS.out.then HSF.out⟩
    · have CG2 := Lib.hid (rx_get h1 5 (by decide) (by omega))
      generalize pk bs (a + 5) 5 = dist at *
      go_upto_region 4 with (go_at_call 41; refine CG2.out.mono ?_; rintro e w2 ⟨rfl, h2, s2⟩)
      have kk6 := (h2).blk.cell 6
      have ff6 := (h2).blk.frozen 6
      have HXF := Lib.hid ((h2).fail 2)
      have HSF := Lib.hid (Same.set_ (S := fun k => k = p) (p := ⟨p, 6, none⟩) (Same.refl w2) (fun _ => rfl) (.int .i64 2))
      have HSS := Lib.hid ((s1.then s2))
      go_wp2_with fail
      go_ret3
      show HdPost12 _ _ _ _ _ _ _ _ _ _ _ _ _ _ _
      rw [← HR.out]
      exact ⟨rfl, _, 2, by decide, HXF.out, HSS.out.then HSF.out⟩
  rw [if_neg hl1] at hres
  have d1 : decide ((29 : Int) < lit) = false := by simp; omega
  have d1' : decide (29 < lit) = false := by simp; omega
  by_cases hg2 : lf bs (a + 5) < 5
  · rw [getG_no hg2] at hres
    have HR := Lib.hid hres
    clear hres
    have CG2 := Lib.hid (rx_getno h1 5 (by decide) hg2)
    go_upto_region 6 with (go_at_call 41; refine CG2.out.mono ?_; rintro e w2 ⟨rfl, h2, hB2⟩)
    have s2 : Same (fun k => k = p) w w2 := s1.then (Below.sameF hB2).any
    clear CG2 hB2 h1
    by_cases hg4 : lf bs (a + 5) < 4
    · have CG3 := Lib.hid (rx_getno h2 4 (by decide) hg4)
      go_upto_region 8 with (go_at_call 41; refine CG3.out.mono ?_; rintro e w3 ⟨rfl, h3, hB3⟩)
      have kk6 := (h3).blk.cell 6
      have ff6 := (h3).blk.frozen 6
      have HXF := Lib.hid ((h3).fail 5)
      have HSF := Lib.hid (Same.set_ (S := fun k => k = p) (p := ⟨p, 6, none⟩) (Same.refl w3) (fun _ => rfl) (.int .i64 5))
      have HSS := Lib.hid ((s2.then (Below.sameF hB3).any))
      go_wp2_with fail
      go_ret3
      show HdPost12 _ _ _ _ _ _ _ _ _ _ _ _ _ _ _
      rw [← HR.out]
      exact ⟨rfl, _, 5, by decide, HXF.out, HSS.out.then HSF.out⟩
    · have hl4 : lf bs (a + 5 + 4) < 3 := by unfold lf at *; omega
      -- four bits more are there, and no three behind them: world w2, h2 at a + 5
      have CG4 := Lib.hid (rx_get (h2) 4 (by decide) (by omega))
      have hv4 : pk bs (a + 5) 4 < 16 := pk_lt bs (a + 5) 4
      generalize pk bs (a + 5) 4 = v4 at *
      have c9 : decide ((0 : Int) < (v4 : Int) + 4) = true := by simp; omega
      have HS0 := Lib.hid (s2)
      go_upto_region 7 with (first | (go_at_call 41; refine CG4.out.mono ?_; rintro e w9 ⟨rfl, h9, s9⟩; have hs9 := HS0.out.then s9) | fail)
      -- the two tables: world w9 behind the get of four
      obtain ⟨W4, hW4⟩ : ∃ W, W = ((w9).alloc (.cells ordA 3)).alloc (.cells (madeCells #[Value.int .i64 0] 19) 3) := ⟨_, rfl⟩
      have h4 : XAt W4 B p A c vo bs (a + 5 + 4) out wide size most code := by rw [hW4]; exact (h9).same (((Same.refl (S := fun _ => False) (w9)).alloc (.cells ordA 3)).alloc (.cells (madeCells #[Value.int .i64 0] 19) 3))
      have s4 : Same (fun k => k = p) w W4 := by rw [hW4]; exact ((hs9).alloc (.cells ordA 3)).alloc (.cells (madeCells #[Value.int .i64 0] 19) 3)
      have b41 : Blk W4 (w9).heap.size 3 ordA := by rw [hW4]; exact (Blk.new (w9) 3 ordA).alloc _
      have b42 : Blk W4 ((w9).heap.size + 1) 3 (ints .i64 (List.replicate 19 0)).toArray := by
        have := Blk.new ((w9).alloc (.cells ordA 3)) 3 (madeCells #[Value.int .i64 0] 19)
        rw [World.size_alloc, made_ints] at this
        rw [hW4, made_ints]; exact this
      have hq0 : w.heap.size ≤ (w9).heap.size := (hs9).size
      unfold ordA at hW4
      go_upto_region 12 with fail
      rw [← hW4]
      clear hW4
      generalize w9.heap.size = q at *
      go_wp2_with fail
      go_loopg [13] 0 (HwRel w B p A c vo bs (a + 5 + 4) out wide size most code)
      case atStart => exact ⟨⟨rfl, h4, s4⟩⟩
      case round =>
        obtain ⟨rfl, hX, hsX⟩ := hrel.out_
        clear hrel
        have CN := Lib.hid (rx_getno hX 3 (by decide) hl4)
        go_upto_region 16 with (go_at_call 41; refine CN.out.mono ?_; rintro e w5 ⟨rfl, h5, hB5⟩)
        have kk6 := (h5).blk.cell 6
        have ff6 := (h5).blk.frozen 6
        have HXF := Lib.hid ((h5).fail 5)
        have HSF := Lib.hid (Same.set_ (S := fun k => k = p) (p := ⟨p, 6, none⟩) (Same.refl w5) (fun _ => rfl) (.int .i64 5))
        have HSS := Lib.hid ((hsX.then (Below.sameF hB5).any))
        go_wp2_with fail
        go_ret3
        show HdPost12 _ _ _ _ _ _ _ _ _ _ _ _ _ _ _
        rw [← HR.out]
        exact ⟨rfl, _, 5, by decide, HXF.out, HSS.out.then HSF.out⟩
  rw [getG_at (by omega)] at hres
  simp only at hres
  have hv2 : pk bs (a + 5) 5 < 32 := pk_lt bs (a + 5) 5
  have CG2 := Lib.hid (rx_get h1 5 (by decide) (by omega))
  generalize pk bs (a + 5) 5 = dist at *
  have HRES := Lib.hid hres
  clear hres hg2
  go_upto_region 3 with (go_at_call 41; refine CG2.out.mono ?_; rintro e w2 ⟨rfl, h2, s2⟩)
  have s2 := s1.then s2
  have hres := HRES.out
  have k3 : w2.cell? ⟨p, 3, none⟩ = some (.bool wide) := h2.blk.cell 3
  clear HRES CG2 h1 s1
  by_cases hd : 30 < dist + 1 ∧ wide = false
  · rw [if_pos hd] at hres
    obtain ⟨hd1, rfl⟩ := hd
    have HR := Lib.hid hres
    have d2 : decide ((29 : Int) < dist) = true := by simp; omega
    have d2' : decide (29 < dist) = true := by simp; omega
    clear hres hd1
    go_upto_region 4 with fail
    have kk6 := (h2).blk.cell 6
    have ff6 := (h2).blk.frozen 6
    have HXF := Lib.hid ((h2).fail 2)
    have HSF := Lib.hid (Same.set_ (S := fun k => k = p) (p := ⟨p, 6, none⟩) (Same.refl w2) (fun _ => rfl) (.int .i64 2))
    have HSS := Lib.hid (s2)
    go_wp2_with fail
    go_ret3
    show HdPost12 _ _ _ _ _ _ _ _ _ _ _ _ _ _ _
    rw [← HR.out]
    exact ⟨rfl, _, 2, by decide, HXF.out, HSS.out.then HSF.out⟩
  rw [if_neg hd] at hres
  have e2 : (decide ((29 : Int) < dist) = false ∧ decide (29 < dist) = false) ∨ wide = true := by
    by_cases h : 29 < dist
    · right; cases wide; exact absurd ⟨by omega, rfl⟩ hd; rfl
    · left; simp; omega
  clear hd
  have HRES := Lib.hid hres
  clear hres
  go_cut [61] (fun s61 wx => s61 = .bool false ∧ wx = w2)
  case first =>
    as_aux_lemma =>
      rcases e2 with ⟨e2, e3⟩ | rfl
      · go_wp2_with fail
        all_goals (go_meet; exact ⟨rfl, rfl⟩)
      · go_wp2_with fail
        all_goals (go_meet; exact ⟨rfl, rfl⟩)
  case rest =>
  obtain ⟨rfl, hwx⟩ := hcut
  subst hwx
  clear e2 k3
  have hres := HRES.out
  clear HRES
  by_cases hg3 : lf bs (a + 5 + 5) < 4
  · rw [getG_no hg3] at hres
    have HR := Lib.hid hres
    clear hres
    have CG3 := Lib.hid (rx_getno h2 4 (by decide) hg3)
    go_upto_region 8 with (go_at_call 41; refine CG3.out.mono ?_; rintro e w3 ⟨rfl, h3, hB3⟩)
    have kk6 := (h3).blk.cell 6
    have ff6 := (h3).blk.frozen 6
    have HXF := Lib.hid ((h3).fail 5)
    have HSF := Lib.hid (Same.set_ (S := fun k => k = p) (p := ⟨p, 6, none⟩) (Same.refl w3) (fun _ => rfl) (.int .i64 5))
    have HSS := Lib.hid ((s2.then (Below.sameF hB3).any))
    go_wp2_with fail
    go_ret3
    show HdPost12 _ _ _ _ _ _ _ _ _ _ _ _ _ _ _
    rw [← HR.out]
    exact ⟨rfl, _, 5, by decide, HXF.out, HSS.out.then HSF.out⟩
  rw [getG_at (by omega)] at hres
  simp only at hres
  have hv3 : pk bs (a + 5 + 5) 4 < 16 := pk_lt bs (a + 5 + 5) 4
  have CG3 := Lib.hid (rx_get h2 4 (by decide) (by omega))
  generalize pk bs (a + 5 + 5) 4 = few at *
  have HRES := Lib.hid hres
  clear hres hg3
  go_upto_region 7 with (go_at_call 41; refine CG3.out.mono ?_; rintro e w3 ⟨rfl, h3, s3⟩)
  have s3 := s2.then s3
  have hl29 : lit + 257 ≤ 286 := by omega
  clear CG3 h2 s2 hl1 d1 d1'
  have hpq := Blk.lt h3.blk
  have hvq : ∀ g, vo.ownBlock = some g → g < w3.heap.size := fun g hg => h3.own.lt g hg
  -- the two tables: world w3 behind the get of four
  obtain ⟨W4, hW4⟩ : ∃ W, W = ((w3).alloc (.cells ordA 3)).alloc (.cells (madeCells #[Value.int .i64 0] 19) 3) := ⟨_, rfl⟩
  have h4 : XAt W4 B p A c vo bs (a + 5 + 5 + 4) out wide size most code := by rw [hW4]; exact (h3).same (((Same.refl (S := fun _ => False) (w3)).alloc (.cells ordA 3)).alloc (.cells (madeCells #[Value.int .i64 0] 19) 3))
  have s4 : Same (fun k => k = p) w W4 := by rw [hW4]; exact ((s3).alloc (.cells ordA 3)).alloc (.cells (madeCells #[Value.int .i64 0] 19) 3)
  have b41 : Blk W4 (w3).heap.size 3 ordA := by rw [hW4]; exact (Blk.new (w3) 3 ordA).alloc _
  have b42 : Blk W4 ((w3).heap.size + 1) 3 (ints .i64 (List.replicate 19 0)).toArray := by
    have := Blk.new ((w3).alloc (.cells ordA 3)) 3 (madeCells #[Value.int .i64 0] 19)
    rw [World.size_alloc, made_ints] at this
    rw [hW4, made_ints]; exact this
  have hq0 : w.heap.size ≤ (w3).heap.size := (s3).size
  unfold ordA at hW4
  go_upto_region 12 with fail
  rw [← hW4]
  clear hW4
  generalize w3.heap.size = q at *
  clear h3 s3
  obtain ⟨m, hm⟩ : ∃ m, lit + 257 = m := ⟨_, rfl⟩
  obtain ⟨k, hk⟩ : ∃ k, dist + 1 = k := ⟨_, rfl⟩
  have hres := HRES.out
  rw [hm, hk] at hres
  have HRES := Lib.hid hres
  have hrep : ∀ x ∈ List.replicate 19 (0 : Int), 0 ≤ x ∧ x ≤ 15 := fun x hx => by have := List.eq_of_mem_replicate hx; omega
  clear hres
  have HM := Lib.hid hm
  have HK := Lib.hid hk
  clear hm hk
  go_wp2_with fail
  go_loopg [13] (few + 4) (HsRel w B p A c vo bs out wide size most code q (few + 4) m k res)
  case atStart => exact ⟨⟨0, a + 5 + 5 + 4, List.replicate 19 0, by omega, by omega, rfl, List.length_replicate, hrep, b41, b42, h4, s4, by rw [List.drop_zero]; exact HRES.out⟩⟩
  case round =>
    obtain ⟨i, at_, L, hi, hg, rfl, hL, hLw, hb1, hb2, hX, hs, hres⟩ := hrel.out_
    clear hrel b41 b42 h4 s4 HRES hrep
    by_cases hlt : i < few + 4
    · have e1 : decide ((i : Int) < (few : Int) + 4) = true := by simp; omega
      obtain ⟨s, hs19, hoA, hoL⟩ := ordA_at i (by omega)
      rw [ord_drop hlt (by omega) hoL, smallG] at hres
      by_cases hgt : lf bs at_ < 3
      · rw [getG_no hgt] at hres
        have HR := Lib.hid hres
        have CN := Lib.hid (rx_getno hX 3 (by decide) hgt)
        clear hres
        go_upto_region 17 with (go_at_call 41; refine CN.out.mono ?_; rintro e w5 ⟨rfl, h5, hB5⟩)
        have kk6 := (h5).blk.cell 6
        have ff6 := (h5).blk.frozen 6
        have HXF := Lib.hid ((h5).fail 5)
        have HSF := Lib.hid (Same.set_ (S := fun k => k = p) (p := ⟨p, 6, none⟩) (Same.refl w5) (fun _ => rfl) (.int .i64 5))
        have HSS := Lib.hid ((hs.then (Below.sameF hB5).any))
        go_wp2_with fail
        go_ret3
        show HdPost12 _ _ _ _ _ _ _ _ _ _ _ _ _ _ _
        rw [← HR.out]
        exact ⟨rfl, _, 5, by decide, HXF.out, HSS.out.then HSF.out⟩
      · rw [getG_at (by omega)] at hres
        simp only at hres
        have hv : pk bs at_ 3 < 8 := pk_lt bs at_ 3
        have CG := Lib.hid (rx_get hX 3 (by decide) (by omega))
        generalize pk bs at_ 3 = v at *
        have HR := Lib.hid hres
        clear hres
        go_upto_region 19 with (go_at_call 41; refine CG.out.mono ?_; rintro e w6 ⟨rfl, h6, hs6⟩)
        have hs6' := hs.then hs6
        have b61 := hb1.same hs6 (fun e => by omega)
        have b62 := hb2.same hs6 (fun e => by omega)
        have fz := b62.frozen s
        have fc1 : w6.cell? ⟨q, i, none⟩ = some (.int .i64 (s : Int)) := by rw [b61.cell]; exact hoA
        have fc : w6.cell? ⟨q + 1, s, none⟩ = some (.int .i64 (L.getD s 0)) := by
          rw [b62.cell]
          have hl : s < L.length := by omega
          simp [ints, hl]
        have b72 := b62.set_ s (.int .i64 (v : Int))
        rw [ints_set] at b72
        have HB1 := Lib.hid (b61.far (p := ⟨q + 1, s, none⟩) (by simp) (.int .i64 (v : Int)))
        have s7 : Same (fun g => g = q + 1) w6 (w6.setCell ⟨q + 1, s, none⟩ (.int .i64 (v : Int))) := Same.set_ (S := fun k => k = q + 1) (p := ⟨q + 1, s, none⟩) (Same.refl w6) (fun _ => rfl) _
        have HX7 := Lib.hid (h6.beyond hpq hvq s7 (fun k e => by rw [show k = q + 1 from e]; omega))
        have HS7 := Lib.hid (same_beyond hs6' s7 hq0 (fun k e => by rw [show k = q + 1 from e]; omega))
        have HB2 := Lib.hid b72
        have hi19 : i < 19 := by omega
        clear b72 b61 b62 s7 h6 hs6 hs6' hb1 hb2 hX hs CG
        go_wp2_with fail
        go_roundg (gk - 1)
        case measure => omega
        case rel => exact ⟨⟨i + 1, at_ + 3, L.set s v, by omega, by omega, by go_num, by rw [List.length_set]; exact hL, fun x hx => by
          rcases List.mem_or_eq_of_mem_set hx with hx | rfl
          · exact hLw x hx
          · omega, HB1.out, HB2.out, HX7.out, HS7.out, HR.out⟩⟩
    · have e1 : decide ((i : Int) < (few : Int) + 4) = false := by simp; omega
      have hd : (ordL.take (few + 4)).drop i = [] := List.drop_eq_nil_of_le (by rw [List.length_take, ordL_len]; omega)
      rw [hd, smallG, headK_ok] at hres
      have hrL := arr_row hb2 hL (by omega) hLw
      have CK := ref_kind (some ⟨q + 1, 0, none⟩) 19 L wr hrL (by omega)
      rw [hL] at CK
      clear hd hb1
      by_cases hkL : kind L ≠ 1
      · rw [if_pos hkL] at hres
        have HR := Lib.hid hres
        have d3 : (kind L != 1) = true := by simp; exact hkL
        generalize kind L = kd at *
        have CK := Lib.hid CK
        clear hres hkL
        go_upto_region 21 with (go_at_call 54; refine CK.out.mono ?_; rintro e w5 ⟨rfl, hw⟩; subst hw)
        have kk6 := (hX).blk.cell 6
        have ff6 := (hX).blk.frozen 6
        have HXF := Lib.hid ((hX).fail 2)
        have HSF := Lib.hid (Same.set_ (S := fun k => k = p) (p := ⟨p, 6, none⟩) (Same.refl w5) (fun _ => rfl) (.int .i64 2))
        have HSS := Lib.hid (hs)
        go_wp2_with fail
        go_ret3
        show HdPost12 _ _ _ _ _ _ _ _ _ _ _ _ _ _ _
        rw [← HR.out]
        exact ⟨rfl, _, 2, by decide, HXF.out, HSS.out.then HSF.out⟩
      have hkL : kind L = 1 := by omega
      rw [if_neg (by omega)] at hres
      have hce := code_ok (by omega) (.inl hkL)
      have hgL := good_of hce
      have hk0 : 0 ≤ kraft L := by unfold codesErr at hce; split at hce <;> omega
      have CC := ref_codes_ok (some ⟨q + 1, 0, none⟩) 19 L wr hrL hk0 (by omega) (by omega) hLw
      rw [hL] at CC
      rw [hkL] at CK
      have CC := Lib.hid CC
      have CK := Lib.hid CK
      have HRES := Lib.hid hres
      clear hres hce hk0 hkL
      go_upto_region 24 with (first
        | (go_at_call 54; refine CK.out.mono ?_; rintro e w5 ⟨rfl, hw⟩; subst hw)
        | (go_at_call 50; refine CC.out.mono ?_; rintro e w6 ⟨v16, rfl, ho16, hB6⟩))
      have h6 := hX.belo hB6
      have s6 := hs.then (Below.sameF hB6).any
      obtain ⟨A16, c16, hv16, _⟩ := ho16.shape
      have hsl : (strs L).length = 19 := by simp [strs, hL]
      rw [hsl] at hv16
      subst hv16
      clear CK CC hrL hB6 hX hs hb2
      obtain ⟨n, hn⟩ : ∃ n, m + k = n := ⟨_, rfl⟩
      have hmk1 : 257 ≤ m ∧ m ≤ 286 ∧ 1 ≤ k ∧ k ≤ 32 := by have := HM.out; have := HK.out; omega
      have hni : (lit : Int) + 257 + dist + 1 = (n : Int) := by have := HM.out; have := HK.out; omega
      have hmi : (lit : Int) + 257 = (m : Int) := by have := HM.out; omega
      have hres := HRES.out
      rw [hn] at hres
      have HN := Lib.hid hn
      have HRES := Lib.hid hres
      have hn318 : n ≤ 318 := by omega
      have hplo := Blk.lt h6.blk
      have hvlo : ∀ g, vo.ownBlock = some g → g < w6.heap.size := fun g hg => h6.own.lt g hg
      have hcp : ∀ g, (Value.slice A16 19 c16).ownBlock = some g → g < w6.heap.size ∧ g ≠ p := fun g hg => ⟨ho16.lt g hg, fun e => by subst e; exact ho16.blk_ne h6.blk (by decide) hg⟩
      have hlo0 : w.heap.size ≤ w6.heap.size := s6.size
      obtain ⟨lo, hlo⟩ : ∃ lo, lo = w6.heap.size := ⟨_, rfl⟩
      rw [← hlo] at hplo hvlo hcp hlo0
      obtain ⟨b16, hb16⟩ : ∃ b, b = w5.heap.size := ⟨_, rfl⟩
      rw [← hb16] at ho16
      clear hres hn hmk hLw hi
      go_wp2_with fail
      go_loopg [18] n (HrRel w B p A c vo bs out wide size most code L lo b16 (.slice A16 19 c16) n m res)
      case atStart => exact ⟨⟨[], at_, by simp, by simp, by simp, Own.nil _ _ _, ho16, h6, s6, by omega, HRES.out⟩⟩
      case round =>
        obtain ⟨row, a4, hg2, hrl, hwf, ho, hc, hX, hs, hlo2, hres⟩ := hrel.out_
        clear hrel ho16 h6 s6 HRES
        obtain ⟨A18, c18, rfl, hr18, ha18⟩ := ho.row (fun x hx => i64w (hwf x hx))
        by_cases hlt : row.length < n
        · have e1 : decide ((row.length : Int) < n) = true := decide_eq_true (by omega)
          have e1' : decide (row.length < n) = true := decide_eq_true (by omega)
          obtain ⟨go, hgo⟩ : ∃ g, g = gk := ⟨_, rfl⟩
          obtain ⟨gp, hgp⟩ : ∃ g, gk = g + 1 := ⟨gk - 1, by omega⟩
          rw [hgp, rowG, if_neg (by omega)] at hres
          have CL := Lib.hid (rx_look hX 0 15 (by omega) (by omega))
          have CF := fun (W : World) (hw : Same (fun _ => False) wr W) => rx_find (bs := bs) (a := a4) hgL (by omega) A16 c16 b16 W (by rw [hL]; exact hc.kept hw (fun _ _ c => c))
          rw [hL] at CF
          cases hsy : symG L bs a4 with
          | bad e =>
            rw [hsy] at hres
            simp only at hres
            obtain ⟨hr, _⟩ := symR_bad hsy
            have he25 := (symG_bad hsy).2
            rw [hr] at CF
            have CF := fun (W : World) hw => Lib.hid (CF W hw)
            have HR := Lib.hid hres
            have e4 : ((e : Int) != 0) = true := by rw [bne_iff_ne]; omega
            clear hres hr hsy
            go_upto_region 28 with (first
              | (go_at_call 51; refine CL.out.mono ?_; rintro en w4 ⟨rfl, hB4⟩; have s4 := Below.sameF hB4)
              | (go_at_call 55; refine (CF _ s4).out.mono ?_; rintro en w5 ⟨rfl, hw⟩; subst hw))
            have kk6 := ((hX.same s4)).blk.cell 6
            have ff6 := ((hX.same s4)).blk.frozen 6
            have HXF := Lib.hid (((hX.same s4)).fail (e : Int))
            have HSF := Lib.hid (Same.set_ (S := fun k => k = p) (p := ⟨p, 6, none⟩) (Same.refl w5) (fun _ => rfl) (.int .i64 (e : Int)))
            have HSS := Lib.hid ((hs.then s4.any))
            go_wp2_with fail
            go_ret3
            show HdPost12 _ _ _ _ _ _ _ _ _ _ _ _ _ _ _
            rw [← HR.out]
            exact ⟨rfl, _, e, he25, HXF.out, HSS.out.then HSF.out⟩
          | ok sq =>
          obtain ⟨s, m'⟩ := sq
          rw [hsy] at hres
          simp only at hres
          obtain ⟨_, hq1, hq2, hsl2, _, hq3⟩ := symG_ok hsy
          have hs19 : s < 19 := by omega
          rw [symR_ok hsy] at CF
          have CF := fun (W : World) hw => Lib.hid (CF W hw)
          have HRES := Lib.hid hres
          have hal4 := hX.al
          clear hres hsy
          go_upto_region 30 with (first
            | (go_at_call 51; refine CL.out.mono ?_; rintro en w4 ⟨rfl, hB4⟩; have s4 := Below.sameF hB4)
            | (go_at_call 55; refine (CF _ s4).out.mono ?_; rintro en w5 ⟨rfl, hw⟩; subst hw))
          have h4 := hX.same s4
          have k1 : w5.cell? ⟨p, 1, none⟩ = some (.int .i64 a4) := h4.blk.cell 1
          have f1 := h4.blk.frozen 1
          have hm5 := h4.move (a' := a4 + m') (by unfold lf at hq1; omega)
          have hs5 : Same (fun k => k = p) w5 (w5.setCell ⟨p, 1, none⟩ (.int .i64 ((a4 + m' : Nat) : Int))) := Same.set_ (S := fun k => k = p) (p := ⟨p, 1, none⟩) (Same.refl w5) (fun _ => rfl) _
          obtain ⟨a5, ha5⟩ : ∃ a5, a4 + m' = a5 := ⟨_, rfl⟩
          have ha5i : (a4 : Int) + (m' : Int) = (a5 : Int) := by omega
          rw [ha5] at hm5 hs5
          have hres := HRES.out
          rw [ha5] at hres
          have ho5 := (ho.kept s4 (fun _ _ c => c)).kept hs5 (fun g hg e => by have := ho.base_le g hg; omega)
          have hc5 := (hc.kept s4 (fun _ _ c => c)).kept hs5 (fun g hg e => (hcp g hg).2 e)
          have hr5 := (hr18.same s4 (fun _ _ c => c)).same hs5 (fun ad e c => by have := ho.base_le _ (ha18 ad e); have c : ad.block = p := c; omega)
          have s5 := (hs.then s4.any).then hs5
          have hlo5 : lo ≤ (w5.setCell ⟨p, 1, none⟩ (.int .i64 (a5 : Int))).heap.size := Nat.le_trans (Nat.le_trans hlo2 s4.size) hs5.size
          have HRES := Lib.hid hres
          clear hres CL CF h4 ha5 hB4
          go_upto_region 31 with fail
          generalize w5.setCell ⟨p, 1, none⟩ (.int .i64 (a5 : Int)) = wb at *
          have h5 := hm5
          have hres := HRES.out
          clear hm5 HRES k1 f1 hs5 s4 ho hc hX hs hr18
          by_cases h16 : s < 16
          · have e2 : decide ((s : Int) < 16) = true := decide_eq_true (by omega)
            rw [rowOne, if_pos h16] at hres
            simp only at hres
            rw [if_neg (by omega)] at hres
            have HR := Lib.hid hres
            clear hres
            have hlen : (ints .i64 row).length + 1 = row.length + 1 := by simp [ints]
            have hXA := h5.same ((Same.refl (S := fun _ => False) wb).alloc (.cells #[.int .i64 (s : Int)] 3))
            have hsA := s5.alloc (.cells #[.int .i64 (s : Int)] 3)
            have hcA := hc5.alloc (.cells #[.int .i64 (s : Int)] 3)
            have hob := fun g hg => ho5.base_le g hg
            go_wp2_with (at_builtin; refine wpList_push lo rfl (.tmp 144) (.tmp 146) 97 3 (.int .i64 0) 8 rfl Try.underlying97 Try.intinf rfl _ _ (.int .i64 (s : Int)) ⟨wb.heap.size, 0, none⟩ 1 (row.length + 1) hlen rfl rfl (by simp) rfl (ho5.alloc _) (by simp; omega) (by omega) (by omega) ?_; intro g7 cap7 w9 ho9 hs9 hgb9 hgl9 hat9)
            go_roundg (go - 1)
            case measure => omega
            case rel => exact ⟨⟨row ++ List.replicate 1 (s : Int), a5, by simp; omega, by simp; omega, fun x hx => by
              rcases List.mem_append.1 hx with hx | hx
              · exact hwf x hx
              · have := List.eq_of_mem_replicate hx; omega, by rw [ints_append]; exact ho9, hcA.kept hs9 (fun g hg e => by have h1 := hob g e; have h2 := hcp g hg; omega), hXA.beyond hplo hvlo hs9 (fun k e => hob k e), same_beyond hsA hs9 hlo0 (fun k e => hob k e), Nat.le_trans hlo5 (by have := hs9.size; simp at this; omega), by rw [show go - 1 = gp from by omega]; exact HR.out⟩⟩
          have e2 : decide ((s : Int) < 16) = false := decide_eq_false (by omega)
          rw [rowOne, if_neg h16] at hres
          by_cases h17 : s = 16
          · subst h17
            rw [if_pos rfl] at hres
            by_cases hz : row.length = 0
            · rw [if_pos hz] at hres
              simp only at hres
              have HR := Lib.hid hres
              have e3 : (row.length == 0) = true := by simpa using hz
              have e3' : (((row.length : Nat) : Int) == 0) = true := by simp [hz]
              clear hres hz
              go_upto_region 34 with fail
              have kk6 := (h5).blk.cell 6
              have ff6 := (h5).blk.frozen 6
              have HXF := Lib.hid ((h5).fail 2)
              have HSF := Lib.hid (Same.set_ (S := fun k => k = p) (p := ⟨p, 6, none⟩) (Same.refl wb) (fun _ => rfl) (.int .i64 2))
              have HSS := Lib.hid (s5)
              go_wp2_with fail
              go_ret3
              show HdPost12 _ _ _ _ _ _ _ _ _ _ _ _ _ _ _
              rw [← HR.out]
              exact ⟨rfl, _, 2, by decide, HXF.out, HSS.out.then HSF.out⟩
            · rw [if_neg hz] at hres
              have e3 : (row.length == 0) = false := by simpa using hz
              have e3' : (((row.length : Nat) : Int) == 0) = false := by rw [beq_eq_false_iff_ne]; omega
              obtain ⟨z, hzz⟩ : ∃ z, row.length - 1 = z := ⟨_, rfl⟩
              rw [hzz] at hres
              obtain ⟨y, hyd⟩ : ∃ y, row.getD z 0 = y := ⟨_, rfl⟩
              have hyw : 0 ≤ y ∧ y ≤ 15 := hwf y (by rw [← hyd, List.getD_eq_getElem?_getD, List.getElem?_eq_getElem (by omega)]; exact List.getElem_mem _)
              rw [hyd] at hres
              have hz1 : (row.length : Int) - 1 = (z : Int) := by omega
              have hz2 : z < row.length := by omega
              obtain ⟨g18, cap18, hv18, _, _⟩ := World.ownsRow.form ho5 (by rw [ints_length]; omega)
              injection hv18 with q1 q2 q3
              subst q1 q3
              clear q2
              have HZ := Lib.hid hyd
              clear hz hyd hzz
              -- the symbol's times: 2 bits at a5, 3 more; the length is y
              by_cases hgt : lf bs a5 < 2
              · rw [getG_no hgt] at hres
                simp only at hres
                have HR := Lib.hid hres
                have CN := Lib.hid (rx_getno (h5.same ((Same.refl (S := fun _ => False) wb).alloc (.cells #[.int .i64 2, .int .i64 3, .int .i64 7] 3))) 2 (by decide) hgt)
                have S5 := Lib.hid (s5.alloc (.cells #[.int .i64 2, .int .i64 3, .int .i64 7] 3))
                clear hres
                go_upto_region 38 with (go_at_call 41; refine CN.out.mono ?_; rintro e w6 ⟨rfl, h6, hB6⟩)
                have kk6 := (h6).blk.cell 6
                have ff6 := (h6).blk.frozen 6
                have HXF := Lib.hid ((h6).fail 5)
                have HSF := Lib.hid (Same.set_ (S := fun k => k = p) (p := ⟨p, 6, none⟩) (Same.refl w6) (fun _ => rfl) (.int .i64 5))
                have HSS := Lib.hid ((S5.out.then (Below.sameF hB6).any))
                go_wp2_with fail
                go_ret3
                show HdPost12 _ _ _ _ _ _ _ _ _ _ _ _ _ _ _
                rw [← HR.out]
                exact ⟨rfl, _, 5, by decide, HXF.out, HSS.out.then HSF.out⟩
              rw [getG_at (by omega)] at hres
              simp only at hres
              have hvb : pk bs a5 2 < 2 ^ 2 := pk_lt bs a5 2
              have CG := Lib.hid (rx_get (h5.same ((Same.refl (S := fun _ => False) wb).alloc (.cells #[.int .i64 2, .int .i64 3, .int .i64 7] 3))) 2 (by decide) (by omega))
              have S5 := Lib.hid (s5.alloc (.cells #[.int .i64 2, .int .i64 3, .int .i64 7] 3))
              have O5 := Lib.hid (ho5.alloc (.cells #[.int .i64 2, .int .i64 3, .int .i64 7] 3))
              have C5 := Lib.hid (hc5.alloc (.cells #[.int .i64 2, .int .i64 3, .int .i64 7] 3))
              have hlo5' : lo ≤ (wb.alloc (.cells #[.int .i64 2, .int .i64 3, .int .i64 7] 3)).heap.size := by simp; omega
              generalize pk bs a5 2 = pv at *
              obtain ⟨t, ht⟩ : ∃ t, 3 + pv = t := ⟨_, rfl⟩
              have hti : (pv : Int) + 3 = (t : Int) := by omega
              rw [ht] at hres
              have HRES := Lib.hid hres
              have HT := Lib.hid ht
              clear hres ht hgt
              go_upto_region 40 with (go_at_call 41; refine CG.out.mono ?_; rintro e w6 ⟨rfl, h6, s6⟩)
              have hlo6 := Nat.le_trans hlo5' s6.size
              have ho6 := O5.out.kept s6 (fun g hg e => by have := ho5.base_le g hg; omega)
              have hc6 := C5.out.kept s6 (fun g hg e => by have := hcp g hg; omega)
              have s6 := S5.out.then s6
              have hA7 := (Same.refl (S := fun _ => False) w6).alloc (.cells #[.int .i64 3, .int .i64 3, .int .i64 11] 3)
              have h7 := h6.same hA7
              have s7 := s6.alloc (.cells #[.int .i64 3, .int .i64 3, .int .i64 11] 3)
              have ho7 := ho6.alloc (.cells #[.int .i64 3, .int .i64 3, .int .i64 11] 3)
              have hc7 := hc6.alloc (.cells #[.int .i64 3, .int .i64 3, .int .i64 11] 3)
              have hlo7 : lo ≤ (w6.alloc (.cells #[.int .i64 3, .int .i64 3, .int .i64 11] 3)).heap.size := by simp; omega
              go_upto_region 41 with fail
              generalize w6.alloc (.cells #[.int .i64 3, .int .i64 3, .int .i64 11] 3) = w7 at *
              clear CG S5 O5 C5 hlo5' h5 s5 ho5 hc5 h6 s6 ho6 hc6 hA7 hlo6
              have hres := HRES.out
              by_cases htm : n - row.length < t
              · rw [if_pos htm] at hres
                have HR := Lib.hid hres
                have d9 : decide ((n : Int) < (row.length : Int) + t) = true := by simp; omega
                clear hres HRES
                go_upto_region 42 with fail
                have kk6 := (h7).blk.cell 6
                have ff6 := (h7).blk.frozen 6
                have HXF := Lib.hid ((h7).fail 2)
                have HSF := Lib.hid (Same.set_ (S := fun k => k = p) (p := ⟨p, 6, none⟩) (Same.refl w7) (fun _ => rfl) (.int .i64 2))
                have HSS := Lib.hid (s7)
                go_wp2_with fail
                go_ret3
                show HdPost12 _ _ _ _ _ _ _ _ _ _ _ _ _ _ _
                rw [← HR.out]
                exact ⟨rfl, _, 2, by decide, HXF.out, HSS.out.then HSF.out⟩
              rw [if_neg htm] at hres
              have HR := Lib.hid hres
              have d9 : decide ((n : Int) < (row.length : Int) + t) = false := by simp; omega
              clear hres HRES
              have hcy := ho7.cellI (i := z) (by omega)
              rw [HZ.out] at hcy
              go_wp2_with fail
              go_loopg [18, 22] t (HcRel w B p A c vo bs out wide size most code L lo b16 (.slice A16 19 c16) row (a5 + 2) t (y))
              case atStart => exact ⟨⟨0, t, by omega, by omega, rfl, by rw [List.replicate_zero, List.append_nil]; exact ho7, hc7, h7, s7, hlo7⟩⟩
              case round =>
                obtain ⟨i, j, hij, hg', rfl, ho, hc, hX, hs, hlo⟩ := hrel.out_
                clear hrel h7 s7 ho7 hc7 hlo7
                rcases Nat.eq_zero_or_pos j with hj0 | hj0
                · subst hj0
                  rw [Nat.add_zero] at hij
                  subst hij
                  go_wp2_with fail
                  go_roundg (go - 1)
                  case measure => omega
                  case rel => exact ⟨⟨row ++ List.replicate i (y), a5 + 2, by simp; omega, by simp; omega, fun x hx => by
                    rcases List.mem_append.1 hx with hx | hx
                    · exact hwf x hx
                    · have := List.eq_of_mem_replicate hx; omega, ho, hc, hX, hs, hlo, by rw [show go - 1 = gp from by omega]; exact HR.out⟩⟩
                · have c3 : decide ((0 : Int) < j) = true := decide_eq_true (by omega)
                  have hlen : (ints .i64 (row ++ List.replicate i (y))).length + 1 = row.length + i + 1 := by simp [ints]
                  have hXA := hX.same ((Same.refl (S := fun _ => False) wr).alloc (.cells #[.int .i64 (y)] 3))
                  have hsA := hs.alloc (.cells #[.int .i64 (y)] 3)
                  have hcA := hc.alloc (.cells #[.int .i64 (y)] 3)
                  have hob := fun g hg => ho.base_le g hg
                  go_wp2_with (at_builtin; refine wpList_push lo rfl (.tmp 205) (.tmp 207) 97 3 (.int .i64 0) 8 rfl Try.underlying97 Try.intinf rfl _ _ (.int .i64 (y)) ⟨wr.heap.size, 0, none⟩ 1 (row.length + i + 1) hlen rfl rfl (by simp) rfl (ho.alloc _) (by simp; omega) (by omega) (by omega) ?_; intro g7 cap7 w9 ho9 hs9 hgb9 hgl9 hat9)
                  go_roundg (gk - 1)
                  case measure => omega
                  case rel => exact ⟨⟨i + 1, j - 1, by omega, by omega, congrArg (Value.int .i64) (by omega), by
                    rw [List.replicate_succ', ← List.append_assoc, ints_append]
                    exact ho9, hcA.kept hs9 (fun g hg e => by have h1 := hob g e; have h2 := hcp g hg; omega), hXA.beyond hplo hvlo hs9 (fun k e => hob k e), same_beyond hsA hs9 hlo0 (fun k e => hob k e), Nat.le_trans hlo (by have := hs9.size; simp at this; omega)⟩⟩
          · rw [if_neg h17] at hres
            have e4 : ((s : Int) == 16) = false := by rw [beq_eq_false_iff_ne]; omega
            have e4' : (s == 16) = false := by rw [beq_eq_false_iff_ne]; omega
            by_cases h18 : s = 17
            · subst h18
              rw [if_pos rfl] at hres
              -- the symbol's times: 3 bits at a5, 3 more; the length is 0
              by_cases hgt : lf bs a5 < 3
              · rw [getG_no hgt] at hres
                simp only at hres
                have HR := Lib.hid hres
                have CN := Lib.hid (rx_getno (h5.same ((Same.refl (S := fun _ => False) wb).alloc (.cells #[.int .i64 2, .int .i64 3, .int .i64 7] 3))) 3 (by decide) hgt)
                have S5 := Lib.hid (s5.alloc (.cells #[.int .i64 2, .int .i64 3, .int .i64 7] 3))
                clear hres
                go_upto_region 38 with (go_at_call 41; refine CN.out.mono ?_; rintro e w6 ⟨rfl, h6, hB6⟩)
                have kk6 := (h6).blk.cell 6
                have ff6 := (h6).blk.frozen 6
                have HXF := Lib.hid ((h6).fail 5)
                have HSF := Lib.hid (Same.set_ (S := fun k => k = p) (p := ⟨p, 6, none⟩) (Same.refl w6) (fun _ => rfl) (.int .i64 5))
                have HSS := Lib.hid ((S5.out.then (Below.sameF hB6).any))
                go_wp2_with fail
                go_ret3
                show HdPost12 _ _ _ _ _ _ _ _ _ _ _ _ _ _ _
                rw [← HR.out]
                exact ⟨rfl, _, 5, by decide, HXF.out, HSS.out.then HSF.out⟩
              rw [getG_at (by omega)] at hres
              simp only at hres
              have hvb : pk bs a5 3 < 2 ^ 3 := pk_lt bs a5 3
              have CG := Lib.hid (rx_get (h5.same ((Same.refl (S := fun _ => False) wb).alloc (.cells #[.int .i64 2, .int .i64 3, .int .i64 7] 3))) 3 (by decide) (by omega))
              have S5 := Lib.hid (s5.alloc (.cells #[.int .i64 2, .int .i64 3, .int .i64 7] 3))
              have O5 := Lib.hid (ho5.alloc (.cells #[.int .i64 2, .int .i64 3, .int .i64 7] 3))
              have C5 := Lib.hid (hc5.alloc (.cells #[.int .i64 2, .int .i64 3, .int .i64 7] 3))
              have hlo5' : lo ≤ (wb.alloc (.cells #[.int .i64 2, .int .i64 3, .int .i64 7] 3)).heap.size := by simp; omega
              generalize pk bs a5 3 = pv at *
              obtain ⟨t, ht⟩ : ∃ t, 3 + pv = t := ⟨_, rfl⟩
              have hti : (pv : Int) + 3 = (t : Int) := by omega
              rw [ht] at hres
              have HRES := Lib.hid hres
              have HT := Lib.hid ht
              clear hres ht hgt
              go_upto_region 40 with (go_at_call 41; refine CG.out.mono ?_; rintro e w6 ⟨rfl, h6, s6⟩)
              have hlo6 := Nat.le_trans hlo5' s6.size
              have ho6 := O5.out.kept s6 (fun g hg e => by have := ho5.base_le g hg; omega)
              have hc6 := C5.out.kept s6 (fun g hg e => by have := hcp g hg; omega)
              have s6 := S5.out.then s6
              have hA7 := (Same.refl (S := fun _ => False) w6).alloc (.cells #[.int .i64 3, .int .i64 3, .int .i64 11] 3)
              have h7 := h6.same hA7
              have s7 := s6.alloc (.cells #[.int .i64 3, .int .i64 3, .int .i64 11] 3)
              have ho7 := ho6.alloc (.cells #[.int .i64 3, .int .i64 3, .int .i64 11] 3)
              have hc7 := hc6.alloc (.cells #[.int .i64 3, .int .i64 3, .int .i64 11] 3)
              have hlo7 : lo ≤ (w6.alloc (.cells #[.int .i64 3, .int .i64 3, .int .i64 11] 3)).heap.size := by simp; omega
              go_upto_region 41 with fail
              generalize w6.alloc (.cells #[.int .i64 3, .int .i64 3, .int .i64 11] 3) = w7 at *
              clear CG S5 O5 C5 hlo5' h5 s5 ho5 hc5 h6 s6 ho6 hc6 hA7 hlo6
              have hres := HRES.out
              by_cases htm : n - row.length < t
              · rw [if_pos htm] at hres
                have HR := Lib.hid hres
                have d9 : decide ((n : Int) < (row.length : Int) + t) = true := by simp; omega
                clear hres HRES
                go_upto_region 42 with fail
                have kk6 := (h7).blk.cell 6
                have ff6 := (h7).blk.frozen 6
                have HXF := Lib.hid ((h7).fail 2)
                have HSF := Lib.hid (Same.set_ (S := fun k => k = p) (p := ⟨p, 6, none⟩) (Same.refl w7) (fun _ => rfl) (.int .i64 2))
                have HSS := Lib.hid (s7)
                go_wp2_with fail
                go_ret3
                show HdPost12 _ _ _ _ _ _ _ _ _ _ _ _ _ _ _
                rw [← HR.out]
                exact ⟨rfl, _, 2, by decide, HXF.out, HSS.out.then HSF.out⟩
              rw [if_neg htm] at hres
              have HR := Lib.hid hres
              have d9 : decide ((n : Int) < (row.length : Int) + t) = false := by simp; omega
              clear hres HRES
              skip
              go_wp2_with fail
              go_loopg [18, 22] t (HcRel w B p A c vo bs out wide size most code L lo b16 (.slice A16 19 c16) row (a5 + 3) t (0))
              case atStart => exact ⟨⟨0, t, by omega, by omega, rfl, by rw [List.replicate_zero, List.append_nil]; exact ho7, hc7, h7, s7, hlo7⟩⟩
              case round =>
                obtain ⟨i, j, hij, hg', rfl, ho, hc, hX, hs, hlo⟩ := hrel.out_
                clear hrel h7 s7 ho7 hc7 hlo7
                rcases Nat.eq_zero_or_pos j with hj0 | hj0
                · subst hj0
                  rw [Nat.add_zero] at hij
                  subst hij
                  go_wp2_with fail
                  go_roundg (go - 1)
                  case measure => omega
                  case rel => exact ⟨⟨row ++ List.replicate i (0), a5 + 3, by simp; omega, by simp; omega, fun x hx => by
                    rcases List.mem_append.1 hx with hx | hx
                    · exact hwf x hx
                    · have := List.eq_of_mem_replicate hx; omega, ho, hc, hX, hs, hlo, by rw [show go - 1 = gp from by omega]; exact HR.out⟩⟩
                · have c3 : decide ((0 : Int) < j) = true := decide_eq_true (by omega)
                  have hlen : (ints .i64 (row ++ List.replicate i (0))).length + 1 = row.length + i + 1 := by simp [ints]
                  have hXA := hX.same ((Same.refl (S := fun _ => False) wr).alloc (.cells #[.int .i64 (0)] 3))
                  have hsA := hs.alloc (.cells #[.int .i64 (0)] 3)
                  have hcA := hc.alloc (.cells #[.int .i64 (0)] 3)
                  have hob := fun g hg => ho.base_le g hg
                  go_wp2_with (at_builtin; refine wpList_push lo rfl (.tmp 205) (.tmp 207) 97 3 (.int .i64 0) 8 rfl Try.underlying97 Try.intinf rfl _ _ (.int .i64 (0)) ⟨wr.heap.size, 0, none⟩ 1 (row.length + i + 1) hlen rfl rfl (by simp) rfl (ho.alloc _) (by simp; omega) (by omega) (by omega) ?_; intro g7 cap7 w9 ho9 hs9 hgb9 hgl9 hat9)
                  go_roundg (gk - 1)
                  case measure => omega
                  case rel => exact ⟨⟨i + 1, j - 1, by omega, by omega, congrArg (Value.int .i64) (by omega), by
                    rw [List.replicate_succ', ← List.append_assoc, ints_append]
                    exact ho9, hcA.kept hs9 (fun g hg e => by have h1 := hob g e; have h2 := hcp g hg; omega), hXA.beyond hplo hvlo hs9 (fun k e => hob k e), same_beyond hsA hs9 hlo0 (fun k e => hob k e), Nat.le_trans hlo (by have := hs9.size; simp at this; omega)⟩⟩
            · rw [if_neg h18] at hres
              have : s = 18 := by omega
              subst this
              -- the symbol's times: 7 bits at a5, 11 more; the length is 0
              by_cases hgt : lf bs a5 < 7
              · rw [getG_no hgt] at hres
                simp only at hres
                have HR := Lib.hid hres
                have CN := Lib.hid (rx_getno (h5.same ((Same.refl (S := fun _ => False) wb).alloc (.cells #[.int .i64 2, .int .i64 3, .int .i64 7] 3))) 7 (by decide) hgt)
                have S5 := Lib.hid (s5.alloc (.cells #[.int .i64 2, .int .i64 3, .int .i64 7] 3))
                clear hres
                go_upto_region 38 with (go_at_call 41; refine CN.out.mono ?_; rintro e w6 ⟨rfl, h6, hB6⟩)
                have kk6 := (h6).blk.cell 6
                have ff6 := (h6).blk.frozen 6
                have HXF := Lib.hid ((h6).fail 5)
                have HSF := Lib.hid (Same.set_ (S := fun k => k = p) (p := ⟨p, 6, none⟩) (Same.refl w6) (fun _ => rfl) (.int .i64 5))
                have HSS := Lib.hid ((S5.out.then (Below.sameF hB6).any))
                go_wp2_with fail
                go_ret3
                show HdPost12 _ _ _ _ _ _ _ _ _ _ _ _ _ _ _
                rw [← HR.out]
                exact ⟨rfl, _, 5, by decide, HXF.out, HSS.out.then HSF.out⟩
              rw [getG_at (by omega)] at hres
              simp only at hres
              have hvb : pk bs a5 7 < 2 ^ 7 := pk_lt bs a5 7
              have CG := Lib.hid (rx_get (h5.same ((Same.refl (S := fun _ => False) wb).alloc (.cells #[.int .i64 2, .int .i64 3, .int .i64 7] 3))) 7 (by decide) (by omega))
              have S5 := Lib.hid (s5.alloc (.cells #[.int .i64 2, .int .i64 3, .int .i64 7] 3))
              have O5 := Lib.hid (ho5.alloc (.cells #[.int .i64 2, .int .i64 3, .int .i64 7] 3))
              have C5 := Lib.hid (hc5.alloc (.cells #[.int .i64 2, .int .i64 3, .int .i64 7] 3))
              have hlo5' : lo ≤ (wb.alloc (.cells #[.int .i64 2, .int .i64 3, .int .i64 7] 3)).heap.size := by simp; omega
              generalize pk bs a5 7 = pv at *
              obtain ⟨t, ht⟩ : ∃ t, 11 + pv = t := ⟨_, rfl⟩
              have hti : (pv : Int) + 11 = (t : Int) := by omega
              rw [ht] at hres
              have HRES := Lib.hid hres
              have HT := Lib.hid ht
              clear hres ht hgt
              go_upto_region 40 with (go_at_call 41; refine CG.out.mono ?_; rintro e w6 ⟨rfl, h6, s6⟩)
              have hlo6 := Nat.le_trans hlo5' s6.size
              have ho6 := O5.out.kept s6 (fun g hg e => by have := ho5.base_le g hg; omega)
              have hc6 := C5.out.kept s6 (fun g hg e => by have := hcp g hg; omega)
              have s6 := S5.out.then s6
              have hA7 := (Same.refl (S := fun _ => False) w6).alloc (.cells #[.int .i64 3, .int .i64 3, .int .i64 11] 3)
              have h7 := h6.same hA7
              have s7 := s6.alloc (.cells #[.int .i64 3, .int .i64 3, .int .i64 11] 3)
              have ho7 := ho6.alloc (.cells #[.int .i64 3, .int .i64 3, .int .i64 11] 3)
              have hc7 := hc6.alloc (.cells #[.int .i64 3, .int .i64 3, .int .i64 11] 3)
              have hlo7 : lo ≤ (w6.alloc (.cells #[.int .i64 3, .int .i64 3, .int .i64 11] 3)).heap.size := by simp; omega
              go_upto_region 41 with fail
              generalize w6.alloc (.cells #[.int .i64 3, .int .i64 3, .int .i64 11] 3) = w7 at *
              clear CG S5 O5 C5 hlo5' h5 s5 ho5 hc5 h6 s6 ho6 hc6 hA7 hlo6
              have hres := HRES.out
              by_cases htm : n - row.length < t
              · rw [if_pos htm] at hres
                have HR := Lib.hid hres
                have d9 : decide ((n : Int) < (row.length : Int) + t) = true := by simp; omega
                clear hres HRES
                go_upto_region 42 with fail
                have kk6 := (h7).blk.cell 6
                have ff6 := (h7).blk.frozen 6
                have HXF := Lib.hid ((h7).fail 2)
                have HSF := Lib.hid (Same.set_ (S := fun k => k = p) (p := ⟨p, 6, none⟩) (Same.refl w7) (fun _ => rfl) (.int .i64 2))
                have HSS := Lib.hid (s7)
                go_wp2_with fail
                go_ret3
                show HdPost12 _ _ _ _ _ _ _ _ _ _ _ _ _ _ _
                rw [← HR.out]
                exact ⟨rfl, _, 2, by decide, HXF.out, HSS.out.then HSF.out⟩
              rw [if_neg htm] at hres
              have HR := Lib.hid hres
              have d9 : decide ((n : Int) < (row.length : Int) + t) = false := by simp; omega
              clear hres HRES
              skip
              go_wp2_with fail
              go_loopg [18, 22] t (HcRel w B p A c vo bs out wide size most code L lo b16 (.slice A16 19 c16) row (a5 + 7) t (0))
              case atStart => exact ⟨⟨0, t, by omega, by omega, rfl, by rw [List.replicate_zero, List.append_nil]; exact ho7, hc7, h7, s7, hlo7⟩⟩
              case round =>
                obtain ⟨i, j, hij, hg', rfl, ho, hc, hX, hs, hlo⟩ := hrel.out_
                clear hrel h7 s7 ho7 hc7 hlo7
                rcases Nat.eq_zero_or_pos j with hj0 | hj0
                · subst hj0
                  rw [Nat.add_zero] at hij
                  subst hij
                  go_wp2_with fail
                  go_roundg (go - 1)
                  case measure => omega
                  case rel => exact ⟨⟨row ++ List.replicate i (0), a5 + 7, by simp; omega, by simp; omega, fun x hx => by
                    rcases List.mem_append.1 hx with hx | hx
                    · exact hwf x hx
                    · have := List.eq_of_mem_replicate hx; omega, ho, hc, hX, hs, hlo, by rw [show go - 1 = gp from by omega]; exact HR.out⟩⟩
                · have c3 : decide ((0 : Int) < j) = true := decide_eq_true (by omega)
                  have hlen : (ints .i64 (row ++ List.replicate i (0))).length + 1 = row.length + i + 1 := by simp [ints]
                  have hXA := hX.same ((Same.refl (S := fun _ => False) wr).alloc (.cells #[.int .i64 (0)] 3))
                  have hsA := hs.alloc (.cells #[.int .i64 (0)] 3)
                  have hcA := hc.alloc (.cells #[.int .i64 (0)] 3)
                  have hob := fun g hg => ho.base_le g hg
                  go_wp2_with (at_builtin; refine wpList_push lo rfl (.tmp 205) (.tmp 207) 97 3 (.int .i64 0) 8 rfl Try.underlying97 Try.intinf rfl _ _ (.int .i64 (0)) ⟨wr.heap.size, 0, none⟩ 1 (row.length + i + 1) hlen rfl rfl (by simp) rfl (ho.alloc _) (by simp; omega) (by omega) (by omega) ?_; intro g7 cap7 w9 ho9 hs9 hgb9 hgl9 hat9)
                  go_roundg (gk - 1)
                  case measure => omega
                  case rel => exact ⟨⟨i + 1, j - 1, by omega, by omega, congrArg (Value.int .i64) (by omega), by
                    rw [List.replicate_succ', ← List.append_assoc, ints_append]
                    exact ho9, hcA.kept hs9 (fun g hg e => by have h1 := hob g e; have h2 := hcp g hg; omega), hXA.beyond hplo hvlo hs9 (fun k e => hob k e), same_beyond hsA hs9 hlo0 (fun k e => hob k e), Nat.le_trans hlo (by have := hs9.size; simp at this; omega)⟩⟩
        · have hrn : row.length = n := by omega
          have e1 : decide ((row.length : Int) < n) = false := decide_eq_false (by omega)
          have e1' : decide (row.length < n) = false := decide_eq_false (by omega)
          have hr2 : rowG L bs n gk row a4 = .ok (row, a4) := by
            cases gk with
            | zero => rfl
            | succ k => rw [rowG, if_pos (by omega)]
          rw [hr2, restK] at hres
          have HRES := Lib.hid hres
          have hcap18 := hr18.cap
          have hmost18 := hr18.most
          have hmn : m + k = n := HN.out
          have htl : (row.take m).length = m := by rw [List.length_take]; omega
          have hdl : (row.drop m).length = k := by rw [List.length_drop]; omega
          have hwT : ∀ x ∈ row.take m, 0 ≤ x ∧ x ≤ 15 := fun x hx => hwf x (List.mem_of_mem_take hx)
          have hwD : ∀ x ∈ row.drop m, 0 ≤ x ∧ x ≤ 15 := fun x hx => hwf x (List.mem_of_mem_drop hx)
          obtain ⟨g18, cap18, hv18, _, _⟩ := World.ownsRow.form ho (by rw [ints_length]; omega)
          injection hv18 with q1 q2 q3
          subst q1 q3
          clear q2
          have hc256 := ho.cellI (i := 256) (by omega)
          have hrT := hr18.takeI m
          have hrD := hr18.dropI m (by omega)
          rw [if_neg (by omega), Option.map_some, Addr.add_lit, Nat.zero_add] at hrD
          have q1 : (m : Int) ≤ (c18 : Int) := by omega
          have q2 : (m : Int) ≤ (n : Int) := by omega
          have q3 : (0 : Int) ≤ (m : Int) := by omega
          have q4 : IntKind.i64.wrap (m : Int) = (m : Int) := IntWalk.i64_in _ (by omega)
          have q6 : n - m = k := by omega
          have hk1 : (256 : Nat) < m := by omega
          have hLA := hc
          have CK1 := fun (W : World) (hs : Same (fun _ => False) wr W) => ref_kind (some ⟨g18, 0, none⟩) c18 (row.take m) W (hrT.same hs (fun _ _ c => c)) (by omega)
          have CK2 := fun (W : World) (hs : Same (fun _ => False) wr W) => ref_kind (some ⟨g18, m, none⟩) (c18 - m) (row.drop m) W (hrD.same hs (fun _ _ c => c)) (by omega)
          have CC1 := fun (W : World) (hs : Same (fun _ => False) wr W) (h0 : codesErr (row.take m) = 0) => ref_codes_ok (some ⟨g18, 0, none⟩) c18 (row.take m) W (hrT.same hs (fun _ _ c => c)) (code_kr h0).1 (code_kr h0).2 (by omega) hwT
          have CC2 := fun (W : World) (hs : Same (fun _ => False) wr W) (h0 : codesErr (row.drop m) = 0) => ref_codes_ok (some ⟨g18, m, none⟩) (c18 - m) (row.drop m) W (hrD.same hs (fun _ _ c => c)) (code_kr h0).1 (code_kr h0).2 (by omega) hwD
          have ht1 : kind (row.take m) = 1 ∨ kind (row.take m) = 2 → codesErr (row.take m) = 0 := fun h => code_ok (by omega) (by omega)
          have ht2 : kind (row.drop m) = 1 ∨ kind (row.drop m) = 2 ∨ kind (row.drop m) = 0 → codesErr (row.drop m) = 0 := fun h => code_ok (by omega) h
          have hkr2 := kind_range (row.drop m)
          have hlT : (row.take m).length ≤ 300 := by omega
          have hlD : (row.drop m).length ≤ 32 := by omega
          rw [htl] at CK1 CC1
          rw [hdl] at CK2 CC2
          have HTL := Lib.hid htl
          have HDL := Lib.hid hdl
          have HRN := Lib.hid hrn
          obtain ⟨y, hy⟩ : ∃ y, row.getD 256 0 = y := ⟨_, rfl⟩
          rw [hy] at hc256
          have hres := HRES.out
          rw [hy] at hres
          generalize row.take m = la at *
          generalize row.drop m = ld at *
          obtain ⟨K1, hK1⟩ : ∃ x, kind la = x := ⟨_, rfl⟩
          obtain ⟨K2, hK2⟩ : ∃ x, kind ld = x := ⟨_, rfl⟩
          rw [hK1] at hres
          rw [hK2] at hres hkr2
          simp only [hK1] at CK1 ht1
          simp only [hK2] at CK2 ht2
          have CK1 := Lib.hid CK1
          have CK2 := Lib.hid CK2
          have HRES := Lib.hid hres
          rw [hrn]
          clear hres hr2 htl hdl hrn hy hmn hrT hrD hr18 ho hmk1
          go_upto_region 50 with fail
          refine wp_region_ext (fun _ => False) (by kernel_rfl) (by kernel_rfl) ?_
          repeat (go_big_quiet_step (fail))
          refine wpQuiet_nil ?_
          rintro _ ⟨d, rfl⟩
          have hXd := hX.same d.same
          have hsd := hs.then d.same.any
          have kd256 := d.same.cell hc256 (fun c => c)
          go_upto_region 52 with (first
            | (go_at_call 54; with_reducible refine (CK1.out _ d.same).mono ?_; rintro e w7 ⟨rfl, hw⟩; subst hw)
            | (go_at_call 54; with_reducible refine (CK2.out _ d.same).mono ?_; rintro e w8 ⟨rfl, hw⟩; subst hw)
            | fail)
          have hres := HRES.out
          have hw8 : ∀ (b : Bool), (b = true → (y = 0 ∨ ¬(K1 = 1 ∨ K1 = 2) ∨ ¬(K2 = 1 ∨ K2 = 2 ∨ K2 = 0))) → True := fun _ _ => trivial
          clear HRES CK1 CK2 hw8
          obtain ⟨bb, hbb⟩ : ∃ bb : Bool, bb = decide (y = 0 ∨ ¬(K1 = 1 ∨ K1 = 2) ∨ ¬(K2 = 1 ∨ K2 = 2 ∨ K2 = 0)) := ⟨_, rfl⟩
          have HBB := Lib.hid hbb
          have HRES := Lib.hid hres
          have HC1 := Lib.hid CC1
          have HC2 := Lib.hid CC2
          have HT1 := Lib.hid ht1
          have HT2 := Lib.hid ht2
          have HKR := Lib.hid hkr2
          clear hres hbb CC1 CC2 ht1 ht2 hkr2
          obtain ⟨w7, hw7⟩ : ∃ x, x = d.world := ⟨_, rfl⟩
          have SD := Lib.hid d.same
          rw [← hw7] at hXd hsd kd256 SD ⊢
          clear hw7
          go_cut [240] (fun s240 wx => s240 = .bool bb ∧ wx = w7)
          case first =>
            as_aux_lemma =>
              have hbb := HBB.out
              have hkr2 := HKR.out
              clear HBB HRES HC1 HC2 HT1 HT2
              by_cases hy0 : y = 0
              · rw [decide_eq_true (.inl hy0)] at hbb
                subst hbb
                have c1 : (y == 0) = true := by rw [beq_iff_eq]; exact hy0
                clear hy0
                go_wp2_with fail
                all_goals (go_meet; exact ⟨rfl, rfl⟩)
              have c1 : (y == 0) = false := by rw [beq_eq_false_iff_ne]; exact hy0
              by_cases hk12 : K1 = 1 ∨ K1 = 2
              · by_cases hk2 : K2 = 1 ∨ K2 = 2 ∨ K2 = 0
                · rw [decide_eq_false (by omega)] at hbb
                  subst hbb
                  have c4 : (K2 == 3) = false := by rw [beq_eq_false_iff_ne]; omega
                  have c5 : (K2 == 4) = false := by rw [beq_eq_false_iff_ne]; omega
                  clear hk2 hy0
                  rcases hk12 with rfl | rfl
                  · go_wp2_with fail
                    all_goals (go_meet; exact ⟨rfl, rfl⟩)
                  · go_wp2_with fail
                    all_goals (go_meet; exact ⟨rfl, rfl⟩)
                · rw [decide_eq_true (by omega)] at hbb
                  subst hbb
                  have hk34 : K2 = 3 ∨ K2 = 4 := by omega
                  clear hk2 hy0
                  rcases hk12 with rfl | rfl
                  · rcases hk34 with rfl | rfl
                    · go_wp2_with fail
                      all_goals (go_meet; exact ⟨rfl, rfl⟩)
                    · go_wp2_with fail
                      all_goals (go_meet; exact ⟨rfl, rfl⟩)
                  · rcases hk34 with rfl | rfl
                    · go_wp2_with fail
                      all_goals (go_meet; exact ⟨rfl, rfl⟩)
                    · go_wp2_with fail
                      all_goals (go_meet; exact ⟨rfl, rfl⟩)
              · rw [decide_eq_true (by omega)] at hbb
                subst hbb
                have c2 : (K1 != 1) = true := by rw [bne_iff_ne]; omega
                have c3 : (K1 != 2) = true := by rw [bne_iff_ne]; omega
                clear hk12 hy0
                go_wp2_with fail
                all_goals (go_meet; exact ⟨rfl, rfl⟩)
          case rest =>
            as_aux_lemma =>
              obtain ⟨rfl, hwx⟩ := hcut
              subst hwx
              have hbb := HBB.out
              have hres := HRES.out
              cases bb with
              | true =>
                have hbad := of_decide_eq_true hbb.symm
                rw [if_pos hbad] at hres
                have HR := Lib.hid hres
                clear hres hbb hbad HBB HRES
                go_upto_region 53 with fail
                have kk6 := (hXd).blk.cell 6
                have ff6 := (hXd).blk.frozen 6
                have HXF := Lib.hid ((hXd).fail 2)
                have HSF := Lib.hid (Same.set_ (S := fun k => k = p) (p := ⟨p, 6, none⟩) (Same.refl wc) (fun _ => rfl) (.int .i64 2))
                have HSS := Lib.hid (hsd)
                go_wp2_with fail
                go_ret3
                show HdPost12 _ _ _ _ _ _ _ _ _ _ _ _ _ _ _
                rw [← HR.out]
                exact ⟨rfl, _, 2, by decide, HXF.out, HSS.out.then HSF.out⟩
              | false =>
                have hbad := of_decide_eq_false hbb.symm
                rw [if_neg hbad] at hres
                have HR := Lib.hid hres
                have he1 := HT1.out (by omega)
                have he2 := HT2.out (by omega)
                have C1 := Lib.hid (HC1.out _ SD.out he1)
                have C2 := HC2.out
                have HE1 := Lib.hid he1
                have HE2 := Lib.hid he2
                clear hres hbb hbad HBB HRES he1 he2
                go_upto_region 56 with (go_at_call 50; refine C1.out.mono ?_; rintro e w8 ⟨v8, rfl, ho8, hB8⟩)
                have hX8 := hXd.belo hB8
                have C2 := Lib.hid (C2 _ (SD.out.then (Below.sameF hB8)) HE2.out)
                have hs8 := hsd.then (Below.sameF hB8).any
                go_wp2_with (go_at_call 50; refine C2.out.mono ?_; rintro e w9 ⟨v9, rfl, ho9, hB9⟩)
                go_ret3
                show HdPost12 _ _ _ _ _ _ _ _ _ _ _ _ _ _ _
                rw [← HR.out]
                obtain ⟨A8, c8, e8, _⟩ := ho8.shape
                obtain ⟨A9, c9, e9, _⟩ := ho9.shape
                have l8 : (strs la).length = la.length := by simp [strs]
                have l9 : (strs ld).length = ld.length := by simp [strs]
                rw [l8] at e8
                rw [l9] at e9
                subst e8 e9
                exact ⟨A8, c8, A9, c9, rfl, own_lo (ho8.kept (Below.sameF hB9) (fun _ _ c => c)) hsd.size, own_lo ho9 hs8.size, good_of HE1.out, good_of HE2.out, hlT, hlD, hX8.belo hB9, hs8.then (Below.sameF hB9).any⟩
end Go.Proofs.Yteknaaijlkenkaa
