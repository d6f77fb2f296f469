import Derived.Test.YtnnjpbghnfohaaaLzP
import Derived.Test.YtnnjpbghnfohaaaRows
import Derived.Recover
namespace Go.Proofs.Ytnnjpbghnfohaaa
set_option linter.unusedVariables false
set_option linter.unusedSimpArgs false
open Go.RowKit
attribute [local go_sem] max2i min2i max2t min2t

theorem Try.u8info2 : (Try.prog.info? 5).map (fun i => (i.zero, i.size, i.bytes)) = some (some (.int .u8 0), 1, 1) := by kernel_rfl
theorem drop_at {α : Type} {l : List α} {k : Nat} {x : α} (h : l[k]? = some x) : l.drop k = x :: l.drop (k + 1) := by
  have hk := (List.getElem?_eq_some_iff.1 h).1
  rw [List.drop_eq_getElem_cons hk, (List.getElem?_eq_some_iff.1 h).2]
def tokV (t : Tok) : Value := .agg #[.int .i64 t.f0, .int .i64 t.f1, .int .u8 t.f2]

/-- 'may', by its numbers. -/
def mayN (a b c : Int) (wide : Bool) : Bool :=
  if a = 0 then b == 0
  else c == 0 && decide (3 ≤ a) && decide (a ≤ if wide then 65538 else 258) && decide (1 ≤ b) && decide (b ≤ if wide then 65536 else 32768)
theorem may_eq (t : Tok) (wide : Bool) : may wide t = mayN t.f0 t.f1 t.f2 wide := rfl

set_option maxHeartbeats 1600000 in
set_option maxRecDepth 100000 in
theorem ref_may (a b c : Int) (wide : Bool) (w : World) :
    Calls Try.prog 20 #[.agg #[.int .i64 a, .int .i64 b, .int .u8 c], .bool wide] w fun e w' => e = .returned (.bool (mayN a b c wide)) ∧ Same (fun _ => False) w w' := by
  generalize hr : mayN a b c wide = r
  have HR := Lib.hid hr
  clear hr
  by_cases h0 : a = 0
  · have h0' : (a == 0) = true := by simp [h0]
    have H0 := Lib.hid h0
    have h0i : a ≤ 0 := by omega
    clear h0
    by_cases h1 : b = 0
    · have h1' : (b == 0) = true := by simp [h1]
      have H1 := Lib.hid h1
      clear h1
      go_enter Try.func20, Try.ntmps20
      go_wp2
      go_ret
      refine ⟨?_, (Same.refl _).alloc _⟩
      rw [← HR.out, mayN, if_pos H0.out, H1.out]; rfl
    · have h1' : (b == 0) = false := by simp [h1]
      have h1i : b < 0 ∨ 0 < b := by omega
      have H1 := Lib.hid h1
      clear h1
      cases wide <;>
      · go_enter Try.func20, Try.ntmps20
        go_wp2
        all_goals go_ret
        all_goals refine ⟨?_, (Same.refl _).alloc _⟩
        all_goals rw [← HR.out, mayN, if_pos H0.out, h1']
        all_goals clear HR H0 H1
        all_goals simp_all
        all_goals omega
  · have h0' : (a == 0) = false := by simp [h0]
    have h0i : a < 0 ∨ 0 < a := by omega
    have H0 := Lib.hid h0
    clear h0
    cases wide <;>
    · go_enter Try.func20, Try.ntmps20
      go_wp2
      all_goals go_ret
      all_goals refine ⟨?_, (Same.refl _).alloc _⟩
      all_goals rw [← HR.out, mayN, if_neg H0.out]
      all_goals clear HR H0
      all_goals simp_all <;> omega

structure RefRel (w : World) (l : List Tok) (wide : Bool) (most : Int) (g : Nat) (v9 v10 : Value) (wr : World) : Prop where mk ::
  out_ : ∃ (k : Nat) (out : List Int), k ≤ l.length ∧ l.length ≤ g + k ∧ v10 = .int .i64 (k : Int) ∧ expand wide most l 0 [] = expand wide most (l.drop k) k out ∧
    Own wr w.heap.size 5 v9 (ints .u8 out) ∧ out.length ≤ most ∧ Below w.heap.size w wr
structure RefRel2 (w w1 : World) (o : Nat) (out : List Int) (D M : Nat) (g : Nat) (v9 v13 : Value) (wr : World) : Prop where mk ::
  out_ : ∃ j : Nat, j ≤ M ∧ M ≤ g + j ∧ v13 = .int .i64 (j : Int) ∧ Own wr w.heap.size 5 v9 (ints .u8 (ext out D j)) ∧ Blk wr o 45 #[.int .i64 M, .int .i64 D, .int .u8 0] ∧ Below w.heap.size w wr

set_option maxHeartbeats 1600000 in
set_option maxRecDepth 100000 in
theorem ref_expand (A : Option Addr) (c : Nat) (l : List Tok) (wide : Bool) (most : Int) (w : World) (h00 : RowS w 3 A c l S45.enc (S45.ok w)) (hm0 : 0 ≤ most) (hm1 : most ≤ 1073741824) :
    Calls Try.prog 16 #[.slice A l.length c, .bool wide, .int .i64 most] w fun e w' => ∃ v, e = .returned (.tuple #[v, .int .i64 ((expand wide most l 0 []).2.1 : Nat), .int .i64 (expand wide most l 0 []).2.2]) ∧
      Own w' w.heap.size 5 v (ints .u8 (expand wide most l 0 []).1) ∧ Below w.heap.size w w' := by
  have hm := h00.most
  have hcap := h00.cap
  generalize hres : expand wide most l 0 [] = res
  have HRES := Lib.hid hres
  clear hres
  go_enter Try.func16, Try.ntmps16
  go_wp2_with fail
  go_loopg [9, 10] l.length (RefRel w l wide most)
  case atStart => exact ⟨0, [], by omega, by omega, rfl, by simp, Own.nil _ _ _, by simpa using hm0, Below.refl _ _⟩
  case round =>
    obtain ⟨k, out, hk, hg, rfl, hex, hO, hlen, hb⟩ := hrel
    have HEX := Lib.hid hex
    clear hex
    have hO' := Lib.hid hO
    obtain ⟨A9, c9, rfl, _, _, _, _⟩ := hO.rdb
    clear hO
    by_cases hlt : k < l.length
    · obtain ⟨x, hx⟩ : ∃ x, l[k]? = some x := ⟨_, List.getElem?_eq_getElem hlt⟩
      obtain ⟨b, off, rfl, c0, c1, c2⟩ := S45.at_ h00 hb hx
      obtain ⟨a, d, y⟩ := x
      simp only at c0 c1 c2
      have hmy := fun W => Lib.hid (ref_may a d y wide W)
      by_cases h1 : may wide ⟨a, d, y⟩ = true
      · have h1' : mayN a d y wide = true := h1
        simp only [h1'] at hmy
        by_cases h2 : (out.length : Int) < d
        · have hw : wrong wide most out.length ⟨a, d, y⟩ = 2 := by rw [wrong, if_pos (.inr h2)]
          have hW := Lib.hid hw
          clear hw h1 h1'
          have hdr := Lib.hid (drop_at hx)
          clear hx
          go_wp2_with fail
          refine (hmy _).out.mono ?_
          rintro e w1 ⟨rfl, hs⟩
          have f5 := (Blk.new wr 45 #[.int .i64 a, .int .i64 d, .int .u8 y]).same hs (fun c => c)
          have hb1 := hs.below_of (hb.alloc hb.size _) (by have := hb.size; simp; omega) (fun i hi c => c)
          have hO1 := (hO'.out.alloc (.cells #[.int .i64 a, .int .i64 d, .int .u8 y] 45)).kept hs (fun _ _ c => c)
          have hbw := hb.size
          have hz1 := hs.size
          rw [World.size_alloc] at hz1
          clear c0 c1 c2 hs hb hO'
          generalize wr.heap.size = o at *
          have c0 := f5.cell 0
          have c1 := f5.cell 1
          have c2 := f5.cell 2
          have hres2 : res = ([], k, 2) := by rw [← HRES.out, HEX.out, hdr.out, expand, hW.out]; rfl
          subst hres2
          go_wp2_with fail
          go_ret3
          exact ⟨_, rfl, Own.nil _ _ _, hb1⟩
        · by_cases h3 : most - out.length < max a 1
          · have hw : wrong wide most out.length ⟨a, d, y⟩ = 3 := by rw [wrong, if_neg (by simp [h1]; omega), if_pos h3]
            have hW := Lib.hid hw
            clear hw h1 h1'
            have hdr := Lib.hid (drop_at hx)
            clear hx
            go_wp2_with fail
            refine (hmy _).out.mono ?_
            rintro e w1 ⟨rfl, hs⟩
            have f5 := (Blk.new wr 45 #[.int .i64 a, .int .i64 d, .int .u8 y]).same hs (fun c => c)
            have hb1 := hs.below_of (hb.alloc hb.size _) (by have := hb.size; simp; omega) (fun i hi c => c)
            have hO1 := (hO'.out.alloc (.cells #[.int .i64 a, .int .i64 d, .int .u8 y] 45)).kept hs (fun _ _ c => c)
            have hbw := hb.size
            have hz1 := hs.size
            rw [World.size_alloc] at hz1
            clear c0 c1 c2 hs hb hO'
            generalize wr.heap.size = o at *
            have c0 := f5.cell 0
            have c1 := f5.cell 1
            have c2 := f5.cell 2
            have hres2 : res = ([], k, 3) := by rw [← HRES.out, HEX.out, hdr.out, expand, hW.out]; rfl
            subst hres2
            go_wp2_with fail
            go_ret3
            exact ⟨_, rfl, Own.nil _ _ _, hb1⟩
          · have hw : wrong wide most out.length ⟨a, d, y⟩ = 0 := by rw [wrong, if_neg (by simp [h1]; omega), if_neg h3]
            have hW := Lib.hid hw
            have hlit := fun h0 => may_lit h1 h0
            have hmat := fun h0 => may_match h1 h0
            simp only at hlit hmat
            clear hw h1 h1'
            by_cases h0 : a = 0
            · subst h0
              have hd := hlit rfl
              subst hd
              clear hlit hmat
              have hdr := Lib.hid (drop_at hx)
              clear hx
              go_wp2_with fail
              refine (hmy _).out.mono ?_
              rintro e w1 ⟨rfl, hs⟩
              have f5 := (Blk.new wr 45 #[.int .i64 0, .int .i64 0, .int .u8 y]).same hs (fun c => c)
              have hb1 := hs.below_of (hb.alloc hb.size _) (by have := hb.size; simp; omega) (fun i hi c => c)
              have hO1 := (hO'.out.alloc (.cells #[.int .i64 0, .int .i64 0, .int .u8 y] 45)).kept hs (fun _ _ c => c)
              have hbw := hb.size
              have hz1 := hs.size
              rw [World.size_alloc] at hz1
              clear c0 c1 c2 hs hb hO'
              generalize wr.heap.size = o at *
              have c0 := f5.cell 0
              have c1 := f5.cell 1
              have c2 := f5.cell 2
              have hEX2 : res = expand wide most (l.drop (k + 1)) (k + 1) (more out ⟨0, 0, y⟩) := by
                rw [← HRES.out, HEX.out, hdr.out, expand, if_pos hW.out]
              have HEX2 := Lib.hid hEX2
              clear hEX2
              have HO := Lib.hid hO1
              clear hO1
              go_wp2_with (at_builtin; go_loud (refine wpList_app1 w.heap.size rfl (.tmp 49) (.tmp 52) 22 5 (.int .u8 0) 1 rfl Try.underlying22 Try.u8info2 rfl (.slice A9 out.length c9) _ (.int .u8 y) ⟨w1.heap.size, 0, none⟩ 1 rfl rfl ?c1 rfl (HO.out.alloc _) ?c2 ?c3 ?c4 ?_))
              case c1 => simp
              case c2 => have := hb1.size; simp; omega
              case c3 => simp [ints]; omega
              case c4 => simp [ints]; omega
              intro v2 w2 ho2 hs2 hat
              have hbb := fun g hg => HO.out.base_le g hg
              have hb2 := hs2.below_of (hb1.alloc hb1.size _) (by have := hb1.size; simp; omega) (fun i hi c => by have := hbb i c; omega)
              have hO3 : Own w2 w.heap.size 5 v2 (ints .u8 (more out ⟨0, 0, y⟩)) := by
                rw [more, if_pos rfl, ints_append]; exact ho2
              have hml : (more out ⟨0, 0, y⟩).length ≤ most := by rw [more_length, if_pos rfl]; omega
              go_wp2_with fail
              go_roundg (gk - 1)
              case measure => omega
              case rel => exact ⟨k + 1, more out ⟨0, 0, y⟩, by omega, by omega, by go_num, by rw [HRES.out]; exact HEX2.out, hO3, hml, hb2⟩
            · obtain ⟨hd, ha1, ha2, hd1, hd2⟩ := hmat h0
              clear hlit hmat
              have h0' : (a == 0) = false := by simp [h0]
              obtain ⟨D, rfl⟩ : ∃ D : Nat, d = D := ⟨d.toNat, by omega⟩
              obtain ⟨M, rfl⟩ : ∃ M : Nat, a = M := ⟨a.toNat, by omega⟩
              clear h0
              subst hd
              have b18 : decide (out.length < D) = false := by simp; omega
              have b29 : decide (most - out.length < max (M : Int) 1) = false := by simp; omega
              have hDl : D ≤ out.length := by omega
              have hMl : (M : Int) + out.length ≤ most := by omega
              have hdr := Lib.hid (drop_at hx)
              clear hx
              go_wp2_with fail
              refine (hmy _).out.mono ?_
              rintro e w1 ⟨rfl, hs⟩
              have f5 := (Blk.new wr 45 #[.int .i64 M, .int .i64 D, .int .u8 0]).same hs (fun c => c)
              have hb1 := hs.below_of (hb.alloc hb.size _) (by have := hb.size; simp; omega) (fun i hi c => c)
              have hO1 := (hO'.out.alloc (.cells #[.int .i64 M, .int .i64 D, .int .u8 0] 45)).kept hs (fun _ _ c => c)
              have hbw := hb.size
              have hz1 := hs.size
              rw [World.size_alloc] at hz1
              clear c0 c1 c2 hs hb hO'
              generalize wr.heap.size = o at *
              have c0 := f5.cell 0
              have c1 := f5.cell 1
              have c2 := f5.cell 2
              have hEX2 : res = expand wide most (l.drop (k + 1)) (k + 1) (more out ⟨M, D, 0⟩) := by
                rw [← HRES.out, HEX.out, hdr.out, expand, if_pos hW.out]
              have HEX2 := Lib.hid hEX2
              clear hEX2
              go_wp2_with fail
              go_loopg [9, 13] M (RefRel2 w w1 o out D M)
              case atStart => exact ⟨0, by omega, by omega, rfl, hO1, f5, hb1⟩
              case round =>
                rename Nat => gq
                clear hO1 f5 hb1 c0 c1 c2
                obtain ⟨j, hj, hgj, rfl, hO2, f5, hb2⟩ := hrel
                have hL := ext_length out D j
                by_cases hjM : j < M
                · have hne := hO2.blk_ne f5 (by decide)
                  have HO := Lib.hid hO2
                  obtain ⟨A7, c7, rfl, hc7, hc8, hR, hA7⟩ := hO2.rdb
                  generalize hcur : ext out D j = cur at *
                  have Hcur := Lib.hid hcur
                  have HL := Lib.hid hL
                  have hcl : cur.length ≤ 1073741824 := by omega
                  have hclD : D ≤ cur.length := by omega
                  clear hcur hL
                  rcases hR with ⟨rfl, rfl⟩ | ⟨b7, o7, rfl, hcell⟩
                  · simp at hclD; omega
                  have hc9 := hcell (cur.length - D) (by omega)
                  have hne7 : b7 ≠ o := fun e => hne (congrArg some e)
                  have hbl7 : w.heap.size ≤ b7 := HO.out.base_le _ rfl
                  have c0 := f5.cell 0
                  have c1 := f5.cell 1
                  clear hcell hO2
                  go_wp2_with (at_builtin; go_loud (refine wpList_app1 w.heap.size rfl (.tmp 60) (.tmp 69) 22 5 (.int .u8 0) 1 rfl Try.underlying22 Try.u8info2 rfl (.slice (some ⟨b7, o7, none⟩) cur.length c7) _ (.int .u8 (cur.getD (cur.length - D) 0)) ⟨wr.heap.size, 0, none⟩ 1 rfl rfl ?d1 rfl (HO.out.alloc _) ?d2 ?d3 ?d4 ?_))
                  case d1 => simp [List.getD_eq_getElem?_getD]
                  case d2 => have := hb2.size; first | omega | (simp; omega)
                  case d3 => simp [ints]; omega
                  case d4 => simp [ints]; omega
                  intro v8 w8 ho8 hs8 hat
                  have ho9 : Own w8 w.heap.size 5 v8 (ints .u8 (ext out D (j + 1))) := by
                    rw [ext, Hcur.out, ints_append]; exact ho8
                  have f9 := (f5.alloc (.cells #[.int .u8 (cur.getD (cur.length - D) 0)] 5)).same (hs8) (fun e => by have e2 : b7 = o := (by first | exact e | simpa [Value.ownBlock] using e); exact hne7 e2)
                  have hb9 := hs8.below_of (hb2.alloc hb2.size _) (by have := hb2.size; simp; omega) (fun i hi e => by have e2 : b7 = i := (by first | exact e | simpa [Value.ownBlock] using e); omega)
                  clear ho8 hs8 f5
                  go_wp2_with fail
                  go_roundg (gq - 1)
                  case measure => omega
                  case rel => exact ⟨j + 1, by omega, by omega, by go_num, ho9, f9, hb9⟩
                · have hjM2 : j = M := by omega
                  subst hjM2
                  have c0 := f5.cell 0
                  have hml : (more out ⟨j, D, 0⟩).length ≤ most := by rw [more_length, if_neg (by simp only; omega)]; simp only; omega
                  have hmo : ext out D j = more out ⟨j, D, 0⟩ := by rw [more, if_neg (by simp only; omega)]; rfl
                  rw [hmo] at hO2
                  have HO := Lib.hid hO2
                  have HML := Lib.hid hml
                  clear hL hO2 hmo hml
                  go_wp2_with fail
                  go_roundg (gk - 1)
                  case measure => omega
                  case rel => exact ⟨k + 1, more out ⟨j, D, 0⟩, by omega, by omega, by go_num, by rw [HRES.out]; exact HEX2.out, HO.out, HML.out, hb2⟩
      · have h1' : mayN a d y wide = false := by rw [← Bool.not_eq_true]; exact h1
        simp only [h1'] at hmy
        have hw : wrong wide most out.length ⟨a, d, y⟩ = 2 := by rw [wrong, if_pos (.inl (by simpa using h1))]
        have hW := Lib.hid hw
        clear hw h1 h1'
        have hdr := Lib.hid (drop_at hx)
        clear hx
        go_wp2_with fail
        refine (hmy _).out.mono ?_
        rintro e w1 ⟨rfl, hs⟩
        have f5 := (Blk.new wr 45 #[.int .i64 a, .int .i64 d, .int .u8 y]).same hs (fun c => c)
        have hb1 := hs.below_of (hb.alloc hb.size _) (by have := hb.size; simp; omega) (fun i hi c => c)
        have hO1 := (hO'.out.alloc (.cells #[.int .i64 a, .int .i64 d, .int .u8 y] 45)).kept hs (fun _ _ c => c)
        have hbw := hb.size
        have hz1 := hs.size
        rw [World.size_alloc] at hz1
        clear c0 c1 c2 hs hb hO'
        generalize wr.heap.size = o at *
        have c0 := f5.cell 0
        have c1 := f5.cell 1
        have c2 := f5.cell 2
        have hres2 : res = ([], k, 2) := by rw [← HRES.out, HEX.out, hdr.out, expand, hW.out]; rfl
        subst hres2
        go_wp2_with fail
        go_ret3
        exact ⟨_, rfl, Own.nil _ _ _, hb1⟩
    · have hkl : k = l.length := by omega
      subst hkl
      have hres2 : res = (out, 0, 0) := by
        rw [← HRES.out, HEX.out, List.drop_length, expand]
      subst hres2
      go_wp2_with fail
      go_ret3
      exact ⟨_, rfl, hO'.out, hb⟩
end Go.Proofs.Ytnnjpbghnfohaaa
