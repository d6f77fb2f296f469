import Derived.Test.YteknaaijlkenkaaInfE
import Derived.Deep.WholeRow
namespace Go.Proofs.Yteknaaijlkenkaa
set_option linter.unusedVariables false
set_option linter.unusedSimpArgs false
open Go.RowKit
attribute [local go_sem] max2i min2i max2t min2t

theorem RowOf.takeI {w : World} {k : IntKind} {A : Option Addr} {c : Nat} {xs : List Int} (h : RowOf w k A c xs) (n : Nat) : RowOf w k A c (xs.take n) :=
  ⟨h.rd.take n, by have := h.cap; rw [List.length_take]; omega, h.most, fun x hx => h.wf x (List.mem_of_mem_take hx), h.nil⟩
theorem RowOf.dropI {w : World} {k : IntKind} {A : Option Addr} {c : Nat} {xs : List Int} (h : RowOf w k A c xs) (n : Nat) (hn : n ≤ xs.length) : RowOf w k (if c = n then A else A.map (fun x => x.add n)) (c - n) (xs.drop n) := by
  have hc := h.cap
  refine ⟨fun i x hx => ?_, by rw [List.length_drop]; omega, by have := h.most; omega, fun x hx => h.wf x (List.mem_of_mem_drop hx), fun e => ?_⟩
  · rw [List.getElem?_drop] at hx
    obtain ⟨ad, e, hcell⟩ := h.rd _ x hx
    have hlt := (List.getElem?_eq_some_iff.1 hx).1
    rw [if_neg (by omega)]
    refine ⟨ad.add n, by rw [e]; rfl, ?_⟩
    rw [Go.Deep.add_add]; exact hcell
  · split at e
    · have := h.nil e; omega
    · cases hA : A with
      | none => have := h.nil hA; omega
      | some ad => rw [hA] at e; cases e
/-- What a row of lengths is like. -/
theorem rowOne_fine {bs out : List Int} {s a : Nat} {v : Int} {t a' : Nat} (h : rowOne bs out s a = .ok (v, t, a')) (ho : ∀ x ∈ out, 0 ≤ x ∧ x ≤ 15) : 0 ≤ v ∧ v ≤ 15 ∧ 1 ≤ t := by
  unfold rowOne at h
  split at h
  · injection h with h; simp only [Prod.mk.injEq] at h; omega
  · split at h
    · split at h
      · cases h
      · rename_i h0
        split at h
        · cases h
        · injection h with h
          simp only [Prod.mk.injEq] at h
          have : out.getD (out.length - 1) 0 ∈ out := by
            rw [List.getD_eq_getElem?_getD, List.getElem?_eq_getElem (by omega)]; exact List.getElem_mem _
          have := ho _ this
          omega
    · split at h
      · split at h
        · cases h
        · injection h with h; simp only [Prod.mk.injEq] at h; omega
      · split at h
        · cases h
        · injection h with h; simp only [Prod.mk.injEq] at h; omega
theorem rowG_fine {l bs : List Int} {m : Nat} {row : List Int} {a : Nat} : ∀ (k : Nat) (out : List Int) (at_ : Nat), rowG l bs m k out at_ = .ok (row, a) → m - out.length ≤ k → out.length ≤ m → (∀ x ∈ out, 0 ≤ x ∧ x ≤ 15) → row.length = m ∧ ∀ x ∈ row, 0 ≤ x ∧ x ≤ 15
  | 0, out, at_, h, h1, h2, h3 => by
    rw [rowG] at h
    injection h with h
    simp only [Prod.mk.injEq] at h
    rw [← h.1]
    exact ⟨by omega, h3⟩
  | k + 1, out, at_, h, h1, h2, h3 => by
    rw [rowG] at h
    split at h
    · injection h with h
      simp only [Prod.mk.injEq] at h
      rw [← h.1]
      exact ⟨by omega, h3⟩
    · rename_i hlt
      split at h
      · cases h
      · split at h
        · cases h
        · rename_i v t a' hone
          obtain ⟨f1, f2, f3⟩ := rowOne_fine hone h3
          split at h
          · cases h
          · rename_i hmt
            refine rowG_fine k _ _ h (by simp; omega) (by simp; omega) (fun x hx => ?_)
            rcases List.mem_append.1 hx with hx | hx
            · exact h3 x hx
            · have := List.eq_of_mem_replicate hx; omega
def z19 : Array Value := #[.int .i64 0, .int .i64 0, .int .i64 0, .int .i64 0, .int .i64 0, .int .i64 0, .int .i64 0, .int .i64 0, .int .i64 0, .int .i64 0, .int .i64 0, .int .i64 0, .int .i64 0, .int .i64 0, .int .i64 0, .int .i64 0, .int .i64 0, .int .i64 0, .int .i64 0]
def ordA : Array Value := #[.int .i64 16, .int .i64 17, .int .i64 18, .int .i64 0, .int .i64 8, .int .i64 7, .int .i64 9, .int .i64 6, .int .i64 10, .int .i64 5, .int .i64 11, .int .i64 4, .int .i64 12, .int .i64 3, .int .i64 13, .int .i64 2, .int .i64 14, .int .i64 1, .int .i64 15]
set_option maxHeartbeats 1600000 in
set_option maxRecDepth 100000 in
theorem inf_order (w : World) :
    Calls Try.prog 78 #[] w fun e w' => e = .returned (.agg ordA) ∧ Below w.heap.size w w' := by
  go_enter Try.func78, Try.ntmps78
  go_wp2_with (refine wpList_store_row rfl 118 (.tmp 0) (.tmp 1) rfl w.heap.size ordA rfl rfl 118 z19 (heap_alloc_last w _) (by kernel_rfl) (by kernel_rfl) (by kernel_rfl) ?_; rw [World.setRow_alloc_new])
  refine bodyPost_ret (results_cell_row rfl _ _ w.heap.size 118 ordA (0, 0) _ rfl (heap_alloc_last w _) Try.underlying118 rfl (by kernel_rfl)) rfl ?_
  exact ⟨rfl, (Below.refl _ _).alloc (Nat.le_refl _) _⟩
structure IhRel (w : World) (p q : Nat) (cs : Array Value) (A : Option Addr) (c : Nat) (bs : List Int) (n4 m k : Nat) (res : G (List Int × List Int × Nat)) (g : Nat) (s43 : Value) (wr : World) : Prop where mk ::
  out_ : ∃ (i at_ : Nat) (L : List Int), i ≤ 19 ∧ g = 19 - i ∧ s43 = .int .i64 i ∧ L.length = 19 ∧ (∀ x ∈ L, 0 ≤ x ∧ x ≤ 15) ∧ Blk wr q 118 (ints .i64 L).toArray ∧ CurAt wr p (cs.setIfInBounds 4 (.int .i64 (at_ : Nat))) A c bs at_ ∧ Same (fun g => g = p) w wr ∧ q < wr.heap.size ∧ headK bs m k (smallG bs ((ordL.take n4).drop i) L at_) = res
theorem ordL_len : ordL.length = 19 := rfl
theorem ord_at : ∀ i, i < 19 → ∃ s : Nat, s < 19 ∧ (∀ W : World, (Instr.index 118 (.agg ordA) (.int .i64 (i : Nat))).run Try.prog W = .ok (.int .i64 s) W) ∧ ordL[i]? = some s := by
  intro i hi
  match i, hi with
  | 0, _ => exact ⟨16, by decide, fun W => by kernel_rfl, rfl⟩
  | 1, _ => exact ⟨17, by decide, fun W => by kernel_rfl, rfl⟩
  | 2, _ => exact ⟨18, by decide, fun W => by kernel_rfl, rfl⟩
  | 3, _ => exact ⟨0, by decide, fun W => by kernel_rfl, rfl⟩
  | 4, _ => exact ⟨8, by decide, fun W => by kernel_rfl, rfl⟩
  | 5, _ => exact ⟨7, by decide, fun W => by kernel_rfl, rfl⟩
  | 6, _ => exact ⟨9, by decide, fun W => by kernel_rfl, rfl⟩
  | 7, _ => exact ⟨6, by decide, fun W => by kernel_rfl, rfl⟩
  | 8, _ => exact ⟨10, by decide, fun W => by kernel_rfl, rfl⟩
  | 9, _ => exact ⟨5, by decide, fun W => by kernel_rfl, rfl⟩
  | 10, _ => exact ⟨11, by decide, fun W => by kernel_rfl, rfl⟩
  | 11, _ => exact ⟨4, by decide, fun W => by kernel_rfl, rfl⟩
  | 12, _ => exact ⟨12, by decide, fun W => by kernel_rfl, rfl⟩
  | 13, _ => exact ⟨3, by decide, fun W => by kernel_rfl, rfl⟩
  | 14, _ => exact ⟨13, by decide, fun W => by kernel_rfl, rfl⟩
  | 15, _ => exact ⟨2, by decide, fun W => by kernel_rfl, rfl⟩
  | 16, _ => exact ⟨14, by decide, fun W => by kernel_rfl, rfl⟩
  | 17, _ => exact ⟨1, by decide, fun W => by kernel_rfl, rfl⟩
  | 18, _ => exact ⟨15, by decide, fun W => by kernel_rfl, rfl⟩
  | i + 19, h => omega
theorem ord_drop {n4 i s : Nat} (h : i < n4) (hn : n4 ≤ 19) (hs : ordL[i]? = some s) : (ordL.take n4).drop i = s :: (ordL.take n4).drop (i + 1) := by
  have hl : i < (ordL.take n4).length := by rw [List.length_take, ordL_len]; omega
  rw [List.drop_eq_getElem_cons hl]
  congr 1
  have : (ordL.take n4)[i]? = some s := by rw [List.getElem?_take_of_lt h]; exact hs
  rw [List.getElem?_eq_getElem hl] at this
  exact Option.some.inj this
def HeadPost (w : World) (p : Nat) (cs : Array Value) (A : Option Addr) (c : Nat) (bs : List Int) (res : G (List Int × List Int × Nat)) (e : Ending) (w' : World) : Prop :=
  match res with
  | .ok (la, ld, a) => (∃ p1 p2 b1 b2 : Nat, e = .returned (.tuple #[.pointer (some ⟨p1, 0, none⟩), .pointer (some ⟨p2, 0, none⟩)]) ∧ TOk w' b1 la p1 9 ∧ TOk w' b2 ld p2 6 ∧ w.heap.size ≤ p1 ∧ w.heap.size ≤ p2) ∧ CurAt w' p (cs.setIfInBounds 4 (.int .i64 (a : Nat))) A c bs a ∧ Same (fun g => g = p) w w'
  | .bad x => e = .panicked [faultI x] ∧ (∃ a : Nat, CurAt w' p (cs.setIfInBounds 4 (.int .i64 (a : Nat))) A c bs a) ∧ Same (fun g => g = p) w w'
set_option maxHeartbeats 4000000 in
set_option maxRecDepth 100000 in
theorem cur_head {w : World} {p : Nat} {cs : Array Value} {A : Option Addr} {c : Nat} {bs : List Int} {n : Nat} (h : CurAt w p cs A c bs n) (wide : Bool) :
    Calls Try.prog 67 #[.pointer (some ⟨p, 3, none⟩), .bool wide] w fun e w' => HeadPost w p cs A c bs (headG wide bs n) e w' := by
  obtain ⟨res, hres⟩ : ∃ r, headG wide bs n = r := ⟨_, rfl⟩
  rw [hres]
  have hlt0 := Blk.lt h.pb
  rw [headG] at hres
  go_enter Try.func67, Try.ntmps67
  have h0 : CurAt w p (cs.setIfInBounds 4 (.int .i64 (n : Nat))) A c bs n := by rw [set4_fix h.at_]; exact h
  -- 5 bits at the bit n of the world $w (cursor h, so far Same.refl w): on with the world w1
  by_cases hg1 : lf bs (n) < 5
  · rw [getG, if_pos hg1] at hres
    have HR := Lib.hid hres
    clear hres
    go_wp2_with fail
    refine (cur_get_bad h 5 (by omega) hg1).mono ?_
    rintro e w9 ⟨rfl, hs9⟩
    go_wp2_with fail
    refine ⟨rfl, ?_⟩
    show HeadPost _ _ _ _ _ _ _ _ _
    rw [← HR.out]
    exact ⟨rfl, ⟨_, (h0).same hs9⟩, (Same.refl w).then hs9.any⟩
  rw [getG, if_neg hg1] at hres
  simp only at hres
  have hv1 := pk_lt bs (n) 5
  go_wp2_with fail
  refine (cur_get_ok h 5 (by omega) (by omega)).mono ?_
  rintro e w1 ⟨rfl, h1, hs1⟩
  have hv1' : pk bs n 5 < 32 := hv1
  obtain ⟨m, hm⟩ : ∃ m, pk bs n 5 + 257 = m := ⟨_, rfl⟩
  have hmi : ((pk bs n 5 : Nat) : Int) + 257 = (m : Int) := by omega
  rw [hm] at hres
  by_cases hl1 : 286 < m
  · have e1 : decide ((286 : Int) < (m : Int)) = true := by simp; omega
    rw [if_pos hl1] at hres
    have HR := Lib.hid hres
    clear hres
    go_wp2_with fail
    refine (cur_fail _ _ 2).mono ?_
    rintro e w9 ⟨rfl, rfl⟩
    go_wp2_with fail
    refine ⟨rfl, ?_⟩
    show HeadPost _ _ _ _ _ _ _ _ _
    rw [← HR.out]
    exact ⟨rfl, ⟨_, h1⟩, hs1⟩
  have e1 : decide ((286 : Int) < (m : Int)) = false := by simp; omega
  rw [if_neg hl1] at hres
  have hm257 : 257 ≤ m ∧ m ≤ 286 := by omega
  -- 5 bits at the bit n + 5 of the world $w (cursor h1, so far hs1): on with the world w2
  by_cases hg2 : lf bs (n + 5) < 5
  · rw [getG, if_pos hg2] at hres
    have HR := Lib.hid hres
    clear hres
    go_wp2_with fail
    refine (cur_get_bad h1 5 (by omega) hg2).mono ?_
    rintro e w9 ⟨rfl, hs9⟩
    go_wp2_with fail
    refine ⟨rfl, ?_⟩
    show HeadPost _ _ _ _ _ _ _ _ _
    rw [← HR.out]
    exact ⟨rfl, ⟨_, (h1).same hs9⟩, (hs1).then hs9.any⟩
  rw [getG, if_neg hg2] at hres
  simp only at hres
  have hv2 := pk_lt bs (n + 5) 5
  go_wp2_with fail
  refine (cur_get_ok h1 5 (by omega) (by omega)).mono ?_
  rintro e w2 ⟨rfl, h2, hs2⟩
  rw [set44] at h2
  have hs2 := hs1.then hs2
  have hv2' : pk bs (n + 5) 5 < 32 := hv2
  obtain ⟨k, hk⟩ : ∃ k, pk bs (n + 5) 5 + 1 = k := ⟨_, rfl⟩
  have hki : ((pk bs (n + 5) 5 : Nat) : Int) + 1 = (k : Int) := by omega
  rw [hk] at hres
  have hk32 : 1 ≤ k ∧ k ≤ 32 := by omega
  by_cases hl2 : 30 < k ∧ wide = false
  · rw [if_pos hl2] at hres
    obtain ⟨hl2, hl3⟩ := hl2
    subst hl3
    have e2 : decide ((30 : Int) < (k : Int)) = true := by simp; omega
    have HR := Lib.hid hres
    clear hres
    go_wp2_with fail
    refine (cur_fail _ _ 2).mono ?_
    rintro e w9 ⟨rfl, rfl⟩
    go_wp2_with fail
    refine ⟨rfl, ?_⟩
    show HeadPost _ _ _ _ _ _ _ _ _
    rw [← HR.out]
    exact ⟨rfl, ⟨_, h2⟩, hs2⟩
  rw [if_neg hl2] at hres
  have hl2' : 30 < k → wide = true := fun h => by cases wide; exact absurd ⟨h, rfl⟩ hl2; rfl
  have e2 : decide ((30 : Int) < (k : Int)) = false ∨ wide = true := by
    by_cases h : 30 < k
    · exact .inr (hl2' h)
    · left; simp; omega
  go_upto_region 5 with fail
  go_cut [36] (fun s36 wx => s36 = .bool false ∧ wx = w2)
  case first =>
    rcases e2 with e2 | rfl
    · go_wp2_with fail
      all_goals (go_meet; exact ⟨rfl, rfl⟩)
    · go_wp2_with fail
      all_goals (go_meet; exact ⟨rfl, rfl⟩)
  case rest =>
  obtain ⟨rfl, hwx⟩ := hcut
  subst hwx
  -- 4 bits at the bit n + 5 + 5 of the world $w (cursor h2, so far hs2): on with the world w3
  by_cases hg3 : lf bs (n + 5 + 5) < 4
  · rw [getG, if_pos hg3] at hres
    have HR := Lib.hid hres
    clear hres
    go_wp2_with fail
    refine (cur_get_bad h2 4 (by omega) hg3).mono ?_
    rintro e w9 ⟨rfl, hs9⟩
    go_wp2_with fail
    refine ⟨rfl, ?_⟩
    show HeadPost _ _ _ _ _ _ _ _ _
    rw [← HR.out]
    exact ⟨rfl, ⟨_, (h2).same hs9⟩, (hs2).then hs9.any⟩
  rw [getG, if_neg hg3] at hres
  simp only at hres
  have hv3 := pk_lt bs (n + 5 + 5) 4
  go_wp2_with fail
  refine (cur_get_ok h2 4 (by omega) (by omega)).mono ?_
  rintro e w3 ⟨rfl, h3, hs3⟩
  rw [set44] at h3
  have hs3 := hs2.then hs3
  have hv3' : pk bs (n + 5 + 5) 4 < 16 := hv3
  generalize pk bs (n + 5 + 5) 4 = c4 at *
  have hL0 : z19 = (ints .i64 (List.replicate 19 0)).toArray := by kernel_rfl
  have hbq : Blk (w3.alloc (.cells z19 118)) w3.heap.size 118 (ints .i64 (List.replicate 19 0)).toArray := by rw [← hL0]; exact Blk.new w3 118 z19
  have hs3a : Same (fun g => g = p) w (w3.alloc (.cells z19 118)) := hs3.alloc _
  have h3a := h3.same ((Same.refl (S := fun _ => False) w3).alloc (.cells z19 118))
  have hqz : w3.heap.size < (w3.alloc (.cells z19 118)).heap.size := by simp
  have hwq : w.heap.size ≤ w3.heap.size := hs3.size
  unfold z19 at hbq hs3a h3a hqz
  go_wp2_with fail
  generalize w3.alloc (.cells #[.int .i64 0, .int .i64 0, .int .i64 0, .int .i64 0, .int .i64 0, .int .i64 0, .int .i64 0, .int .i64 0, .int .i64 0, .int .i64 0, .int .i64 0, .int .i64 0, .int .i64 0, .int .i64 0, .int .i64 0, .int .i64 0, .int .i64 0, .int .i64 0, .int .i64 0] 118) = w4 at *
  generalize w3.heap.size = q at *
  clear h3 hs3 h2 hs2 h1 hs1 hL0 e1 hv1 hv2 hv3 hmi hki hm hk hv1' hv2'
  refine (inf_order w4).mono ?_
  rintro e w5 ⟨rfl, hb5⟩
  have hs45 := Same.of_below (S := fun _ => False) hb5
  have h5 := h3a.same hs45
  have hs5 := hs3a.then hs45.any
  have hbq5 := hbq.same hs45 (fun c => c)
  have hq5 : q < w5.heap.size := Nat.lt_of_lt_of_le hqz hs45.size
  have HRES := Lib.hid hres
  have hrep : ∀ x ∈ List.replicate 19 (0 : Int), 0 ≤ x ∧ x ≤ 15 := fun x hx => by have := List.eq_of_mem_replicate hx; omega
  clear h3a hs3a hbq hqz hb5 hs45 hres
  go_wp2_with fail
  go_loopg [43] 19 (IhRel w p q cs A c bs (c4 + 4) m k res)
  case atStart => exact ⟨⟨0, n + 5 + 5 + 4, List.replicate 19 0, by omega, by omega, rfl, List.length_replicate, hrep, hbq5, h5, hs5, hq5, HRES.out⟩⟩
  case round =>
    obtain ⟨i, at_, L, hi, hg, rfl, hL, hLw, hbq, hcur, hs, hq, hres⟩ := hrel.out_
    clear hrel hbq5 h5 hs5 hq5 HRES hrep
    by_cases hlt : i < 19
    · have e1 : decide ((i : Int) < 19) = true := by simp; omega
      obtain ⟨s, hs19, hoA, hoL⟩ := ord_at i hlt
      by_cases h4 : i < c4 + 4
      · have e4 : decide ((i : Int) < (c4 : Int) + 4) = true := by simp; omega
        rw [ord_drop h4 (by omega) hoL, smallG] at hres
        have hoW := hoA wr
        by_cases hgt : lf bs at_ < 3
        · rw [getG, if_pos hgt] at hres
          have HR := Lib.hid hres
          clear hres
          go_wp2_with fail
          refine (cur_get_bad hcur 3 (by omega) hgt).mono ?_
          rintro e w9 ⟨rfl, hs9⟩
          go_wp2_with fail
          refine ⟨rfl, ?_⟩
          show HeadPost _ _ _ _ _ _ _ _ _
          rw [← HR.out]
          exact ⟨rfl, ⟨_, hcur.same hs9⟩, hs.then hs9.any⟩
        · rw [getG, if_neg hgt] at hres
          simp only at hres
          have hv : pk bs at_ 3 < 8 := pk_lt bs at_ 3
          have CG := cur_get_ok hcur 3 (by omega) (by omega)
          generalize pk bs at_ 3 = v at *
          have HR := Lib.hid hres
          clear hres
          go_wp2_with fail
          refine CG.mono ?_
          rintro e w6 ⟨rfl, h6, hs6⟩
          rw [set44] at h6
          have hqp : q ≠ p := by omega
          have hs6' := hs.then hs6
          have hbq6 := hbq.same hs6 (fun e => hqp e)
          have hq6 : q < w6.heap.size := Nat.lt_of_lt_of_le hq hs6.size
          have fz := hbq6.frozen s
          have fc : w6.cell? ⟨q, s, none⟩ = some (.int .i64 (L.getD s 0)) := by
            rw [hbq6.cell]
            have hl : s < L.length := by omega
            simp [ints, hl]
          have hb7 := hbq6.set_ s (.int .i64 (v : Int))
          rw [ints_set] at hb7
          have h7 := h6.kept (S := fun k => k = q) (Same.set_ (S := fun k => k = q) (p := ⟨q, s, none⟩) (Same.refl w6) (fun _ => rfl) (.int .i64 (v : Int))) (fun e => hqp e.symm) (fun ad e c => by have := h.lt ad e; have c : ad.block = q := c; omega)
          have hs7 : Same (fun g => g = p) w (w6.setCell ⟨q, s, none⟩ (.int .i64 (v : Int))) := hs6'.set_ (fun c => by have c : q < w.heap.size := c; omega) _
          have HB := Lib.hid hb7
          have hsL : L.length = 19 := hL
          clear hb7 hbq hbq6 hcur hs hs6 CG
          go_wp2_with fail
          go_roundg (gk - 1)
          case measure => omega
          case rel => exact ⟨⟨i + 1, at_ + 3, L.set s v, by omega, by omega, by go_num, by rw [List.length_set]; exact hL, fun x hx => by
            rcases List.mem_or_eq_of_mem_set hx with hx | rfl
            · exact hLw x hx
            · omega, HB.out, h7, hs7, by simpa using hq6, HR.out⟩⟩
      · have e4 : decide ((i : Int) < (c4 : Int) + 4) = false := by simp; omega
        have hoW := hoA wr
        have hd : (ordL.take (c4 + 4)).drop i = (ordL.take (c4 + 4)).drop (i + 1) := by
          rw [List.drop_eq_nil_of_le (by rw [List.length_take, ordL_len]; omega), List.drop_eq_nil_of_le (by rw [List.length_take, ordL_len]; omega)]
        rw [hd] at hres
        have HR := Lib.hid hres
        clear hres hd
        go_wp2_with fail
        go_roundg (gk - 1)
        case measure => omega
        case rel => exact ⟨⟨i + 1, at_, L, by omega, by omega, by go_num, hL, hLw, hbq, hcur, hs, hq, HR.out⟩⟩
    · have e1 : decide ((i : Int) < 19) = false := by simp; omega
      have hd : (ordL.take (c4 + 4)).drop i = [] := List.drop_eq_nil_of_le (by rw [List.length_take, ordL_len]; omega)
      rw [hd, smallG, headK] at hres
      have hrL := arr_row hbq hL (by omega) hLw
      have hb1 := RowOf.lit wr .i64 3 [1] (by decide) (by simp)
      have hal := (Same.refl (S := fun _ => False) wr).alloc (.cells (ints .i64 [1]).toArray 3)
      have C1 := inf_kinds (some ⟨q, 0, none⟩) 19 L _ _ [1] _ (hrL.same hal (fun _ _ c => c)) hb1 (by simp)
      rw [hL] at C1
      have hcur1 := hcur.same hal
      have hs1 := hs.then hal.any
      have hrL1 := hrL.same hal (fun _ _ c => c)
      rw [show (ints .i64 [1]).toArray = #[.int .i64 1] from rfl] at C1 hcur1 hs1 hrL1
      rw [show ([1] : List Int).length = 1 from rfl] at C1
      have hq1 : q < (wr.alloc (.cells #[.int .i64 1] 3)).heap.size := by simp; omega
      clear hd hb1 hal hrL hcur hs hbq
      by_cases hkL : kind L = 1
      · have hdk : decide (kind L ∈ ([1] : List Int)) = true := by simp [hkL]
        rw [hdk] at C1
        rw [if_neg (fun c => c hkL)] at hres
        have hce := code_ok (by omega) (.inl hkL)
        clear hdk
        have HRES := Lib.hid hres
        clear hres
        go_wp2_with fail
        refine C1.mono ?_
        rintro e w7 ⟨rfl, rfl⟩
        generalize wr.alloc (.cells #[.int .i64 1] 3) = w6 at *
        have C2 := tab_new hrL1 hce 7 (by omega) (by omega)
        rw [hL] at C2
        clear C1
        go_wp2_with fail
        refine C2.mono ?_
        rintro e w7 ⟨pt, rfl, hT7, hpt, hb7⟩
        have hs67 := Same.of_below (S := fun _ => False) hb7
        have hcur7 := hcur1.same hs67
        have hs7 := hs1.then hs67.any
        have hmk : ((m + k : Nat) : Int) = (m : Int) + k := by omega
        have C3 := cur_row hcur7 hT7 (by omega) (m + k) (by omega)
        rw [hmk] at C3
        have hres := HRES.out
        obtain ⟨rr, hrr⟩ : ∃ r, rowG L bs (m + k) (m + k) [] at_ = r := ⟨_, rfl⟩
        rw [hrr] at C3 hres
        clear C2 hmk HRES
        cases rr with
        | bad x =>
          have HR := Lib.hid hres
          clear hres hrr
          go_wp2_with fail
          refine C3.mono ?_
          rintro e w8 hp8
          obtain ⟨rfl, ⟨a8, hc8⟩, hs8⟩ : e = .panicked [faultI x] ∧ (∃ a : Nat, CurAt w8 p ((cs.setIfInBounds 4 (.int .i64 (at_ : Nat))).setIfInBounds 4 (.int .i64 (a : Nat))) A c bs a) ∧ Same (fun g => g = p) w7 w8 := hp8
          rw [set44] at hc8
          go_wp2_with fail
          refine ⟨rfl, ?_⟩
          show HeadPost _ _ _ _ _ _ _ _ _
          rw [← HR.out]
          exact ⟨rfl, ⟨_, hc8⟩, hs7.then hs8⟩
        | ok ra =>
          obtain ⟨row, a4⟩ := ra
          simp only at hres
          obtain ⟨hrl, hrw⟩ := rowG_fine _ _ _ hrr (by simp) (by simp) (by simp)
          have HRES := Lib.hid hres
          clear hres hrr
          go_wp2_with fail
          refine C3.mono ?_
          rintro e w8 hp8
          obtain ⟨⟨v8, rfl, ho8⟩, hcur8, hs8⟩ : (∃ v, e = .returned v ∧ Own w8 w7.heap.size 3 v (ints .i64 row)) ∧ CurAt w8 p ((cs.setIfInBounds 4 (.int .i64 (at_ : Nat))).setIfInBounds 4 (.int .i64 (a4 : Nat))) A c bs a4 ∧ Same (fun g => g = p) w7 w8 := hp8
          rw [set44] at hcur8
          have hs8 := hs7.then hs8
          obtain ⟨A8, c8, rfl, hr8, _⟩ := ho8.row (fun x hx => i64w (hrw x hx))
          have hc8 := hr8.cap
          have hm8 := hr8.most
          rw [hrl] at hc8
          clear C3 ho8 hT7 hcur7 hs7 hs67 hb7 hrL1 hcur1 hs1 hpt
          have hres := HRES.out
          have hcm : ¬ c8 = m := by omega
          have hrA := hr8.takeI m
          have hrB := hr8.dropI m (by omega)
          rw [if_neg hcm] at hrB
          have hlA : (row.take m).length = m := by rw [List.length_take]; omega
          have hlB : (row.drop m).length = k := by rw [List.length_drop]; omega
          obtain ⟨x, hx⟩ : ∃ x, (row.take m)[256]? = some x := ⟨_, List.getElem?_eq_getElem (by omega)⟩
          have hxd : row.getD 256 0 = x := by rw [List.getElem?_take_of_lt (by omega)] at hx; rw [List.getD_eq_getElem?_getD, hx]; rfl
          obtain ⟨b8, o8, hA8⟩ := hrA.addr_ (fun e => by rw [e] at hlA; simp at hlA; omega)
          subst hA8
          obtain ⟨ad, hA9, hcx⟩ := hrA.rd 256 x hx
          injection hA9 with hA9
          subst hA9
          rw [Addr.add_lit] at hcx
          rw [Option.map_some, Addr.add_lit] at hrB
          rw [hxd] at hres
          have l1 : m ≤ c8 := by omega
          have l2 : m ≤ m + k := by omega
          have l3 : m + k ≤ c8 := by omega
          have l4 : m + k - m = k := by omega
          have l5 : decide (256 < m) = true := by simp; omega
          have l6 : (256 : Int) < (m : Int) := by omega
          have hkd1 := hrA
          rw [hrl]
          have HRES := Lib.hid hres
          clear hres hx hxd hr8
          go_wp2_with fail
          refine wp_region_ext (fun _ => False) (by kernel_rfl) (by kernel_rfl) ?_
          repeat (go_big_quiet_step (fail))
          refine wpQuiet_nil ?_
          rintro _ ⟨d, rfl⟩
          have hs9 := hs8.then d.same.any
          have hcur9 := hcur8.same d.same
          have hrA9 := hrA.same d.same (fun _ _ c => c)
          have hrB9 := hrB.same d.same (fun _ _ c => c)
          have hcx9 := d.same.cell hcx (fun c => c)
          have hres := HRES.out
          clear hs8 hcur8 hrA hrB hcx hkd1 HRES
          generalize d.world = w9 at *
          clear d
          by_cases hx0 : x = 0
          · have ex : (x == 0) = true := by simpa using hx0
            rw [if_pos (.inl hx0)] at hres
            have HR := Lib.hid hres
            clear hres hx0
            go_wp2_with fail
            refine (cur_fail _ _ 2).mono ?_
            rintro e w10 ⟨rfl, rfl⟩
            go_wp2_with fail
            refine ⟨rfl, ?_⟩
            show HeadPost _ _ _ _ _ _ _ _ _
            rw [← HR.out]
            exact ⟨rfl, ⟨_, hcur9⟩, hs9⟩
          have ex : (x == 0) = false := by simpa using hx0
          have al1 := (Same.refl (S := fun _ => False) w9).alloc (.cells (ints .i64 [1, 2]).toArray 3)
          have C4 := inf_kinds (some ⟨b8, o8, none⟩) c8 (row.take m) _ _ [1, 2] _ (hrA9.same al1 (fun _ _ c => c)) (RowOf.lit w9 .i64 3 [1, 2] (by decide) (by simp)) (by simp)
          have hs10 := hs9.then al1.any
          have hcur10 := hcur9.same al1
          have hrA10 := hrA9.same al1 (fun _ _ c => c)
          have hrB10 := hrB9.same al1 (fun _ _ c => c)
          rw [hlA, show ([1, 2] : List Int).length = 2 from rfl, show (ints .i64 [1, 2]).toArray = #[.int .i64 1, .int .i64 2] from rfl] at C4
          rw [show (ints .i64 [1, 2]).toArray = #[.int .i64 1, .int .i64 2] from rfl] at hs10 hcur10 hrA10 hrB10
          clear al1 hs9 hcur9 hrA9 hrB9
          by_cases hkA : kind (row.take m) = 1 ∨ kind (row.take m) = 2
          · have hd1 : decide (kind (row.take m) ∈ ([1, 2] : List Int)) = true := by simpa using hkA
            rw [hd1] at C4
            have HRES := Lib.hid hres
            clear hres hd1
            go_wp2_with fail
            refine C4.mono ?_
            rintro e w10 ⟨rfl, rfl⟩
            clear C4
            generalize w9.alloc (.cells #[.int .i64 1, .int .i64 2] 3) = w10 at *
            have al2 := (Same.refl (S := fun _ => False) w10).alloc (.cells (ints .i64 [1, 2, 0]).toArray 3)
            have C5 := inf_kinds (some ⟨b8, o8 + m, none⟩) (c8 - m) (row.drop m) _ _ [1, 2, 0] _ (hrB10.same al2 (fun _ _ c => c)) (RowOf.lit w10 .i64 3 [1, 2, 0] (by decide) (by simp)) (by simp)
            have hs11 := hs10.then al2.any
            have hcur11 := hcur10.same al2
            have hrA11 := hrA10.same al2 (fun _ _ c => c)
            have hrB11 := hrB10.same al2 (fun _ _ c => c)
            rw [hlB, show ([1, 2, 0] : List Int).length = 3 from rfl, show (ints .i64 [1, 2, 0]).toArray = #[.int .i64 1, .int .i64 2, .int .i64 0] from rfl] at C5
            rw [show (ints .i64 [1, 2, 0]).toArray = #[.int .i64 1, .int .i64 2, .int .i64 0] from rfl] at hs11 hcur11 hrA11 hrB11
            clear al2 hs10 hcur10 hrA10 hrB10
            have hres := HRES.out
            by_cases hkB : kind (row.drop m) = 1 ∨ kind (row.drop m) = 2 ∨ kind (row.drop m) = 0
            · have hd1 : decide (kind (row.drop m) ∈ ([1, 2, 0] : List Int)) = true := by simpa using hkB
              rw [hd1] at C5
              rw [if_neg (fun c => c.elim hx0 (fun c => c.elim (fun c => c hkA) (fun c => c hkB)))] at hres
              have hcA := code_ok (l := row.take m) (by omega) (by omega)
              have hcB := code_ok (l := row.drop m) (by omega) hkB
              have HR := Lib.hid hres
              clear hres hd1 HRES hx0
              go_wp2_with fail
              refine C5.mono ?_
              rintro e w11 ⟨rfl, rfl⟩
              clear C5
              generalize w10.alloc (.cells #[.int .i64 1, .int .i64 2, .int .i64 0] 3) = w11 at *
              have C6 := tab_new hrA11 hcA 9 (by omega) (by omega)
              rw [hlA] at C6
              go_wp2_with fail
              refine C6.mono ?_
              rintro e w12 ⟨p1, rfl, hT12, hp12, hb12⟩
              have C7 := tab_new (hrB11.belo hb12) hcB 6 (by omega) (by omega)
              rw [hlB] at C7
              go_wp2_with fail
              refine C7.mono ?_
              rintro e w13 ⟨p2, rfl, hT13, hp13, hb13⟩
              have hsa := Same.of_below (S := fun _ => False) (hb12.trans (hb13.mono hb12.size))
              have hz11 := hs11.size
              have hz12 := hb12.size
              have HC := Lib.hid (hcur11.same hsa)
              have HT := Lib.hid (hT12.below hb13)
              have HS := Lib.hid (hs11.then hsa.any)
              clear C6 C7 hcur11 hs11 hT12 hb12 hb13 hsa hrA11 hrB11
              go_wp2_with fail
              go_ret2
              show HeadPost _ _ _ _ _ _ _ _ _
              rw [← HR.out]
              exact ⟨⟨p1, p2, _, _, rfl, HT.out, hT13, by omega, by omega⟩, HC.out, HS.out⟩
            · have hd1 : decide (kind (row.drop m) ∈ ([1, 2, 0] : List Int)) = false := by simpa using hkB
              rw [hd1] at C5
              rw [if_pos (.inr (.inr hkB))] at hres
              have HR := Lib.hid hres
              clear hres hd1 HRES
              go_wp2_with fail
              refine C5.mono ?_
              rintro e w11 ⟨rfl, rfl⟩
              go_wp2_with fail
              refine (cur_fail _ _ 2).mono ?_
              rintro e w12 ⟨rfl, rfl⟩
              go_wp2_with fail
              refine ⟨rfl, ?_⟩
              show HeadPost _ _ _ _ _ _ _ _ _
              rw [← HR.out]
              exact ⟨rfl, ⟨_, hcur11⟩, hs11⟩
          · have hd1 : decide (kind (row.take m) ∈ ([1, 2] : List Int)) = false := by simpa using hkA
            rw [hd1] at C4
            rw [if_pos (.inr (.inl hkA))] at hres
            have HR := Lib.hid hres
            clear hres hd1
            go_wp2_with fail
            refine C4.mono ?_
            rintro e w10 ⟨rfl, rfl⟩
            go_wp2_with fail
            refine (cur_fail _ _ 2).mono ?_
            rintro e w12 ⟨rfl, rfl⟩
            go_wp2_with fail
            refine ⟨rfl, ?_⟩
            show HeadPost _ _ _ _ _ _ _ _ _
            rw [← HR.out]
            exact ⟨rfl, ⟨_, hcur10⟩, hs10⟩
      · have hdk : decide (kind L ∈ ([1] : List Int)) = false := by simp [hkL]
        rw [hdk] at C1
        rw [if_pos hkL] at hres
        have HR := Lib.hid hres
        clear hres hdk
        go_wp2_with fail
        refine C1.mono ?_
        rintro e w7 ⟨rfl, rfl⟩
        go_wp2_with fail
        refine (cur_fail _ _ 2).mono ?_
        rintro e w9 ⟨rfl, rfl⟩
        go_wp2_with fail
        refine ⟨rfl, ?_⟩
        show HeadPost _ _ _ _ _ _ _ _ _
        rw [← HR.out]
        exact ⟨rfl, ⟨_, hcur1⟩, hs1⟩
end Go.Proofs.Yteknaaijlkenkaa
