import Derived.Test.YteknaaijlkenkaaTabK
namespace Go.Proofs.Yteknaaijlkenkaa
set_option linter.unusedVariables false
set_option linter.unusedSimpArgs false
open Go.RowKit
attribute [local go_sem] max2i min2i max2t min2t

def ctF (l : List Int) (k j : Nat) : Int := if j = 0 then 0 else ((l.take k).count (j : Int) : Nat)
def frF (l : List Int) (k j : Nat) : Int := if j ≠ 0 ∧ 0 < (l.take k).count (j : Int) then nxt l j else 0
section
variable {w : World} {p F : Nat} {v : Value} {fr ct fr' ct' : Nat → Int}
theorem TabB.congr (h : TabB w p F v fr ct) (h1 : ∀ q, q < 16 → fr q = fr' q) (h2 : ∀ q, q < 16 → ct q = ct' q) : TabB w p F v fr' ct' := by
  have e : tab 34 (tblF F v fr' ct') = tab 34 (tblF F v fr ct) := tab_congr (fun i hi => by
    unfold tblF
    split
    · rfl
    · split
      · rfl
      · split
        · rw [h1 _ (by omega)]
        · rw [h2 _ (by omega)])
  show Blk _ _ _ _
  rw [e]; exact h
theorem TabB.setFr (h : TabB w p F v fr ct) {j : Nat} (hj : j < 16) (x : Int) : TabB (w.setCell ⟨p, 2 + j, none⟩ (.int .u32 x)) p F v (fun q => if q = j then x else fr q) ct := by
  have := Blk.set_ h (2 + j) (.int .u32 x)
  rw [tab_set] at this
  show Blk _ _ _ _
  rw [tab_congr (n := 34) (g := fun i => if i = 2 + j then .int .u32 x else tblF F v fr ct i)]
  · exact this
  · intro i hi
    unfold tblF
    by_cases e : i = 2 + j
    · subst e; simp [hj, show 2 + j < 18 from by omega, show ¬ (2 + j = 0) from by omega, show ¬ (2 + j = 1) from by omega]
    · simp only [if_neg e]
      split
      · rfl
      · split
        · rfl
        · split
          · rw [if_neg (by omega)]
          · rfl
theorem TabB.setCt (h : TabB w p F v fr ct) {j : Nat} (hj : j < 16) (x : Int) : TabB (w.setCell ⟨p, 18 + j, none⟩ (.int .u32 x)) p F v fr (fun q => if q = j then x else ct q) := by
  have := Blk.set_ h (18 + j) (.int .u32 x)
  rw [tab_set] at this
  show Blk _ _ _ _
  rw [tab_congr (n := 34) (g := fun i => if i = 18 + j then .int .u32 x else tblF F v fr ct i)]
  · exact this
  · intro i hi
    unfold tblF
    by_cases e : i = 18 + j
    · subst e; simp [show ¬ (18 + j < 18) from by omega, show ¬ (18 + j = 0) from by omega, show ¬ (18 + j = 1) from by omega]
    · simp only [if_neg e]
      split
      · rfl
      · split
        · rfl
        · split
          · rfl
          · rw [if_neg (by omega)]
end
theorem tbl_zero (F : Nat) (v : Value) : tab 34 (tblF F v (fun _ => 0) (fun _ => 0)) = #[.int .i64 F, v, .int .u32 0, .int .u32 0, .int .u32 0, .int .u32 0, .int .u32 0, .int .u32 0, .int .u32 0, .int .u32 0, .int .u32 0, .int .u32 0, .int .u32 0, .int .u32 0, .int .u32 0, .int .u32 0, .int .u32 0, .int .u32 0, .int .u32 0, .int .u32 0, .int .u32 0, .int .u32 0, .int .u32 0, .int .u32 0, .int .u32 0, .int .u32 0, .int .u32 0, .int .u32 0, .int .u32 0, .int .u32 0, .int .u32 0, .int .u32 0, .int .u32 0, .int .u32 0] := by kernel_rfl
theorem codes_wf {l : List Int} (hg : Good l) : ∀ x ∈ codes l, (Lit.int .u32 x).wf = true := fun x hx => by
  obtain ⟨i, _, rfl⟩ := List.mem_map.1 hx
  have h : 0 ≤ code l i ∧ code l i < 4294967296 := by
    by_cases h0 : ln l i = 0
    · unfold ln at h0
      unfold code
      rw [if_pos h0]; omega
    · obtain ⟨a, b⟩ := hg.cod (j := i) (by omega)
      have h15 := Nat.pow_le_pow_right (n := 2) (by decide) (hg.at_ i).1
      have : 2 ^ 15 = 32768 := by decide
      rw [a]; omega
  simp [Lit.wf, IntKind.min, IntKind.max, IntKind.bits, IntKind.signed]; omega
structure N2Rel (w4 : World) (l : List Int) (base p F g0 : Nat) (D : List Nat) (fr ct : Nat → Int) (gq : Nat) (v79 : Value) (wr : World) : Prop where mk ::
  out_ : ∃ (k : Nat) (P : List Pl) (g cap : Nat), k ≤ l.length ∧ l.length ≤ gq + k ∧ v79 = .int .i64 (k : Int) ∧ TabAt wr base p F (.slice (some ⟨g, 0, none⟩) P.length cap) P fr ct ∧ TInv l F D k k P ∧ (g = g0 ∨ w4.heap.size ≤ g) ∧ Same (fun q => q = p ∨ q = g0) w4 wr
structure N1Rel (w : World) (l : List Int) (F p : Nat) (v : Value) (g : Nat) (v39 : Value) (wr : World) : Prop where mk ::
  out_ : ∃ (k : Nat), k ≤ l.length ∧ l.length ≤ g + k ∧ v39 = .int .i64 (k : Int) ∧ TabB wr p F v (frF l k) (ctF l k) ∧ Same (fun k => k = p) w wr
set_option maxHeartbeats 1600000 in
set_option maxRecDepth 100000 in
theorem tab_new_ok (A : Option Addr) (c : Nat) (l : List Int) (w : World) (hr : RowOf w .i64 A c l) (hE : codesErr l = 0) (F : Nat) (hF1 : 1 ≤ F) (hF : F ≤ 15) :
    Calls Try.prog 77 #[.slice A l.length c, .int .i64 F] w fun e w' => ∃ p v P fr ct, e = .returned (.tuple #[.pointer (some ⟨p, 0, none⟩), .int .i64 0]) ∧ TabAt w' w.heap.size p F v P fr ct ∧ TFin l F P fr ct ∧ w.heap.size ≤ p ∧ Below w.heap.size w w' := by
  have hm := hr.most
  have hcap := hr.cap
  have hgd := good_of hE
  have hl65 : l.length ≤ 65536 := (kraft_good (l := l) (by unfold codesErr at hE; split at hE <;> omega)).1
  have hco : codesOut l = codes l := by rw [codesOut, if_pos hE]
  have HC := Lib.hid (canon_codes A c l w hr)
  rw [hE, hco] at HC
  clear hE hco
  obtain ⟨N, hN, hN1, hN2, hN3⟩ := pow_var (F := F) hF
  obtain ⟨i0, hi, hz0, hz1, hz2⟩ := info_parts Try.placeinfo
  have hmk : ∀ w : World, (Instr.makeSlice 127 (.int .i64 (wrap64 (2 ^ F))) (.int .i64 (wrap64 (2 ^ F)))).run Try.prog w = .ok (.slice (some ⟨w.heap.size, 0, none⟩) N N) (w.alloc (.cells (madeCells #[.int .i64 0, .int .i64 0, .int .i64 0] (N * 3)) 134)) := fun w => by
    rw [hN3]
    have := run_make (P := Try.prog) w 127 134 i0 _ Try.underlying127 hi hz0 .i64 .i64 N N (by omega) (by omega) (by rw [hz2]; omega) (by omega)
    rw [hz1] at this
    exact this
  have HN := Lib.hid hN
  clear hN hN3 hi hz0 hz1 hz2
  go_enter Try.func77, Try.ntmps77
  go_wp2_with fail
  refine HC.out.mono ?_
  rintro e w1 ⟨v1, rfl, ho1, hb1⟩
  clear HC
  obtain ⟨A2, c2, rfl, hr2, _⟩ := ho1.row (codes_wf hgd)
  have hpb : TabB ((w1.alloc (.cells (madeCells #[.int .i64 0, .int .i64 0, .int .i64 0] (N * 3)) 134)).alloc (.cells #[.int .i64 F, .slice (some ⟨w1.heap.size, 0, none⟩) N N, .int .u32 0, .int .u32 0, .int .u32 0, .int .u32 0, .int .u32 0, .int .u32 0, .int .u32 0, .int .u32 0, .int .u32 0, .int .u32 0, .int .u32 0, .int .u32 0, .int .u32 0, .int .u32 0, .int .u32 0, .int .u32 0, .int .u32 0, .int .u32 0, .int .u32 0, .int .u32 0, .int .u32 0, .int .u32 0, .int .u32 0, .int .u32 0, .int .u32 0, .int .u32 0, .int .u32 0, .int .u32 0, .int .u32 0, .int .u32 0, .int .u32 0, .int .u32 0] 130)) (w1.heap.size + 1) F (.slice (some ⟨w1.heap.size, 0, none⟩) N N) (fun _ => 0) (fun _ => 0) := by
    have := Blk.new (w1.alloc (.cells (madeCells #[.int .i64 0, .int .i64 0, .int .i64 0] (N * 3)) 134)) 130 #[.int .i64 F, .slice (some ⟨w1.heap.size, 0, none⟩) N N, .int .u32 0, .int .u32 0, .int .u32 0, .int .u32 0, .int .u32 0, .int .u32 0, .int .u32 0, .int .u32 0, .int .u32 0, .int .u32 0, .int .u32 0, .int .u32 0, .int .u32 0, .int .u32 0, .int .u32 0, .int .u32 0, .int .u32 0, .int .u32 0, .int .u32 0, .int .u32 0, .int .u32 0, .int .u32 0, .int .u32 0, .int .u32 0, .int .u32 0, .int .u32 0, .int .u32 0, .int .u32 0, .int .u32 0, .int .u32 0, .int .u32 0, .int .u32 0]
    rw [show (w1.alloc (.cells (madeCells #[.int .i64 0, .int .i64 0, .int .i64 0] (N * 3)) 134)).heap.size = w1.heap.size + 1 from by simp] at this
    show Blk _ _ _ _
    rw [tbl_zero]
    exact this
  have hrow : (w1.alloc (.cells (madeCells #[.int .i64 0, .int .i64 0, .int .i64 0] (N * 3)) 134)).ownsRow w.heap.size 134 3 (.slice (some ⟨w1.heap.size, 0, none⟩) N N) N (flat (List.replicate N Pl.z)) := by
    refine ⟨by rw [flat_length, List.length_replicate], .inr ⟨w1.heap.size, N, _, rfl, hb1.size, heap_alloc_new w1 _, Nat.le_refl _, by simp [maxLen]; omega, by simp [madeCells], ?_⟩⟩
    have e := zero_news N
    have e2 : (Builtin.zeroCells (Value.agg #[.int .i64 0, .int .i64 0, .int .i64 0]).cells N) = madeCells #[.int .i64 0, .int .i64 0, .int .i64 0] (N * 3) := rfl
    rw [e2] at e
    rw [e, List.take_of_length_le (by rw [flat_length, List.length_replicate]; exact Nat.le_refl _)]
  go_wp2_with fail
  have hb2 := (hb1.alloc hb1.size (.cells (madeCells #[.int .i64 0, .int .i64 0, .int .i64 0] (N * 3)) 134))
  have hrow2 := hrow
  generalize hwa : w1.alloc (.cells (madeCells #[.int .i64 0, .int .i64 0, .int .i64 0] (N * 3)) 134) = wa at *
  have hcl : (codes l).length = l.length := by simp [codes]
  rw [hcl]
  generalize hp : w1.heap.size + 1 = p at *
  have hps : w1.heap.size < p := by omega
  have hrow := World.ownsRow.alloc hrow (.cells #[.int .i64 F, .slice (some ⟨w1.heap.size, 0, none⟩) N N, .int .u32 0, .int .u32 0, .int .u32 0, .int .u32 0, .int .u32 0, .int .u32 0, .int .u32 0, .int .u32 0, .int .u32 0, .int .u32 0, .int .u32 0, .int .u32 0, .int .u32 0, .int .u32 0, .int .u32 0, .int .u32 0, .int .u32 0, .int .u32 0, .int .u32 0, .int .u32 0, .int .u32 0, .int .u32 0, .int .u32 0, .int .u32 0, .int .u32 0, .int .u32 0, .int .u32 0, .int .u32 0, .int .u32 0, .int .u32 0, .int .u32 0, .int .u32 0] 130)
  have hb3 := hb2.alloc hb2.size (.cells #[.int .i64 F, .slice (some ⟨w1.heap.size, 0, none⟩) N N, .int .u32 0, .int .u32 0, .int .u32 0, .int .u32 0, .int .u32 0, .int .u32 0, .int .u32 0, .int .u32 0, .int .u32 0, .int .u32 0, .int .u32 0, .int .u32 0, .int .u32 0, .int .u32 0, .int .u32 0, .int .u32 0, .int .u32 0, .int .u32 0, .int .u32 0, .int .u32 0, .int .u32 0, .int .u32 0, .int .u32 0, .int .u32 0, .int .u32 0, .int .u32 0, .int .u32 0, .int .u32 0, .int .u32 0, .int .u32 0, .int .u32 0, .int .u32 0] 130)
  have hbb := ((Same.refl (S := fun _ => False) w1).alloc (.cells (madeCells #[.int .i64 0, .int .i64 0, .int .i64 0] (N * 3)) 134)).alloc (.cells #[.int .i64 F, .slice (some ⟨w1.heap.size, 0, none⟩) N N, .int .u32 0, .int .u32 0, .int .u32 0, .int .u32 0, .int .u32 0, .int .u32 0, .int .u32 0, .int .u32 0, .int .u32 0, .int .u32 0, .int .u32 0, .int .u32 0, .int .u32 0, .int .u32 0, .int .u32 0, .int .u32 0, .int .u32 0, .int .u32 0, .int .u32 0, .int .u32 0, .int .u32 0, .int .u32 0, .int .u32 0, .int .u32 0, .int .u32 0, .int .u32 0, .int .u32 0, .int .u32 0, .int .u32 0, .int .u32 0, .int .u32 0, .int .u32 0] 130)
  rw [hwa] at hbb
  have hz1 := hb1.size
  clear hb2 hrow2 hmk hwa
  generalize hg0 : w1.heap.size = g0 at *
  generalize wa.alloc (.cells #[.int .i64 F, .slice (some ⟨g0, 0, none⟩) N N, .int .u32 0, .int .u32 0, .int .u32 0, .int .u32 0, .int .u32 0, .int .u32 0, .int .u32 0, .int .u32 0, .int .u32 0, .int .u32 0, .int .u32 0, .int .u32 0, .int .u32 0, .int .u32 0, .int .u32 0, .int .u32 0, .int .u32 0, .int .u32 0, .int .u32 0, .int .u32 0, .int .u32 0, .int .u32 0, .int .u32 0, .int .u32 0, .int .u32 0, .int .u32 0, .int .u32 0, .int .u32 0, .int .u32 0, .int .u32 0, .int .u32 0, .int .u32 0] 130) = wb at *
  have hr0 := hr.belo hb3
  have hr2b : RowOf wb .u32 A2 c2 (codes l) := hr2.same hbb (fun _ _ c => c)
  go_loopg [39] l.length (N1Rel wb l F p (.slice (some ⟨g0, 0, none⟩) N N))
  case atStart => exact ⟨0, by omega, by omega, rfl, hpb.congr (fun q _ => by simp [frF]) (fun q _ => by simp [ctF]), Same.refl _⟩
  case round =>
    clear hpb
    obtain ⟨k, hk, hgk, rfl, hT, hs⟩ := hrel
    by_cases hlt : k < l.length
    · have hgat := hgd.at_ k
      obtain ⟨x, hx⟩ : ∃ x, l[k]? = some x := ⟨_, List.getElem?_eq_getElem hlt⟩
      have hln : l.getD k 0 = x := by rw [List.getD_eq_getElem?_getD, hx]; rfl
      obtain ⟨n, hn⟩ : ∃ n, n = ln l k := ⟨_, rfl⟩
      rw [← hn] at hgat
      obtain rfl : x = n := by rw [← hln]; exact hgat.2
      obtain ⟨ad, rfl, q0⟩ := hr.rd k n hx
      have q0b := World.block_lt_of_cell? w _ q0
      have q0 := (hb3.cell q0b).trans q0
      have q0 := hs.cell q0 (fun e => by omega)
      have hn15 := hgat.1
      have hcc := take_count hx
      clear hgat
      by_cases hn0 : n = 0
      · subst hn0
        have HCC := Lib.hid hcc
        clear hcc hn hx hln
        go_wp2_with fail
        go_roundg (gk - 1)
        case measure => omega
        case rel =>
          refine ⟨k + 1, by omega, by omega, by go_num, hT.congr (fun q hq => ?_) (fun q hq => ?_), hs⟩
          · unfold frF
            by_cases e : q = 0
            · simp [e]
            · rw [HCC.out, if_neg (show ¬ ((0 : Nat) : Int) = q by omega), Nat.add_zero]
          · unfold ctF
            by_cases e : q = 0
            · simp [e]
            · rw [if_neg e, if_neg e, HCC.out, if_neg (show ¬ ((0 : Nat) : Int) = q by omega), Nat.add_zero]
      · have d1 : decide ((0 : Int) < n) = true := by simp; omega
        have d1' : decide (0 < n) = true := by simp; omega
        have cc := TabB.cnt hT (k := n) (by omega)
        have cf := Blk.frozen hT (18 + n)
        have i1 : (n : Int) < 16 := by omega
        have hcb : (l.take k).count (n : Int) ≤ 65536 := Nat.le_trans (List.count_le_length) (by have := List.length_take_le k l; omega)
        rw [ctF, if_neg hn0] at cc
        obtain ⟨hco, hcol⟩ := hgd.cod (j := k) (by omega)
        have hcode : code l k = adv (nxt l n) ((l.take k).count (n : Int)) := by
          unfold code
          rw [hln, Int.toNat_natCast, if_neg hn0]
        have HCC := Lib.hid hcc
        have HN2 := Lib.hid hn
        have HN0 := Lib.hid hn0
        obtain ⟨ad2, rfl, q2⟩ := hr2b.rd k (code l k) (by simp [codes, hlt])
        have q2b : (ad2.add k).block < g0 := by
          obtain ⟨ad3, e3, q3⟩ := hr2.rd k (code l k) (by simp [codes, hlt])
          injection e3 with e3
          subst e3
          rw [← hg0]; exact World.block_lt_of_cell? w1 _ q3
        have q2 := hs.cell q2 (fun e => by omega)
        by_cases c0 : (l.take k).count (n : Int) = 0
        · rw [c0] at cc hcode
          have hcn : code l k = nxt l n := hcode
          have HCN := Lib.hid hcn
          have ff := TabB.frm hT (k := n) (by omega)
          have fz := Blk.frozen hT (2 + n)
          have HC0 := Lib.hid c0
          clear hcc hn hx hln hn0 hcode hcn hco c0
          generalize code l k = C at *
          go_wp2_with fail
          go_region
          have hT1 := Blk.drew (TabB.setFr hT (j := n) (by omega) C)
          have hs1 := (hs.set_ (p := ⟨p, 2 + n, none⟩) (fun _ => rfl) (.int .u32 C)).drew
          clear cc cf ff fz q2 hT hs q0
          generalize (wr.setCell ⟨p, 2 + n, none⟩ (.int .u32 C)).drew = w3 at *
          have cc := TabB.cnt hT1 (k := n) (by omega)
          rw [ctF, if_neg HN0.out, HC0.out] at cc
          have cf := Blk.frozen hT1 (18 + n)
          go_wp2_with fail
          go_region
          go_wp2_with fail
          go_roundg (gk - 1)
          case measure => omega
          case rel =>
            have hT2 := Blk.drew (TabB.setCt hT1 (j := n) (by omega) 1)
            refine ⟨k + 1, by omega, by omega, by go_num, TabB.congr hT2 (fun q hq => ?_) (fun q hq => ?_), (hs1.set_ (p := ⟨p, 18 + n, none⟩) (fun _ => rfl) _).drew⟩
            · unfold frF
              by_cases e : q = n
              · subst e
                rw [if_pos rfl, HCC.out, if_pos rfl, if_pos ⟨HN0.out, by omega⟩, HCN.out]
              · rw [if_neg e, HCC.out, if_neg (show ¬ (n : Int) = q by omega), Nat.add_zero]
            · unfold ctF
              by_cases e : q = n
              · subst e
                rw [if_pos rfl, if_neg HN0.out, HCC.out, if_pos rfl, HC0.out]; rfl
              · rw [if_neg e, HCC.out, if_neg (show ¬ (n : Int) = q by omega), Nat.add_zero]
        · obtain ⟨cN, hcN⟩ : ∃ cN, (l.take k).count (n : Int) = cN := ⟨_, rfl⟩
          rw [hcN] at cc hcb c0
          have e0 : ((cN : Int) == 0) = false := by rw [beq_eq_false_iff_ne]; omega
          have HCNN := Lib.hid hcN
          clear hcc hn hx hln hn0 hcode hco hcN q2
          have u1 : IntKind.u32.wrap ((cN : Int) + 1) = (cN : Int) + 1 := by rw [IntKind.wrap_u32]; omega
          go_wp2_with fail
          go_region
          go_wp2_with fail
          go_roundg (gk - 1)
          case measure => omega
          case rel =>
            have hT2 := Blk.drew (TabB.setCt hT (j := n) (by omega) ((cN : Int) + 1))
            refine ⟨k + 1, by omega, by omega, by go_num, TabB.congr hT2 (fun q hq => ?_) (fun q hq => ?_), (hs.set_ (p := ⟨p, 18 + n, none⟩) (fun _ => rfl) _).drew⟩
            · unfold frF
              by_cases e : q = n
              · subst e
                rw [HCC.out, if_pos rfl, if_pos ⟨HN0.out, by rw [HCNN.out]; omega⟩, if_pos ⟨HN0.out, by omega⟩]
              · rw [HCC.out, if_neg (show ¬ (n : Int) = q by omega), Nat.add_zero]
            · unfold ctF
              by_cases e : q = n
              · subst e
                rw [if_pos rfl, if_neg HN0.out, HCC.out, if_pos rfl, HCNN.out]; rfl
              · rw [if_neg e, HCC.out, if_neg (show ¬ (n : Int) = q by omega), Nat.add_zero]
    · have hkl : k = l.length := by omega
      subst hkl
      obtain ⟨frq, hfrq⟩ : ∃ f, frF l l.length = f := ⟨_, rfl⟩
      obtain ⟨ctq, hctq⟩ : ∃ f, ctF l l.length = f := ⟨_, rfl⟩
      rw [hfrq, hctq] at hT
      have HFR : Hid (∀ k, 1 ≤ k → k ≤ 15 → 0 < cnt l k → frq k = nxt l k) := Lib.hid (fun k h1 h2 h3 => by
        rw [← hfrq, frF, List.take_length]
        unfold cnt at h3
        rw [if_neg (by omega)] at h3
        rw [if_pos ⟨by omega, h3⟩])
      have HCT : Hid (∀ k, 1 ≤ k → k ≤ 15 → ctq k = cnt l k) := Lib.hid (fun k h1 h2 => by
        rw [← hctq, ctF, List.take_length, cnt, if_neg (by omega), if_neg (by omega)])
      clear hfrq hctq
      have hrw : RowOf wr .i64 A c l := by
        by_cases hle : l = []
        · subst hle; exact hr.empty
        · exact hr0.same hs (fun ad e => by have := hr.lt hle ad e; omega)
      have hr2w : RowOf wr .u32 A2 c2 (codes l) := by
        by_cases hle : codes l = []
        · rw [hle] at hr2 ⊢; exact hr2.empty
        · exact hr2b.same hs (fun ad e => by have := hr2.lt hle ad e; omega)
      have HDP := Lib.hid (tab_deep hgd hF1 hF HN.out hT hrw hr2w)
      have hb4 := hs.below_of hb3 hb3.size (fun q hq e => by omega)
      have hrowr := ownsRow_kept hrow hs (fun q hq e => by
        have : q = g0 := by simpa [Value.ownBlock] using hq.symm
        omega)
      have hpr : p < wr.heap.size := Blk.lt hT
      have hgr : g0 < wr.heap.size := by omega
      go_wp2_with fail
      refine HDP.out.mono ?_
      rintro e w4 ⟨gd, capd, D, rfl, hoD, hDl, hD1, hD2, hbd⟩
      have hgdb := hoD.base_le gd rfl
      have hgdl := hoD.lt gd rfl
      have hb5 := hb4.trans (hbd.mono hb4.size)
      have hT4 : TabAt w4 w.heap.size p F (.slice (some ⟨g0, 0, none⟩) (List.replicate N Pl.z).length N) (List.replicate N Pl.z) frq ctq := by
        rw [List.length_replicate]
        refine ⟨Blk.below hT hbd hpr, ?_⟩
        rw [List.length_replicate]
        exact ownsRow_kept hrowr (Same.of_below (S := fun _ => False) hbd) (fun _ _ c => c)
      obtain ⟨Ad, cd, ed, hrD, _⟩ := hoD.row (fun x hx => by
        obtain ⟨y, hy, rfl⟩ := List.mem_map.1 hx
        obtain ⟨q, hq⟩ := List.getElem?_of_mem hy
        have := hD1 q
        rw [List.getD_eq_getElem?_getD, hq, Option.getD_some] at this
        exact WalkArith.wf_i64 (by omega))
      injection ed with ed1 ed3 ed2
      clear ed3
      subst ed1 ed2
      have hr4 := hrw.belo hbd
      have hr24 := hr2w.belo hbd
      have HD1 := Lib.hid hD1
      have HD2 := Lib.hid hD2
      have HDL := Lib.hid hDl
      have hI0 := TInv.start l F D
      rw [← HN.out] at hI0
      have HI0 := Lib.hid hI0
      clear hD1 hD2 hDl hT hs hrow hrowr HDP hb4 hrw hr2w hI0
      go_wp2_with fail
      go_loopg [79] l.length (N2Rel w4 l w.heap.size p F g0 D frq ctq)
      case atStart => exact ⟨0, List.replicate N Pl.z, g0, N, by omega, by omega, rfl, hT4, HI0.out, .inl rfl, Same.refl _⟩
      case round =>
        rename Nat => gq
        obtain ⟨wo, hwo⟩ : ∃ wo : World, wo = w4 := ⟨_, rfl⟩
        clear hT4
        obtain ⟨k, P, g, cap, hk, hgk, rfl, hT, hI, hg, hs⟩ := hrel
        have HI := Lib.hid hI
        have hPs := hI.size hF
        have hPlen := hI.len
        rw [← HN.out] at hPs hPlen
        clear hI
        have hz := hs.size
        by_cases hlt : k < l.length
        · have hgat := hgd.at_ k
          obtain ⟨x, hx⟩ : ∃ x, l[k]? = some x := ⟨_, List.getElem?_eq_getElem hlt⟩
          have hln : l.getD k 0 = x := by rw [List.getD_eq_getElem?_getD, hx]; rfl
          obtain ⟨n, hn⟩ : ∃ n, n = ln l k := ⟨_, rfl⟩
          rw [← hn] at hgat
          obtain rfl : x = n := by rw [← hln]; exact hgat.2
          obtain ⟨ad, rfl, q0⟩ := hr4.rd k n hx
          have q0b : (ad.add k).block < g0 := by
            have h1 := World.block_lt_of_cell? w _ (by
              obtain ⟨ad3, e3, q3⟩ := hr.rd k n hx
              injection e3 with e3
              rw [← e3] at q3
              exact q3)
            omega
          have q0 := hs.cell q0 (fun e => by omega)
          have hn15 := hgat.1
          clear hx hln hgat
          have HNn := Lib.hid hn
          by_cases hn0 : n = 0
          · have d1 : decide ((0 : Int) < n) = false := by simp; omega
            have d1' : decide (0 < n) = false := by simp; omega
            have hI2 := Lib.hid (HI.out.skip (by omega))
            clear hn
            go_wp2_with fail
            go_roundg (gq - 1)
            case measure => omega
            case rel => exact ⟨k + 1, P, g, cap, by omega, by omega, by go_num, hT, hI2.out, hg, hs⟩
          · have d1 : decide ((0 : Int) < n) = true := by simp; omega
            have d1' : decide (0 < n) = true := by simp; omega
            obtain ⟨hco, hcol⟩ := hgd.cod (j := k) (by omega)
            have htt := hgd.tc_turn (j := k) (by omega)
            have htl := hgd.tc_lt (i := k) (by omega)
            obtain ⟨ad2, rfl, q2⟩ := hr24.rd k (code l k) (by simp [codes, hlt])
            have q2b : (ad2.add k).block < g0 := by
              obtain ⟨ad3, e3, q3⟩ := hr2.rd k (code l k) (by simp [codes, hlt])
              injection e3 with e3
              subst e3
              rw [← hg0]; exact World.block_lt_of_cell? w1 _ q3
            have q2 := hs.cell q2 (fun e => by omega)
            rw [hco] at q2
            rw [← hn] at hcol htt htl
            have HTU := Lib.hid (fun W => tab_turned (codeN l k) n W hcol hn15)
            rw [← htt] at HTU
            have hrDr : RowOf wr .i64 (some ⟨gd, 0, none⟩) capd (nats D) := hrD.same hs (fun ad e => by injection e with e; subst e; simp only; omega)
            have hgne : gd ≠ g := by omega
            have hgnp : gd ≠ p := by omega
            by_cases hnF : n ≤ F
            · have HL := Lib.hid (tab_lay_short hT hF (by rw [← HN.out]; omega) k n (tc l k) (by omega) hnF htl (some ⟨gd, 0, none⟩) N capd)
              have HIN := Lib.hid (fun P' h1 h2 => HI.out.short (P' := P') hgd (by omega) (by omega) h1 h2)
              rw [← hn] at HIN
              clear hco hcol htt htl hn
              generalize codeN l k = cc at *
              generalize tc l k = tt at *
              go_wp2_with fail
              refine (HTU.out _).mono ?_
              rintro e w5 ⟨rfl, hw⟩
              subst hw
              go_wp2_with fail
              refine HL.out.mono ?_
              rintro e w6 ⟨rfl, P', hPl, hPe, hT6, hs6⟩
              go_wp2_with fail
              go_roundg (gq - 1)
              case measure => omega
              case rel => exact ⟨k + 1, P', g, cap, by omega, by omega, by go_num, by rw [hPl]; exact hT6, HIN.out P' hPl hPe, hg, hs.trans hs6 (fun q hq e => by rcases e with e | e <;> omega)⟩
            · have hF2 : F < n := by omega
              have hpl := HI.out.place hgd (p := tc l k % 2 ^ F) (by omega) rfl
              have hD2k := HD2.out k hlt (by omega)
              rw [← hn] at hD2k
              have hdd := HD1.out (tc l k % 2 ^ F)
              have hpF : tc l k % 2 ^ F < 2 ^ F := Nat.mod_lt _ (Nat.pow_pos (by decide))
              obtain ⟨s, P1, hcase, hI1, hk2, hs1⟩ : ∃ s P1, ((pg P (tc l k % 2 ^ F) = Pl.z ∧ s = P.length ∧ P1 = P.set (tc l k % 2 ^ F) ⟨2, P.length, D.getD (tc l k % 2 ^ F) 0⟩ ++ List.replicate (2 ^ D.getD (tc l k % 2 ^ F) 0) Pl.z) ∨ (pg P (tc l k % 2 ^ F) = ⟨2, s, D.getD (tc l k % 2 ^ F) 0⟩ ∧ s + 2 ^ D.getD (tc l k % 2 ^ F) 0 ≤ P.length ∧ P1 = P)) ∧
                  TInv l F D k (k + 1) P1 ∧ (pg P1 (tc l k % 2 ^ F)).k = 2 ∧ (pg P1 (tc l k % 2 ^ F)).s = s := by
                rcases hpl with hz0 | hk2
                · refine ⟨P.length, _, .inl ⟨hz0, rfl, rfl⟩, HI.out.fresh hF hpF hz0 hdd ⟨by omega, rfl⟩, ?_, ?_⟩
                  · unfold pg
                    rw [List.getD_eq_getElem?_getD, List.getElem?_append_left (by rw [List.length_set]; have := HI.out.len; omega), List.getElem?_set_self (by have := HI.out.len; omega)]
                    rfl
                  · unfold pg
                    rw [List.getD_eq_getElem?_getD, List.getElem?_append_left (by rw [List.length_set]; have := HI.out.len; omega), List.getElem?_set_self (by have := HI.out.len; omega)]
                    rfl
                · obtain ⟨m1, m2, m3⟩ := HI.out.more _ hpF hk2
                  refine ⟨(pg P (tc l k % 2 ^ F)).s, P, .inr ⟨?_, m3, rfl⟩, HI.out.wide, hk2, rfl⟩
                  rw [← m1]
                  generalize pg P (tc l k % 2 ^ F) = x at *
                  obtain ⟨a, b, c⟩ := x
                  simp only at hk2
                  subst hk2
                  rfl
              have HL := Lib.hid (tab_lay_long hT hF1 hF (by rw [← HN.out]; omega) (by omega) (by omega) k n (tc l k) hF2 hn15 htl hrDr HDL.out HN.out (fun ad e => by injection e with e; subst e; exact ⟨hgne, hgnp⟩) s (D.getD (tc l k % 2 ^ F) 0) _ rfl rfl hdd hD2k P1 hcase)
              have HIN := Lib.hid (fun P' h1 h2 => hI1.long (P' := P') hgd (by omega) rfl hk2 hs1 (by rw [← hn]; exact hD2k) h1 h2)
              rw [← hn] at HIN
              clear hco hcol htt htl hn hcase hI1 hk2 hs1 hpl hD2k hdd hpF
              generalize codeN l k = cc at *
              generalize D.getD (tc l k % 2 ^ F) 0 = dd at *
              generalize tc l k = tt at *
              go_wp2_with fail
              refine (HTU.out _).mono ?_
              rintro e w5 ⟨rfl, hw⟩
              subst hw
              go_wp2_with fail
              refine HL.out.mono ?_
              rintro e w6 ⟨rfl, g', cap', P', hPl, hPe, hT6, hs6, hg6⟩
              go_wp2_with fail
              go_roundg (gq - 1)
              case measure => omega
              case rel => exact ⟨k + 1, P', g', cap', by omega, by omega, by go_num, hT6, HIN.out P' hPl hPe, by omega, hs.trans hs6 (fun q hq e => by rcases e with e | e <;> omega)⟩
        · have hkl : k = l.length := by omega
          subst hkl
          go_wp2_with fail
          go_ret2
          exact ⟨p, _, P, frq, ctq, rfl, hT, ⟨hgd, hF1, hF, ⟨D, HI.out, fun q _ => by have := HD1.out q; omega⟩, HFR.out, HCT.out⟩, by omega, hs.below_of hb5 hb5.size (fun q hq e => by omega)⟩
end Go.Proofs.Yteknaaijlkenkaa
