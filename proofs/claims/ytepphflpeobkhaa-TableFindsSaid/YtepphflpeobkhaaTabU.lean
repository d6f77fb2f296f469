import Derived.Test.YtepphflpeobkhaaTabT
namespace Go.Proofs.Ytepphflpeobkhaa
set_option linter.unusedVariables false
set_option linter.unusedSimpArgs false
open Go.RowKit
attribute [local go_sem] max2i min2i max2t min2t

structure SaRel (w : World) (m : Nat) (g : Nat) (v15 : Value) (wr : World) : Prop where mk ::
  out_ : ∃ (i : Nat), i ≤ m ∧ m ≤ g + i ∧ v15 = .int .i64 (i : Int) ∧ Below w.heap.size w wr
theorem u32_nat {x : Int} (h : (Lit.int .u32 x).wf = true) : ∃ n : Nat, x = n ∧ n < 4294967296 := by
  simp [Lit.wf, IntKind.min, IntKind.max, IntKind.bits, IntKind.signed] at h
  exact ⟨x.toNat, by omega, by omega⟩
set_option maxHeartbeats 4000000 in
set_option maxRecDepth 100000 in
theorem tableSames_walk (A : Option Addr) (c : Nat) (l : List Int) (a b : Int) (A1 : Option Addr) (c1 : Nat) (ls : List Int) (n : Int) (w : World) (h00 : RowOf w .i64 A c l) (h01 : (Lit.int .i64 a).wf = true) (h02 : (Lit.int .i64 b).wf = true) (h03 : RowOf w .u32 A1 c1 ls) (h04 : (Lit.int .i64 n).wf = true) :
    Calls Try.prog 7 #[.slice A l.length c, .int .i64 a, .int .i64 b, .slice A1 ls.length c1, .int .i64 n] w fun e w' => e = .returned (.bool true) ∧ Below w.heap.size w w' := by
  have ht := fun W => Lib.hid (told8 W)
  have hm := h00.most
  have hcap := h00.cap
  have hm1 := h03.most
  have hcap1 := h03.cap
  by_cases h1 : 100 < l.length
  · have h1' : decide ((100 : Int) < l.length) = true := by simp; omega
    go_enter Try.func7, Try.ntmps7
    go_wp2_with (go_at_call 18; refine (ht _).out.mono ?_; rintro e w' ⟨rfl, hb⟩)
    go_ret
    exact ⟨rfl, hb⟩
  have h1' : decide ((100 : Int) < l.length) = false := by simp; omega
  obtain ⟨D, hD0, hD, eD⟩ := uint_rem1 a 15 (by omega) (by omega)
  obtain ⟨E, hE0, hE, eE⟩ := uint_rem1 b 15 (by omega) (by omega)
  rw [show ((15 : Nat) : Int) = 15 from rfl] at eD eE
  have ED := Lib.hid eD
  have EE := Lib.hid eE
  clear eD eE
  obtain ⟨nc, hnc⟩ : ∃ nc : Nat, min (max n 0) 15 = nc := ⟨(min (max n 0) 15).toNat, by omega⟩
  have HNC := Lib.hid hnc
  clear hnc
  by_cases hok : codesErr l = 0
  · obtain ⟨m, hmm⟩ : ∃ m, m = min ls.length 60 := ⟨_, rfl⟩
    have HM := Lib.hid hmm
    have HOK := Lib.hid hok
    clear hmm hok
    go_enter Try.func7, Try.ntmps7
    go_wp2_with fail
    rw [ED.out]
    refine (tab_new h00 HOK.out D hD0 hD).mono ?_
    rintro e w1 ⟨p, rfl, hT, hp, hb1⟩
    go_wp2_with fail
    rw [EE.out]
    refine (tab_new (h00.belo hb1) HOK.out E hE0 hE).mono ?_
    rintro e w2 ⟨q, rfl, hU, hq, hb2⟩
    have hT2 := hT.below hb2
    have hB2 := hb1.trans (hb2.mono hb1.size)
    have hr2 := h03.belo hB2
    clear hT
    go_wp2_with fail
    go_loopg [15] m (SaRel w2 m)
    case atStart => exact ⟨0, by omega, by omega, rfl, Below.refl _ _⟩
    case round =>
      obtain ⟨i, hi, hg, rfl, hB⟩ := hrel
      by_cases hlt : i < m
      · have hil : i < ls.length := by have := HM.out; omega
        have hi60 : i < 60 := by have := HM.out; omega
        have e1 : decide ((i : Int) < ls.length) = true := by simp; omega
        have e2 : decide (i < ls.length) = true := by simp; omega
        have e3 : decide ((i : Int) < 60) = true := by simp; omega
        obtain ⟨x, hx⟩ : ∃ x, ls[i]? = some x := ⟨_, List.getElem?_eq_getElem hil⟩
        obtain ⟨v, rfl, hv⟩ := u32_nat (h03.wf x (List.mem_of_getElem? hx))
        obtain ⟨ad, rfl, q1⟩ := hr2.rd i v hx
        have q1w := (hB.cell (World.block_lt_of_cell? w2 _ q1)).trans q1
        have hF1 := (hT2.below hB).find v hv n nc HNC.out
        have hF2 := fun W (hb : Below w2.heap.size w2 W) => (hU.below hb).find v hv n nc HNC.out
        generalize (findN l (v % 2 ^ nc) nc).1 = a1 at *
        generalize (findN l (v % 2 ^ nc) nc).2.1 = a2 at *
        generalize (findN l (v % 2 ^ nc) nc).2.2 = a3 at *
        have HF1 := Lib.hid hF1
        have HF2 := Lib.hid hF2
        have e4 : ((a1 : Int) != a1) = false := by simp
        have e5 : ((a2 : Int) != a2) = false := by simp
        have e6 : ((a3 : Int) != a3) = false := by simp
        have e4' : (a1 != a1) = false := by simp
        have e5' : (a2 != a2) = false := by simp
        have e6' : (a3 != a3) = false := by simp
        clear hF1 hF2 hx
        go_wp2_with fail
        refine HF1.out.mono ?_
        rintro e w5 ⟨rfl, hb5⟩
        have hB5 := hB.trans (hb5.mono hB.size)
        have q2w := (hB5.cell (World.block_lt_of_cell? w2 _ q1)).trans q1
        go_wp2_with fail
        refine (HF2.out _ hB5).mono ?_
        rintro e w6 ⟨rfl, hb6⟩
        go_wp2_with fail
        go_roundg (gk - 1)
        case measure => omega
        case rel => exact ⟨i + 1, by omega, by omega, by go_num, hB5.trans (hb6.mono hB5.size)⟩
      · have hB9 := hB2.trans (hB.mono hB2.size)
        by_cases hil : i < ls.length
        · have e1 : decide ((i : Int) < ls.length) = true := by simp; omega
          have e2 : decide (i < ls.length) = true := by simp; omega
          have e3 : decide ((i : Int) < 60) = false := by have := HM.out; simp; omega
          go_wp2_with fail
          refine (ht _).out.mono ?_
          rintro e w9 ⟨rfl, hb9⟩
          go_wp2_with fail
          go_ret
          exact ⟨rfl, hB9.trans (hb9.mono hB9.size)⟩
        · have e1 : decide ((i : Int) < ls.length) = false := by simp; omega
          have e2 : decide (i < ls.length) = false := by simp; omega
          go_wp2_with fail
          refine (ht _).out.mono ?_
          rintro e w9 ⟨rfl, hb9⟩
          go_wp2_with fail
          go_ret
          exact ⟨rfl, hB9.trans (hb9.mono hB9.size)⟩
  · have HOK := Lib.hid hok
    have ce0 : (codesErr l != 0) = true := by simpa using hok
    have ce1 : (codesErr l != codesErr l) = false := by simp
    have H1 := Lib.hid (tab_new_bad1 A c l w h00 hok D)
    have H2 := Lib.hid (fun W (hb : Below w.heap.size w W) => tab_new_bad1 A c l W (h00.belo hb) hok E)
    clear hok HOK
    generalize codesErr l = ce at *
    go_enter Try.func7, Try.ntmps7
    go_wp2_with fail
    rw [ED.out]
    refine H1.out.mono ?_
    rintro e w1 ⟨rfl, hb1⟩
    go_wp2_with fail
    rw [EE.out]
    refine (H2.out _ hb1).mono ?_
    rintro e w2 ⟨rfl, hb2⟩
    have hB2 := hb1.trans (hb2.mono hb1.size)
    go_wp2_with fail
    refine (ht _).out.mono ?_
    rintro e w9 ⟨rfl, hb9⟩
    go_wp2_with fail
    go_ret
    exact ⟨rfl, hB2.trans (hb9.mono hB2.size)⟩
end Go.Proofs.Ytepphflpeobkhaa
