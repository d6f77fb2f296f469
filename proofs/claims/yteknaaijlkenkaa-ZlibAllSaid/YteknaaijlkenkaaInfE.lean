import Derived.Test.YteknaaijlkenkaaJInd
import Derived.Test.YteknaaijlkenkaaJBlk
namespace Go.Proofs.Yteknaaijlkenkaa
set_option linter.unusedVariables false
set_option linter.unusedSimpArgs false
open Go.RowKit
attribute [local go_sem] max2i min2i max2t min2t

theorem base_is : ∀ k, k < 28 → ∀ wide : Bool, baseP (257 + k) wide = some (lenBase k, lenMore k) := by decide
theorem far_is : ∀ k, k < 32 → ∀ wide : Bool, (30 ≤ k → wide = true) → farP k wide = some (farBase k, farMore k) := by decide
def basV (r : Option (Nat × Nat)) : Value := match r with
  | some (a, b) => .tuple #[.int .i64 (a : Nat), .int .i64 (b : Nat), .bool true]
  | none => .tuple #[.int .i64 0, .int .i64 0, .bool false]
set_option maxHeartbeats 1600000 in
set_option maxRecDepth 100000 in
theorem inf_baseP (s : Nat) (h1 : 257 ≤ s) (h2 : s < 1000) (wide : Bool) (w : World) :
    Calls Try.prog 72 #[.int .i64 (s : Int), .bool wide] w fun e w' => e = .returned (basV (baseP s wide)) ∧ w' = w := by
  by_cases h3 : s < 285
  · obtain ⟨k, rfl⟩ : ∃ k, s = 257 + k := ⟨s - 257, by omega⟩
    rw [base_is k (by omega) wide]
    exact inf_base k (by omega) wide w
  · by_cases h4 : s = 285
    · subst h4
      refine (inf_base285 wide w).mono ?_
      rintro e w' ⟨rfl, rfl⟩
      refine ⟨?_, rfl⟩
      cases wide <;> rfl
    · have e1 : ((s : Int) == 285) = false := by rw [beq_eq_false_iff_ne]; omega
      have e2 : (s == 285) = false := by rw [beq_eq_false_iff_ne]; omega
      have e3 : decide ((s : Int) < 257) = false := by simp; omega
      have e4 : decide ((285 : Int) < s) = true := by simp; omega
      have hb : baseP s wide = none := by unfold baseP; rw [if_neg h4, if_pos (by omega)]
      rw [hb]
      go_enter Try.func72, Try.ntmps72
      go_wp2_with fail
      go_ret3
      exact ⟨rfl, rfl⟩
set_option maxHeartbeats 1600000 in
set_option maxRecDepth 100000 in
theorem inf_farP (s : Nat) (h2 : s < 32) (wide : Bool) (w : World) :
    Calls Try.prog 73 #[.int .i64 (s : Int), .bool wide] w fun e w' => e = .returned (basV (farP s wide)) ∧ w' = w := by
  by_cases h3 : 30 ≤ s → wide = true
  · rw [far_is s h2 wide h3]
    exact inf_far s h2 wide h3 w
  · obtain ⟨h4, h5⟩ : 30 ≤ s ∧ wide = false := by
      refine ⟨?_, ?_⟩
      · rcases Nat.lt_or_ge s 30 with h | h
        · exact absurd (fun c => by omega) h3
        · exact h
      · cases wide
        · rfl
        · exact absurd (fun _ => rfl) h3
    subst h5
    have e1 : decide ((s : Int) < 0) = false := by simp
    have e3 : decide ((31 : Int) < s) = false := by simp; omega
    have e4 : decide ((29 : Int) < s) = true := by simp; omega
    have hb : farP s false = none := by unfold farP; rw [if_pos (.inr ⟨by omega, rfl⟩)]
    rw [hb]
    go_enter Try.func73, Try.ntmps73
    go_wp2_with fail
    go_ret3
    exact ⟨rfl, rfl⟩
/-! ### a row in a local array -/
theorem ints_set (k : IntKind) (L : List Int) (i : Nat) (x : Int) : ((ints k L).toArray).setIfInBounds i (.int k x) = (ints k (L.set i x)).toArray := by simp [ints, List.map_set]
theorem arr_row {w : World} {q : Nat} {t : TypeId} {L : List Int} {c : Nat} (h : Blk w q t (ints .i64 L).toArray) (hc : L.length = c) (hm : c ≤ 1000000) (hwf : ∀ x ∈ L, 0 ≤ x ∧ x ≤ 15) : RowOf w .i64 (some ⟨q, 0, none⟩) c L :=
  ⟨fun i x hx => ⟨⟨q, 0, none⟩, rfl, by
    rw [Addr.add_lit, Nat.zero_add, h.cell]
    simp [ints, hx]⟩, by omega, by omega, fun x hx => i64w (hwf x hx), by simp⟩
theorem fixL_len : fixL.length = 288 := by rw [fixL, List.length_append, List.length_append, List.length_append, List.length_replicate, List.length_replicate, List.length_replicate, List.length_replicate]
theorem fixL_at (i : Nat) (h : i < 288) : fixL[i]? = some (if i < 144 ∨ 280 ≤ i then 8 else if i < 256 then 9 else 7) := by
  unfold fixL
  by_cases h1 : i < 144
  · rw [if_pos (.inl h1), List.append_assoc, List.append_assoc, List.getElem?_append_left (by simpa using h1), List.getElem?_replicate, if_pos h1]
  · by_cases h2 : i < 256
    · rw [if_neg (by omega), if_pos h2, List.append_assoc, List.append_assoc, List.getElem?_append_right (by simp; omega), List.getElem?_append_left (by simp; omega), List.getElem?_replicate, if_pos (by simp; omega)]
    · by_cases h3 : i < 280
      · rw [if_neg (by omega), if_neg h2, List.append_assoc, List.append_assoc, List.getElem?_append_right (by simp; omega), List.getElem?_append_right (by simp; omega), List.getElem?_append_left (by simp; omega), List.getElem?_replicate, if_pos (by simp; omega)]
      · rw [if_pos (by omega), List.append_assoc, List.append_assoc, List.getElem?_append_right (by simp; omega), List.getElem?_append_right (by simp; omega), List.getElem?_append_right (by simp; omega), List.getElem?_replicate, if_pos (by simp; omega)]
theorem fixL_code : codesErr fixL = 0 := by decide +kernel
theorem fixD_code : codesErr fixD = 0 := by decide +kernel
structure FxRel (w : World) (q : Nat) (t : TypeId) (L : List Int) (g : Nat) (s10 : Value) (wr : World) : Prop where mk ::
  out_ : ∃ i : Nat, i ≤ L.length ∧ g = L.length - i ∧ s10 = .int .i64 i ∧ Blk wr q t (ints .i64 (filled L i)).toArray ∧ Below w.heap.size w wr
theorem zero288 : Try.zeroCells114 = (ints .i64 (List.replicate 288 0)).toArray := by kernel_rfl
def z32 : Array Value := #[.int .i64 0, .int .i64 0, .int .i64 0, .int .i64 0, .int .i64 0, .int .i64 0, .int .i64 0, .int .i64 0, .int .i64 0, .int .i64 0, .int .i64 0, .int .i64 0, .int .i64 0, .int .i64 0, .int .i64 0, .int .i64 0, .int .i64 0, .int .i64 0, .int .i64 0, .int .i64 0, .int .i64 0, .int .i64 0, .int .i64 0, .int .i64 0, .int .i64 0, .int .i64 0, .int .i64 0, .int .i64 0, .int .i64 0, .int .i64 0, .int .i64 0, .int .i64 0]
theorem zero32 : z32 = (ints .i64 (List.replicate 32 0)).toArray := by kernel_rfl
theorem fixD_len : fixD.length = 32 := by rw [fixD, List.length_replicate]
theorem fixL_ok : ∀ x ∈ fixL, 0 ≤ x ∧ x ≤ 15 := by decide +kernel
theorem fixD_ok : ∀ x ∈ fixD, 0 ≤ x ∧ x ≤ 15 := by decide +kernel
structure FxRel2 (w : World) (q : Nat) (t : TypeId) (L : List Int) (g : Nat) (s10 : Value) (wr : World) : Prop where mk ::
  out_ : ∃ i : Nat, i ≤ L.length ∧ g = L.length - i ∧ s10 = .int .i64 i ∧ Blk wr q t (ints .i64 (filled L i)).toArray ∧ Below q w wr
set_option maxHeartbeats 4000000 in
set_option maxRecDepth 100000 in
theorem inf_fixed (w : World) :
    Calls Try.prog 66 #[] w fun e w' => ∃ p1 p2 b1 b2 : Nat, e = .returned (.tuple #[.pointer (some ⟨p1, 0, none⟩), .pointer (some ⟨p2, 0, none⟩)]) ∧ TOk w' b1 fixL p1 9 ∧ TOk w' b2 fixD p2 5 ∧ w.heap.size ≤ p1 ∧ w.heap.size ≤ p2 ∧ w.heap.size ≤ b1 ∧ w.heap.size ≤ b2 ∧ Below w.heap.size w w' := by
  have hB0 := (Below.refl w.heap.size w).alloc (Nat.le_refl _) (.cells Try.zeroCells114 114)
  have hA0 : Blk (w.alloc (.cells Try.zeroCells114 114)) w.heap.size 114 (ints .i64 (filled fixL 0)).toArray := by
    have := Blk.new w 114 Try.zeroCells114
    rw [filled_zero, fixL_len]
    rwa [zero288] at this ⊢
  go_enter Try.func66, Try.ntmps66
  go_wp2_with fail
  generalize w.alloc (.cells Try.zeroCells114 114) = w1 at *
  go_loopg [10] 288 (FxRel w w.heap.size 114 fixL)
  case atStart => exact ⟨⟨0, by omega, by rw [fixL_len], rfl, hA0, hB0⟩⟩
  case round =>
    obtain ⟨i, hi, hg, rfl, hblk, hB⟩ := hrel.out_
    rw [fixL_len] at hi
    clear hrel
    by_cases hlt : i < 288
    · have e1 : decide ((i : Int) < 288) = true := by simp; omega
      by_cases h1 : i < 144
      · have e2 : decide ((i : Int) < 144) = true := by simp; omega
        have hset : (filled fixL i).set i 8 = filled fixL (i + 1) := filled_set (by rw [fixL_at i hlt]; exact congrArg some (if_pos (.inl h1)))
        have hb2 := hblk.set_ i (.int .i64 8)
        rw [ints_set, hset] at hb2
        have hB2 := below_set hB (p := ⟨w.heap.size, i, none⟩) (Nat.le_refl _) (.int .i64 8)
        have fz := hblk.frozen i
        have fc : wr.cell? ⟨w.heap.size, i, none⟩ = some (.int .i64 ((filled fixL i).getD i 0)) := by
          rw [hblk.cell]
          have hl : i < (filled fixL i).length := by rw [filled_length fixL (i := i) (by rw [fixL_len]; omega), fixL_len]; exact hlt
          simp [ints, hl]
        have HB := Lib.hid hb2
        clear hset hb2 hblk
        go_wp2_with fail
        go_roundg (gk - 1)
        case measure =>
          rw [fixL_len] at hg
          omega
        case rel => exact ⟨⟨i + 1, by rw [fixL_len]; omega, by rw [fixL_len] at hg ⊢; omega, by go_num, HB.out, hB2⟩⟩
      · have e2 : decide ((i : Int) < 144) = false := by simp; omega
        by_cases h2 : 280 ≤ i
        · have e3 : decide ((280 : Int) ≤ i) = true := by simp; omega
          have hset : (filled fixL i).set i 8 = filled fixL (i + 1) := filled_set (by rw [fixL_at i hlt]; exact congrArg some (if_pos (.inr h2)))
          have hb2 := hblk.set_ i (.int .i64 8)
          rw [ints_set, hset] at hb2
          have hB2 := below_set hB (p := ⟨w.heap.size, i, none⟩) (Nat.le_refl _) (.int .i64 8)
          have fz := hblk.frozen i
          have fc : wr.cell? ⟨w.heap.size, i, none⟩ = some (.int .i64 ((filled fixL i).getD i 0)) := by
            rw [hblk.cell]
            have hl : i < (filled fixL i).length := by rw [filled_length fixL (i := i) (by rw [fixL_len]; omega), fixL_len]; exact hlt
            simp [ints, hl]
          have HB := Lib.hid hb2
          clear hset hb2 hblk
          go_wp2_with fail
          go_roundg (gk - 1)
          case measure =>
            rw [fixL_len] at hg
            omega
          case rel => exact ⟨⟨i + 1, by rw [fixL_len]; omega, by rw [fixL_len] at hg ⊢; omega, by go_num, HB.out, hB2⟩⟩
        · have e3 : decide ((280 : Int) ≤ i) = false := by simp; omega
          by_cases h3 : i < 256
          · have e4 : decide ((i : Int) < 256) = true := by simp; omega
            have hset : (filled fixL i).set i 9 = filled fixL (i + 1) := filled_set (by rw [fixL_at i hlt]; exact congrArg some ((if_neg (by omega)).trans (if_pos h3)))
            have hb2 := hblk.set_ i (.int .i64 9)
            rw [ints_set, hset] at hb2
            have hB2 := below_set hB (p := ⟨w.heap.size, i, none⟩) (Nat.le_refl _) (.int .i64 9)
            have fz := hblk.frozen i
            have fc : wr.cell? ⟨w.heap.size, i, none⟩ = some (.int .i64 ((filled fixL i).getD i 0)) := by
              rw [hblk.cell]
              have hl : i < (filled fixL i).length := by rw [filled_length fixL (i := i) (by rw [fixL_len]; omega), fixL_len]; exact hlt
              simp [ints, hl]
            have HB := Lib.hid hb2
            clear hset hb2 hblk
            go_wp2_with fail
            go_roundg (gk - 1)
            case measure =>
              rw [fixL_len] at hg
              omega
            case rel => exact ⟨⟨i + 1, by rw [fixL_len]; omega, by rw [fixL_len] at hg ⊢; omega, by go_num, HB.out, hB2⟩⟩
          · have e4 : decide ((i : Int) < 256) = false := by simp; omega
            have hset : (filled fixL i).set i 7 = filled fixL (i + 1) := filled_set (by rw [fixL_at i hlt]; exact congrArg some ((if_neg (by omega)).trans (if_neg h3)))
            have hb2 := hblk.set_ i (.int .i64 7)
            rw [ints_set, hset] at hb2
            have hB2 := below_set hB (p := ⟨w.heap.size, i, none⟩) (Nat.le_refl _) (.int .i64 7)
            have fz := hblk.frozen i
            have fc : wr.cell? ⟨w.heap.size, i, none⟩ = some (.int .i64 ((filled fixL i).getD i 0)) := by
              rw [hblk.cell]
              have hl : i < (filled fixL i).length := by rw [filled_length fixL (i := i) (by rw [fixL_len]; omega), fixL_len]; exact hlt
              simp [ints, hl]
            have HB := Lib.hid hb2
            clear hset hb2 hblk
            go_wp2_with fail
            go_roundg (gk - 1)
            case measure =>
              rw [fixL_len] at hg
              omega
            case rel => exact ⟨⟨i + 1, by rw [fixL_len]; omega, by rw [fixL_len] at hg ⊢; omega, by go_num, HB.out, hB2⟩⟩
    · have e1 : decide ((i : Int) < 288) = false := by simp; omega
      have hi2 : i = 288 := by omega
      subst hi2
      have hf : filled fixL 288 = fixL := by have := filled_all fixL; rwa [fixL_len] at this
      rw [hf] at hblk
      clear hf
      have hr := arr_row hblk fixL_len (by omega) fixL_ok
      have hB32 := hB.alloc hB.size (.cells z32 115)
      have hr32 := hr.belo ((Below.refl _ _).alloc (Nat.le_refl _) (.cells z32 115))
      have hD0 : Blk (wr.alloc (.cells z32 115)) wr.heap.size 115 (ints .i64 (filled fixD 0)).toArray := by
        have := Blk.new wr 115 z32
        rw [filled_zero, fixD_len]
        rwa [zero32] at this ⊢
      have hBr := (Below.refl wr.heap.size (wr.alloc (.cells z32 115)))
      have hzz : wr.heap.size ≤ (wr.alloc (.cells z32 115)).heap.size := by simp
      unfold z32 at hD0 hB32 hr32 hBr hzz
      have hlt1 : w.heap.size < wr.heap.size := Blk.lt hblk
      clear hr hblk
      obtain ⟨wr_, hwr_⟩ : ∃ x, x = wr := ⟨_, rfl⟩
      rw [← hwr_] at hD0 hB32 hr32 hBr hzz hlt1 hB ⊢
      clear hwr_
      go_wp2_with fail
      generalize wr_.alloc (.cells #[.int .i64 0, .int .i64 0, .int .i64 0, .int .i64 0, .int .i64 0, .int .i64 0, .int .i64 0, .int .i64 0, .int .i64 0, .int .i64 0, .int .i64 0, .int .i64 0, .int .i64 0, .int .i64 0, .int .i64 0, .int .i64 0, .int .i64 0, .int .i64 0, .int .i64 0, .int .i64 0, .int .i64 0, .int .i64 0, .int .i64 0, .int .i64 0, .int .i64 0, .int .i64 0, .int .i64 0, .int .i64 0, .int .i64 0, .int .i64 0, .int .i64 0, .int .i64 0] 115) = w2 at *
      go_loopg [30] 32 (FxRel2 w2 wr_.heap.size 115 fixD)
      case atStart => exact ⟨⟨0, by omega, by rw [fixD_len], rfl, hD0, hBr⟩⟩
      case round =>
        obtain ⟨i, hi, hg, rfl, hblk, hB2⟩ := hrel.out_
        rw [fixD_len] at hi
        clear hrel
        by_cases hlt : i < 32
        · have e1 : decide ((i : Int) < 32) = true := by simp; omega
          have hset : (filled fixD i).set i 5 = filled fixD (i + 1) := filled_set (by rw [fixD, List.getElem?_replicate, if_pos hlt])
          have hb2 := hblk.set_ i (.int .i64 5)
          rw [ints_set, hset] at hb2
          have hB3 := below_set hB2 (p := ⟨wr_.heap.size, i, none⟩) (Nat.le_refl _) (.int .i64 5)
          have fz := hblk.frozen i
          have fc : wr.cell? ⟨wr_.heap.size, i, none⟩ = some (.int .i64 ((filled fixD i).getD i 0)) := by
            rw [hblk.cell]
            have hl : i < (filled fixD i).length := by rw [filled_length fixD (i := i) (by rw [fixD_len]; omega), fixD_len]; exact hlt
            simp [ints, hl]
          have HB := Lib.hid hb2
          clear hset hb2 hblk
          go_wp2_with fail
          go_roundg (gk - 1)
          case measure =>
            rw [fixD_len] at hg
            omega
          case rel => exact ⟨⟨i + 1, by rw [fixD_len]; omega, by rw [fixD_len] at hg ⊢; omega, by go_num, HB.out, hB3⟩⟩
        · have e1 : decide ((i : Int) < 32) = false := by simp; omega
          have hi2 : i = 32 := by omega
          subst hi2
          have hf : filled fixD 32 = fixD := by have := filled_all fixD; rwa [fixD_len] at this
          rw [hf] at hblk
          have hz2 : w2.heap.size ≤ wr.heap.size := hB2.size
          have hr1 := hr32.same (S := fun k => ¬ k < wr_.heap.size) ⟨hB2.os, hB2.tape, hB2.output, hB2.size, fun k _ hk => hB2.block k (Nat.lt_of_not_le fun c => hk (by omega))⟩ (fun ad e c => by injection e with e; subst e; exact c hlt1)
          have hrD := arr_row hblk fixD_len (by omega) fixD_ok
          have hB4 := hB32.trans (hB2.mono (by omega))
          have T1 := tab_new hr1 fixL_code 9 (by omega) (by omega)
          rw [fixL_len] at T1
          have HT1 := Lib.hid T1
          clear hf T1
          go_wp2_with fail
          refine HT1.out.mono ?_
          rintro e w4 ⟨p1, rfl, hT1, hp1, hb4⟩
          have T2 := tab_new (hrD.belo hb4) fixD_code 5 (by omega) (by omega)
          rw [fixD_len] at T2
          have HT2 := Lib.hid T2
          clear T2
          go_wp2_with fail
          refine HT2.out.mono ?_
          rintro e w5 ⟨p2, rfl, hT2, hp2, hb5⟩
          have hT1' := hT1.below hb5
          have hB5 := hB4.trans ((hb4.trans (hb5.mono hb4.size)).mono hB4.size)
          have hz4 := hb4.size
          have hz0 := hB4.size
          go_wp2_with fail
          go_ret2
          exact ⟨p1, p2, _, _, rfl, hT1', hT2, by omega, by omega, by omega, by omega, hB5⟩
end Go.Proofs.Yteknaaijlkenkaa
