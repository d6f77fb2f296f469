import Derived.Test.YteknaaijlkenkaaTabS
namespace Go.Proofs.Yteknaaijlkenkaa
set_option linter.unusedVariables false
set_option linter.unusedSimpArgs false
open Go.RowKit
attribute [local go_sem] max2i min2i max2t min2t

/-! ### a table in memory -/
def tblF (F : Nat) (v : Value) (fr ct : Nat → Int) (i : Nat) : Value := if i = 0 then .int .i64 F else if i = 1 then v else if i < 18 then .int .u32 (fr (i - 2)) else .int .u32 (ct (i - 18))
abbrev TabB (w : World) (p F : Nat) (v : Value) (fr ct : Nat → Int) : Prop := Blk w p 130 (tab 34 (tblF F v fr ct))
section
variable {w : World} {p F : Nat} {v : Value} {fr ct : Nat → Int}
theorem TabB.first (h : TabB w p F v fr ct) : w.cell? ⟨p, 0, none⟩ = some (.int .i64 F) := by rw [Blk.cell h, tab_get (by omega)]; rfl
theorem TabB.rows (h : TabB w p F v fr ct) : w.cell? ⟨p, 1, none⟩ = some v := by rw [Blk.cell h, tab_get (by omega)]; rfl
theorem TabB.frm (h : TabB w p F v fr ct) {k : Nat} (hk : k < 16) : w.cell? ⟨p, 2 + k, none⟩ = some (.int .u32 (fr k)) := by
  rw [Blk.cell h, tab_get (by omega), tblF, if_neg (by omega), if_neg (by omega), if_pos (by omega), Nat.add_sub_cancel_left]
theorem TabB.cnt (h : TabB w p F v fr ct) {k : Nat} (hk : k < 16) : w.cell? ⟨p, 18 + k, none⟩ = some (.int .u32 (ct k)) := by
  rw [Blk.cell h, tab_get (by omega), tblF, if_neg (by omega), if_neg (by omega), if_neg (by omega), Nat.add_sub_cancel_left]
end
def begC (l : List Int) (c n : Nat) : Bool := (List.range l.length).any (fun j => decide (n < ln l j ∧ codeN l j / 2 ^ (ln l j - n) = c))
theorem begC_iff {l : List Int} (hg : Good l) {c n : Nat} : begC l c n = true ↔ ∃ j, n < ln l j ∧ codeN l j / 2 ^ (ln l j - n) = c := by
  unfold begC
  rw [List.any_eq_true]
  constructor
  · rintro ⟨j, _, h⟩; exact ⟨j, by simpa using h⟩
  · rintro ⟨j, h1, h2⟩; exact ⟨j, by rw [List.mem_range]; exact hg.lt (by omega), by simp [h1, h2]⟩
structure BgRel (w : World) (l : List Int) (c n : Nat) (g : Nat) (v7 : Value) (wr : World) : Prop where mk ::
  out_ : ∃ (k : Nat), n + 1 ≤ k ∧ k ≤ 16 ∧ 16 ≤ g + k ∧ v7 = .int .i64 (k : Int) ∧ (∀ j, n < ln l j → ln l j < k → codeN l j / 2 ^ (ln l j - n) ≠ c) ∧ Same (fun _ => False) w wr
set_option maxHeartbeats 1600000 in
set_option maxRecDepth 100000 in
theorem tab_begins {w : World} {p F : Nat} {v : Value} {fr ct : Nat → Int} {l : List Int} (hg : Good l) (h : TabB w p F v fr ct) (hfr : ∀ k, 1 ≤ k → k ≤ 15 → 0 < cnt l k → fr k = nxt l k) (hct : ∀ k, 1 ≤ k → k ≤ 15 → ct k = cnt l k)
    (c n : Nat) (hc : c < 2 ^ n) (hn : n ≤ 15) :
    Calls Try.prog 88 #[.pointer (some ⟨p, 0, none⟩), .int .u32 c, .int .i64 n] w fun e w' => e = .returned (.bool (begC l c n)) ∧ Same (fun _ => False) w w' := by
  obtain ⟨bq, hbq⟩ : ∃ b, begC l c n = b := ⟨_, rfl⟩
  rw [hbq]
  have HB := Lib.hid hbq
  clear hbq
  have HFR := Lib.hid hfr
  have HCT := Lib.hid hct
  clear hfr hct
  have hc15 : c < 32768 := Nat.lt_of_lt_of_le hc (by have := Nat.pow_le_pow_right (n := 2) (by decide) hn; simpa using this)
  go_enter Try.func88, Try.ntmps88
  go_wp2_with fail
  go_loopg [7] 16 (BgRel w l c n)
  case atStart => exact ⟨n + 1, by omega, by omega, by omega, by go_num, fun j j1 j2 => by omega, Same.refl _⟩
  case round =>
    obtain ⟨k, hk0, hk1, hgk, rfl, hA, hs⟩ := hrel
    have HA := Lib.hid hA
    clear hA
    have hpr : TabB wr p F v fr ct := Blk.same h hs (fun c => c)
    by_cases hk : k ≤ 15
    · have e0 : decide ((k : Int) ≤ 15) = true := by simp; omega
      have e0' : decide (k ≤ 15) = true := by simp; omega
      obtain ⟨m, hm, hms, _, _⟩ := hg.run (k := k) (by omega) hk
      have hsome := hg.ex (n := n) (c := c) (show n < k by omega) hk hm
      have hlow : c * 2 ^ (k - n) < 4294967296 ∧ (c + 1) * 2 ^ (k - n) < 4294967296 := by
        have h1 : (c + 1) * 2 ^ (k - n) ≤ 2 ^ n * 2 ^ (k - n) := Nat.mul_le_mul_right _ (by omega)
        rw [← Nat.pow_add, show n + (k - n) = k from by omega] at h1
        have h2 := Nat.pow_le_pow_right (n := 2) (by decide) hk
        have h3 : c * 2 ^ (k - n) ≤ (c + 1) * 2 ^ (k - n) := Nat.mul_le_mul_right _ (by omega)
        have : 2 ^ 15 = 32768 := by decide
        omega
      have hl1 : (c : Int) * 2 ^ (k - n) % 4294967296 = ((c * 2 ^ (k - n) : Nat) : Int) := by
        rw [Int.natCast_mul, Int.natCast_pow]
        have := hlow.1
        have e : ((c : Int) * ((2 : Nat) : Int) ^ (k - n)) = ((c * 2 ^ (k - n) : Nat) : Int) := by rw [Int.natCast_mul, Int.natCast_pow]
        rw [show (2 : Int) = ((2 : Nat) : Int) from rfl, e]; omega
      have hl2 : ((c : Int) + 1) * 2 ^ (k - n) % 4294967296 = (((c + 1) * 2 ^ (k - n) : Nat) : Int) := by
        have := hlow.2
        have e : (((c : Int) + 1) * ((2 : Nat) : Int) ^ (k - n)) = (((c + 1) * 2 ^ (k - n) : Nat) : Int) := by rw [Int.natCast_mul, Int.natCast_pow]; rfl
        rw [show (2 : Int) = ((2 : Nat) : Int) from rfl, e]; omega
      generalize c * 2 ^ (k - n) = lo at *
      generalize (c + 1) * 2 ^ (k - n) = hi at *
      have f0 := hpr.cnt (k := k) (by omega)
      rw [HCT.out k (by omega) hk] at f0
      have hkn : ((k : Int) - n) = ((k - n : Nat) : Int) := by omega
      have i1 : (k : Int) < 16 := by omega
      have fc : ∀ d : Ext (fun _ => False) wr, d.world.cell? ⟨p, 18 + k, none⟩ = some (.int .u32 (cnt l k)) := fun d => d.same.cell f0 (fun c => c)
      by_cases a1 : 0 < cnt l k
      · have f1 := hpr.frm (k := k) (by omega)
        rw [HFR.out k (by omega) hk a1, hm] at f1
        have ff : ∀ d : Ext (fun _ => False) wr, d.world.cell? ⟨p, 2 + k, none⟩ = some (.int .u32 m) := fun d => d.same.cell f1 (fun c => c)
        have b1 : decide ((0 : Int) < cnt l k) = true := by simp; omega
        have b1' : decide (0 < cnt l k) = true := by simp; omega
        by_cases a2 : m < hi
        · have b2 : decide ((m : Int) < hi) = true := by simp; omega
          have b2' : decide (m < hi) = true := by simp; omega
          by_cases a3 : lo < m + cnt l k
          · have hyes := hsome.1 ⟨a1, a2, a3⟩
            have hy : begC l c n = true := (begC_iff hg).2 (by obtain ⟨j, j1, j2⟩ := hyes; exact ⟨j, by omega, by rw [j1]; exact j2⟩)
            have b3 : decide ((lo : Int) < m + cnt l k) = true := by simp; omega
            have b3' : decide (lo < m + cnt l k) = true := by simp; omega
            have HY := Lib.hid hy
            clear hsome hyes hy hm a1 a2 a3
            generalize cnt l k = q at *
            go_wp2_with fail
            refine wp_region_ext (fun _ => False) (by kernel_rfl) (by kernel_rfl) ?_
            repeat (go_big_quiet_step (fail))
            refine wpQuiet_nil ?_
            rintro _ ⟨d, rfl⟩
            go_wp2_with fail
            go_ret
            exact ⟨by rw [← HB.out, HY.out]; rfl, hs.then d.same⟩
          · have b3 : decide ((lo : Int) < m + cnt l k) = false := by simp; omega
            have b3' : decide (lo < m + cnt l k) = false := by simp; omega
            have HNO := Lib.hid (fun hh => a3 (hsome.2 hh).2.2)
            clear hsome hm a1 a2 a3
            generalize cnt l k = q at *
            go_wp2_with fail
            refine wp_region_ext (fun _ => False) (by kernel_rfl) (by kernel_rfl) ?_
            repeat (go_big_quiet_step (fail))
            refine wpQuiet_nil ?_
            rintro _ ⟨d, rfl⟩
            go_wp2_with fail
            go_roundg (gk - 1)
            case measure => omega
            case rel =>
              refine ⟨k + 1, by omega, by omega, by omega, by go_num, fun j j1 j2 => ?_, hs.then d.same⟩
              by_cases e : ln l j = k
              · rw [e]; exact fun e2 => HNO.out ⟨j, e, e2⟩
              · exact HA.out j j1 (by omega)
        · have b2 : decide ((m : Int) < hi) = false := by simp; omega
          have b2' : decide (m < hi) = false := by simp; omega
          have HNO := Lib.hid (fun hh => a2 (hsome.2 hh).2.1)
          clear hsome hm a1 a2
          generalize cnt l k = q at *
          go_wp2_with fail
          refine wp_region_ext (fun _ => False) (by kernel_rfl) (by kernel_rfl) ?_
          repeat (go_big_quiet_step (fail))
          refine wpQuiet_nil ?_
          rintro _ ⟨d, rfl⟩
          go_wp2_with fail
          go_roundg (gk - 1)
          case measure => omega
          case rel =>
            refine ⟨k + 1, by omega, by omega, by omega, by go_num, fun j j1 j2 => ?_, hs.then d.same⟩
            by_cases e : ln l j = k
            · rw [e]; exact fun e2 => HNO.out ⟨j, e, e2⟩
            · exact HA.out j j1 (by omega)
      · have b1 : decide ((0 : Int) < cnt l k) = false := by simp; omega
        have b1' : decide (0 < cnt l k) = false := by simp; omega
        have HNO := Lib.hid (fun hh => a1 (hsome.2 hh).1)
        clear hsome hm a1
        generalize cnt l k = q at *
        go_wp2_with fail
        refine wp_region_ext (fun _ => False) (by kernel_rfl) (by kernel_rfl) ?_
        repeat (go_big_quiet_step (fail))
        refine wpQuiet_nil ?_
        rintro _ ⟨d, rfl⟩
        go_wp2_with fail
        go_roundg (gk - 1)
        case measure => omega
        case rel =>
          refine ⟨k + 1, by omega, by omega, by omega, by go_num, fun j j1 j2 => ?_, hs.then d.same⟩
          by_cases e : ln l j = k
          · rw [e]; exact fun e2 => HNO.out ⟨j, e, e2⟩
          · exact HA.out j j1 (by omega)
    · have e0 : decide ((k : Int) ≤ 15) = false := by simp; omega
      have e0' : decide (k ≤ 15) = false := by simp; omega
      have hno : begC l c n = false := by
        rw [Bool.eq_false_iff]
        intro hh
        obtain ⟨j, j1, j2⟩ := (begC_iff hg).1 hh
        exact HA.out j j1 (by have := (hg.at_ j).1; omega) j2
      have HY := Lib.hid hno
      clear hno
      go_wp2_with fail
      go_ret
      exact ⟨by rw [← HB.out, HY.out]; rfl, hs⟩
end Go.Proofs.Yteknaaijlkenkaa
