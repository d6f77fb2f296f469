import Derived.Test.YteknaaijlkenkaaAdl
namespace Go.Proofs.Yteknaaijlkenkaa
set_option linter.unusedVariables false
set_option linter.unusedSimpArgs false
open Go.RowKit

/-! ### stevedoreref1.Adler from 1 on -/
set_option maxHeartbeats 1600000 in
set_option maxRecDepth 100000 in
theorem ref_adler (A : Option Addr) (c : Nat) (l : List Int) (hl : l.length ≤ 1099511627776) (w : World) (h : RowOf w .u8 A c l) :
    Calls Try.prog 17 #[.int .u32 1, .slice A l.length c] w fun e w' => e = .returned (.int .u32 (adlN l : Nat)) ∧ w' = w := by
  have hm := h.most
  have hcap := h.cap
  go_enter Try.func17, Try.ntmps17
  go_wp2_with fail
  go_loopg [5, 6, 7] l.length (AdRel w l)
  case atStart => exact ⟨⟨0, by omega, by omega, rfl, by rw [List.take_zero]; rfl, by rw [List.take_zero]; rfl, rfl⟩⟩
  case round =>
    obtain ⟨i, hil, hg, rfl, rfl, rfl, rfl⟩ := hrel.out_
    rcases Nat.lt_or_ge i l.length with hlt | hge
    · have c1 : decide ((i : Int) < l.length) = true := by simp; omega
      obtain ⟨ad, rfl, hc⟩ := h.rd.at_ hlt
      have hlt2 := adl_lt (l.take i) (1, 0) (by simp) (by simp)
      have hb := h.wf (l.getD i 0) (by rw [List.getD_eq_getElem?_getD, List.getElem?_eq_getElem hlt]; exact List.getElem_mem hlt)
      have hb : 0 ≤ l.getD i 0 ∧ l.getD i 0 < 256 := by simp only [Lit.wf, IntKind.min, IntKind.max, IntKind.bits, IntKind.signed] at hb; simp at hb; simpa using (by omega)
      have hsn := adl_snoc (l.take i) (l.getD i 0) (1, 0)
      rw [← take_next l i 0 hlt] at hsn
      have HS := Lib.hid hsn
      obtain ⟨x, hx⟩ : ∃ x, (adl (l.take i) (1, 0)).1 = x := ⟨_, rfl⟩
      obtain ⟨y, hy⟩ : ∃ y, (adl (l.take i) (1, 0)).2 = y := ⟨_, rfl⟩
      rw [hx, hy] at hlt2
      rw [hx, hy] at hsn
      have HS := Lib.hid hsn
      rw [hx, hy]
      clear hsn hrel hx hy
      generalize l.getD i 0 = b at *
      have HB := Lib.hid hb
      have hl2 := Lib.hid hlt2
      clear hb hlt2
      go_wp2_with fail
      go_roundg (gk - 1)
      case measure => omega
      case rel =>
        have hb := HB.out
        have hlt2 := hl2.out
        exact ⟨⟨i + 1, by omega, by omega, by go_num, by rw [HS.out]; exact congrArg (Value.int .u32) (by simp only; omega), by rw [HS.out]; exact congrArg (Value.int .u32) (by simp only; omega), rfl⟩⟩
    · have : i = l.length := by omega
      subst this
      have c1 : decide ((l.length : Int) < l.length) = false := by simp
      have hlt2 := adl_lt l (1, 0) (by simp) (by simp)
      have hor := or_u32hi (adl l (1, 0)).1 (adl l (1, 0)).2 hlt2.1 hlt2.2
      have e9 : (((adl l (1, 0)).2 : Nat) : Int) * 65536 % 4294967296 = (((adl l (1, 0)).2 * 65536 : Nat) : Int) := by omega
      have HOR := Lib.hid (show bits .or .u32 ((((adl l (1, 0)).2 : Nat) : Int) * 65536 % 4294967296) ((adl l (1, 0)).1 : Nat) = (adlN l : Nat) from by rw [e9, hor]; rfl)
      clear hor e9 hlt2
      go_wp2_with fail
      go_ret
      exact ⟨by rw [HOR.out]; rfl, rfl⟩
end Go.Proofs.Yteknaaijlkenkaa
