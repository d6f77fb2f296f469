import Derived.Test.YtnnjpbghnfohaaaMapX
import Derived.Test.YtnnjpbghnfohaaaMapG
namespace Go.Proofs.Ytnnjpbghnfohaaa
set_option linter.unusedVariables false
set_option linter.unusedSimpArgs false
open Go.RowKit Go.MapKept
attribute [local go_sem] max2i min2i max2t min2t

set_option maxHeartbeats 1600000 in
set_option maxRecDepth 100000 in
theorem match_again (A : Option Addr) (c : Nat) (s : List Int) (p n : Nat) (w : World) (hr : RowOf w .u8 A c s) (h : p + n ≤ s.length) (hl : s.length ≤ 100000) :
    Calls Try.prog 17 #[.slice A s.length c, .int .i64 p, .int .i64 n] w fun e w' => e = .returned (.slice (if c = p then A else A.map (fun x => x.add p)) n (c - p)) ∧ w' = w := by
  have hm := hr.most
  have hcap := hr.cap
  have l1 : p ≤ p + n := by omega
  have l2 : p + n ≤ c := by omega
  have k1 : ((p : Int) + n).toNat = p + n := by omega
  have k2 : p + n - p = n := by omega
  go_enter Try.func17, Try.ntmps17
  go_wp2_with fail
  all_goals
    go_ret
    exact ⟨rfl, rfl⟩
/-- A piece of a row as a text. -/
theorem conv_piece {w : World} {A : Option Addr} {c : Nat} {s : List Int} (hr : RowOf w .u8 A c s) (p n : Nat) (h : p + n ≤ s.length) (hn : 0 < n) (c' : Nat) :
    ∀ W', Same (fun _ => False) w W' → (convert 22 9 (.slice (A.map (fun x => x.add p)) n c')).run Try.prog W' = .ok (.string (strOfNums ((s.drop p).take n))) W' := fun W' hs => by
  have hr' := hr.same hs (fun _ _ c => c)
  obtain ⟨b, o, rfl⟩ := hr'.addr3 (fun e => by rw [e] at h; simp at h; omega)
  have hl : n = ((s.drop p).take n).length := by rw [List.length_take, List.length_drop]; omega
  have hb : RdB W' (some ⟨b, o + p, none⟩) ((s.drop p).take n) := .inr ⟨b, o + p, rfl, fun i hi => by
    rw [← hl] at hi
    obtain ⟨ad, e, hc⟩ := hr'.rd.at_ (i := p + i) (by omega)
    injection e with e
    subst e
    rw [Addr.add_lit] at hc
    rw [show o + p + i = o + (p + i) from by omega, hc, List.getD_eq_getElem?_getD, List.getD_eq_getElem?_getD, List.getElem?_take_of_lt hi, List.getElem?_drop]⟩
  rw [Option.map_some, Addr.add_lit]
  exact hb.to_string (P := Try.prog) hl Try.underlying22 Try.underlying5 Try.underlying9
theorem piece_same {s : List Int} {p q n : Nat} (hp : p + n ≤ s.length) (hq : q + n ≤ s.length) (h : ∀ i, i < n → s.getD (p + i) 0 = s.getD (q + i) 0) : (s.drop p).take n = (s.drop q).take n := by
  apply List.ext_getElem?
  intro i
  by_cases hi : i < n
  · rw [List.getElem?_take_of_lt hi, List.getElem?_take_of_lt hi, List.getElem?_drop, List.getElem?_drop]
    have := h i hi
    rw [List.getD_eq_getElem?_getD, List.getD_eq_getElem?_getD, List.getElem?_eq_getElem (by omega), List.getElem?_eq_getElem (by omega)] at this
    rw [List.getElem?_eq_getElem (by omega), List.getElem?_eq_getElem (by omega)]
    exact congrArg some this
  · rw [List.getElem?_eq_none (by rw [List.length_take]; omega), List.getElem?_eq_none (by rw [List.length_take]; omega)]
end Go.Proofs.Ytnnjpbghnfohaaa
