import Derived.Test.YteknaaijlkenkaaNum
namespace Go.Proofs.Yteknaaijlkenkaa
set_option linter.unusedVariables false
set_option linter.unusedSimpArgs false
open Go.RowKit

set_option maxHeartbeats 1600000 in
set_option maxRecDepth 100000 in
theorem num_big (A : Option Addr) (c : Nat) (l : List Int) (from_ n : Nat) (h1 : 1 ≤ n) (h4 : n ≤ 4) (hf : from_ + n ≤ l.length) (hl : l.length ≤ 1000000000) (w : World) (h : RowOf w .u8 A c l) :
    Calls Try.prog 23 #[.slice A l.length c, .int .i64 from_, .int .i64 n] w fun e w' => e = .returned (.tuple #[.int .u64 (beN l from_ n : Nat), .int .i64 0]) ∧ Below w.heap.size w w' := by
  have HC := Lib.hid (num_read A c l from_ n h1 h4 hf hl w h)
  go_enter Try.func23, Try.ntmps23
  go_wp2_with fail
  refine HC.out.mono ?_
  rintro e w1 ⟨rfl, hB⟩
  go_wp2_with fail
  go_ret2
  exact ⟨rfl, hB⟩
/-- The two sums of Adler-32. -/
def adl : List Int → Nat × Nat → Nat × Nat
  | [], p => p
  | b :: r, (x, y) => adl r ((x + b.toNat) % 65521, (y + (x + b.toNat) % 65521) % 65521)
theorem adl_snoc (l : List Int) (b : Int) (p : Nat × Nat) : adl (l ++ [b]) p = (((adl l p).1 + b.toNat) % 65521, ((adl l p).2 + ((adl l p).1 + b.toNat) % 65521) % 65521) := by
  induction l generalizing p with
  | nil => obtain ⟨x, y⟩ := p; rfl
  | cons a r ih => obtain ⟨x, y⟩ := p; rw [List.cons_append, adl, adl, ih]
theorem adl_lt (l : List Int) (p : Nat × Nat) (h1 : p.1 < 65521) (h2 : p.2 < 65521) : (adl l p).1 < 65521 ∧ (adl l p).2 < 65521 := by
  induction l generalizing p with
  | nil => exact ⟨h1, h2⟩
  | cons a r ih => obtain ⟨x, y⟩ := p; rw [adl]; exact ih _ (Nat.mod_lt _ (by omega)) (Nat.mod_lt _ (by omega))
def adlN (l : List Int) : Nat := (adl l (1, 0)).2 * 65536 + (adl l (1, 0)).1
structure AdRel (w : World) (l : List Int) (g : Nat) (v5 v6 v16 : Value) (wr : World) : Prop where mk ::
  out_ : ∃ i : Nat, i ≤ l.length ∧ l.length ≤ g + i ∧ v16 = .int .i64 (i : Int) ∧ v5 = .int .u32 ((adl (l.take i) (1, 0)).1 : Nat) ∧ v6 = .int .u32 ((adl (l.take i) (1, 0)).2 : Nat) ∧ wr = w
theorem or_u32hi (x y : Nat) (hx : x < 65521) (hy : y < 65521) : bits .or .u32 ((y * 65536 : Nat) : Int) (x : Int) = ((y * 65536 + x : Nat) : Int) := by
  have h := or_addK .u32 (by simp) x y 16 (by omega) (by simp only [IntKind.bits]; omega)
  have hc : bits .or .u32 ((y * 65536 : Nat) : Int) (x : Int) = bits .or .u32 (x : Int) ((y : Int) * 2 ^ 16) := by
    show IntKind.u32.wrap ((BitVec.ofInt IntKind.u32.bits ((y * 65536 : Nat) : Int) ||| BitVec.ofInt IntKind.u32.bits (x : Int)).toNat : Int) = IntKind.u32.wrap ((BitVec.ofInt IntKind.u32.bits (x : Int) ||| BitVec.ofInt IntKind.u32.bits ((y : Int) * 2 ^ 16)).toNat : Int)
    rw [BitVec.or_comm, show ((y * 65536 : Nat) : Int) = (y : Int) * 2 ^ 16 from by omega]
  rw [hc, h]
  omega
set_option maxHeartbeats 1600000 in
set_option maxRecDepth 100000 in
theorem adler_update (A : Option Addr) (c : Nat) (l : List Int) (hl : l.length ≤ 1099511627776) (w : World) (h : RowOf w .u8 A c l) :
    Calls Try.prog 39 #[.int .u32 1, .slice A l.length c] w fun e w' => e = .returned (.int .u32 (adlN l : Nat)) ∧ w' = w := by
  have hm := h.most
  have hcap := h.cap
  go_enter Try.func39, Try.ntmps39
  go_wp2_with fail
  go_loopg [5, 6, 16] l.length (AdRel w l)
  case atStart => exact ⟨⟨0, by omega, by omega, rfl, by rw [List.take_zero]; rfl, by rw [List.take_zero]; rfl, rfl⟩⟩
  case round =>
    obtain ⟨i, hil, hg, rfl, rfl, rfl, rfl⟩ := hrel.out_
    rcases Nat.lt_or_ge i l.length with hlt | hge
    · have c1 : decide ((i : Int) < l.length) = true := by simp; omega
      obtain ⟨ad, rfl, hc⟩ := h.rd.at_ hlt
      have hlt2 := adl_lt (l.take i) (1, 0) (by simp) (by simp)
      have hb := h.wf (l.getD i 0) (by rw [List.getD_eq_getElem?_getD, List.getElem?_eq_getElem hlt]; exact List.getElem_mem hlt)
      have hb : 0 ≤ l.getD i 0 ∧ l.getD i 0 < 256 := by simp only [Lit.wf, IntKind.min, IntKind.max, IntKind.bits, IntKind.signed] at hb; simp at hb; simpa using (by omega)
      have hsn := adl_snoc (l.take i) (l.getD i 0) (1, 0)
      rw [← take_next l i 0 hlt] at hsn
      have HS := Lib.hid hsn
      obtain ⟨x, hx⟩ : ∃ x, (adl (l.take i) (1, 0)).1 = x := ⟨_, rfl⟩
      obtain ⟨y, hy⟩ : ∃ y, (adl (l.take i) (1, 0)).2 = y := ⟨_, rfl⟩
      rw [hx, hy] at hlt2
      rw [hx, hy] at hsn
      have HS := Lib.hid hsn
      rw [hx, hy]
      clear hsn hrel hx hy
      generalize l.getD i 0 = b at *
      have HB := Lib.hid hb
      have hl2 := Lib.hid hlt2
      clear hb hlt2
      go_wp2_with fail
      go_roundg (gk - 1)
      case measure => omega
      case rel =>
        have hb := HB.out
        have hlt2 := hl2.out
        exact ⟨⟨i + 1, by omega, by omega, by go_num, by rw [HS.out]; exact congrArg (Value.int .u32) (by simp only; omega), by rw [HS.out]; exact congrArg (Value.int .u32) (by simp only; omega), rfl⟩⟩
    · have : i = l.length := by omega
      subst this
      have c1 : decide ((l.length : Int) < l.length) = false := by simp
      have hlt2 := adl_lt l (1, 0) (by simp) (by simp)
      have hor := or_u32hi (adl l (1, 0)).1 (adl l (1, 0)).2 hlt2.1 hlt2.2
      have e9 : (((adl l (1, 0)).2 : Nat) : Int) * 65536 % 4294967296 = (((adl l (1, 0)).2 * 65536 : Nat) : Int) := by omega
      have HOR := Lib.hid (show bits .or .u32 ((((adl l (1, 0)).2 : Nat) : Int) * 65536 % 4294967296) ((adl l (1, 0)).1 : Nat) = (adlN l : Nat) from by rw [e9, hor]; rfl)
      clear hor e9 hlt2
      go_wp2_with fail
      go_ret
      exact ⟨by rw [HOR.out]; rfl, rfl⟩
set_option maxHeartbeats 1600000 in
set_option maxRecDepth 100000 in
theorem adler_sum (A : Option Addr) (c : Nat) (l : List Int) (hl : l.length ≤ 1099511627776) (w : World) (h : RowOf w .u8 A c l) :
    Calls Try.prog 24 #[.slice A l.length c] w fun e w' => e = .returned (.int .u32 (adlN l : Nat)) ∧ w' = w := by
  have HC := Lib.hid (adler_update A c l hl w h)
  go_enter Try.func24, Try.ntmps24
  go_wp2_with fail
  refine HC.out.mono ?_
  rintro e w1 ⟨rfl, rfl⟩
  go_wp2_with fail
  go_ret
  exact ⟨rfl, rfl⟩
end Go.Proofs.Yteknaaijlkenkaa
