import Derived.Test.YteknaaijlkenkaaAdl
import Derived.Test.YteknaaijlkenkaaBas3
namespace Go.Proofs.Yteknaaijlkenkaa
set_option linter.unusedVariables false
set_option linter.unusedSimpArgs false
open Go.RowKit

/-! ### numbers put as bytes -/
/-- The k lowest bytes of v, the highest of them first. -/
def beB (v : Nat) : Nat → List Int
  | 0 => []
  | k + 1 => ((v / 2 ^ (8 * k) % 256 : Nat) : Int) :: beB v k
/-- .. the lowest first. -/
def leB (v : Nat) : Nat → List Int
  | 0 => []
  | k + 1 => leB v k ++ [((v / 2 ^ (8 * k) % 256 : Nat) : Int)]
theorem beB_len (v : Nat) : ∀ k, (beB v k).length = k
  | 0 => rfl
  | k + 1 => by rw [beB, List.length_cons, beB_len v k]
theorem leB_len (v : Nat) : ∀ k, (leB v k).length = k
  | 0 => rfl
  | k + 1 => by rw [leB, List.length_append, leB_len v k]; rfl
theorem beB_u8 (v : Nat) : ∀ k, ∀ x ∈ beB v k, 0 ≤ x ∧ x < 256
  | 0, x, h => by cases h
  | k + 1, x, h => by
    rw [beB] at h
    rcases List.mem_cons.1 h with rfl | h
    · omega
    · exact beB_u8 v k x h
theorem leB_u8 (v : Nat) : ∀ k, ∀ x ∈ leB v k, 0 ≤ x ∧ x < 256
  | 0, x, h => by cases h
  | k + 1, x, h => by
    rw [leB] at h
    rcases List.mem_append.1 h with h | h
    · exact leB_u8 v k x h
    · rw [List.mem_singleton] at h; subst h; omega
theorem u8_wf {x : Int} (h : 0 ≤ x ∧ x < 256) : (Lit.int .u8 x).wf = true := by
  simp [Lit.wf, IntKind.min, IntKind.max, IntKind.bits, IntKind.signed]; omega
structure PbRel (w : World) (l : List Int) (v n : Nat) (g : Nat) (v7 v8 : Value) (wr : World) : Prop where mk ::
  out_ : ∃ (k : Nat) (xs : List Int), k ≤ n ∧ k ≤ g ∧ v8 = .int .i64 ((k : Int) - 1) ∧ Own wr w.heap.size 5 v7 (ints .u8 xs) ∧ xs ++ beB v k = l ++ beB v n ∧ xs.length ≤ l.length + n ∧ (∀ x ∈ xs, (Lit.int .u8 x).wf = true) ∧ Below w.heap.size w wr
set_option maxHeartbeats 1600000 in
set_option maxRecDepth 100000 in
theorem put_big {A : Option Addr} {c : Nat} {l : List Int} (v n : Nat) (h1 : 1 ≤ n) (h8 : n ≤ 8) (hl : l.length ≤ 1000000) (w : World) (h : RowOf w .u8 A c l) :
    Calls Try.prog 32 #[.slice A l.length c, .int .u64 v, .int .i64 n] w fun e w' => ∃ A' c', e = .returned (.slice A' (l.length + n) c') ∧ Own w' w.heap.size 5 (.slice A' (l.length + n) c') (ints .u8 (l ++ beB v n)) ∧ RowOf w' .u8 A' c' (l ++ beB v n) ∧ Below w.heap.size w w' := by
  have hm := h.most
  have hcap := h.cap
  have e1 : decide ((n : Int) < 1) = false := by simp; omega
  have e1' : decide (n < 1) = false := by simp; omega
  have e2 : decide ((8 : Int) < n) = false := by simp; omega
  have e2' : decide (8 < n) = false := by simp; omega
  go_enter Try.func32, Try.ntmps32
  go_wp2_with (at_builtin; show wpList _ _ _ (_ :: _) _ (World.alloc w (.cells #[] 5)); refine wpList_freshG w.heap.size rfl .u8 rfl (.tmp 9) (.tmp 10) 22 5 1 rfl Try.underlying22 Try.u8inf A c l rfl rfl h (by omega) (by omega) ?_; intro A3 c3 w3 ho3 hr3 hB3 hat3)
  go_loopg [7, 8] n (PbRel w l v n)
  case atStart => exact ⟨⟨n, l, by omega, by omega, rfl, ho3, rfl, by omega, h.wf, hB3⟩⟩
  case round =>
    obtain ⟨k, xs, hk, hg, rfl, ho, hx, hxl, hwf, hB⟩ := hrel.out_
    clear hrel
    cases k with
    | zero =>
      obtain ⟨A5, c5, rfl, hr5, ha5⟩ := ho.row hwf
      have hx0 : xs = l ++ beB v n := by rw [beB, List.append_nil] at hx; exact hx
      have hxn : xs.length = l.length + n := by rw [hx0, List.length_append, beB_len]
      rw [hxn] at ho ⊢
      have HX := Lib.hid hx0
      clear hx hx0 hxn
      go_wp2_with fail
      go_ret
      rw [← HX.out]
      exact ⟨A5, c5, rfl, ho, hr5, hB⟩
    | succ j =>
      have e0 : ((j + 1 : Nat) : Int) - 1 = j := by omega
      rw [e0]
      have hb : (v : Int) / 2 ^ (8 * j) % 256 = ((v / 2 ^ (8 * j) % 256 : Nat) : Int) := by rw [Int.natCast_emod, Int.natCast_ediv, Int.natCast_pow]; rfl
      have HBE := Lib.hid (show beB v (j + 1) = ((v : Int) / 2 ^ (8 * j) % 256) :: beB v j from by rw [beB, hb])
      have hb8 : 0 ≤ (v : Int) / 2 ^ (8 * j) % 256 ∧ (v : Int) / 2 ^ (8 * j) % 256 < 256 := by rw [hb]; omega
      have HB8 := Lib.hid hb8
      have HX := Lib.hid hx
      have lit : RowOf (wr.alloc (.cells #[.int .u8 ((v : Int) / 2 ^ (8 * j) % 256)] 5)) .u8 (some ⟨wr.heap.size, 0, none⟩) 1 [(v : Int) / 2 ^ (8 * j) % 256] := RowOf.lit wr .u8 5 [(v : Int) / 2 ^ (8 * j) % 256] (fun x hx => by rw [List.mem_singleton] at hx; subst hx; exact u8_wf hb8) (by simp)
      clear hb hb8 hx e0
      go_wp2_with (at_builtin; go_loud (refine wpList_catN .u8 w.heap.size rfl (.tmp 25) (.tmp 32) 22 5 1 rfl Try.underlying22 Try.u8inf _ xs (some ⟨wr.heap.size, 0, none⟩) 1 1 [(v : Int) / 2 ^ (8 * j) % 256] rfl rfl rfl (ho.alloc _) lit (by have := hB.size; simp; omega) (xs.length + 1) rfl (by omega) (by omega) hwf ?_); intro A9 c9 w9 ho9 hr9 hs9 hat9; have B9 := hs9.below_of (hB.alloc hB.size (.cells #[.int .u8 ((v : Int) / 2 ^ (8 * j) % 256)] 5)) (by have := hB.size; simp; omega) (fun i hi e => by have := ho.base_le i e; omega); clear hat9)
      go_roundg (gk - 1)
      case measure => omega
      case rel =>
        have hl9 := congrArg List.length HX.out
        rw [List.length_append, List.length_append, beB_len, beB_len] at hl9
        exact ⟨⟨j, xs ++ [(v : Int) / 2 ^ (8 * j) % 256], by omega, by omega, by go_num, ho9, by rw [List.append_assoc, List.singleton_append, ← HBE.out]; exact HX.out, by rw [List.length_append, List.length_singleton]; omega, hr9.wf, B9⟩⟩
end Go.Proofs.Yteknaaijlkenkaa
