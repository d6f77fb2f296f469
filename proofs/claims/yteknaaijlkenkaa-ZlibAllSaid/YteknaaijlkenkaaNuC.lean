import Derived.Test.YteknaaijlkenkaaNuB
namespace Go.Proofs.Yteknaaijlkenkaa
set_option linter.unusedVariables false
set_option linter.unusedSimpArgs false
open Go.RowKit
attribute [local go_sem] max2i min2i max2t min2t

/-- A literal is a row of the call's own. -/
theorem Own.lit (w : World) (k : IntKind) (e : TypeId) (xs : List Int) (hm : xs.length ≤ 1000000) : Own (w.alloc (.cells (ints k xs).toArray e)) w.heap.size e (.slice (some ⟨w.heap.size, 0, none⟩) xs.length xs.length) (ints k xs) := by
  refine ⟨by simp [ints], .inr ⟨w.heap.size, xs.length, (ints k xs).toArray, by simp [ints], Nat.le_refl _, heap_alloc_new w _, by simp [ints], by simp [maxLen]; omega, by simp [ints], ?_⟩⟩
  simp [ints, List.take_of_length_le]
structure RbRel (w : World) (v n : Nat) (g : Nat) (v7 v8 : Value) (wr : World) : Prop where mk ::
  out_ : ∃ (i : Nat) (xs : List Int), i ≤ n ∧ n ≤ g + i ∧ v8 = .int .i64 (i : Int) ∧ Own wr w.heap.size 5 v7 (ints .u8 xs) ∧ xs ++ beB v (n - i) = beB v n ∧ xs.length = i ∧ (∀ x ∈ xs, (Lit.int .u8 x).wf = true) ∧ Below w.heap.size w wr
set_option maxHeartbeats 1600000 in
set_option maxRecDepth 100000 in
theorem ref_bytes1 (v n : Nat) (h1 : 1 ≤ n) (h8 : n ≤ 8) (w : World) :
    Calls Try.prog 16 #[.int .u64 v, .int .i64 n, .bool true] w fun e w' => e = .returned (.string (strOfNums (beB v n))) ∧ Below w.heap.size w w' := by
  have e1 : decide ((n : Int) < 1) = false := by simp; omega
  have e1' : decide (n < 1) = false := by simp; omega
  have e2 : decide ((8 : Int) < n) = false := by simp; omega
  have e2' : decide (8 < n) = false := by simp; omega
  go_enter Try.func16, Try.ntmps16
  go_wp2_with fail
  go_loopg [7, 8] n (RbRel w v n)
  case atStart => exact ⟨⟨0, [], by omega, by omega, rfl, Own.nil _ _ _, rfl, rfl, by simp, Below.refl _ _⟩⟩
  case round =>
    obtain ⟨i, xs, hin, hg, rfl, ho, hx, hxl, hwf, hB⟩ := hrel.out_
    clear hrel
    rcases Nat.lt_or_ge i n with hlt | hge
    · have q1 : decide ((i : Int) < n) = true := by simp; omega
      obtain ⟨j, hj⟩ : ∃ j, j = n - i - 1 := ⟨_, rfl⟩
      have hkk : n - i = j + 1 := by omega
      rw [hkk] at hx
      have hkj : (n : Int) - 1 - i = (j : Int) := by omega
      have hj7 : j ≤ 7 := by omega
      have hb : (v : Int) / 2 ^ (8 * j) % 256 = ((v / 2 ^ (8 * j) % 256 : Nat) : Int) := by rw [Int.natCast_emod, Int.natCast_ediv, Int.natCast_pow]; rfl
      have HBE := Lib.hid (show beB v (j + 1) = ((v : Int) / 2 ^ (8 * j) % 256) :: beB v j from by rw [beB, hb])
      have hb8 : 0 ≤ (v : Int) / 2 ^ (8 * j) % 256 ∧ (v : Int) / 2 ^ (8 * j) % 256 < 256 := by rw [hb]; omega
      have HX := Lib.hid hx
      have HJ := Lib.hid (show n - (i + 1) = j from by omega)
      have lit : RowOf (wr.alloc (.cells #[.int .u8 ((v : Int) / 2 ^ (8 * j) % 256)] 5)) .u8 (some ⟨wr.heap.size, 0, none⟩) 1 [(v : Int) / 2 ^ (8 * j) % 256] := RowOf.lit wr .u8 5 [(v : Int) / 2 ^ (8 * j) % 256] (fun x hx => by rw [List.mem_singleton] at hx; subst hx; exact u8_wf hb8) (by simp)
      have HXL := Lib.hid hxl
      clear hb hb8 hx hj hkk hxl
      go_wp2_with (at_builtin; go_loud (refine wpList_catN .u8 w.heap.size rfl (.tmp 27) (.tmp 34) 22 5 1 rfl Try.underlying22 Try.u8inf _ xs (some ⟨wr.heap.size, 0, none⟩) 1 1 [(v : Int) / 2 ^ (8 * j) % 256] rfl rfl rfl (ho.alloc _) lit (by have := hB.size; simp; omega) (xs.length + 1) rfl (by have := HXL.out; omega) (by have := HXL.out; omega) hwf ?_); intro A9 c9 w9 ho9 hr9 hs9 hat9; have B9 := hs9.below_of (hB.alloc hB.size (.cells #[.int .u8 ((v : Int) / 2 ^ (8 * j) % 256)] 5)) (by have := hB.size; simp; omega) (fun i hi e => by have := ho.base_le i e; omega); clear hat9)
      go_roundg (gk - 1)
      case measure => omega
      case rel =>
        exact ⟨⟨i + 1, xs ++ [(v : Int) / 2 ^ (8 * j) % 256], by omega, by omega, by go_num, ho9, by rw [HJ.out, List.append_assoc, List.singleton_append, ← HBE.out]; exact HX.out, by rw [List.length_append, List.length_singleton, HXL.out], hr9.wf, B9⟩⟩
    · have : i = n := by omega
      subst this
      have q1 : decide ((i : Int) < i) = false := by simp
      rw [Nat.sub_self, beB, List.append_nil] at hx
      obtain ⟨A5, c5, rfl, hr5, ha5⟩ := ho.row hwf
      have t5 := (hr5.strAt rfl).here
      have HX := Lib.hid hx
      clear hx hxl
      go_wp2_with fail
      go_ret
      rw [← HX.out]
      exact ⟨rfl, hB⟩
set_option maxHeartbeats 1600000 in
set_option maxRecDepth 100000 in
theorem zlib_wrap {A : Option Addr} {c : Nat} {l : List Int} (v : Nat) (hv : v < 4294967296) (hl : l.length ≤ 900000) (w : World) (h : RowOf w .u8 A c l) :
    Calls Try.prog 19 #[.slice A l.length c, .int .u32 v] w fun e w' => ∃ A' c', e = .returned (.slice A' (l.length + 6) c') ∧ RowOf w' .u8 A' c' (120 :: 156 :: (l ++ beB v 4)) ∧ Below w.heap.size w w' := by
  have hlw : ∀ x ∈ ([120, 156] : List Int), (Lit.int .u8 x).wf = true := fun x hx => by simp only [List.mem_cons, List.not_mem_nil, or_false] at hx; rcases hx with rfl | rfl <;> decide
  have o1 : Own (w.alloc (.cells #[.int .u8 120, .int .u8 156] 5)) w.heap.size 5 (.slice (some ⟨w.heap.size, 0, none⟩) 2 2) (ints .u8 [120, 156]) := Own.lit w .u8 5 [120, 156] (by decide)
  have B1 := (Below.refl w.heap.size w).alloc (Nat.le_refl _) (.cells #[.int .u8 120, .int .u8 156] 5)
  have r1 := h.belo B1
  have hll : ([120, 156] ++ l).length = l.length + 2 := by simp
  go_enter Try.func19, Try.ntmps19
  go_wp2_with (first
    | (at_builtin; refine wpList_cat .u8 w.heap.size rfl (.tmp 5) (.tmp 6) 22 5 1 rfl Try.underlying22 Try.u8inf _ [120, 156] A c l rfl rfl o1 r1 (by simp) ([120, 156] ++ l).length (by rw [hll]; simp; omega) (by rw [hll]; omega) (by rw [hll]; omega) hlw ?_; intro A9 c9 w9 ho9 hr9 hs9 hat9; have B9 := hs9.below_of B1 (by simp) (fun i hi e => by have := o1.base_le i e; omega); clear hat9; have CP := Lib.hid (put_big v 4 (by decide) (by decide) (by rw [hll]; omega) w9 hr9))
    | (go_at_call 32; refine CP.out.mono ?_; rintro e w2 ⟨A2, c2, rfl, ho2, hr2, hb2⟩; have B2 := B9.trans (hb2.mono B9.size)))
  go_ret
  exact ⟨A2, c2, rfl, hr2, B2⟩
end Go.Proofs.Yteknaaijlkenkaa
