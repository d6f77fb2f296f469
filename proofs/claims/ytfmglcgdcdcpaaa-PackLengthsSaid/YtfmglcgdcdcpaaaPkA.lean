import Derived.Test.YtfmglcgdcdcpaaaPkT
namespace Go.Proofs.Ytfmglcgdcdcpaaa
set_option linter.unusedVariables false
set_option linter.unusedSimpArgs false
open Go.RowKit
attribute [local go_sem] max2i min2i max2t min2t

def mk20 (l : List Int) : List Int := l.map (· % 1048576)
theorem mk20_len (l : List Int) : (mk20 l).length = l.length := by simp [mk20]
theorem mk20_snoc {l : List Int} {i : Nat} (h : i < l.length) : mk20 (l.take (i + 1)) = mk20 (l.take i) ++ [l.getD i 0 % 1048576] := by
  rw [take_snoc h]; unfold mk20; rw [List.map_append]; rfl
theorem mk20_rng (l : List Int) : ∀ x ∈ mk20 l, 0 ≤ x ∧ x < 1048576 := fun x hx => by
  obtain ⟨y, _, rfl⟩ := List.mem_map.1 hx
  omega
theorem i64_wf {x : Int} (h : 0 ≤ x ∧ x ≤ 4611686018427387904) : (Lit.int .i64 x).wf = true := by
  simp [Lit.wf, IntKind.min, IntKind.max, IntKind.bits, IntKind.signed]; omega
theorem mk20_wf (l : List Int) : ∀ x ∈ mk20 l, (Lit.int .i64 x).wf = true := fun x hx => i64_wf (by have := mk20_rng l x hx; omega)
theorem and_20 (x : Int) : bits .and .i64 x 1048575 = x % 1048576 := and_mask x 20 (by omega)
structure McRel (w : World) (l : List Int) (gk : Nat) (v5 v7 : Value) (wr : World) : Prop where mk ::
  out_ : ∃ i : Nat, i ≤ l.length ∧ l.length ≤ gk + i ∧ v7 = .int .i64 (i : Int) ∧ Own wr w.heap.size 3 v5 (ints .i64 (mk20 (l.take i))) ∧ Below w.heap.size w wr
set_option maxHeartbeats 4000000 in
set_option maxRecDepth 100000 in
theorem packCosts_walk (A : Option Addr) (c : Nat) (a : List Int) (B : Option Addr) (d : Nat) (b : List Int) (w : World) (h00 : RowOf w .i64 A c a) (h01 : RowOf w .i64 B d b) :
    Calls Try.prog 3 #[.slice A a.length c, .slice B b.length d] w fun e w' => e = .returned (.bool true) ∧ Below w.heap.size w w' := by
  have hT := fun W => Lib.hid (told9 W)
  have hca := h00.cap
  have hcb := h01.cap
  have hma := h00.most
  have hmb := h01.most
  by_cases h1 : 100 < a.length
  · have d1 : decide ((100 : Int) < a.length) = true := by simp; omega
    go_enter Try.func3, Try.ntmps3
    go_wp2_with (go_at_call 8; refine (hT _).out.mono ?_; rintro e w6 ⟨rfl, hb6⟩)
    go_ret
    exact ⟨rfl, hb6⟩
  have d1 : decide ((100 : Int) < a.length) = false := by simp; omega
  by_cases h2 : 100 < b.length
  · have d2 : decide ((100 : Int) < b.length) = true := by simp; omega
    go_enter Try.func3, Try.ntmps3
    go_wp2_with (go_at_call 8; refine (hT _).out.mono ?_; rintro e w6 ⟨rfl, hb6⟩)
    go_ret
    exact ⟨rfl, hb6⟩
  have d2 : decide ((100 : Int) < b.length) = false := by simp; omega
  go_enter Try.func3, Try.ntmps3
  go_wp2_with fail
  go_loopg [5, 7] a.length (McRel w a)
  case atStart => exact ⟨⟨0, by omega, by omega, rfl, Own.nil _ _ _, Below.refl _ _⟩⟩
  case round =>
    obtain ⟨i, hi, hg, rfl, ho, hb⟩ := hrel.out_
    clear hrel
    by_cases hlt : i < a.length
    · have e1 : decide (i < a.length) = true := by simpa using hlt
      have hx : a[i]? = some (a.getD i 0) := by rw [List.getD_eq_getElem?_getD, List.getElem?_eq_getElem hlt]; rfl
      obtain ⟨ad, rfl, hc⟩ := h00.rd _ _ hx
      have hc := hb.cell (World.block_lt_of_cell? _ _ hc) |>.trans hc
      have hand := and_20 (a.getD i 0)
      have HSN := Lib.hid (mk20_snoc hlt)
      have hkl : (mk20 (a.take i)).length ≤ 400 := by rw [mk20_len, List.length_take]; omega
      have hkw := mk20_wf (a.take i)
      have hzr := mk20_rng [a.getD i 0] (a.getD i 0 % 1048576) (by simp [mk20])
      have hil3 : (i : Int) < a.length := by omega
      generalize a.getD i 0 = x at *
      obtain ⟨z, hz⟩ : ∃ z, x % 1048576 = z := ⟨_, rfl⟩
      rw [hz] at hand hzr HSN
      have lit : RowOf (wr.alloc (.cells #[.int .i64 z] 3)) .i64 (some ⟨wr.heap.size, 0, none⟩) 1 [z] := RowOf.lit wr .i64 3 [z] (fun y hy => by rw [List.mem_singleton] at hy; subst hy; exact i64_wf (by omega)) (by simp)
      have hzb := hb.size
      generalize mk20 (a.take i) = K at *
      clear hx hz
      go_wp2_with (at_builtin; go_loud (refine wpList_catN .i64 w.heap.size rfl (.tmp 24) (.tmp 30) 22 3 8 rfl Try.underlying22 Try.intinfo u5 K (some ⟨wr.heap.size, 0, none⟩) 1 1 [z] rfl rfl rfl (ho.alloc _) lit (by simp; omega) (K.length + 1) rfl (by omega) (by omega) hkw ?_); intro A9 c9 w9 ho9 hr9 hs9 hat9; have B9 := hs9.below_of (hb.alloc hb.size (.cells #[.int .i64 z] 3)) (by simp; omega) (fun k hk e => by have := ho.base_le k e; omega); clear hat9)
      go_roundg (gk - 1)
      case measure => omega
      case rel => exact ⟨⟨i + 1, by omega, by omega, by go_num, by rw [HSN.out]; exact ho9, B9⟩⟩
    · have e1 : decide (i < a.length) = false := by simpa using hlt
      rw [List.take_of_length_le (by omega : a.length ≤ i)] at ho
      go_wp2_with fail
      rename World => w1
      have hb1 := hb
      have ho1 := ho
      clear hb ho
      go_loopg [6, 8] b.length (McRel w1 b)
      case atStart => exact ⟨⟨0, by omega, by omega, rfl, Own.nil _ _ _, Below.refl _ _⟩⟩
      case round =>
        rename Nat => gk
        obtain ⟨i, hi, hg, rfl, ho, hb⟩ := hrel.out_
        clear hrel
        by_cases hlt : i < b.length
        · have e1 : decide (i < b.length) = true := by simpa using hlt
          have hx : b[i]? = some (b.getD i 0) := by rw [List.getD_eq_getElem?_getD, List.getElem?_eq_getElem hlt]; rfl
          obtain ⟨ad, rfl, hc⟩ := (h01.belo hb1).rd _ _ hx
          have hc := hb.cell (World.block_lt_of_cell? _ _ hc) |>.trans hc
          have hand := and_20 (b.getD i 0)
          have HSN := Lib.hid (mk20_snoc hlt)
          have hkl : (mk20 (b.take i)).length ≤ 400 := by rw [mk20_len, List.length_take]; omega
          have hkw := mk20_wf (b.take i)
          have hzr := mk20_rng [b.getD i 0] (b.getD i 0 % 1048576) (by simp [mk20])
          have hil3 : (i : Int) < b.length := by omega
          generalize b.getD i 0 = x at *
          obtain ⟨z, hz⟩ : ∃ z, x % 1048576 = z := ⟨_, rfl⟩
          rw [hz] at hand hzr HSN
          have lit : RowOf (wr.alloc (.cells #[.int .i64 z] 3)) .i64 (some ⟨wr.heap.size, 0, none⟩) 1 [z] := RowOf.lit wr .i64 3 [z] (fun y hy => by rw [List.mem_singleton] at hy; subst hy; exact i64_wf (by omega)) (by simp)
          have hzb := hb.size
          generalize mk20 (b.take i) = K at *
          clear hx hz
          go_wp2_with (at_builtin; go_loud (refine wpList_catN .i64 w1.heap.size rfl (.tmp 38) (.tmp 44) 22 3 8 rfl Try.underlying22 Try.intinfo u6 K (some ⟨wr.heap.size, 0, none⟩) 1 1 [z] rfl rfl rfl (ho.alloc _) lit (by simp; omega) (K.length + 1) rfl (by omega) (by omega) hkw ?_); intro A9 c9 w9 ho9 hr9 hs9 hat9; have B9 := hs9.below_of (hb.alloc hb.size (.cells #[.int .i64 z] 3)) (by simp; omega) (fun k hk e => by have := ho.base_le k e; omega); clear hat9)
          go_roundg (gk - 1)
          case measure => omega
          case rel => exact ⟨⟨i + 1, by omega, by omega, by go_num, by rw [HSN.out]; exact ho9, B9⟩⟩
        · have e1 : decide (i < b.length) = false := by simpa using hlt
          rw [List.take_of_length_le (by omega : b.length ≤ i)] at ho
          have ho1' := ho1.kept (Same.of_below (S := fun _ => False) hb) (fun _ _ c => c)
          obtain ⟨A5, c5, rfl, hr5, _⟩ := ho1'.row (mk20_wf a)
          obtain ⟨A6, c6, rfl, hr6, _⟩ := ho.row (mk20_wf b)
          have hB := hb1.trans (hb.mono hb1.size)
          have ra : ∀ x ∈ mk20 a, 0 ≤ x ∧ x ≤ 1073741824 := fun x hx => by have := mk20_rng a x hx; omega
          have rb : ∀ x ∈ mk20 b, 0 ≤ x ∧ x ≤ 1048576 := fun x hx => by have := mk20_rng b x hx; omega
          have hal : (mk20 a).length ≤ 400 := by rw [mk20_len]; omega
          have CP := Lib.hid (fun W (hs : Below wr.heap.size wr W) => pack_cost W (hr5.belo hs) (hr6.belo hs) hal ra rb)
          have CR := Lib.hid (fun W (hs : Below wr.heap.size wr W) => ref_cost W (hr5.belo hs) (hr6.belo hs) hal ra rb)
          generalize mk20 a = X at *
          generalize mk20 b = Y at *
          generalize costN X Y (min X.length Y.length) = S at *
          clear ho ho1 ho1' ra rb hal hr5 hr6
          go_wp2_with (first
            | (go_at_call 8; refine (hT _).out.mono ?_; rintro e w6 ⟨rfl, hb6⟩)
            | (go_at_call 9; refine (CP.out _ hb6).mono ?_; rintro e w7 ⟨rfl, hs7⟩; have hb7 := hs7.below_of hb6 hb6.size (fun _ _ c => c))
            | (go_at_call 10; refine (CR.out _ hb7).mono ?_; rintro e w8 ⟨rfl, hs8⟩; have hb8 := hs8.below_of hb7 hb7.size (fun _ _ c => c)))
          go_ret
          exact ⟨rfl, hB.trans (hb8.mono hB.size)⟩
end Go.Proofs.Ytfmglcgdcdcpaaa
