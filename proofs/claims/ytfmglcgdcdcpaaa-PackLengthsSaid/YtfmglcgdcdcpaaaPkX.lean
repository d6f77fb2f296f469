import Derived.Test.YtfmglcgdcdcpaaaPkL
namespace Go.Proofs.Ytfmglcgdcdcpaaa
set_option linter.unusedVariables false
set_option linter.unusedSimpArgs false
open Go.RowKit
attribute [local go_sem] max2i min2i max2t min2t

/-! ### costs -/
def costF (a b : List Int) (k : Nat) : Int := a.getD k 0 * b.getD k 0
def costN (a b : List Int) (i : Nat) : Int := isum (costF a b) i
theorem isum_range (f : Nat → Int) : ∀ n, isum f n = ((List.range n).map f).sum
  | 0 => rfl
  | n + 1 => by rw [isum, isum_range f n, List.range_succ, List.map_append, List.sum_append]; simp
theorem getD_nn {l : List Int} {B : Int} (h : ∀ x ∈ l, 0 ≤ x ∧ x ≤ B) (hB : 0 ≤ B) (k : Nat) : 0 ≤ l.getD k 0 ∧ l.getD k 0 ≤ B := by
  rcases Nat.lt_or_ge k l.length with hk | hk
  · have := h (l.getD k 0) (by rw [List.getD_eq_getElem?_getD, List.getElem?_eq_getElem hk]; exact List.getElem_mem hk)
    exact this
  · rw [List.getD_eq_getElem?_getD, List.getElem?_eq_none hk]; exact ⟨Int.le_refl _, hB⟩
theorem costF_range {a b : List Int} (ha : ∀ x ∈ a, 0 ≤ x ∧ x ≤ 1073741824) (hb : ∀ x ∈ b, 0 ≤ x ∧ x ≤ 1048576) (k : Nat) : 0 ≤ costF a b k ∧ costF a b k ≤ 1125899906842624 := by
  obtain ⟨h1, h2⟩ := getD_nn ha (by decide) k
  obtain ⟨h3, h4⟩ := getD_nn hb (by decide) k
  unfold costF
  generalize a.getD k 0 = x at *
  generalize b.getD k 0 = y at *
  refine ⟨Int.mul_nonneg h1 h3, ?_⟩
  have e1 : x * y ≤ 1073741824 * y := Int.mul_le_mul_of_nonneg_right h2 h3
  omega
theorem costN_range {a b : List Int} (ha : ∀ x ∈ a, 0 ≤ x ∧ x ≤ 1073741824) (hb : ∀ x ∈ b, 0 ≤ x ∧ x ≤ 1048576) : ∀ k : Nat, 0 ≤ costN a b k ∧ costN a b k ≤ (k : Int) * 1125899906842624
  | 0 => by unfold costN; rw [isum]; simp
  | k + 1 => by
    have h1 := costN_range ha hb k
    have h2 := costF_range ha hb k
    unfold costN at *
    rw [isum]
    omega
structure CoRelP (w : World) (a b : List Int) (gk : Nat) (v5 v6 : Value) (wr : World) : Prop where mk ::
  out_ : ∃ i : Nat, i ≤ min a.length b.length ∧ a.length ≤ gk + i ∧ v6 = .int .i64 (i : Int) ∧ v5 = .int .i64 (costN a b i) ∧ Same (fun _ => False) w wr
set_option maxHeartbeats 1600000 in
set_option maxRecDepth 100000 in
theorem pack_cost {A B : Option Addr} {c d : Nat} {a b : List Int} (w : World) (ha : RowOf w .i64 A c a) (hb : RowOf w .i64 B d b) (hl : a.length ≤ 400) (hra : ∀ x ∈ a, 0 ≤ x ∧ x ≤ 1073741824) (hrb : ∀ x ∈ b, 0 ≤ x ∧ x ≤ 1048576) :
    Calls Try.prog 9 #[.slice A a.length c, .slice B b.length d] w fun e w' => e = .returned (.int .i64 (costN a b (min a.length b.length))) ∧ Same (fun _ => False) w w' := by
  have hca := ha.cap
  have hma := ha.most
  have hcb := hb.cap
  have hmb := hb.most
  have HRA := Lib.hid hra
  have HRB := Lib.hid hrb
  clear hra hrb
  go_enter Try.func9, Try.ntmps9
  go_wp2_with fail
  go_loopg [5, 6] a.length (CoRelP w a b)
  case atStart => exact ⟨⟨0, by omega, by omega, rfl, rfl, Same.refl _⟩⟩
  case round =>
    obtain ⟨i, hi, hg, rfl, rfl, hs⟩ := hrel.out_
    clear hrel
    have hcN := costN_range HRA.out HRB.out i
    have hcF := costF_range HRA.out HRB.out i
    by_cases h1 : i < a.length
    · have d1 : decide (i < a.length) = true := by simpa using h1
      by_cases h2 : i < b.length
      · have d2 : decide (i < b.length) = true := by simpa using h2
        have hsu : costN a b (i + 1) = costN a b i + costF a b i := rfl
        have HSU := Lib.hid hsu
        unfold costF at hcF HSU
        have gx : a[i]? = some (a.getD i 0) := by rw [List.getD_eq_getElem?_getD, List.getElem?_eq_getElem h1]; rfl
        have gy : b[i]? = some (b.getD i 0) := by rw [List.getD_eq_getElem?_getD, List.getElem?_eq_getElem h2]; rfl
        obtain ⟨ad, rfl, ka⟩ := ha.rd i _ gx
        obtain ⟨bd, rfl, kb⟩ := hb.rd i _ gy
        have m0 := fun d : Ext (fun _ => False) wr => d.same.cell (hs.cell ka (fun c => c)) (fun c => c)
        have m1 := fun d : Ext (fun _ => False) wr => d.same.cell (hs.cell kb (fun c => c)) (fun c => c)
        generalize a.getD i 0 = x at *
        generalize b.getD i 0 = y at *
        generalize costN a b i = S at *
        generalize hxy : x * y = P at *
        clear hsu gx gy ka kb
        go_upto_region 5 with fail
        refine wp_region_ext (fun _ => False) (by kernel_rfl) (by kernel_rfl) ?_
        repeat (go_big_quiet_step (fail))
        refine wpQuiet_nil ?_
        rintro _ ⟨d, rfl⟩
        go_wp2_with fail
        go_roundg (gk - 1)
        case measure => omega
        case rel => exact ⟨⟨i + 1, by omega, by omega, by go_num, by rw [HSU.out], hs.then d.same⟩⟩
      · have d2 : decide (i < b.length) = false := by simpa using h2
        have e : i = min a.length b.length := by omega
        have HE := Lib.hid e
        generalize hcc : costN a b i = S at *
        have HC := Lib.hid hcc
        clear hcc e
        go_wp2_with fail
        go_ret
        exact ⟨by rw [← HC.out, HE.out]; rfl, hs⟩
    · have d1 : decide (i < a.length) = false := by simpa using h1
      have e : i = min a.length b.length := by omega
      have HE := Lib.hid e
      generalize hcc : costN a b i = S at *
      have HC := Lib.hid hcc
      clear hcc e
      go_wp2_with fail
      go_ret
      exact ⟨by rw [← HC.out, HE.out]; rfl, hs⟩
set_option maxHeartbeats 1600000 in
set_option maxRecDepth 100000 in
theorem ref_cost {A B : Option Addr} {c d : Nat} {a b : List Int} (w : World) (ha : RowOf w .i64 A c a) (hb : RowOf w .i64 B d b) (hl : a.length ≤ 400) (hra : ∀ x ∈ a, 0 ≤ x ∧ x ≤ 1073741824) (hrb : ∀ x ∈ b, 0 ≤ x ∧ x ≤ 1048576) :
    Calls Try.prog 10 #[.slice A a.length c, .slice B b.length d] w fun e w' => e = .returned (.int .i64 (costN a b (min a.length b.length))) ∧ Same (fun _ => False) w w' := by
  have hca := ha.cap
  have hma := ha.most
  have hcb := hb.cap
  have hmb := hb.most
  have HRA := Lib.hid hra
  have HRB := Lib.hid hrb
  clear hra hrb
  go_enter Try.func10, Try.ntmps10
  go_wp2_with fail
  go_loopg [5, 6] a.length (CoRelP w a b)
  case atStart => exact ⟨⟨0, by omega, by omega, rfl, rfl, Same.refl _⟩⟩
  case round =>
    obtain ⟨i, hi, hg, rfl, rfl, hs⟩ := hrel.out_
    clear hrel
    have hcN := costN_range HRA.out HRB.out i
    have hcF := costF_range HRA.out HRB.out i
    by_cases h1 : i < a.length
    · have d1 : decide (i < a.length) = true := by simpa using h1
      by_cases h2 : i < b.length
      · have d2 : decide (i < b.length) = true := by simpa using h2
        have hsu : costN a b (i + 1) = costN a b i + costF a b i := rfl
        have HSU := Lib.hid hsu
        unfold costF at hcF HSU
        have gx : a[i]? = some (a.getD i 0) := by rw [List.getD_eq_getElem?_getD, List.getElem?_eq_getElem h1]; rfl
        have gy : b[i]? = some (b.getD i 0) := by rw [List.getD_eq_getElem?_getD, List.getElem?_eq_getElem h2]; rfl
        obtain ⟨ad, rfl, ka⟩ := ha.rd i _ gx
        obtain ⟨bd, rfl, kb⟩ := hb.rd i _ gy
        have m0 := fun d : Ext (fun _ => False) wr => d.same.cell (hs.cell ka (fun c => c)) (fun c => c)
        have m1 := fun d : Ext (fun _ => False) wr => d.same.cell (hs.cell kb (fun c => c)) (fun c => c)
        generalize a.getD i 0 = x at *
        generalize b.getD i 0 = y at *
        generalize costN a b i = S at *
        generalize hxy : x * y = P at *
        clear hsu gx gy ka kb
        go_upto_region 5 with fail
        refine wp_region_ext (fun _ => False) (by kernel_rfl) (by kernel_rfl) ?_
        repeat (go_big_quiet_step (fail))
        refine wpQuiet_nil ?_
        rintro _ ⟨d, rfl⟩
        go_wp2_with fail
        go_roundg (gk - 1)
        case measure => omega
        case rel => exact ⟨⟨i + 1, by omega, by omega, by go_num, by rw [HSU.out], hs.then d.same⟩⟩
      · have d2 : decide (i < b.length) = false := by simpa using h2
        have e : i = min a.length b.length := by omega
        have HE := Lib.hid e
        generalize hcc : costN a b i = S at *
        have HC := Lib.hid hcc
        clear hcc e
        go_wp2_with fail
        go_ret
        exact ⟨by rw [← HC.out, HE.out]; rfl, hs⟩
    · have d1 : decide (i < a.length) = false := by simpa using h1
      have e : i = min a.length b.length := by omega
      have HE := Lib.hid e
      generalize hcc : costN a b i = S at *
      have HC := Lib.hid hcc
      clear hcc e
      go_wp2_with fail
      go_ret
      exact ⟨by rw [← HC.out, HE.out]; rfl, hs⟩
end Go.Proofs.Ytfmglcgdcdcpaaa
