import Derived.Test.YtepphflpeobkhaaTabE
namespace Go.Proofs.Ytepphflpeobkhaa
set_option linter.unusedVariables false
set_option linter.unusedSimpArgs false
open Go.RowKit
attribute [local go_sem] max2i min2i max2t min2t

/-- A table that finds the codes of l lies at p. -/
structure TOk (w : World) (base : Nat) (l : List Int) (p F : Nat) : Prop where
  ex : ∃ v P fr ct, TabAt w base p F v P fr ct ∧ TFin l F P fr ct
theorem TOk.below {w w' : World} {base p F : Nat} {l : List Int} (h : TOk w base l p F) (hb : Below w.heap.size w w') : TOk w' base l p F := by
  obtain ⟨v, P, fr, ct, h1, h2⟩ := h.ex
  exact ⟨v, P, fr, ct, h1.same (Same.of_below hb), h2⟩
theorem TOk.find {w : World} {base p F : Nat} {l : List Int} (h : TOk w base l p F) (v : Nat) (hv : v < 4294967296) (ni : Int) (n : Nat) (hni : min (max ni 0) 15 = n) :
    Calls Try.prog 20 #[.pointer (some ⟨p, 0, none⟩), .int .u32 v, .int .i64 ni] w fun e w' => e = .returned (.tuple #[.int .i64 (findN l (v % 2 ^ n) n).1, .int .i64 (findN l (v % 2 ^ n) n).2.1, .int .i64 (findN l (v % 2 ^ n) n).2.2]) ∧ Below w.heap.size w w' := by
  obtain ⟨vv, P, fr, ct, h1, h2⟩ := h.ex
  exact tab_find h1 h2 v hv ni n hni
theorem tab_find_nil (v ni : Int) (w : World) : Calls Try.prog 20 #[.pointer none, .int .u32 v, .int .i64 ni] w fun e w' => e = .returned (.tuple #[.int .i64 0, .int .i64 0, .int .i64 1]) ∧ w' = w := by
  go_enter Try.func20, Try.ntmps20
  go_wp2_with fail
  go_ret3
  exact ⟨rfl, rfl⟩
theorem tab_size_nil (w : World) : Calls Try.prog 21 #[.pointer none] w fun e w' => e = .returned (.int .i64 0) ∧ w' = w := by
  go_enter Try.func21, Try.ntmps21
  go_wp2_with fail
  go_ret
  exact ⟨rfl, rfl⟩
theorem TOk.size {w : World} {base p F : Nat} {l : List Int} (h : TOk w base l p F) : ∃ n : Nat, n ≤ 2 ^ F + 32768 ∧ Calls Try.prog 21 #[.pointer (some ⟨p, 0, none⟩)] w fun e w' => e = .returned (.int .i64 n) ∧ w' = w := by
  obtain ⟨vv, P, fr, ct, h1, h2⟩ := h.ex
  obtain ⟨D, hI, _⟩ := h2.inv
  have hs := hI.size h2.hi
  have hpos : 0 < P.length := Nat.lt_of_lt_of_le (Nat.pow_pos (by decide)) hI.len
  obtain ⟨g, cap, rfl, _⟩ := h1.form hpos
  have f1 := TabB.rows h1.pb
  refine ⟨P.length, hs, ?_⟩
  go_enter Try.func21, Try.ntmps21
  go_wp2_with fail
  go_ret
  exact ⟨rfl, rfl⟩
theorem tab_new {A : Option Addr} {c : Nat} {l : List Int} {w : World} (hr : RowOf w .i64 A c l) (hE : codesErr l = 0) (F : Nat) (hF1 : 1 ≤ F) (hF : F ≤ 15) :
    Calls Try.prog 19 #[.slice A l.length c, .int .i64 F] w fun e w' => ∃ p, e = .returned (.tuple #[.pointer (some ⟨p, 0, none⟩), .int .i64 0]) ∧ TOk w' w.heap.size l p F ∧ w.heap.size ≤ p ∧ Below w.heap.size w w' :=
  (tab_new_ok A c l w hr hE F hF1 hF).mono fun e w' ⟨p, v, P, fr, ct, he, h1, h2, h3, h4⟩ => ⟨p, he, ⟨v, P, fr, ct, h1, h2⟩, h3, h4⟩
set_option maxHeartbeats 1600000 in
set_option maxRecDepth 100000 in
theorem told8 (w : World) : Calls Try.prog 18 #[] w fun e w' => e = .returned (.bool true) ∧ Below w.heap.size w w' := by
  have hr := RowOf.lit w .i64 3 [2, 1, 3, 3] (by decide) (by simp)
  have hE : codesErr [2, 1, 3, 3] = 0 := by decide +kernel
  have hE0 : codesErr [] = 0 := by decide +kernel
  have h1 : findN [2, 1, 3, 3] (1 % 2 ^ 2) 2 = (0, 2, 0) := by decide +kernel
  have h2 : findN [2, 1, 3, 3] (3 % 2 ^ 2) 2 = (0, 0, 5) := by decide +kernel
  have HN := Lib.hid (tab_new hr hE 2 (by omega) (by omega))
  have hB0 := (Below.refl w.heap.size w).alloc (Nat.le_refl _) (.cells (ints .i64 [2, 1, 3, 3]).toArray 3)
  rw [show (ints .i64 [2, 1, 3, 3]).toArray = #[.int .i64 2, .int .i64 1, .int .i64 3, .int .i64 3] from rfl] at HN hB0
  have H1 := Lib.hid h1
  have H2 := Lib.hid h2
  have HE0 := Lib.hid hE0
  clear h1 h2 hE hE0 hr
  go_enter Try.func18, Try.ntmps18
  go_wp2_with fail
  refine HN.out.mono ?_
  rintro e w1 ⟨p, rfl, hT, hp, hb1⟩
  have hB1 := hB0.trans (hb1.mono hB0.size)
  go_wp2_with fail
  have hF := hT.find 1 (by omega) 2 2 (by omega)
  rw [H1.out] at hF
  refine hF.mono ?_
  rintro e w2 ⟨rfl, hb2⟩
  have hB2 := hB1.trans (hb2.mono hB1.size)
  have hT2 := hT.below hb2
  clear hF
  go_wp2_with fail
  have hF := hT2.find 3 (by omega) 2 2 (by omega)
  rw [H2.out] at hF
  refine hF.mono ?_
  rintro e w3 ⟨rfl, hb3⟩
  have hB3 := hB2.trans (hb3.mono hB2.size)
  clear hF
  go_wp2_with fail
  refine (tab_new_bad2 none 0 [] w3 ⟨RdI.nil_, by simp, by simp, by simp, by simp⟩ HE0.out 0 (by omega)).mono ?_
  rintro e w4 ⟨rfl, hb4⟩
  go_wp2_with fail
  go_ret
  exact ⟨rfl, hB3.trans (hb4.mono hB3.size)⟩
end Go.Proofs.Ytepphflpeobkhaa
