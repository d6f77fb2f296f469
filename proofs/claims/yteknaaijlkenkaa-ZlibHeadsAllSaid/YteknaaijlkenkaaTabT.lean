import Derived.Test.YteknaaijlkenkaaTabE
namespace Go.Proofs.Yteknaaijlkenkaa
set_option linter.unusedVariables false
set_option linter.unusedSimpArgs false
open Go.RowKit
attribute [local go_sem] max2i min2i max2t min2t

/-- A table that finds the codes of l lies at p. -/
structure TOk (w : World) (base : Nat) (l : List Int) (p F : Nat) : Prop where
  ex : ∃ v P fr ct, TabAt w base p F v P fr ct ∧ TFin l F P fr ct
theorem TOk.below {w w' : World} {base p F : Nat} {l : List Int} (h : TOk w base l p F) (hb : Below w.heap.size w w') : TOk w' base l p F := by
  obtain ⟨v, P, fr, ct, h1, h2⟩ := h.ex
  exact ⟨v, P, fr, ct, h1.same (Same.of_below hb), h2⟩
theorem TOk.find {w : World} {base p F : Nat} {l : List Int} (h : TOk w base l p F) (v : Nat) (hv : v < 4294967296) (ni : Int) (n : Nat) (hni : min (max ni 0) 15 = n) :
    Calls Try.prog 82 #[.pointer (some ⟨p, 0, none⟩), .int .u32 v, .int .i64 ni] w fun e w' => e = .returned (.tuple #[.int .i64 (findN l (v % 2 ^ n) n).1, .int .i64 (findN l (v % 2 ^ n) n).2.1, .int .i64 (findN l (v % 2 ^ n) n).2.2]) ∧ Below w.heap.size w w' := by
  obtain ⟨vv, P, fr, ct, h1, h2⟩ := h.ex
  exact tab_find h1 h2 v hv ni n hni
theorem tab_find_nil (v ni : Int) (w : World) : Calls Try.prog 82 #[.pointer none, .int .u32 v, .int .i64 ni] w fun e w' => e = .returned (.tuple #[.int .i64 0, .int .i64 0, .int .i64 1]) ∧ w' = w := by
  go_enter Try.func82, Try.ntmps82
  go_wp2_with fail
  go_ret3
  exact ⟨rfl, rfl⟩
theorem tab_new {A : Option Addr} {c : Nat} {l : List Int} {w : World} (hr : RowOf w .i64 A c l) (hE : codesErr l = 0) (F : Nat) (hF1 : 1 ≤ F) (hF : F ≤ 15) :
    Calls Try.prog 77 #[.slice A l.length c, .int .i64 F] w fun e w' => ∃ p, e = .returned (.tuple #[.pointer (some ⟨p, 0, none⟩), .int .i64 0]) ∧ TOk w' w.heap.size l p F ∧ w.heap.size ≤ p ∧ Below w.heap.size w w' :=
  (tab_new_ok A c l w hr hE F hF1 hF).mono fun e w' ⟨p, v, P, fr, ct, he, h1, h2, h3, h4⟩ => ⟨p, he, ⟨v, P, fr, ct, h1, h2⟩, h3, h4⟩
end Go.Proofs.Yteknaaijlkenkaa
