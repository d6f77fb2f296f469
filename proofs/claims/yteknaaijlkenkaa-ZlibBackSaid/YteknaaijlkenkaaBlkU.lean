import Derived.Test.YteknaaijlkenkaaJBlf
import Derived.Lib.SlBytesConst
namespace Go.Proofs.Yteknaaijlkenkaa
set_option linter.unusedVariables false
set_option linter.unusedSimpArgs false
open Go.RowKit
attribute [local go_sem] max2i min2i max2t min2t

theorem RowS.belo {α : Type} {w w' : World} {m c : Nat} {A : Option Addr} {l : List α} {enc : α → List Value} {ok ok' : α → Prop} (h : RowS w m A c l enc ok) (hb : Below w.heap.size w w') (hk : ∀ x, ok x → ok' x) : RowS w' m A c l enc ok' :=
  ⟨fun i x hx => by
    obtain ⟨b, off, e, hc⟩ := h.rd i x hx
    exact ⟨b, off, e, fun j v hv => (hb.cell (World.block_lt_of_cell? w _ (hc j v hv))).trans (hc j v hv)⟩, h.cap, h.most, fun x hx => hk x (h.ok x hx), h.nil⟩
theorem row_mark (w : World) (e : TypeId) : RowOf (w.alloc (.cells #[.int .u8 97] e (1, 2))) .u8 (some ⟨w.heap.size, 0, none⟩) 1 [97] := by
  refine ⟨fun i x hx => ⟨_, rfl, ?_⟩, by simp, by simp, by simp [Lit.wf, IntKind.min, IntKind.max, IntKind.bits, IntKind.signed], by simp⟩
  have hi : i = 0 ∧ x = 97 := by
    cases i with
    | zero => simpa using hx.symm
    | succ n => simp at hx
  obtain ⟨rfl, rfl⟩ := hi
  rw [Addr.add_lit, World.cell?_alloc_mark]
  rfl
end Go.Proofs.Yteknaaijlkenkaa
