import Derived.Test.YtnnjpbghnfohaaaBase
import Derived.Test.YtnnjpbghnfohaaaRows
import Derived.ProofKit
import Derived.OpenShut
import Derived.ShutString
import Derived.ChangeOld
import Derived.Deep.Slices
import Derived.Deep.Fields
import Derived.ChangeSame
import Derived.Lib.SmallJoins
import Derived.Laws.Cover2
namespace Go.Proofs.Ytnnjpbghnfohaaa
open Go.ChangeShapes Go.WideShapes Go.ChangeAt Go.RowKit Go.Joins Go.Deep
open Go.ChangeMaps (open_string shut_string)
set_option linter.unusedVariables false

theorem own : ownKnob Try.prog.godebug = none := by kernel_rfl
theorem laidOut : laidOutB Try.prog = true := by kernel_rfl

theorem rd22 {H : Type} {enc : TypeId × Value → H} {w : World} {base : Nat} {spare : Nat → Bool} {held : Bool} {fuel : Nat} {cs : List Value} {x : DataW H × List MemPlace} (h : DataW.trod enc Try.prog w base spare held fuel 22 cs = some x) :
    ∃ A c l, cs = [.slice A (List.length l) c] ∧ RowOf w .u8 A c l := rd_ints Try.underlying22 Try.underlying5 (by kernel_rfl) h

/-- api.Plan -/
structure S24 where
  f0 : Bool
  f1 : Int
  f2 : Bool
  f3 : Int
def S24.enc (x : S24) : List Value := [.bool x.f0, .int .i64 x.f1, .bool x.f2, .int .i64 x.f3]
theorem S24.at_ {w w' : World} {A : Option Addr} {c : Nat} {l : List S24} {ok : S24 → Prop} {k : Nat} {x : S24} (h : RowS w 4 A c l S24.enc ok) (hb : Below w.heap.size w w') (hx : l[k]? = some x) :
    ∃ b off, A = some ⟨b, off, none⟩ ∧ w'.cell? ⟨b, off + k * 4, none⟩ = some (.bool x.f0) ∧ w'.cell? ⟨b, off + k * 4 + 1, none⟩ = some (.int .i64 x.f1) ∧ w'.cell? ⟨b, off + k * 4 + 2, none⟩ = some (.bool x.f2) ∧ w'.cell? ⟨b, off + k * 4 + 3, none⟩ = some (.int .i64 x.f3) := by
  obtain ⟨b, off, e, hc⟩ := h.rd k x hx
  exact ⟨b, off, e, (hb.cell (World.block_lt_of_cell? w _ (hc 0 _ rfl))).trans (hc 0 _ rfl), (hb.cell (World.block_lt_of_cell? w _ (hc 1 _ rfl))).trans (hc 1 _ rfl), (hb.cell (World.block_lt_of_cell? w _ (hc 2 _ rfl))).trans (hc 2 _ rfl), (hb.cell (World.block_lt_of_cell? w _ (hc 3 _ rfl))).trans (hc 3 _ rfl)⟩
def S24.ok (w : World) (x : S24) : Prop := (Lit.int .i64 x.f1).wf = true ∧ (Lit.int .i64 x.f3).wf = true

theorem rd25 {H : Type} {enc : TypeId × Value → H} {w : World} {base : Nat} {spare : Nat → Bool} {held : Bool} {fuel : Nat} {cs : List Value} {x : DataW H × List MemPlace} (h : DataW.trod enc Try.prog w base spare held fuel 25 cs = some x) :
    ∃ A c l, cs = [.slice A (List.length l) c] ∧ RowOf w .i64 A c l := rd_ints Try.underlying25 Try.underlying3 (by kernel_rfl) h

/-- api.Token -/
structure S45 where
  f0 : Int
  f1 : Int
  f2 : Int
def S45.enc (x : S45) : List Value := [.int .i64 x.f0, .int .i64 x.f1, .int .u8 x.f2]
theorem S45.at_ {w w' : World} {A : Option Addr} {c : Nat} {l : List S45} {ok : S45 → Prop} {k : Nat} {x : S45} (h : RowS w 3 A c l S45.enc ok) (hb : Below w.heap.size w w') (hx : l[k]? = some x) :
    ∃ b off, A = some ⟨b, off, none⟩ ∧ w'.cell? ⟨b, off + k * 3, none⟩ = some (.int .i64 x.f0) ∧ w'.cell? ⟨b, off + k * 3 + 1, none⟩ = some (.int .i64 x.f1) ∧ w'.cell? ⟨b, off + k * 3 + 2, none⟩ = some (.int .u8 x.f2) := by
  obtain ⟨b, off, e, hc⟩ := h.rd k x hx
  exact ⟨b, off, e, (hb.cell (World.block_lt_of_cell? w _ (hc 0 _ rfl))).trans (hc 0 _ rfl), (hb.cell (World.block_lt_of_cell? w _ (hc 1 _ rfl))).trans (hc 1 _ rfl), (hb.cell (World.block_lt_of_cell? w _ (hc 2 _ rfl))).trans (hc 2 _ rfl)⟩
def S45.ok (w : World) (x : S45) : Prop := (Lit.int .i64 x.f0).wf = true ∧ (Lit.int .i64 x.f1).wf = true ∧ (Lit.int .u8 x.f2).wf = true

end Go.Proofs.Ytnnjpbghnfohaaa
