import Derived.Test.YtcmaaaojegjkjaaBase
import Derived.Test.YtcmaaaojegjkjaaRows
import Derived.ProofKit
import Derived.OpenShut
import Derived.ShutString
import Derived.ChangeOld
import Derived.Deep.Slices
import Derived.Deep.Fields
import Derived.ChangeSame
import Derived.Lib.SmallJoins
import Derived.Laws.Cover2
namespace Go.Proofs.Ytcmaaaojegjkjaa
open Go.ChangeShapes Go.WideShapes Go.ChangeAt Go.RowKit Go.Joins Go.Deep
open Go.ChangeMaps (open_string shut_string)
set_option linter.unusedVariables false

theorem own : ownKnob Try.prog.godebug = none := by kernel_rfl
theorem laidOut : laidOutB Try.prog = true := by kernel_rfl

theorem rd26 {H : Type} {enc : TypeId × Value → H} {w : World} {base : Nat} {spare : Nat → Bool} {held : Bool} {fuel : Nat} {cs : List Value} {x : DataW H × List MemPlace} (h : DataW.trod enc Try.prog w base spare held fuel 26 cs = some x) :
    ∃ A c l, cs = [.slice A (List.length l) c] ∧ RowOf w .u8 A c l := rd_ints Try.underlying26 Try.underlying5 (by kernel_rfl) h

theorem rd27 {H : Type} {enc : TypeId × Value → H} {w : World} {base : Nat} {spare : Nat → Bool} {held : Bool} {fuel : Nat} {cs : List Value} {x : DataW H × List MemPlace} (h : DataW.trod enc Try.prog w base spare held fuel 27 cs = some x) :
    ∃ A c l, cs = [.slice A (List.length l) c] ∧ RowOf w .i64 A c l := rd_ints Try.underlying27 Try.underlying3 (by kernel_rfl) h

/-- stevedorelaw12.T -/
structure S60 where
  f0 : Int
  f1 : Int
  f2 : Int
def S60.enc (x : S60) : List Value := [.int .i64 x.f0, .int .i64 x.f1, .int .u8 x.f2]
theorem S60.at_ {w w' : World} {A : Option Addr} {c : Nat} {l : List S60} {ok : S60 → Prop} {k : Nat} {x : S60} (h : RowS w 3 A c l S60.enc ok) (hb : Below w.heap.size w w') (hx : l[k]? = some x) :
    ∃ b off, A = some ⟨b, off, none⟩ ∧ w'.cell? ⟨b, off + k * 3, none⟩ = some (.int .i64 x.f0) ∧ w'.cell? ⟨b, off + k * 3 + 1, none⟩ = some (.int .i64 x.f1) ∧ w'.cell? ⟨b, off + k * 3 + 2, none⟩ = some (.int .u8 x.f2) := by
  obtain ⟨b, off, e, hc⟩ := h.rd k x hx
  exact ⟨b, off, e, (hb.cell (World.block_lt_of_cell? w _ (hc 0 _ rfl))).trans (hc 0 _ rfl), (hb.cell (World.block_lt_of_cell? w _ (hc 1 _ rfl))).trans (hc 1 _ rfl), (hb.cell (World.block_lt_of_cell? w _ (hc 2 _ rfl))).trans (hc 2 _ rfl)⟩
def S60.ok (w : World) (x : S60) : Prop := (Lit.int .i64 x.f0).wf = true ∧ (Lit.int .i64 x.f1).wf = true ∧ (Lit.int .u8 x.f2).wf = true

theorem rd33 {H : Type} {enc : TypeId × Value → H} {w : World} {base : Nat} {spare : Nat → Bool} {held : Bool} {fuel : Nat} {cs : List Value} {x : DataW H × List MemPlace} (h : DataW.trod enc Try.prog w base spare held fuel 33 cs = some x) :
    ∃ A c l, cs = [.slice A (List.length l) c] ∧ RowS w 3 A c l S60.enc (S60.ok w) := by
  rcases rd_structs Try.underlying33 Try.underlying60 (by kernel_rfl) (by kernel_rfl) h with rfl | ⟨a, len, cap, rfl, hl, hm, hf⟩
  · exact ⟨none, 0, [], rfl, RowS.nil_⟩
  · obtain ⟨l, rfl, hp⟩ := exists_list (P := fun i (x : S60) => (∀ j v, x.enc[j]? = some v → w.cell? (a.add (i * 3 + j)) = some v) ∧ x.ok w) len (fun i hi => by
      obtain ⟨v0, y0, m0, c0', t0⟩ := hf i hi 0 _ rfl
      obtain ⟨n0, e0, _, w0⟩ := DataW.trod_int Try.underlying3 t0
      obtain rfl : _ = Value.int .i64 n0 := by simpa using e0
      obtain ⟨v1, y1, m1, c1', t1⟩ := hf i hi 1 _ rfl
      obtain ⟨n1, e1, _, w1⟩ := DataW.trod_int Try.underlying3 t1
      obtain rfl : _ = Value.int .i64 n1 := by simpa using e1
      obtain ⟨v2, y2, m2, c2', t2⟩ := hf i hi 2 _ rfl
      obtain ⟨n2, e2, _, w2⟩ := DataW.trod_int Try.underlying5 t2
      obtain rfl : _ = Value.int .u8 n2 := by simpa using e2
      refine ⟨⟨n0, n1, n2⟩, fun j v hv => ?_, ⟨w0, w1, w2⟩⟩
      match j, hv with
      | 0, hv => obtain rfl := Option.some.inj hv; exact c0'
      | 1, hv => obtain rfl := Option.some.inj hv; exact c1'
      | 2, hv => obtain rfl := Option.some.inj hv; exact c2'
      | _ + 3, hv => simp [S60.enc] at hv)
    exact ⟨some a, cap, l, rfl, RowS.mk_ hl hm hp (fun x => ⟨_, rfl⟩)⟩

/-- api.Token -/
structure S42 where
  f0 : Int
  f1 : Int
  f2 : Int
def S42.enc (x : S42) : List Value := [.int .i64 x.f0, .int .i64 x.f1, .int .u8 x.f2]
theorem S42.at_ {w w' : World} {A : Option Addr} {c : Nat} {l : List S42} {ok : S42 → Prop} {k : Nat} {x : S42} (h : RowS w 3 A c l S42.enc ok) (hb : Below w.heap.size w w') (hx : l[k]? = some x) :
    ∃ b off, A = some ⟨b, off, none⟩ ∧ w'.cell? ⟨b, off + k * 3, none⟩ = some (.int .i64 x.f0) ∧ w'.cell? ⟨b, off + k * 3 + 1, none⟩ = some (.int .i64 x.f1) ∧ w'.cell? ⟨b, off + k * 3 + 2, none⟩ = some (.int .u8 x.f2) := by
  obtain ⟨b, off, e, hc⟩ := h.rd k x hx
  exact ⟨b, off, e, (hb.cell (World.block_lt_of_cell? w _ (hc 0 _ rfl))).trans (hc 0 _ rfl), (hb.cell (World.block_lt_of_cell? w _ (hc 1 _ rfl))).trans (hc 1 _ rfl), (hb.cell (World.block_lt_of_cell? w _ (hc 2 _ rfl))).trans (hc 2 _ rfl)⟩
def S42.ok (w : World) (x : S42) : Prop := (Lit.int .i64 x.f0).wf = true ∧ (Lit.int .i64 x.f1).wf = true ∧ (Lit.int .u8 x.f2).wf = true

end Go.Proofs.Ytcmaaaojegjkjaa
