/-
  No cell of these rows narrows 'for every input' (looked for: loops, veiled, ifaces, maps, wideKeys, modest, calm, conditions, laid).
  DERIVED. THE GIVEN ROWS OF THIS SEAT. 6 by the template 'for every input the law returns true; each argument reads behind the call as it read before'; 0 by the template 'total and deterministic' (their statements: YtcmaaaojegjkjaaTotals.lean).
  GIVEN WITH THE SEED: the statements are not yours to turn. If you find one false, say at which input.
  Laid BY PROGRAM, IN A SANDBOX (cutbox-rows.mjs): the forced cells as the released guide's own fill.sh prints them over the translation 74b8ee6a2f683565… (all of the seat's roots in one cut). By AI agents, Wed Nov 11 2026. No macro, syntax, notation, axiom, sorry.
-/
import Derived.Test.YtcmaaaojegjkjaaChecked
import GoSem.Claim
import GoSem.ClaimJoined
import GoSem.ClaimMapViews
import Derived.JoinedTies
import Derived.KernelRfl
namespace Go.Proofs.Ytcmaaaojegjkjaa
/- THE CELL 'sum', in the pinned program and in every row, IS THE sha256 OF THE DUMP (.gsa) THAT YtcmaaaojegjkjaaProg.lean LOADS. Nothing in Lean hashes anything: it is a label: what it is worth is what the hold of that sum in a sandbox is worth. -/
noncomputable def Try.pinned : Pinned := { name := "ytcmaaaojegjkjaa", sum := "74b8ee6a2f6835650095e6707f183f6eec98c962998c43cd280f76442a053add", checked := Try.checked }
namespace Rows
def none {H : Type} : Left H := { results := [], args := [] }

/-- 'stevedorelaw12.InflateSymbols': WHATEVER THE INPUT: true; the input reads as it did. -/
def inflateSymbolsSpec : ChangeSpec := { name := "inflateSymbols", fn := fun _ => fun
  | [d1, d2] => { results := [.lit (.bool true)], args := [d1, d2] }
  | _ => none }
def inflateSymbolsRow : OpenClaim := { program := "ytcmaaaojegjkjaa", sum := "74b8ee6a2f6835650095e6707f183f6eec98c962998c43cd280f76442a053add", func := "stevedore/stevedorelaw12.InflateSymbols", spec := "inflateSymbols", unfollowed := true, recurses := true, apart := false }
def InflateSymbolsSaid : Prop := inflateSymbolsRow.holds Try.pinned (OpenSpec.ofChange inflateSymbolsSpec)

/-- ITS FALSE NEIGHBOUR: 'it returns false'. Refute it at one input. -/
def inflateSymbolsWrong : ChangeSpec := { name := "inflateSymbols", fn := fun _ => fun
  | [d1, d2] => { results := [.lit (.bool false)], args := [d1, d2] }
  | _ => none }
def InflateSymbolsWrongFalsely : Prop := inflateSymbolsRow.holds Try.pinned (OpenSpec.ofChange inflateSymbolsWrong)

/-- 'stevedorelaw12.InflateStored': WHATEVER THE INPUT: true; the input reads as it did. -/
def inflateStoredSpec : ChangeSpec := { name := "inflateStored", fn := fun _ => fun
  | [d1, d2] => { results := [.lit (.bool true)], args := [d1, d2] }
  | _ => none }
def inflateStoredRow : OpenClaim := { program := "ytcmaaaojegjkjaa", sum := "74b8ee6a2f6835650095e6707f183f6eec98c962998c43cd280f76442a053add", func := "stevedore/stevedorelaw12.InflateStored", spec := "inflateStored", unfollowed := true, recurses := true, apart := false }
def InflateStoredSaid : Prop := inflateStoredRow.holds Try.pinned (OpenSpec.ofChange inflateStoredSpec)

/-- ITS FALSE NEIGHBOUR: 'it returns false'. Refute it at one input. -/
def inflateStoredWrong : ChangeSpec := { name := "inflateStored", fn := fun _ => fun
  | [d1, d2] => { results := [.lit (.bool false)], args := [d1, d2] }
  | _ => none }
def InflateStoredWrongFalsely : Prop := inflateStoredRow.holds Try.pinned (OpenSpec.ofChange inflateStoredWrong)

/-- 'stevedorelaw12.InflateFixed': WHATEVER THE INPUT: true; the input reads as it did. -/
def inflateFixedSpec : ChangeSpec := { name := "inflateFixed", fn := fun _ => fun
  | [d1, d2] => { results := [.lit (.bool true)], args := [d1, d2] }
  | _ => none }
def inflateFixedRow : OpenClaim := { program := "ytcmaaaojegjkjaa", sum := "74b8ee6a2f6835650095e6707f183f6eec98c962998c43cd280f76442a053add", func := "stevedore/stevedorelaw12.InflateFixed", spec := "inflateFixed", unfollowed := true, recurses := true, apart := false }
def InflateFixedSaid : Prop := inflateFixedRow.holds Try.pinned (OpenSpec.ofChange inflateFixedSpec)

/-- ITS FALSE NEIGHBOUR: 'it returns false'. Refute it at one input. -/
def inflateFixedWrong : ChangeSpec := { name := "inflateFixed", fn := fun _ => fun
  | [d1, d2] => { results := [.lit (.bool false)], args := [d1, d2] }
  | _ => none }
def InflateFixedWrongFalsely : Prop := inflateFixedRow.holds Try.pinned (OpenSpec.ofChange inflateFixedWrong)

/-- 'stevedorelaw12.InflatePrefix': WHATEVER THE INPUT: true; the input reads as it did. -/
def inflatePrefixSpec : ChangeSpec := { name := "inflatePrefix", fn := fun _ => fun
  | [d1, d2, d3] => { results := [.lit (.bool true)], args := [d1, d2, d3] }
  | _ => none }
def inflatePrefixRow : OpenClaim := { program := "ytcmaaaojegjkjaa", sum := "74b8ee6a2f6835650095e6707f183f6eec98c962998c43cd280f76442a053add", func := "stevedore/stevedorelaw12.InflatePrefix", spec := "inflatePrefix", unfollowed := true, recurses := true, apart := false }
def InflatePrefixSaid : Prop := inflatePrefixRow.holds Try.pinned (OpenSpec.ofChange inflatePrefixSpec)

/-- ITS FALSE NEIGHBOUR: 'it returns false'. Refute it at one input. -/
def inflatePrefixWrong : ChangeSpec := { name := "inflatePrefix", fn := fun _ => fun
  | [d1, d2, d3] => { results := [.lit (.bool false)], args := [d1, d2, d3] }
  | _ => none }
def InflatePrefixWrongFalsely : Prop := inflatePrefixRow.holds Try.pinned (OpenSpec.ofChange inflatePrefixWrong)

/-- 'stevedorelaw12.InflateKnown': WHATEVER THE INPUT: true; the input reads as it did. -/
def inflateKnownSpec : ChangeSpec := { name := "inflateKnown", fn := fun _ => fun
  | [d] => { results := [.lit (.bool true)], args := [d] }
  | _ => none }
def inflateKnownRow : OpenClaim := { program := "ytcmaaaojegjkjaa", sum := "74b8ee6a2f6835650095e6707f183f6eec98c962998c43cd280f76442a053add", func := "stevedore/stevedorelaw12.InflateKnown", spec := "inflateKnown", unfollowed := true, recurses := true, apart := false }
def InflateKnownSaid : Prop := inflateKnownRow.holds Try.pinned (OpenSpec.ofChange inflateKnownSpec)

/-- ITS FALSE NEIGHBOUR: 'it returns false'. Refute it at one input. -/
def inflateKnownWrong : ChangeSpec := { name := "inflateKnown", fn := fun _ => fun
  | [d] => { results := [.lit (.bool false)], args := [d] }
  | _ => none }
def InflateKnownWrongFalsely : Prop := inflateKnownRow.holds Try.pinned (OpenSpec.ofChange inflateKnownWrong)

/-- 'stevedorelaw12.InflateBounds': WHATEVER THE INPUT: true; the input reads as it did. -/
def inflateBoundsSpec : ChangeSpec := { name := "inflateBounds", fn := fun _ => fun
  | [d1, d2, d3, d4] => { results := [.lit (.bool true)], args := [d1, d2, d3, d4] }
  | _ => none }
def inflateBoundsRow : OpenClaim := { program := "ytcmaaaojegjkjaa", sum := "74b8ee6a2f6835650095e6707f183f6eec98c962998c43cd280f76442a053add", func := "stevedore/stevedorelaw12.InflateBounds", spec := "inflateBounds", unfollowed := true, recurses := true, apart := false }
def InflateBoundsSaid : Prop := inflateBoundsRow.holds Try.pinned (OpenSpec.ofChange inflateBoundsSpec)

/-- ITS FALSE NEIGHBOUR: 'it returns false'. Refute it at one input. -/
def inflateBoundsWrong : ChangeSpec := { name := "inflateBounds", fn := fun _ => fun
  | [d1, d2, d3, d4] => { results := [.lit (.bool false)], args := [d1, d2, d3, d4] }
  | _ => none }
def InflateBoundsWrongFalsely : Prop := inflateBoundsRow.holds Try.pinned (OpenSpec.ofChange inflateBoundsWrong)

/- THE SECOND FORM. 'bulk': how many values and letters a reading holds, each counted each time it is reached (what is shared counts as often as it is met; a slice's spare places count too). A statement '..UptoSaid' is the law's where the arguments, and the package variables that the reading takes, are together of bulk at most 1048576: NARROWER than '..Said'. Prove '..Said' where nothing that the law and all that it calls make is longer than what came in: it says more and counts as full. Else prove '..UptoSaid'. A law counts once. -/
mutual
def uptoBulk {H : Type} : DataW H → Nat
  | .lit (.string bytes) => bytes.length + 1
  | .lit _ => 1
  | .nil => 1
  | .ptr d => uptoBulk d + 1
  | .slice elems spare => uptoBulkAll elems + uptoBulkAll spare + 1
  | .agg parts => uptoBulkAll parts + 1
  | .iface _ d => uptoBulk d + 1
  | .map entries => uptoBulkEntries entries + 1
  | .held _ => 1
def uptoBulkAll {H : Type} : List (DataW H) → Nat
  | [] => 0
  | d :: r => uptoBulk d + uptoBulkAll r
def uptoBulkEntries {H : Type} : List (Lit × DataW H) → Nat
  | [] => 0
  | x :: r => uptoBulkEntry x + uptoBulkEntries r
def uptoBulkEntry {H : Type} : Lit × DataW H → Nat
  | (.string bytes, d) => bytes.length + uptoBulk d + 1
  | (_, d) => uptoBulk d + 1
 end
def uptoSmall : (H : Type) → List (DataW H) → Bool := fun _ ds => decide (uptoBulkAll ds ≤ 1048576)
def OpenSpec.upto (s : _root_.Go.ChangeSpec) : _root_.Go.OpenSpec := { _root_.Go.OpenSpec.ofChange s with cond := some uptoSmall }

/-- 'stevedorelaw12.InflateSymbols', WHERE WHAT IT READS IS OF BULK AT MOST 1048576: true; the input reads as it did. -/
def inflateSymbolsUptoRow : OpenClaim := { program := "ytcmaaaojegjkjaa", sum := "74b8ee6a2f6835650095e6707f183f6eec98c962998c43cd280f76442a053add", func := "stevedore/stevedorelaw12.InflateSymbols", spec := "inflateSymbols", unfollowed := true, recurses := true, apart := false, narrowed := true }
def InflateSymbolsUptoSaid : Prop := inflateSymbolsUptoRow.holds Try.pinned (OpenSpec.upto inflateSymbolsSpec)

/-- 'stevedorelaw12.InflateStored', WHERE WHAT IT READS IS OF BULK AT MOST 1048576: true; the input reads as it did. -/
def inflateStoredUptoRow : OpenClaim := { program := "ytcmaaaojegjkjaa", sum := "74b8ee6a2f6835650095e6707f183f6eec98c962998c43cd280f76442a053add", func := "stevedore/stevedorelaw12.InflateStored", spec := "inflateStored", unfollowed := true, recurses := true, apart := false, narrowed := true }
def InflateStoredUptoSaid : Prop := inflateStoredUptoRow.holds Try.pinned (OpenSpec.upto inflateStoredSpec)

/-- 'stevedorelaw12.InflateFixed', WHERE WHAT IT READS IS OF BULK AT MOST 1048576: true; the input reads as it did. -/
def inflateFixedUptoRow : OpenClaim := { program := "ytcmaaaojegjkjaa", sum := "74b8ee6a2f6835650095e6707f183f6eec98c962998c43cd280f76442a053add", func := "stevedore/stevedorelaw12.InflateFixed", spec := "inflateFixed", unfollowed := true, recurses := true, apart := false, narrowed := true }
def InflateFixedUptoSaid : Prop := inflateFixedUptoRow.holds Try.pinned (OpenSpec.upto inflateFixedSpec)

/-- 'stevedorelaw12.InflatePrefix', WHERE WHAT IT READS IS OF BULK AT MOST 1048576: true; the input reads as it did. -/
def inflatePrefixUptoRow : OpenClaim := { program := "ytcmaaaojegjkjaa", sum := "74b8ee6a2f6835650095e6707f183f6eec98c962998c43cd280f76442a053add", func := "stevedore/stevedorelaw12.InflatePrefix", spec := "inflatePrefix", unfollowed := true, recurses := true, apart := false, narrowed := true }
def InflatePrefixUptoSaid : Prop := inflatePrefixUptoRow.holds Try.pinned (OpenSpec.upto inflatePrefixSpec)

/-- 'stevedorelaw12.InflateKnown', WHERE WHAT IT READS IS OF BULK AT MOST 1048576: true; the input reads as it did. -/
def inflateKnownUptoRow : OpenClaim := { program := "ytcmaaaojegjkjaa", sum := "74b8ee6a2f6835650095e6707f183f6eec98c962998c43cd280f76442a053add", func := "stevedore/stevedorelaw12.InflateKnown", spec := "inflateKnown", unfollowed := true, recurses := true, apart := false, narrowed := true }
def InflateKnownUptoSaid : Prop := inflateKnownUptoRow.holds Try.pinned (OpenSpec.upto inflateKnownSpec)

/-- 'stevedorelaw12.InflateBounds', WHERE WHAT IT READS IS OF BULK AT MOST 1048576: true; the input reads as it did. -/
def inflateBoundsUptoRow : OpenClaim := { program := "ytcmaaaojegjkjaa", sum := "74b8ee6a2f6835650095e6707f183f6eec98c962998c43cd280f76442a053add", func := "stevedore/stevedorelaw12.InflateBounds", spec := "inflateBounds", unfollowed := true, recurses := true, apart := false, narrowed := true }
def InflateBoundsUptoSaid : Prop := inflateBoundsUptoRow.holds Try.pinned (OpenSpec.upto inflateBoundsSpec)

end Rows
end Go.Proofs.Ytcmaaaojegjkjaa
