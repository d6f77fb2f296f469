/-
  No cell of these rows narrows 'for every input' (looked for: loops, veiled, ifaces, maps, wideKeys, modest, calm, conditions, laid).
  DERIVED. THE GIVEN ROWS OF THIS SEAT. 5 by the template 'for every input the law returns true; each argument reads behind the call as it read before'; 0 by the template 'total and deterministic' (their statements: YtfmglcgdcdcpaaaTotals.lean).
  GIVEN WITH THE SEED: the statements are not yours to turn. If you find one false, say at which input.
  Laid BY PROGRAM, IN A SANDBOX (cutbox-rows.mjs): the forced cells as the released guide's own fill.sh prints them over the translation 825d803ae8301c51… (all of the seat's roots in one cut). By AI agents, Wed Nov 11 2026. No macro, syntax, notation, axiom, sorry.
-/
import Derived.Test.YtfmglcgdcdcpaaaChecked
import GoSem.Claim
import GoSem.ClaimJoined
import GoSem.ClaimMapViews
import Derived.JoinedTies
import Derived.KernelRfl
namespace Go.Proofs.Ytfmglcgdcdcpaaa
/- THE CELL 'sum', in the pinned program and in every row, IS THE sha256 OF THE DUMP (.gsa) THAT YtfmglcgdcdcpaaaProg.lean LOADS. Nothing in Lean hashes anything: it is a label: what it is worth is what the hold of that sum in a sandbox is worth. -/
noncomputable def Try.pinned : Pinned := { name := "ytfmglcgdcdcpaaa", sum := "825d803ae8301c510968140d9a31dd2cce835c75fbf83812d2ec6845932404ca", checked := Try.checked }
namespace Rows
def none {H : Type} : Left H := { results := [], args := [] }

/-- 'stevedorelaw9.PackCosts': WHATEVER THE INPUT: true; the input reads as it did. -/
def packCostsSpec : ChangeSpec := { name := "packCosts", fn := fun _ => fun
  | [d1, d2] => { results := [.lit (.bool true)], args := [d1, d2] }
  | _ => none }
def packCostsRow : OpenClaim := { program := "ytfmglcgdcdcpaaa", sum := "825d803ae8301c510968140d9a31dd2cce835c75fbf83812d2ec6845932404ca", func := "stevedore/stevedorelaw9.PackCosts", spec := "packCosts", unfollowed := true, recurses := true, apart := false }
def PackCostsSaid : Prop := packCostsRow.holds Try.pinned (OpenSpec.ofChange packCostsSpec)

/-- ITS FALSE NEIGHBOUR: 'it returns false'. Refute it at one input. -/
def packCostsWrong : ChangeSpec := { name := "packCosts", fn := fun _ => fun
  | [d1, d2] => { results := [.lit (.bool false)], args := [d1, d2] }
  | _ => none }
def PackCostsWrongFalsely : Prop := packCostsRow.holds Try.pinned (OpenSpec.ofChange packCostsWrong)

/-- 'stevedorelaw9.PackOrder': WHATEVER THE INPUT: true; the input reads as it did. -/
def packOrderSpec : ChangeSpec := { name := "packOrder", fn := fun _ => fun
  | [d1, d2] => { results := [.lit (.bool true)], args := [d1, d2] }
  | _ => none }
def packOrderRow : OpenClaim := { program := "ytfmglcgdcdcpaaa", sum := "825d803ae8301c510968140d9a31dd2cce835c75fbf83812d2ec6845932404ca", func := "stevedore/stevedorelaw9.PackOrder", spec := "packOrder", unfollowed := true, recurses := true, apart := false }
def PackOrderSaid : Prop := packOrderRow.holds Try.pinned (OpenSpec.ofChange packOrderSpec)

/-- ITS FALSE NEIGHBOUR: 'it returns false'. Refute it at one input. -/
def packOrderWrong : ChangeSpec := { name := "packOrder", fn := fun _ => fun
  | [d1, d2] => { results := [.lit (.bool false)], args := [d1, d2] }
  | _ => none }
def PackOrderWrongFalsely : Prop := packOrderRow.holds Try.pinned (OpenSpec.ofChange packOrderWrong)

/-- 'stevedorelaw9.PackEven': WHATEVER THE INPUT: true; the input reads as it did. -/
def packEvenSpec : ChangeSpec := { name := "packEven", fn := fun _ => fun
  | [d1, d2] => { results := [.lit (.bool true)], args := [d1, d2] }
  | _ => none }
def packEvenRow : OpenClaim := { program := "ytfmglcgdcdcpaaa", sum := "825d803ae8301c510968140d9a31dd2cce835c75fbf83812d2ec6845932404ca", func := "stevedore/stevedorelaw9.PackEven", spec := "packEven", unfollowed := true, recurses := true, apart := false }
def PackEvenSaid : Prop := packEvenRow.holds Try.pinned (OpenSpec.ofChange packEvenSpec)

/-- ITS FALSE NEIGHBOUR: 'it returns false'. Refute it at one input. -/
def packEvenWrong : ChangeSpec := { name := "packEven", fn := fun _ => fun
  | [d1, d2] => { results := [.lit (.bool false)], args := [d1, d2] }
  | _ => none }
def PackEvenWrongFalsely : Prop := packEvenRow.holds Try.pinned (OpenSpec.ofChange packEvenWrong)

/-- 'stevedorelaw9.PackLengths': WHATEVER THE INPUT: true; the input reads as it did. -/
def packLengthsSpec : ChangeSpec := { name := "packLengths", fn := fun _ => fun
  | [d1, d2] => { results := [.lit (.bool true)], args := [d1, d2] }
  | _ => none }
def packLengthsRow : OpenClaim := { program := "ytfmglcgdcdcpaaa", sum := "825d803ae8301c510968140d9a31dd2cce835c75fbf83812d2ec6845932404ca", func := "stevedore/stevedorelaw9.PackLengths", spec := "packLengths", unfollowed := true, recurses := true, apart := false }
def PackLengthsSaid : Prop := packLengthsRow.holds Try.pinned (OpenSpec.ofChange packLengthsSpec)

/-- ITS FALSE NEIGHBOUR: 'it returns false'. Refute it at one input. -/
def packLengthsWrong : ChangeSpec := { name := "packLengths", fn := fun _ => fun
  | [d1, d2] => { results := [.lit (.bool false)], args := [d1, d2] }
  | _ => none }
def PackLengthsWrongFalsely : Prop := packLengthsRow.holds Try.pinned (OpenSpec.ofChange packLengthsWrong)

/-- 'stevedorelaw9.PackAgainst': WHATEVER THE INPUT: true; the input reads as it did. -/
def packAgainstSpec : ChangeSpec := { name := "packAgainst", fn := fun _ => fun
  | [d1, d2, d3] => { results := [.lit (.bool true)], args := [d1, d2, d3] }
  | _ => none }
def packAgainstRow : OpenClaim := { program := "ytfmglcgdcdcpaaa", sum := "825d803ae8301c510968140d9a31dd2cce835c75fbf83812d2ec6845932404ca", func := "stevedore/stevedorelaw9.PackAgainst", spec := "packAgainst", unfollowed := true, recurses := true, apart := false }
def PackAgainstSaid : Prop := packAgainstRow.holds Try.pinned (OpenSpec.ofChange packAgainstSpec)

/-- ITS FALSE NEIGHBOUR: 'it returns false'. Refute it at one input. -/
def packAgainstWrong : ChangeSpec := { name := "packAgainst", fn := fun _ => fun
  | [d1, d2, d3] => { results := [.lit (.bool false)], args := [d1, d2, d3] }
  | _ => none }
def PackAgainstWrongFalsely : Prop := packAgainstRow.holds Try.pinned (OpenSpec.ofChange packAgainstWrong)

/- THE SECOND FORM. 'bulk': how many values and letters a reading holds, each counted each time it is reached (what is shared counts as often as it is met; a slice's spare places count too). A statement '..UptoSaid' is the law's where the arguments, and the package variables that the reading takes, are together of bulk at most 1048576: NARROWER than '..Said'. Prove '..Said' where nothing that the law and all that it calls make is longer than what came in: it says more and counts as full. Else prove '..UptoSaid'. A law counts once. -/
mutual
def uptoBulk {H : Type} : DataW H → Nat
  | .lit (.string bytes) => bytes.length + 1
  | .lit _ => 1
  | .nil => 1
  | .ptr d => uptoBulk d + 1
  | .slice elems spare => uptoBulkAll elems + uptoBulkAll spare + 1
  | .agg parts => uptoBulkAll parts + 1
  | .iface _ d => uptoBulk d + 1
  | .map entries => uptoBulkEntries entries + 1
  | .held _ => 1
def uptoBulkAll {H : Type} : List (DataW H) → Nat
  | [] => 0
  | d :: r => uptoBulk d + uptoBulkAll r
def uptoBulkEntries {H : Type} : List (Lit × DataW H) → Nat
  | [] => 0
  | x :: r => uptoBulkEntry x + uptoBulkEntries r
def uptoBulkEntry {H : Type} : Lit × DataW H → Nat
  | (.string bytes, d) => bytes.length + uptoBulk d + 1
  | (_, d) => uptoBulk d + 1
 end
def uptoSmall : (H : Type) → List (DataW H) → Bool := fun _ ds => decide (uptoBulkAll ds ≤ 1048576)
def OpenSpec.upto (s : _root_.Go.ChangeSpec) : _root_.Go.OpenSpec := { _root_.Go.OpenSpec.ofChange s with cond := some uptoSmall }

/-- 'stevedorelaw9.PackCosts', WHERE WHAT IT READS IS OF BULK AT MOST 1048576: true; the input reads as it did. -/
def packCostsUptoRow : OpenClaim := { program := "ytfmglcgdcdcpaaa", sum := "825d803ae8301c510968140d9a31dd2cce835c75fbf83812d2ec6845932404ca", func := "stevedore/stevedorelaw9.PackCosts", spec := "packCosts", unfollowed := true, recurses := true, apart := false, narrowed := true }
def PackCostsUptoSaid : Prop := packCostsUptoRow.holds Try.pinned (OpenSpec.upto packCostsSpec)

/-- 'stevedorelaw9.PackOrder', WHERE WHAT IT READS IS OF BULK AT MOST 1048576: true; the input reads as it did. -/
def packOrderUptoRow : OpenClaim := { program := "ytfmglcgdcdcpaaa", sum := "825d803ae8301c510968140d9a31dd2cce835c75fbf83812d2ec6845932404ca", func := "stevedore/stevedorelaw9.PackOrder", spec := "packOrder", unfollowed := true, recurses := true, apart := false, narrowed := true }
def PackOrderUptoSaid : Prop := packOrderUptoRow.holds Try.pinned (OpenSpec.upto packOrderSpec)

/-- 'stevedorelaw9.PackEven', WHERE WHAT IT READS IS OF BULK AT MOST 1048576: true; the input reads as it did. -/
def packEvenUptoRow : OpenClaim := { program := "ytfmglcgdcdcpaaa", sum := "825d803ae8301c510968140d9a31dd2cce835c75fbf83812d2ec6845932404ca", func := "stevedore/stevedorelaw9.PackEven", spec := "packEven", unfollowed := true, recurses := true, apart := false, narrowed := true }
def PackEvenUptoSaid : Prop := packEvenUptoRow.holds Try.pinned (OpenSpec.upto packEvenSpec)

/-- 'stevedorelaw9.PackLengths', WHERE WHAT IT READS IS OF BULK AT MOST 1048576: true; the input reads as it did. -/
def packLengthsUptoRow : OpenClaim := { program := "ytfmglcgdcdcpaaa", sum := "825d803ae8301c510968140d9a31dd2cce835c75fbf83812d2ec6845932404ca", func := "stevedore/stevedorelaw9.PackLengths", spec := "packLengths", unfollowed := true, recurses := true, apart := false, narrowed := true }
def PackLengthsUptoSaid : Prop := packLengthsUptoRow.holds Try.pinned (OpenSpec.upto packLengthsSpec)

/-- 'stevedorelaw9.PackAgainst', WHERE WHAT IT READS IS OF BULK AT MOST 1048576: true; the input reads as it did. -/
def packAgainstUptoRow : OpenClaim := { program := "ytfmglcgdcdcpaaa", sum := "825d803ae8301c510968140d9a31dd2cce835c75fbf83812d2ec6845932404ca", func := "stevedore/stevedorelaw9.PackAgainst", spec := "packAgainst", unfollowed := true, recurses := true, apart := false, narrowed := true }
def PackAgainstUptoSaid : Prop := packAgainstUptoRow.holds Try.pinned (OpenSpec.upto packAgainstSpec)

end Rows
end Go.Proofs.Ytfmglcgdcdcpaaa
