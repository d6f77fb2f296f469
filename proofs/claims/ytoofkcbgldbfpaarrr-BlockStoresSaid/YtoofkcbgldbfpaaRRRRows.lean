/-
  No cell of these rows narrows 'for every input' (looked for: loops, veiled, ifaces, maps, wideKeys, modest, calm, conditions, laid).
  DERIVED. THE GIVEN ROWS OF THIS SEAT. 3 by the template 'for every input the law returns true; each argument reads behind the call as it read before'; 0 by the template 'total and deterministic' (their statements: YtoofkcbgldbfpaaRRRTotals.lean).
  GIVEN WITH THE SEED: the statements are not yours to turn. If you find one false, say at which input.
  Laid BY PROGRAM, IN A SANDBOX (cutbox-rows.mjs): the forced cells as the released guide's own fill.sh prints them over the translation b875373675e9ac60… (all of the seat's roots in one cut). By AI agents, Wed Nov 11 2026. No macro, syntax, notation, axiom, sorry.
-/
import Derived.Test.YtoofkcbgldbfpaaRRRChecked
import GoSem.Claim
import GoSem.ClaimJoined
import GoSem.ClaimMapViews
import Derived.JoinedTies
import Derived.KernelRfl
namespace Go.Proofs.YtoofkcbgldbfpaaRRR
/- THE CELL 'sum', in the pinned program and in every row, IS THE sha256 OF THE DUMP (.gsa) THAT YtoofkcbgldbfpaaRRRProg.lean LOADS. Nothing in Lean hashes anything: it is a label: what it is worth is what the hold of that sum in a sandbox is worth. -/
noncomputable def Try.pinned : Pinned := { name := "ytoofkcbgldbfpaarrr", sum := "b875373675e9ac604dfb0b659680373547f48c5484d7ed873e9016603513e9ba", checked := Try.checked }
namespace Rows
def none {H : Type} : Left H := { results := [], args := [] }

/-- 'stevedorelaw14.BlockSymbols': WHATEVER THE INPUT: true; the input reads as it did. -/
def blockSymbolsSpec : ChangeSpec := { name := "blockSymbols", fn := fun _ => fun
  | [d1, d2, d3, d4, d5] => { results := [.lit (.bool true)], args := [d1, d2, d3, d4, d5] }
  | _ => none }
def blockSymbolsRow : OpenClaim := { program := "ytoofkcbgldbfpaarrr", sum := "b875373675e9ac604dfb0b659680373547f48c5484d7ed873e9016603513e9ba", func := "stevedore/stevedorelaw14.BlockSymbols", spec := "blockSymbols", unfollowed := true, recurses := true, apart := false }
def BlockSymbolsSaid : Prop := blockSymbolsRow.holds Try.pinned (OpenSpec.ofChange blockSymbolsSpec)

/-- ITS FALSE NEIGHBOUR: 'it returns false'. Refute it at one input. -/
def blockSymbolsWrong : ChangeSpec := { name := "blockSymbols", fn := fun _ => fun
  | [d1, d2, d3, d4, d5] => { results := [.lit (.bool false)], args := [d1, d2, d3, d4, d5] }
  | _ => none }
def BlockSymbolsWrongFalsely : Prop := blockSymbolsRow.holds Try.pinned (OpenSpec.ofChange blockSymbolsWrong)

/-- 'stevedorelaw14.BlockBack': WHATEVER THE INPUT: true; the input reads as it did. -/
def blockBackSpec : ChangeSpec := { name := "blockBack", fn := fun _ => fun
  | [d1, d2, d3] => { results := [.lit (.bool true)], args := [d1, d2, d3] }
  | _ => none }
def blockBackRow : OpenClaim := { program := "ytoofkcbgldbfpaarrr", sum := "b875373675e9ac604dfb0b659680373547f48c5484d7ed873e9016603513e9ba", func := "stevedore/stevedorelaw14.BlockBack", spec := "blockBack", unfollowed := true, recurses := true, apart := false }
def BlockBackSaid : Prop := blockBackRow.holds Try.pinned (OpenSpec.ofChange blockBackSpec)

/-- ITS FALSE NEIGHBOUR: 'it returns false'. Refute it at one input. -/
def blockBackWrong : ChangeSpec := { name := "blockBack", fn := fun _ => fun
  | [d1, d2, d3] => { results := [.lit (.bool false)], args := [d1, d2, d3] }
  | _ => none }
def BlockBackWrongFalsely : Prop := blockBackRow.holds Try.pinned (OpenSpec.ofChange blockBackWrong)

/-- 'stevedorelaw14.BlockStores': WHATEVER THE INPUT: true; the input reads as it did. -/
def blockStoresSpec : ChangeSpec := { name := "blockStores", fn := fun _ => fun
  | [d1, d2, d3, d4] => { results := [.lit (.bool true)], args := [d1, d2, d3, d4] }
  | _ => none }
def blockStoresRow : OpenClaim := { program := "ytoofkcbgldbfpaarrr", sum := "b875373675e9ac604dfb0b659680373547f48c5484d7ed873e9016603513e9ba", func := "stevedore/stevedorelaw14.BlockStores", spec := "blockStores", unfollowed := true, recurses := true, apart := false }
def BlockStoresSaid : Prop := blockStoresRow.holds Try.pinned (OpenSpec.ofChange blockStoresSpec)

/-- ITS FALSE NEIGHBOUR: 'it returns false'. Refute it at one input. -/
def blockStoresWrong : ChangeSpec := { name := "blockStores", fn := fun _ => fun
  | [d1, d2, d3, d4] => { results := [.lit (.bool false)], args := [d1, d2, d3, d4] }
  | _ => none }
def BlockStoresWrongFalsely : Prop := blockStoresRow.holds Try.pinned (OpenSpec.ofChange blockStoresWrong)

/- THE SECOND FORM. 'bulk': how many values and letters a reading holds, each counted each time it is reached (what is shared counts as often as it is met; a slice's spare places count too). A statement '..UptoSaid' is the law's where the arguments, and the package variables that the reading takes, are together of bulk at most 1048576: NARROWER than '..Said'. Prove '..Said' where nothing that the law and all that it calls make is longer than what came in: it says more and counts as full. Else prove '..UptoSaid'. A law counts once. -/
mutual
def uptoBulk {H : Type} : DataW H → Nat
  | .lit (.string bytes) => bytes.length + 1
  | .lit _ => 1
  | .nil => 1
  | .ptr d => uptoBulk d + 1
  | .slice elems spare => uptoBulkAll elems + uptoBulkAll spare + 1
  | .agg parts => uptoBulkAll parts + 1
  | .iface _ d => uptoBulk d + 1
  | .map entries => uptoBulkEntries entries + 1
  | .held _ => 1
def uptoBulkAll {H : Type} : List (DataW H) → Nat
  | [] => 0
  | d :: r => uptoBulk d + uptoBulkAll r
def uptoBulkEntries {H : Type} : List (Lit × DataW H) → Nat
  | [] => 0
  | x :: r => uptoBulkEntry x + uptoBulkEntries r
def uptoBulkEntry {H : Type} : Lit × DataW H → Nat
  | (.string bytes, d) => bytes.length + uptoBulk d + 1
  | (_, d) => uptoBulk d + 1
 end
def uptoSmall : (H : Type) → List (DataW H) → Bool := fun _ ds => decide (uptoBulkAll ds ≤ 1048576)
def OpenSpec.upto (s : _root_.Go.ChangeSpec) : _root_.Go.OpenSpec := { _root_.Go.OpenSpec.ofChange s with cond := some uptoSmall }

/-- 'stevedorelaw14.BlockSymbols', WHERE WHAT IT READS IS OF BULK AT MOST 1048576: true; the input reads as it did. -/
def blockSymbolsUptoRow : OpenClaim := { program := "ytoofkcbgldbfpaarrr", sum := "b875373675e9ac604dfb0b659680373547f48c5484d7ed873e9016603513e9ba", func := "stevedore/stevedorelaw14.BlockSymbols", spec := "blockSymbols", unfollowed := true, recurses := true, apart := false, narrowed := true }
def BlockSymbolsUptoSaid : Prop := blockSymbolsUptoRow.holds Try.pinned (OpenSpec.upto blockSymbolsSpec)

/-- 'stevedorelaw14.BlockBack', WHERE WHAT IT READS IS OF BULK AT MOST 1048576: true; the input reads as it did. -/
def blockBackUptoRow : OpenClaim := { program := "ytoofkcbgldbfpaarrr", sum := "b875373675e9ac604dfb0b659680373547f48c5484d7ed873e9016603513e9ba", func := "stevedore/stevedorelaw14.BlockBack", spec := "blockBack", unfollowed := true, recurses := true, apart := false, narrowed := true }
def BlockBackUptoSaid : Prop := blockBackUptoRow.holds Try.pinned (OpenSpec.upto blockBackSpec)

/-- 'stevedorelaw14.BlockStores', WHERE WHAT IT READS IS OF BULK AT MOST 1048576: true; the input reads as it did. -/
def blockStoresUptoRow : OpenClaim := { program := "ytoofkcbgldbfpaarrr", sum := "b875373675e9ac604dfb0b659680373547f48c5484d7ed873e9016603513e9ba", func := "stevedore/stevedorelaw14.BlockStores", spec := "blockStores", unfollowed := true, recurses := true, apart := false, narrowed := true }
def BlockStoresUptoSaid : Prop := blockStoresUptoRow.holds Try.pinned (OpenSpec.upto blockStoresSpec)

end Rows
end Go.Proofs.YtoofkcbgldbfpaaRRR
