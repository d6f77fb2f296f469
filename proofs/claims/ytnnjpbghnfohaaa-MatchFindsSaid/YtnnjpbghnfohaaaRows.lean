/-
  No cell of these rows narrows 'for every input' (looked for: loops, veiled, ifaces, maps, wideKeys, modest, calm, conditions, laid).
  DERIVED. THE GIVEN ROWS OF THIS SEAT. 5 by the template 'for every input the law returns true; each argument reads behind the call as it read before'; 0 by the template 'total and deterministic' (their statements: YtnnjpbghnfohaaaTotals.lean).
  GIVEN WITH THE SEED: the statements are not yours to turn. If you find one false, say at which input.
  Laid BY PROGRAM, IN A SANDBOX (cutbox-rows.mjs): the forced cells as the released guide's own fill.sh prints them over the translation ed182f512cd523d2… (all of the seat's roots in one cut). By AI agents, Wed Nov 11 2026. No macro, syntax, notation, axiom, sorry.
-/
import Derived.Test.YtnnjpbghnfohaaaChecked
import GoSem.Claim
import GoSem.ClaimJoined
import GoSem.ClaimMapViews
import Derived.JoinedTies
import Derived.KernelRfl
namespace Go.Proofs.Ytnnjpbghnfohaaa
/- THE CELL 'sum', in the pinned program and in every row, IS THE sha256 OF THE DUMP (.gsa) THAT YtnnjpbghnfohaaaProg.lean LOADS. Nothing in Lean hashes anything: it is a label: what it is worth is what the hold of that sum in a sandbox is worth. -/
noncomputable def Try.pinned : Pinned := { name := "ytnnjpbghnfohaaa", sum := "ed182f512cd523d2b338a3c49abe32b1ec58bac71d56c6b1d1bf802bbf5693eb", checked := Try.checked }
namespace Rows
def none {H : Type} : Left H := { results := [], args := [] }

/-- 'stevedorelaw13.MatchFinds': WHATEVER THE INPUT: true; the input reads as it did. -/
def matchFindsSpec : ChangeSpec := { name := "matchFinds", fn := fun _ => fun
  | [d1, d2, d3, d4, d5] => { results := [.lit (.bool true)], args := [d1, d2, d3, d4, d5] }
  | _ => none }
def matchFindsRow : OpenClaim := { program := "ytnnjpbghnfohaaa", sum := "ed182f512cd523d2b338a3c49abe32b1ec58bac71d56c6b1d1bf802bbf5693eb", func := "stevedore/stevedorelaw13.MatchFinds", spec := "matchFinds", plainKeys := false, apart := false }
def MatchFindsSaid : Prop := matchFindsRow.holds Try.pinned (OpenSpec.ofChange matchFindsSpec)

/-- ITS FALSE NEIGHBOUR: 'it returns false'. Refute it at one input. -/
def matchFindsWrong : ChangeSpec := { name := "matchFinds", fn := fun _ => fun
  | [d1, d2, d3, d4, d5] => { results := [.lit (.bool false)], args := [d1, d2, d3, d4, d5] }
  | _ => none }
def MatchFindsWrongFalsely : Prop := matchFindsRow.holds Try.pinned (OpenSpec.ofChange matchFindsWrong)

/-- 'stevedorelaw13.MatchTokens': WHATEVER THE INPUT: true; the input reads as it did. -/
def matchTokensSpec : ChangeSpec := { name := "matchTokens", fn := fun _ => fun
  | [d1, d2, d3, d4] => { results := [.lit (.bool true)], args := [d1, d2, d3, d4] }
  | _ => none }
def matchTokensRow : OpenClaim := { program := "ytnnjpbghnfohaaa", sum := "ed182f512cd523d2b338a3c49abe32b1ec58bac71d56c6b1d1bf802bbf5693eb", func := "stevedore/stevedorelaw13.MatchTokens", spec := "matchTokens", plainKeys := false, apart := false }
def MatchTokensSaid : Prop := matchTokensRow.holds Try.pinned (OpenSpec.ofChange matchTokensSpec)

/-- ITS FALSE NEIGHBOUR: 'it returns false'. Refute it at one input. -/
def matchTokensWrong : ChangeSpec := { name := "matchTokens", fn := fun _ => fun
  | [d1, d2, d3, d4] => { results := [.lit (.bool false)], args := [d1, d2, d3, d4] }
  | _ => none }
def MatchTokensWrongFalsely : Prop := matchTokensRow.holds Try.pinned (OpenSpec.ofChange matchTokensWrong)

/-- 'stevedorelaw13.MatchExpands': WHATEVER THE INPUT: true; the input reads as it did. -/
def matchExpandsSpec : ChangeSpec := { name := "matchExpands", fn := fun _ => fun
  | [d1, d2, d3, d4] => { results := [.lit (.bool true)], args := [d1, d2, d3, d4] }
  | _ => none }
def matchExpandsRow : OpenClaim := { program := "ytnnjpbghnfohaaa", sum := "ed182f512cd523d2b338a3c49abe32b1ec58bac71d56c6b1d1bf802bbf5693eb", func := "stevedore/stevedorelaw13.MatchExpands", spec := "matchExpands", plainKeys := false, apart := false }
def MatchExpandsSaid : Prop := matchExpandsRow.holds Try.pinned (OpenSpec.ofChange matchExpandsSpec)

/-- ITS FALSE NEIGHBOUR: 'it returns false'. Refute it at one input. -/
def matchExpandsWrong : ChangeSpec := { name := "matchExpands", fn := fun _ => fun
  | [d1, d2, d3, d4] => { results := [.lit (.bool false)], args := [d1, d2, d3, d4] }
  | _ => none }
def MatchExpandsWrongFalsely : Prop := matchExpandsRow.holds Try.pinned (OpenSpec.ofChange matchExpandsWrong)

/-- 'stevedorelaw13.MatchLongest': WHATEVER THE INPUT: true; the input reads as it did. -/
def matchLongestSpec : ChangeSpec := { name := "matchLongest", fn := fun _ => fun
  | [d1, d2, d3] => { results := [.lit (.bool true)], args := [d1, d2, d3] }
  | _ => none }
def matchLongestRow : OpenClaim := { program := "ytnnjpbghnfohaaa", sum := "ed182f512cd523d2b338a3c49abe32b1ec58bac71d56c6b1d1bf802bbf5693eb", func := "stevedore/stevedorelaw13.MatchLongest", spec := "matchLongest", plainKeys := false, apart := false }
def MatchLongestSaid : Prop := matchLongestRow.holds Try.pinned (OpenSpec.ofChange matchLongestSpec)

/-- ITS FALSE NEIGHBOUR: 'it returns false'. Refute it at one input. -/
def matchLongestWrong : ChangeSpec := { name := "matchLongest", fn := fun _ => fun
  | [d1, d2, d3] => { results := [.lit (.bool false)], args := [d1, d2, d3] }
  | _ => none }
def MatchLongestWrongFalsely : Prop := matchLongestRow.holds Try.pinned (OpenSpec.ofChange matchLongestWrong)

/-- 'stevedorelaw13.MatchPlans': WHATEVER THE INPUT: true; the input reads as it did. -/
def matchPlansSpec : ChangeSpec := { name := "matchPlans", fn := fun _ => fun
  | [d1, d2, d3, d4, d5] => { results := [.lit (.bool true)], args := [d1, d2, d3, d4, d5] }
  | _ => none }
def matchPlansRow : OpenClaim := { program := "ytnnjpbghnfohaaa", sum := "ed182f512cd523d2b338a3c49abe32b1ec58bac71d56c6b1d1bf802bbf5693eb", func := "stevedore/stevedorelaw13.MatchPlans", spec := "matchPlans", plainKeys := false, apart := false }
def MatchPlansSaid : Prop := matchPlansRow.holds Try.pinned (OpenSpec.ofChange matchPlansSpec)

/-- ITS FALSE NEIGHBOUR: 'it returns false'. Refute it at one input. -/
def matchPlansWrong : ChangeSpec := { name := "matchPlans", fn := fun _ => fun
  | [d1, d2, d3, d4, d5] => { results := [.lit (.bool false)], args := [d1, d2, d3, d4, d5] }
  | _ => none }
def MatchPlansWrongFalsely : Prop := matchPlansRow.holds Try.pinned (OpenSpec.ofChange matchPlansWrong)

/- THE SECOND FORM. 'bulk': how many values and letters a reading holds, each counted each time it is reached (what is shared counts as often as it is met; a slice's spare places count too). A statement '..UptoSaid' is the law's where the arguments, and the package variables that the reading takes, are together of bulk at most 1048576: NARROWER than '..Said'. Prove '..Said' where nothing that the law and all that it calls make is longer than what came in: it says more and counts as full. Else prove '..UptoSaid'. A law counts once. -/
mutual
def uptoBulk {H : Type} : DataW H → Nat
  | .lit (.string bytes) => bytes.length + 1
  | .lit _ => 1
  | .nil => 1
  | .ptr d => uptoBulk d + 1
  | .slice elems spare => uptoBulkAll elems + uptoBulkAll spare + 1
  | .agg parts => uptoBulkAll parts + 1
  | .iface _ d => uptoBulk d + 1
  | .map entries => uptoBulkEntries entries + 1
  | .held _ => 1
def uptoBulkAll {H : Type} : List (DataW H) → Nat
  | [] => 0
  | d :: r => uptoBulk d + uptoBulkAll r
def uptoBulkEntries {H : Type} : List (Lit × DataW H) → Nat
  | [] => 0
  | x :: r => uptoBulkEntry x + uptoBulkEntries r
def uptoBulkEntry {H : Type} : Lit × DataW H → Nat
  | (.string bytes, d) => bytes.length + uptoBulk d + 1
  | (_, d) => uptoBulk d + 1
 end
def uptoSmall : (H : Type) → List (DataW H) → Bool := fun _ ds => decide (uptoBulkAll ds ≤ 1048576)
def OpenSpec.upto (s : _root_.Go.ChangeSpec) : _root_.Go.OpenSpec := { _root_.Go.OpenSpec.ofChange s with cond := some uptoSmall }

/-- 'stevedorelaw13.MatchFinds', WHERE WHAT IT READS IS OF BULK AT MOST 1048576: true; the input reads as it did. -/
def matchFindsUptoRow : OpenClaim := { program := "ytnnjpbghnfohaaa", sum := "ed182f512cd523d2b338a3c49abe32b1ec58bac71d56c6b1d1bf802bbf5693eb", func := "stevedore/stevedorelaw13.MatchFinds", spec := "matchFinds", plainKeys := false, apart := false, narrowed := true }
def MatchFindsUptoSaid : Prop := matchFindsUptoRow.holds Try.pinned (OpenSpec.upto matchFindsSpec)

/-- 'stevedorelaw13.MatchTokens', WHERE WHAT IT READS IS OF BULK AT MOST 1048576: true; the input reads as it did. -/
def matchTokensUptoRow : OpenClaim := { program := "ytnnjpbghnfohaaa", sum := "ed182f512cd523d2b338a3c49abe32b1ec58bac71d56c6b1d1bf802bbf5693eb", func := "stevedore/stevedorelaw13.MatchTokens", spec := "matchTokens", plainKeys := false, apart := false, narrowed := true }
def MatchTokensUptoSaid : Prop := matchTokensUptoRow.holds Try.pinned (OpenSpec.upto matchTokensSpec)

/-- 'stevedorelaw13.MatchExpands', WHERE WHAT IT READS IS OF BULK AT MOST 1048576: true; the input reads as it did. -/
def matchExpandsUptoRow : OpenClaim := { program := "ytnnjpbghnfohaaa", sum := "ed182f512cd523d2b338a3c49abe32b1ec58bac71d56c6b1d1bf802bbf5693eb", func := "stevedore/stevedorelaw13.MatchExpands", spec := "matchExpands", plainKeys := false, apart := false, narrowed := true }
def MatchExpandsUptoSaid : Prop := matchExpandsUptoRow.holds Try.pinned (OpenSpec.upto matchExpandsSpec)

/-- 'stevedorelaw13.MatchLongest', WHERE WHAT IT READS IS OF BULK AT MOST 1048576: true; the input reads as it did. -/
def matchLongestUptoRow : OpenClaim := { program := "ytnnjpbghnfohaaa", sum := "ed182f512cd523d2b338a3c49abe32b1ec58bac71d56c6b1d1bf802bbf5693eb", func := "stevedore/stevedorelaw13.MatchLongest", spec := "matchLongest", plainKeys := false, apart := false, narrowed := true }
def MatchLongestUptoSaid : Prop := matchLongestUptoRow.holds Try.pinned (OpenSpec.upto matchLongestSpec)

/-- 'stevedorelaw13.MatchPlans', WHERE WHAT IT READS IS OF BULK AT MOST 1048576: true; the input reads as it did. -/
def matchPlansUptoRow : OpenClaim := { program := "ytnnjpbghnfohaaa", sum := "ed182f512cd523d2b338a3c49abe32b1ec58bac71d56c6b1d1bf802bbf5693eb", func := "stevedore/stevedorelaw13.MatchPlans", spec := "matchPlans", plainKeys := false, apart := false, narrowed := true }
def MatchPlansUptoSaid : Prop := matchPlansUptoRow.holds Try.pinned (OpenSpec.upto matchPlansSpec)

end Rows
end Go.Proofs.Ytnnjpbghnfohaaa
