/-
  No cell of these rows narrows 'for every input' (looked for: loops, veiled, ifaces, maps, wideKeys, modest, calm, conditions, laid).
  DERIVED. THE GIVEN ROWS OF THIS SEAT. 7 by the template 'for every input the law returns true; each argument reads behind the call as it read before'; 0 by the template 'total and deterministic' (their statements: YtbcngpmgimackaaTotals.lean).
  GIVEN WITH THE SEED: the statements are not yours to turn. If you find one false, say at which input.
  Laid BY PROGRAM, IN A SANDBOX (cutbox-rows.mjs): the forced cells as the released guide's own fill.sh prints them over the translation 1c4313d7b6d2aac7… (all of the seat's roots in one cut). By AI agents, Wed Nov 11 2026. No macro, syntax, notation, axiom, sorry.
-/
import Derived.Test.YtbcngpmgimackaaChecked
import GoSem.Claim
import GoSem.ClaimJoined
import GoSem.ClaimMapViews
import Derived.JoinedTies
import Derived.KernelRfl
namespace Go.Proofs.Ytbcngpmgimackaa
/- THE CELL 'sum', in the pinned program and in every row, IS THE sha256 OF THE DUMP (.gsa) THAT YtbcngpmgimackaaProg.lean LOADS. Nothing in Lean hashes anything: it is a label: what it is worth is what the hold of that sum in a sandbox is worth. -/
noncomputable def Try.pinned : Pinned := { name := "ytbcngpmgimackaa", sum := "1c4313d7b6d2aac750082f51be2c3089ea98da2ee937b11a78f4fb28723b0993", checked := Try.checked }
namespace Rows
def none {H : Type} : Left H := { results := [], args := [] }

/-- 'stevedorelaw10.WindowPlays': WHATEVER THE INPUT: true; the input reads as it did. -/
def windowPlaysSpec : ChangeSpec := { name := "windowPlays", fn := fun _ => fun
  | [d1, d2] => { results := [.lit (.bool true)], args := [d1, d2] }
  | _ => none }
def windowPlaysRow : OpenClaim := { program := "ytbcngpmgimackaa", sum := "1c4313d7b6d2aac750082f51be2c3089ea98da2ee937b11a78f4fb28723b0993", func := "stevedore/stevedorelaw10.WindowPlays", spec := "windowPlays", apart := false }
def WindowPlaysSaid : Prop := windowPlaysRow.holds Try.pinned (OpenSpec.ofChange windowPlaysSpec)

/-- ITS FALSE NEIGHBOUR: 'it returns false'. Refute it at one input. -/
def windowPlaysWrong : ChangeSpec := { name := "windowPlays", fn := fun _ => fun
  | [d1, d2] => { results := [.lit (.bool false)], args := [d1, d2] }
  | _ => none }
def WindowPlaysWrongFalsely : Prop := windowPlaysRow.holds Try.pinned (OpenSpec.ofChange windowPlaysWrong)

/-- 'stevedorelaw10.WindowRepeats': WHATEVER THE INPUT: true; the input reads as it did. -/
def windowRepeatsSpec : ChangeSpec := { name := "windowRepeats", fn := fun _ => fun
  | [d1, d2, d3] => { results := [.lit (.bool true)], args := [d1, d2, d3] }
  | _ => none }
def windowRepeatsRow : OpenClaim := { program := "ytbcngpmgimackaa", sum := "1c4313d7b6d2aac750082f51be2c3089ea98da2ee937b11a78f4fb28723b0993", func := "stevedore/stevedorelaw10.WindowRepeats", spec := "windowRepeats", apart := false }
def WindowRepeatsSaid : Prop := windowRepeatsRow.holds Try.pinned (OpenSpec.ofChange windowRepeatsSpec)

/-- ITS FALSE NEIGHBOUR: 'it returns false'. Refute it at one input. -/
def windowRepeatsWrong : ChangeSpec := { name := "windowRepeats", fn := fun _ => fun
  | [d1, d2, d3] => { results := [.lit (.bool false)], args := [d1, d2, d3] }
  | _ => none }
def WindowRepeatsWrongFalsely : Prop := windowRepeatsRow.holds Try.pinned (OpenSpec.ofChange windowRepeatsWrong)

/-- 'stevedorelaw10.WindowForgets': WHATEVER THE INPUT: true; the input reads as it did. -/
def windowForgetsSpec : ChangeSpec := { name := "windowForgets", fn := fun _ => fun
  | [d1, d2] => { results := [.lit (.bool true)], args := [d1, d2] }
  | _ => none }
def windowForgetsRow : OpenClaim := { program := "ytbcngpmgimackaa", sum := "1c4313d7b6d2aac750082f51be2c3089ea98da2ee937b11a78f4fb28723b0993", func := "stevedore/stevedorelaw10.WindowForgets", spec := "windowForgets", apart := false }
def WindowForgetsSaid : Prop := windowForgetsRow.holds Try.pinned (OpenSpec.ofChange windowForgetsSpec)

/-- ITS FALSE NEIGHBOUR: 'it returns false'. Refute it at one input. -/
def windowForgetsWrong : ChangeSpec := { name := "windowForgets", fn := fun _ => fun
  | [d1, d2] => { results := [.lit (.bool false)], args := [d1, d2] }
  | _ => none }
def WindowForgetsWrongFalsely : Prop := windowForgetsRow.holds Try.pinned (OpenSpec.ofChange windowForgetsWrong)

/-- 'stevedorelaw10.WindowLike': WHATEVER THE INPUT: true; the input reads as it did. -/
def windowLikeSpec : ChangeSpec := { name := "windowLike", fn := fun _ => fun
  | [d1, d2] => { results := [.lit (.bool true)], args := [d1, d2] }
  | _ => none }
def windowLikeRow : OpenClaim := { program := "ytbcngpmgimackaa", sum := "1c4313d7b6d2aac750082f51be2c3089ea98da2ee937b11a78f4fb28723b0993", func := "stevedore/stevedorelaw10.WindowLike", spec := "windowLike", apart := false }
def WindowLikeSaid : Prop := windowLikeRow.holds Try.pinned (OpenSpec.ofChange windowLikeSpec)

/-- ITS FALSE NEIGHBOUR: 'it returns false'. Refute it at one input. -/
def windowLikeWrong : ChangeSpec := { name := "windowLike", fn := fun _ => fun
  | [d1, d2] => { results := [.lit (.bool false)], args := [d1, d2] }
  | _ => none }
def WindowLikeWrongFalsely : Prop := windowLikeRow.holds Try.pinned (OpenSpec.ofChange windowLikeWrong)

/-- 'stevedorelaw11.LzExpands': WHATEVER THE INPUT: true; the input reads as it did. -/
def lzExpandsSpec : ChangeSpec := { name := "lzExpands", fn := fun _ => fun
  | [d1, d2] => { results := [.lit (.bool true)], args := [d1, d2] }
  | _ => none }
def lzExpandsRow : OpenClaim := { program := "ytbcngpmgimackaa", sum := "1c4313d7b6d2aac750082f51be2c3089ea98da2ee937b11a78f4fb28723b0993", func := "stevedore/stevedorelaw11.LzExpands", spec := "lzExpands", unfollowed := true, recurses := true, apart := false }
def LzExpandsSaid : Prop := lzExpandsRow.holds Try.pinned (OpenSpec.ofChange lzExpandsSpec)

/-- ITS FALSE NEIGHBOUR: 'it returns false'. Refute it at one input. -/
def lzExpandsWrong : ChangeSpec := { name := "lzExpands", fn := fun _ => fun
  | [d1, d2] => { results := [.lit (.bool false)], args := [d1, d2] }
  | _ => none }
def LzExpandsWrongFalsely : Prop := lzExpandsRow.holds Try.pinned (OpenSpec.ofChange lzExpandsWrong)

/-- 'stevedorelaw11.LzJoins': WHATEVER THE INPUT: true; the input reads as it did. -/
def lzJoinsSpec : ChangeSpec := { name := "lzJoins", fn := fun _ => fun
  | [d1, d2, d3] => { results := [.lit (.bool true)], args := [d1, d2, d3] }
  | _ => none }
def lzJoinsRow : OpenClaim := { program := "ytbcngpmgimackaa", sum := "1c4313d7b6d2aac750082f51be2c3089ea98da2ee937b11a78f4fb28723b0993", func := "stevedore/stevedorelaw11.LzJoins", spec := "lzJoins", unfollowed := true, recurses := true, apart := false }
def LzJoinsSaid : Prop := lzJoinsRow.holds Try.pinned (OpenSpec.ofChange lzJoinsSpec)

/-- ITS FALSE NEIGHBOUR: 'it returns false'. Refute it at one input. -/
def lzJoinsWrong : ChangeSpec := { name := "lzJoins", fn := fun _ => fun
  | [d1, d2, d3] => { results := [.lit (.bool false)], args := [d1, d2, d3] }
  | _ => none }
def LzJoinsWrongFalsely : Prop := lzJoinsRow.holds Try.pinned (OpenSpec.ofChange lzJoinsWrong)

/-- 'stevedorelaw11.LzWide': WHATEVER THE INPUT: true; the input reads as it did. -/
def lzWideSpec : ChangeSpec := { name := "lzWide", fn := fun _ => fun
  | [d] => { results := [.lit (.bool true)], args := [d] }
  | _ => none }
def lzWideRow : OpenClaim := { program := "ytbcngpmgimackaa", sum := "1c4313d7b6d2aac750082f51be2c3089ea98da2ee937b11a78f4fb28723b0993", func := "stevedore/stevedorelaw11.LzWide", spec := "lzWide", unfollowed := true, recurses := true, apart := false }
def LzWideSaid : Prop := lzWideRow.holds Try.pinned (OpenSpec.ofChange lzWideSpec)

/-- ITS FALSE NEIGHBOUR: 'it returns false'. Refute it at one input. -/
def lzWideWrong : ChangeSpec := { name := "lzWide", fn := fun _ => fun
  | [d] => { results := [.lit (.bool false)], args := [d] }
  | _ => none }
def LzWideWrongFalsely : Prop := lzWideRow.holds Try.pinned (OpenSpec.ofChange lzWideWrong)

/- THE SECOND FORM. 'bulk': how many values and letters a reading holds, each counted each time it is reached (what is shared counts as often as it is met; a slice's spare places count too). A statement '..UptoSaid' is the law's where the arguments, and the package variables that the reading takes, are together of bulk at most 1048576: NARROWER than '..Said'. Prove '..Said' where nothing that the law and all that it calls make is longer than what came in: it says more and counts as full. Else prove '..UptoSaid'. A law counts once. -/
mutual
def uptoBulk {H : Type} : DataW H → Nat
  | .lit (.string bytes) => bytes.length + 1
  | .lit _ => 1
  | .nil => 1
  | .ptr d => uptoBulk d + 1
  | .slice elems spare => uptoBulkAll elems + uptoBulkAll spare + 1
  | .agg parts => uptoBulkAll parts + 1
  | .iface _ d => uptoBulk d + 1
  | .map entries => uptoBulkEntries entries + 1
  | .held _ => 1
def uptoBulkAll {H : Type} : List (DataW H) → Nat
  | [] => 0
  | d :: r => uptoBulk d + uptoBulkAll r
def uptoBulkEntries {H : Type} : List (Lit × DataW H) → Nat
  | [] => 0
  | x :: r => uptoBulkEntry x + uptoBulkEntries r
def uptoBulkEntry {H : Type} : Lit × DataW H → Nat
  | (.string bytes, d) => bytes.length + uptoBulk d + 1
  | (_, d) => uptoBulk d + 1
 end
def uptoSmall : (H : Type) → List (DataW H) → Bool := fun _ ds => decide (uptoBulkAll ds ≤ 1048576)
def OpenSpec.upto (s : _root_.Go.ChangeSpec) : _root_.Go.OpenSpec := { _root_.Go.OpenSpec.ofChange s with cond := some uptoSmall }

/-- 'stevedorelaw10.WindowPlays', WHERE WHAT IT READS IS OF BULK AT MOST 1048576: true; the input reads as it did. -/
def windowPlaysUptoRow : OpenClaim := { program := "ytbcngpmgimackaa", sum := "1c4313d7b6d2aac750082f51be2c3089ea98da2ee937b11a78f4fb28723b0993", func := "stevedore/stevedorelaw10.WindowPlays", spec := "windowPlays", apart := false, narrowed := true }
def WindowPlaysUptoSaid : Prop := windowPlaysUptoRow.holds Try.pinned (OpenSpec.upto windowPlaysSpec)

/-- 'stevedorelaw10.WindowRepeats', WHERE WHAT IT READS IS OF BULK AT MOST 1048576: true; the input reads as it did. -/
def windowRepeatsUptoRow : OpenClaim := { program := "ytbcngpmgimackaa", sum := "1c4313d7b6d2aac750082f51be2c3089ea98da2ee937b11a78f4fb28723b0993", func := "stevedore/stevedorelaw10.WindowRepeats", spec := "windowRepeats", apart := false, narrowed := true }
def WindowRepeatsUptoSaid : Prop := windowRepeatsUptoRow.holds Try.pinned (OpenSpec.upto windowRepeatsSpec)

/-- 'stevedorelaw10.WindowForgets', WHERE WHAT IT READS IS OF BULK AT MOST 1048576: true; the input reads as it did. -/
def windowForgetsUptoRow : OpenClaim := { program := "ytbcngpmgimackaa", sum := "1c4313d7b6d2aac750082f51be2c3089ea98da2ee937b11a78f4fb28723b0993", func := "stevedore/stevedorelaw10.WindowForgets", spec := "windowForgets", apart := false, narrowed := true }
def WindowForgetsUptoSaid : Prop := windowForgetsUptoRow.holds Try.pinned (OpenSpec.upto windowForgetsSpec)

/-- 'stevedorelaw10.WindowLike', WHERE WHAT IT READS IS OF BULK AT MOST 1048576: true; the input reads as it did. -/
def windowLikeUptoRow : OpenClaim := { program := "ytbcngpmgimackaa", sum := "1c4313d7b6d2aac750082f51be2c3089ea98da2ee937b11a78f4fb28723b0993", func := "stevedore/stevedorelaw10.WindowLike", spec := "windowLike", apart := false, narrowed := true }
def WindowLikeUptoSaid : Prop := windowLikeUptoRow.holds Try.pinned (OpenSpec.upto windowLikeSpec)

/-- 'stevedorelaw11.LzExpands', WHERE WHAT IT READS IS OF BULK AT MOST 1048576: true; the input reads as it did. -/
def lzExpandsUptoRow : OpenClaim := { program := "ytbcngpmgimackaa", sum := "1c4313d7b6d2aac750082f51be2c3089ea98da2ee937b11a78f4fb28723b0993", func := "stevedore/stevedorelaw11.LzExpands", spec := "lzExpands", unfollowed := true, recurses := true, apart := false, narrowed := true }
def LzExpandsUptoSaid : Prop := lzExpandsUptoRow.holds Try.pinned (OpenSpec.upto lzExpandsSpec)

/-- 'stevedorelaw11.LzJoins', WHERE WHAT IT READS IS OF BULK AT MOST 1048576: true; the input reads as it did. -/
def lzJoinsUptoRow : OpenClaim := { program := "ytbcngpmgimackaa", sum := "1c4313d7b6d2aac750082f51be2c3089ea98da2ee937b11a78f4fb28723b0993", func := "stevedore/stevedorelaw11.LzJoins", spec := "lzJoins", unfollowed := true, recurses := true, apart := false, narrowed := true }
def LzJoinsUptoSaid : Prop := lzJoinsUptoRow.holds Try.pinned (OpenSpec.upto lzJoinsSpec)

/-- 'stevedorelaw11.LzWide', WHERE WHAT IT READS IS OF BULK AT MOST 1048576: true; the input reads as it did. -/
def lzWideUptoRow : OpenClaim := { program := "ytbcngpmgimackaa", sum := "1c4313d7b6d2aac750082f51be2c3089ea98da2ee937b11a78f4fb28723b0993", func := "stevedore/stevedorelaw11.LzWide", spec := "lzWide", unfollowed := true, recurses := true, apart := false, narrowed := true }
def LzWideUptoSaid : Prop := lzWideUptoRow.holds Try.pinned (OpenSpec.upto lzWideSpec)

end Rows
end Go.Proofs.Ytbcngpmgimackaa
