/-
  No cell of these rows narrows 'for every input' (looked for: loops, veiled, ifaces, maps, wideKeys, modest, calm, conditions, laid).
  DERIVED. THE GIVEN ROWS OF THIS SEAT. 5 by the template 'for every input the law returns true; each argument reads behind the call as it read before'; 0 by the template 'total and deterministic' (their statements: YteknaaijlkenkaaTotals.lean).
  GIVEN WITH THE SEED: the statements are not yours to turn. If you find one false, say at which input.
  Laid BY PROGRAM, IN A SANDBOX (cutbox-rows.mjs): the forced cells as the released guide's own fill.sh prints them over the translation 93348d9a3dad3e75… (all of the seat's roots in one cut). By AI agents, Wed Nov 11 2026. No macro, syntax, notation, axiom, sorry.
-/
import Derived.Test.YteknaaijlkenkaaChecked
import GoSem.Claim
import GoSem.ClaimJoined
import GoSem.ClaimMapViews
import Derived.JoinedTies
import Derived.KernelRfl
namespace Go.Proofs.Yteknaaijlkenkaa
/- THE CELL 'sum', in the pinned program and in every row, IS THE sha256 OF THE DUMP (.gsa) THAT YteknaaijlkenkaaProg.lean LOADS. Nothing in Lean hashes anything: it is a label: what it is worth is what the hold of that sum in a sandbox is worth. -/
noncomputable def Try.pinned : Pinned := { name := "yteknaaijlkenkaa", sum := "93348d9a3dad3e75fa77e98bd433d602c05f76c29f1a7f02c48d683e003ba7a7", checked := Try.checked }
namespace Rows
def none {H : Type} : Left H := { results := [], args := [] }

/-- 'stevedorelaw18.ZlibAll': WHATEVER THE INPUT: true; the input reads as it did. -/
def zlibAllSpec : ChangeSpec := { name := "zlibAll", fn := fun _ => fun
  | [d1, d2, d3] => { results := [.lit (.bool true)], args := [d1, d2, d3] }
  | _ => none }
def zlibAllRow : OpenClaim := { program := "yteknaaijlkenkaa", sum := "93348d9a3dad3e75fa77e98bd433d602c05f76c29f1a7f02c48d683e003ba7a7", func := "stevedore/stevedorelaw18.ZlibAll", spec := "zlibAll", unfollowed := true, recurses := true, apart := false }
def ZlibAllSaid : Prop := zlibAllRow.holds Try.pinned (OpenSpec.ofChange zlibAllSpec)

/-- ITS FALSE NEIGHBOUR: 'it returns false'. Refute it at one input. -/
def zlibAllWrong : ChangeSpec := { name := "zlibAll", fn := fun _ => fun
  | [d1, d2, d3] => { results := [.lit (.bool false)], args := [d1, d2, d3] }
  | _ => none }
def ZlibAllWrongFalsely : Prop := zlibAllRow.holds Try.pinned (OpenSpec.ofChange zlibAllWrong)

/-- 'stevedorelaw18.ZlibHeadsAll': WHATEVER THE INPUT: true; the input reads as it did. -/
def zlibHeadsAllSpec : ChangeSpec := { name := "zlibHeadsAll", fn := fun _ => fun
  | [d] => { results := [.lit (.bool true)], args := [d] }
  | _ => none }
def zlibHeadsAllRow : OpenClaim := { program := "yteknaaijlkenkaa", sum := "93348d9a3dad3e75fa77e98bd433d602c05f76c29f1a7f02c48d683e003ba7a7", func := "stevedore/stevedorelaw18.ZlibHeadsAll", spec := "zlibHeadsAll", unfollowed := true, recurses := true, apart := false }
def ZlibHeadsAllSaid : Prop := zlibHeadsAllRow.holds Try.pinned (OpenSpec.ofChange zlibHeadsAllSpec)

/-- ITS FALSE NEIGHBOUR: 'it returns false'. Refute it at one input. -/
def zlibHeadsAllWrong : ChangeSpec := { name := "zlibHeadsAll", fn := fun _ => fun
  | [d] => { results := [.lit (.bool false)], args := [d] }
  | _ => none }
def ZlibHeadsAllWrongFalsely : Prop := zlibHeadsAllRow.holds Try.pinned (OpenSpec.ofChange zlibHeadsAllWrong)

/-- 'stevedorelaw18.ZlibWindows': WHATEVER THE INPUT: true; the input reads as it did. -/
def zlibWindowsSpec : ChangeSpec := { name := "zlibWindows", fn := fun _ => fun
  | [d1, d2] => { results := [.lit (.bool true)], args := [d1, d2] }
  | _ => none }
def zlibWindowsRow : OpenClaim := { program := "yteknaaijlkenkaa", sum := "93348d9a3dad3e75fa77e98bd433d602c05f76c29f1a7f02c48d683e003ba7a7", func := "stevedore/stevedorelaw18.ZlibWindows", spec := "zlibWindows", unfollowed := true, recurses := true, apart := false }
def ZlibWindowsSaid : Prop := zlibWindowsRow.holds Try.pinned (OpenSpec.ofChange zlibWindowsSpec)

/-- ITS FALSE NEIGHBOUR: 'it returns false'. Refute it at one input. -/
def zlibWindowsWrong : ChangeSpec := { name := "zlibWindows", fn := fun _ => fun
  | [d1, d2] => { results := [.lit (.bool false)], args := [d1, d2] }
  | _ => none }
def ZlibWindowsWrongFalsely : Prop := zlibWindowsRow.holds Try.pinned (OpenSpec.ofChange zlibWindowsWrong)

/-- 'stevedorelaw18.ZlibHeads': WHATEVER THE INPUT: true; the input reads as it did. -/
def zlibHeadsSpec : ChangeSpec := { name := "zlibHeads", fn := fun _ => fun
  | [d1, d2, d3, d4] => { results := [.lit (.bool true)], args := [d1, d2, d3, d4] }
  | _ => none }
def zlibHeadsRow : OpenClaim := { program := "yteknaaijlkenkaa", sum := "93348d9a3dad3e75fa77e98bd433d602c05f76c29f1a7f02c48d683e003ba7a7", func := "stevedore/stevedorelaw18.ZlibHeads", spec := "zlibHeads", unfollowed := true, recurses := true, apart := false }
def ZlibHeadsSaid : Prop := zlibHeadsRow.holds Try.pinned (OpenSpec.ofChange zlibHeadsSpec)

/-- ITS FALSE NEIGHBOUR: 'it returns false'. Refute it at one input. -/
def zlibHeadsWrong : ChangeSpec := { name := "zlibHeads", fn := fun _ => fun
  | [d1, d2, d3, d4] => { results := [.lit (.bool false)], args := [d1, d2, d3, d4] }
  | _ => none }
def ZlibHeadsWrongFalsely : Prop := zlibHeadsRow.holds Try.pinned (OpenSpec.ofChange zlibHeadsWrong)

/-- 'stevedorelaw18.ZlibBack': WHATEVER THE INPUT: true; the input reads as it did. -/
def zlibBackSpec : ChangeSpec := { name := "zlibBack", fn := fun _ => fun
  | [d1, d2] => { results := [.lit (.bool true)], args := [d1, d2] }
  | _ => none }
def zlibBackRow : OpenClaim := { program := "yteknaaijlkenkaa", sum := "93348d9a3dad3e75fa77e98bd433d602c05f76c29f1a7f02c48d683e003ba7a7", func := "stevedore/stevedorelaw18.ZlibBack", spec := "zlibBack", unfollowed := true, recurses := true, apart := false }
def ZlibBackSaid : Prop := zlibBackRow.holds Try.pinned (OpenSpec.ofChange zlibBackSpec)

/-- ITS FALSE NEIGHBOUR: 'it returns false'. Refute it at one input. -/
def zlibBackWrong : ChangeSpec := { name := "zlibBack", fn := fun _ => fun
  | [d1, d2] => { results := [.lit (.bool false)], args := [d1, d2] }
  | _ => none }
def ZlibBackWrongFalsely : Prop := zlibBackRow.holds Try.pinned (OpenSpec.ofChange zlibBackWrong)

/- THE SECOND FORM. 'bulk': how many values and letters a reading holds, each counted each time it is reached (what is shared counts as often as it is met; a slice's spare places count too). A statement '..UptoSaid' is the law's where the arguments, and the package variables that the reading takes, are together of bulk at most 1048576: NARROWER than '..Said'. Prove '..Said' where nothing that the law and all that it calls make is longer than what came in: it says more and counts as full. Else prove '..UptoSaid'. A law counts once. -/
mutual
def uptoBulk {H : Type} : DataW H → Nat
  | .lit (.string bytes) => bytes.length + 1
  | .lit _ => 1
  | .nil => 1
  | .ptr d => uptoBulk d + 1
  | .slice elems spare => uptoBulkAll elems + uptoBulkAll spare + 1
  | .agg parts => uptoBulkAll parts + 1
  | .iface _ d => uptoBulk d + 1
  | .map entries => uptoBulkEntries entries + 1
  | .held _ => 1
def uptoBulkAll {H : Type} : List (DataW H) → Nat
  | [] => 0
  | d :: r => uptoBulk d + uptoBulkAll r
def uptoBulkEntries {H : Type} : List (Lit × DataW H) → Nat
  | [] => 0
  | x :: r => uptoBulkEntry x + uptoBulkEntries r
def uptoBulkEntry {H : Type} : Lit × DataW H → Nat
  | (.string bytes, d) => bytes.length + uptoBulk d + 1
  | (_, d) => uptoBulk d + 1
 end
def uptoSmall : (H : Type) → List (DataW H) → Bool := fun _ ds => decide (uptoBulkAll ds ≤ 1048576)
def OpenSpec.upto (s : _root_.Go.ChangeSpec) : _root_.Go.OpenSpec := { _root_.Go.OpenSpec.ofChange s with cond := some uptoSmall }

/-- 'stevedorelaw18.ZlibAll', WHERE WHAT IT READS IS OF BULK AT MOST 1048576: true; the input reads as it did. -/
def zlibAllUptoRow : OpenClaim := { program := "yteknaaijlkenkaa", sum := "93348d9a3dad3e75fa77e98bd433d602c05f76c29f1a7f02c48d683e003ba7a7", func := "stevedore/stevedorelaw18.ZlibAll", spec := "zlibAll", unfollowed := true, recurses := true, apart := false, narrowed := true }
def ZlibAllUptoSaid : Prop := zlibAllUptoRow.holds Try.pinned (OpenSpec.upto zlibAllSpec)

/-- 'stevedorelaw18.ZlibHeadsAll', WHERE WHAT IT READS IS OF BULK AT MOST 1048576: true; the input reads as it did. -/
def zlibHeadsAllUptoRow : OpenClaim := { program := "yteknaaijlkenkaa", sum := "93348d9a3dad3e75fa77e98bd433d602c05f76c29f1a7f02c48d683e003ba7a7", func := "stevedore/stevedorelaw18.ZlibHeadsAll", spec := "zlibHeadsAll", unfollowed := true, recurses := true, apart := false, narrowed := true }
def ZlibHeadsAllUptoSaid : Prop := zlibHeadsAllUptoRow.holds Try.pinned (OpenSpec.upto zlibHeadsAllSpec)

/-- 'stevedorelaw18.ZlibWindows', WHERE WHAT IT READS IS OF BULK AT MOST 1048576: true; the input reads as it did. -/
def zlibWindowsUptoRow : OpenClaim := { program := "yteknaaijlkenkaa", sum := "93348d9a3dad3e75fa77e98bd433d602c05f76c29f1a7f02c48d683e003ba7a7", func := "stevedore/stevedorelaw18.ZlibWindows", spec := "zlibWindows", unfollowed := true, recurses := true, apart := false, narrowed := true }
def ZlibWindowsUptoSaid : Prop := zlibWindowsUptoRow.holds Try.pinned (OpenSpec.upto zlibWindowsSpec)

/-- 'stevedorelaw18.ZlibHeads', WHERE WHAT IT READS IS OF BULK AT MOST 1048576: true; the input reads as it did. -/
def zlibHeadsUptoRow : OpenClaim := { program := "yteknaaijlkenkaa", sum := "93348d9a3dad3e75fa77e98bd433d602c05f76c29f1a7f02c48d683e003ba7a7", func := "stevedore/stevedorelaw18.ZlibHeads", spec := "zlibHeads", unfollowed := true, recurses := true, apart := false, narrowed := true }
def ZlibHeadsUptoSaid : Prop := zlibHeadsUptoRow.holds Try.pinned (OpenSpec.upto zlibHeadsSpec)

/-- 'stevedorelaw18.ZlibBack', WHERE WHAT IT READS IS OF BULK AT MOST 1048576: true; the input reads as it did. -/
def zlibBackUptoRow : OpenClaim := { program := "yteknaaijlkenkaa", sum := "93348d9a3dad3e75fa77e98bd433d602c05f76c29f1a7f02c48d683e003ba7a7", func := "stevedore/stevedorelaw18.ZlibBack", spec := "zlibBack", unfollowed := true, recurses := true, apart := false, narrowed := true }
def ZlibBackUptoSaid : Prop := zlibBackUptoRow.holds Try.pinned (OpenSpec.upto zlibBackSpec)

end Rows
end Go.Proofs.Yteknaaijlkenkaa
