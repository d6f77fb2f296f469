import Derived.Test.YteknaaijlkenkaaJTab
import Derived.Test.YteknaaijlkenkaaJCan
import Derived.Deep.Cut
import Derived.Deep.DeepCutAuto
import Derived.Deep.CutBlock
namespace Go.Proofs.Yteknaaijlkenkaa
set_option linter.unusedVariables false
set_option linter.unusedSimpArgs false
open Go.RowKit
attribute [local go_sem] max2i min2i max2t min2t

theorem str_ne {a b : ByteArray} (h : a ≠ b) : (a.toList == b.toList) = false := by
  rw [beq_eq_false_iff_ne]; intro e; apply h; apply ByteArray.ext; apply Array.ext'; simpa [ByteArray.toList_eq] using e
theorem flat_len (l : List Int) : ∀ W : List Nat, (W.flatMap (cw l)).length ≤ 32 * W.length
  | [] => by simp
  | k :: W => by
    have := flat_len l W
    have h := codeT_length (code l k) (l.getD k 0)
    rw [List.flatMap_cons, List.length_append, List.length_cons]
    unfold cw at *
    omega
theorem flat_bin (l : List Int) : ∀ W : List Nat, bin (W.flatMap (cw l))
  | [] => by simp [bin_nil]
  | k :: W => by rw [List.flatMap_cons]; exact bin_append (cw_bin l k) (flat_bin l W)
theorem good_of {l : List Int} (h : codesErr l = 0) : Good l := by
  have h0 : 0 ≤ kraft l := by unfold codesErr at h; split at h <;> omega
  obtain ⟨g1, g2⟩ := kraft_good h0
  have h4 : kind l ≠ 4 := by unfold codesErr at h; split at h; omega; split at h; omega; assumption
  refine ⟨?_, g2⟩
  have e := below15_all (l := l) g2
  rw [← kraft_ok g2 g1] at e
  rcases kinds g2 g1 with k | k | k | k | k <;> omega
def nats (W : List Nat) : List Int := W.map fun k : Nat => (k : Int)
theorem nats_length (W : List Nat) : (nats W).length = W.length := by simp [nats]
theorem nats_append (W X : List Nat) : nats (W ++ X) = nats W ++ nats X := by simp [nats]
structure RxRel (w : World) (l : List Int) (m : Nat) (g : Nat) (v7 v8 v9 : Value) (wr : World) : Prop where mk ::
  out_ : ∃ (i : Nat) (W : List Nat), i ≤ m ∧ m ≤ g + i ∧ v9 = .int .i64 (i : Int) ∧ W.length ≤ i ∧ (∀ k ∈ W, 1 ≤ ln l k) ∧ v7 = .string (txt (W.flatMap (cw l))) ∧ Own wr w.heap.size 3 v8 (ints .i64 (nats W)) ∧ Below w.heap.size w wr
structure RyRel (w : World) (l : List Int) (W : List Nat) (g : Nat) (v7 v11 : Value) (wr : World) : Prop where mk ::
  out_ : ∃ (i : Nat), i ≤ W.length ∧ W.length ≤ g + i ∧ v11 = .int .i64 (i : Int) ∧ v7 = .string (txt ((W.drop i).flatMap (cw l))) ∧ Same (fun _ => False) w wr
structure RzRel (w : World) (n q : Nat) (g : Nat) (v12 v13 : Value) (wr : World) : Prop where mk ::
  out_ : ∃ (k : Nat), k ≤ n ∧ n ≤ g + k ∧ v13 = .int .i64 (k : Int) ∧ v12 = .int .i64 (if q < k then (q : Int) else -1) ∧ Same (fun _ => False) w wr
end Go.Proofs.Yteknaaijlkenkaa
