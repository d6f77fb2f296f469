import Derived.Test.YteknaaijlkenkaaJBlf
import Derived.Laws.BytesString
namespace Go.Proofs.Yteknaaijlkenkaa
set_option linter.unusedVariables false
set_option linter.unusedSimpArgs false
open Go.RowKit

/-- string(b), wherever b lies, of no bytes too. -/
theorem RowOf.str {P : Program} {src dst e : TypeId} {w : World} {A : Option Addr} {c n : Nat} {xs : List Int} (h : RowOf w .u8 A c xs) (hn : n = xs.length)
    (hs : P.underlying src = some (.slice e)) (he : P.underlying e = some (.int .u8)) (hd : P.underlying dst = some .string) : (convert src dst (.slice A n c)).run P w = .ok (.string (strOfNums xs)) w := by
  subst hn
  by_cases h0 : xs = []
  · subst h0
    cases A with
    | none => exact run_convert_bytes_nil w src e hs he 0 c dst hd
    | some ad =>
      have hl : (loadCells ad 0).run P w = .ok (([] : List Int).map (Value.int .u8)).toArray w := by
        have := run_loadCells_list (P := P) w ad [] (fun j v hj => by simp at hj)
        simpa using this
      rw [List.length_nil, run_convert_bytes_string w src dst e _ 0 c hs he hd, run_bytesToString w ad 0 c [] hl]
      rfl
  · obtain ⟨b, o, rfl⟩ := h.addr h0
    refine run_convert_bytes_arg w src e hs he b o _ c xs rfl (fun i hi => ?_) dst hd
    obtain ⟨ad, e, hc⟩ := h.rd i (xs.getD i 0) (by rw [List.getD_eq_getElem?_getD, List.getElem?_eq_getElem hi]; rfl)
    injection e with e
    subst e
    rwa [Addr.add_lit] at hc
/-- .. in whatever world comes later. -/
def StrAt (w : World) (A : Option Addr) (n c : Nat) (S : ByteArray) : Prop := ∀ W, Same (fun _ => False) w W → (convert 22 9 (.slice A n c)).run Try.prog W = .ok (.string S) W
theorem RowOf.strAt {w : World} {A : Option Addr} {c n : Nat} {xs : List Int} (h : RowOf w .u8 A c xs) (hn : n = xs.length) : StrAt w A n c (strOfNums xs) := fun W hs =>
  RowOf.str (h.same hs (fun _ _ c => c)) hn Try.underlying22 Try.underlying5 Try.underlying9
theorem StrAt.later {w w' : World} {A : Option Addr} {n c : Nat} {S : ByteArray} (h : StrAt w A n c S) (hs : Same (fun _ => False) w w') : StrAt w' A n c S := fun W hw => h W (hs.then hw)
theorem StrAt.here {w : World} {A : Option Addr} {n c : Nat} {S : ByteArray} (h : StrAt w A n c S) : (convert 22 9 (.slice A n c)).run Try.prog w = .ok (.string S) w := h w (Same.refl w)
theorem Below.sameF {w w' : World} (h : Below w.heap.size w w') : Same (fun _ => False) w w' := Same.of_below h
section
variable {P : Program} {ops : Array Oper} {rest : List Oper} {o : Oper} {a : Act} {Q : Exit → Act → World → Prop}
theorem wpList_catN {w : World} (k : IntKind) (base : Nat) (hgd : o.guard = none) (s x : Operand) (t e : TypeId) (bytes : Nat)
    (ho : o.op = .call { callee := .builtin .append, args := #[s, x], argTypes := #[t, t] })
    (ht : P.underlying t = some (.slice e)) (hinfo : (P.info? e).map (fun i => (i.zero, i.size, i.bytes)) = some (some (.int k 0), 1, bytes))
    (v : Value) (xs : List Int) (A : Option Addr) (n c : Nat) (ys : List Int) (hn : ys.length = n) (hs : a.eval s = v) (hx : a.eval x = .slice A n c) (HO : Own w base e v (ints k xs)) (hr : RowOf w k A c ys) (hbase : base ≤ w.heap.size)
    (m : Nat) (hm : xs.length + n = m) (hlb : m * bytes ≤ 140737488355328) (hlm : m ≤ 140737488355328) (hwf : ∀ x ∈ xs, (Lit.int k x).wf = true)
    (h : ∀ A' c' w1, Own w1 base e (.slice A' m c') (ints k (xs ++ ys)) → RowOf w1 k A' c' (xs ++ ys) → Same (fun k => v.ownBlock = some k) w w1 → ((Value.slice A' m c').ownBlock = v.ownBlock ∨ (Value.slice A' m c').ownBlock = some w.heap.size) → wpList P ops Q rest (a.put o.dst (.slice A' m c')) w1) :
    wpList P ops Q (o :: rest) a w := by
  subst hn
  exact wpList_cat k base hgd s x t e bytes ho ht hinfo v xs A c ys hs hx HO hr hbase m hm hlb hlm hwf h
end
end Go.Proofs.Yteknaaijlkenkaa
