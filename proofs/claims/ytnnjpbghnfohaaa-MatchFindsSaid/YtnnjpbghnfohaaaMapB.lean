import Derived.Test.YtnnjpbghnfohaaaBas2
import Derived.Test.YtnnjpbghnfohaaaArgs
import Derived.WideKeyEntry
import Derived.DeepKeys4
import Derived.Deep.AppendLies
import Derived.Deep.RegionLaw
namespace Go.Proofs.Ytnnjpbghnfohaaa
set_option linter.unusedVariables false
set_option linter.unusedSimpArgs false
open Go.RowKit Go.ChangeShapes Go.WideShapes Go.MapKept
open Go.WideMaps (KeyLaw)
open Go.ChangeMaps (setBlock keptBut_setBlock heap_setBlock_same)

/-! ### a map from three bytes to rows of places -/
def key3 (t : Int × Int × Int) : Value := .agg #[.int .u8 t.1, .int .u8 t.2.1, .int .u8 t.2.2]
def ok3 (t : Int × Int × Int) : Prop := (Lit.int .u8 t.1).wf = true ∧ (Lit.int .u8 t.2.1).wf = true ∧ (Lit.int .u8 t.2.2).wf = true
theorem key3_law : KeyLaw Try.prog 49 := deep_law_laid laidOut (m := 2) (by omega) (of_decide_eq_true (by kernel_rfl)) (by kernel_rfl) (by rw [Try.underlying49])
theorem key3_some {t : Int × Int × Int} (h : ok3 t) : ∃ l, keyOf Try.prog 49 (key3 t) = some l := by
  obtain ⟨h1, h2, h3⟩ := h
  have hk : Try.prog.keyType 49 = true := by kernel_rfl
  have hc : Try.prog.cellsOf 49 = 3 := by kernel_rfl
  have hc1 : Try.prog.cellsOf 5 = 1 := by kernel_rfl
  have hsz : 0 < Try.prog.types.size := of_decide_eq_true (by kernel_rfl)
  have hf : (key3 t).formed Try.prog 49 = true := by simp [key3, Value.formed, Try.underlying49, hc]
  unfold keyOf
  rw [Try.underlying49]
  simp only [hk, hf, Bool.and_self, if_true]
  generalize Try.prog.types.size = n at hsz
  obtain ⟨d, rfl⟩ : ∃ d, n = d + 1 := ⟨n - 1, by omega⟩
  have e : ∀ x : Int, (Lit.int .u8 x).wf = true → Try.prog.keyLits (d + 1) 5 [.int .u8 x] = some [.int .u8 x] := fun x hx => by
    simp [Program.keyLits, Try.underlying5, hx]
  have ek : Try.prog.keyLits (d + 1 + 1) 49 (key3 t).cells.toList = some [.int .u8 t.1, .int .u8 t.2.1, .int .u8 t.2.2] := by
    have hcl : (key3 t).cells.toList = [.int .u8 t.1, .int .u8 t.2.1, .int .u8 t.2.2] := rfl
    rw [hcl]
    simp [Program.keyLits, Try.underlying49, Try.underlying5, hc, hc1, h1, h2, h3, show List.range 3 = [0, 1, 2] from rfl]
  rw [ek]
  exact ⟨_, rfl⟩
theorem nodup_inj {α : Type} : ∀ {l : List α} {i j : Nat} {a : α}, l.Nodup → l[i]? = some a → l[j]? = some a → i = j
  | [], _, _, _, _, h, _ => by simp at h
  | x :: l, 0, 0, _, _, _, _ => rfl
  | x :: l, 0, j + 1, a, hn, h1, h2 => by
    simp only [List.getElem?_cons_zero, Option.some.injEq] at h1
    simp only [List.getElem?_cons_succ] at h2
    subst h1
    exact absurd (List.mem_of_getElem? h2) (List.nodup_cons.1 hn).1
  | x :: l, i + 1, 0, a, hn, h1, h2 => by
    simp only [List.getElem?_cons_zero, Option.some.injEq] at h2
    simp only [List.getElem?_cons_succ] at h1
    subst h2
    exact absurd (List.mem_of_getElem? h1) (List.nodup_cons.1 hn).1
  | x :: l, i + 1, j + 1, a, hn, h1, h2 => by
    simp only [List.getElem?_cons_succ] at h1 h2
    rw [nodup_inj (List.nodup_cons.1 hn).2 h1 h2]
theorem key3_inj {t u : Int × Int × Int} (h : key3 t = key3 u) : t = u := by
  obtain ⟨a, b, c⟩ := t
  obtain ⟨x, y, z⟩ := u
  simp only [key3, Value.agg.injEq] at h
  simp at h
  obtain ⟨rfl, rfl, rfl⟩ := h
  rfl
section
variable {P : Program} {t k e : TypeId} {b : Nat} {es : Array MapEntry} {clock : Nat}
theorem setBlock_same (w : World) (b : Nat) (o : Obj) : Same (fun q => q = b) w (setBlock w b o) :=
  ⟨rfl, rfl, rfl, by simp [setBlock], fun q _ hq => by simp [setBlock, Array.getElem?_setIfInBounds, show ¬ b = q from fun e => hq e.symm]⟩
/-- m[key] in an append's place: the entry's slice, and a stamp by which it is found again. -/
theorem entry_run (K : KeyLaw P k) (ht : P.underlying t = some (.map k e)) {z : Value} (hz : ∀ u : World, (zeroValue e).run P u = .ok z u) (hkeys : ∀ x ∈ es.toList, ∃ l, keyOf P k x.key = some l) (hst : Stamped es clock)
    {key : Value} {kl : Lit} (hkey : keyOf P k key = some kl) :
    ∃ (v0 : Value) (st : Nat) (es1 : Array MapEntry) (clock1 : Nat), (∀ W : World, W.heap[b]? = some (.map es clock) → (Instr.mapEntry t (.map (some b)) key).run P W = .ok (.tuple #[v0, goInt st]) (setBlock W b (.map es1 clock1))) ∧
      ((∃ e0 ∈ es.toList, e0.key = key ∧ v0 = e0.val) ∨ ((∀ x ∈ es.toList, x.key ≠ key) ∧ v0 = z)) ∧
      ∀ val : Value, ∃ es' clock', (∀ W : World, W.heap[b]? = some (.map es1 clock1) → (Instr.entryStore t (.map (some b)) (goInt st) val).run P W = .ok () (setBlock W b (.map es' clock'))) ∧
        ((∃ j e0, es.toList[j]? = some e0 ∧ e0.key = key ∧ es'.toList = es.toList.set j { e0 with val := val } ∧ clock' = clock) ∨ ((∀ x ∈ es.toList, x.key ≠ key) ∧ es' = es.push ⟨key, val, clock⟩ ∧ clock' = clock + 1)) := by
  obtain ⟨s1, s2, s3⟩ := hst
  by_cases hex : ∃ (j : Nat) (e0 : MapEntry), es.toList[j]? = some e0 ∧ e0.key = key
  · obtain ⟨j, e0, h2, h3⟩ := hex
    have hj : es[j]? = some e0 := by simpa using h2
    have hfind : ∀ W : World, (Instr.findKey k key es.toList).run P W = .ok (some (j, e0.val)) W := fun W => by
      rcases K.find W hkey es.toList hkeys with ⟨_, h⟩ | ⟨j', e', h, h4, h5⟩
      · exact absurd h3 (h e0 (List.mem_of_getElem? h2))
      · have : j' = j := by
          have hl := List.getElem?_map (f := fun x : MapEntry => x.key) (l := es.toList) (i := j)
          have hl' := List.getElem?_map (f := fun x : MapEntry => x.key) (l := es.toList) (i := j')
          rw [h2] at hl
          rw [h4] at hl'
          simp only [Option.map_some] at hl hl'
          rw [h3] at hl
          rw [h5] at hl'
          have b1 := (List.getElem?_eq_some_iff.1 hl).1
          exact nodup_inj s3 hl' hl
        subst this
        rw [h2] at h4
        injection h4 with h4
        rw [h4]; exact h
    have hsame : es.modify j (fun e => { e with key := key }) = es := by
      apply Array.ext'
      rw [Array.toList_modify, ChangeMaps.modify_eq_set _ _ _ _ h2]
      have : ({ e0 with key := key } : MapEntry) = e0 := by rw [← h3]
      rw [this]
      exact WideElems.set_self _ _ _ h2
    refine ⟨e0.val, e0.born, es, clock, fun W hW => ?_, Or.inl ⟨e0, List.mem_of_getElem? h2, h3, rfl⟩, fun val => ⟨es.modify j (fun e' => { e' with val := val }), clock, fun W hW => ?_, Or.inl ⟨j, e0, h2, h3, ?_, rfl⟩⟩⟩
    · simp [Instr.mapEntry, run_underlying ht, MapKept.run_getObj_map hW, K.check W false hkey, hfind W, hj, h3, K.stays W hkey, hsame, MapKept.run_setObj_map _ hW, Result.andThen, setBlock]
    · have hidx : es.findIdx? (fun e => ((e.born : Nat) : Int) == ((e0.born : Nat) : Int)) = some j := by
        rw [WideElems.findIdx_arr]
        exact WideElems.findIdx_born s2 h2
      simp [Instr.entryStore, MapKept.run_getObj_map hW, asInt, asIntOf, goInt, hidx, MapKept.run_setObj_map _ hW, Result.andThen, setBlock]
    · rw [Array.toList_modify, ChangeMaps.modify_eq_set _ _ _ _ h2]
  · have hno : ∀ x ∈ es.toList, x.key ≠ key := fun x hx e => by
      obtain ⟨j, hj⟩ := List.getElem?_of_mem hx
      exact hex ⟨j, x, hj, e⟩
    have hfind : ∀ W : World, (Instr.findKey k key es.toList).run P W = .ok none W := fun W => by
      rcases K.find W hkey es.toList hkeys with ⟨h, _⟩ | ⟨j', e', _, h4, h5⟩
      · exact h
      · exact absurd h5 (hno e' (List.mem_of_getElem? h4))
    refine ⟨z, clock, es.push ⟨key, z, clock⟩, clock + 1, fun W hW => ?_, Or.inr ⟨hno, rfl⟩, fun val => ⟨es.push ⟨key, val, clock⟩, clock + 1, fun W hW => ?_, Or.inr ⟨hno, rfl, rfl⟩⟩⟩
    · simp [Instr.mapEntry, run_underlying ht, MapKept.run_getObj_map hW, K.check W false hkey, hfind W, hz, MapKept.run_setObj_map _ hW, Result.andThen, setBlock]
    · have hidx : (es.push ⟨key, z, clock⟩).findIdx? (fun e => ((e.born : Nat) : Int) == ((clock : Nat) : Int)) = some es.size := by
        rw [WideElems.findIdx_arr]
        have := WideElems.findIdx_born (l := (es.push ⟨key, z, clock⟩).toList) (j := es.size) (e0 := ⟨key, z, clock⟩) (by
          simp only [Array.toList_push, List.map_append, List.map_cons, List.map_nil]
          refine List.nodup_append.2 ⟨s2, by simp, fun a ha c hc e1 => ?_⟩
          simp only [List.mem_singleton] at hc
          obtain ⟨x, hx, rfl⟩ := List.mem_map.1 ha
          have := s1 x hx
          omega) (by simp)
        exact this
      have hmod : (es.push ⟨key, z, clock⟩).modify es.size (fun e => { e with val := val }) = es.push ⟨key, val, clock⟩ := by
        apply Array.ext'
        rw [Array.toList_modify, Array.toList_push, Array.toList_push, ← Array.length_toList, WideElems.modify_last]
      simp [Instr.entryStore, MapKept.run_getObj_map hW, asInt, asIntOf, goInt, hidx, hmod, MapKept.run_setObj_map _ hW, Result.andThen, setBlock]
end
end Go.Proofs.Ytnnjpbghnfohaaa
