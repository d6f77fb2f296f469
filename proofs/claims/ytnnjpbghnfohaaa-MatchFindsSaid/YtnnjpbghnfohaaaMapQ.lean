import Derived.Test.YtnnjpbghnfohaaaMapA
namespace Go.Proofs.Ytnnjpbghnfohaaa
set_option linter.unusedVariables false
set_option linter.unusedSimpArgs false
open Go.RowKit Go.MapKept
open Go.WideMaps (KeyLaw)

/-! ### the match that is found, plainly -/
def findR (bs : List Int) (M : Nat) (far chain good : Int) (at_ : Nat) : List Nat → Nat → Nat × Nat → Nat × Nat
  | [], _, r => r
  | q :: qs, s, r =>
    if (s : Int) < chain ∧ (at_ : Int) - q ≤ far then
      let r' := if r.1 < alk bs M q at_ then (alk bs M q at_, at_ - q) else r
      if good ≤ (r'.1 : Int) then r' else findR bs M far chain good at_ qs (s + 1) r'
    else r
def findP (bs : List Int) (M : Nat) (far chain good : Int) (at_ : Nat) : Nat × Nat :=
  findR bs M far chain good at_ (poss bs at_ (tri bs at_)).reverse 0 (0, 0)
theorem poss_mem {bs : List Int} {i : Nat} {t : Int × Int × Int} {x : Nat} (h : x ∈ poss bs i t) : x < i ∧ tri bs x = t := by
  unfold poss at h
  rw [List.mem_filter, List.mem_range] at h
  exact ⟨h.1, of_decide_eq_true h.2⟩
theorem poss_split (bs : List Int) (i : Nat) (t : Int × Int × Int) : ∀ d, ∃ Q, poss bs (i + d) t = poss bs i t ++ Q ∧ ∀ x ∈ Q, i ≤ x
  | 0 => ⟨[], by simp, by simp⟩
  | d + 1 => by
    obtain ⟨Q, h1, h2⟩ := poss_split bs i t d
    refine ⟨Q ++ if tri bs (i + d) = t then [i + d] else [], by rw [← Nat.add_assoc, poss_succ, h1, List.append_assoc], fun x hx => ?_⟩
    rcases List.mem_append.1 hx with hx | hx
    · exact h2 x hx
    · split at hx
      · simp at hx; omega
      · simp at hx
theorem poss_at (bs : List Int) {i n : Nat} (h : i < n) : ∃ Q, poss bs n (tri bs i) = poss bs i (tri bs i) ++ i :: Q ∧ ∀ x ∈ Q, i ≤ x := by
  obtain ⟨Q, h1, h2⟩ := poss_split bs (i + 1) (tri bs i) (n - (i + 1))
  refine ⟨Q, ?_, fun x hx => by have := h2 x hx; omega⟩
  rw [show i + 1 + (n - (i + 1)) = n from by omega] at h1
  rw [h1, poss_succ, if_pos rfl, List.append_assoc]
  rfl
theorem nats_getD (W : List Nat) (j : Nat) (h : j < W.length) : (nats W).getD j 0 = ((W.getD j 0 : Nat) : Int) := by
  simp [nats, List.getD_eq_getElem?_getD, List.getElem?_eq_getElem h]
section
variable {P : Program} {t k e : TypeId} {b : Nat} {es : Array MapEntry} {clock : Nat}
theorem look_run (K : KeyLaw P k) (ht : P.underlying t = some (.map k e)) {z : Value} (hz : ∀ u : World, (zeroValue e).run P u = .ok z u) (hkeys : ∀ x ∈ es.toList, ∃ l, keyOf P k x.key = some l) (hst : Stamped es clock)
    {key : Value} {kl : Lit} (hkey : keyOf P k key = some kl) :
    ∃ v0 : Value, (∀ W : World, W.heap[b]? = some (.map es clock) → (Instr.lookup t (.map (some b)) key false).run P W = .ok v0 W) ∧
      ((∃ e0 ∈ es.toList, e0.key = key ∧ v0 = e0.val) ∨ ((∀ x ∈ es.toList, x.key ≠ key) ∧ v0 = z)) := by
  obtain ⟨s1, s2, s3⟩ := hst
  by_cases hex : ∃ (j : Nat) (e0 : MapEntry), es.toList[j]? = some e0 ∧ e0.key = key
  · obtain ⟨j, e0, h2, h3⟩ := hex
    refine ⟨e0.val, fun W hW => ?_, .inl ⟨e0, List.mem_of_getElem? h2, h3, rfl⟩⟩
    rcases K.find W hkey es.toList hkeys with ⟨_, h⟩ | ⟨j', e', h, h4, h5⟩
    · exact absurd h3 (h e0 (List.mem_of_getElem? h2))
    · have : j' = j := by
        have hl := List.getElem?_map (f := fun x : MapEntry => x.key) (l := es.toList) (i := j)
        have hl' := List.getElem?_map (f := fun x : MapEntry => x.key) (l := es.toList) (i := j')
        rw [h2] at hl
        rw [h4] at hl'
        simp only [Option.map_some] at hl hl'
        rw [h3] at hl
        rw [h5] at hl'
        exact nodup_inj s3 hl' hl
      subst this
      rw [h2] at h4
      injection h4 with h4
      subst h4
      simp [Instr.lookup, run_underlying ht, MapKept.run_getObj_map hW, K.check W _ hkey, h, Result.andThen]
  · have hno : ∀ x ∈ es.toList, x.key ≠ key := fun x hx e => by
      obtain ⟨j, hj⟩ := List.getElem?_of_mem hx
      exact hex ⟨j, x, hj, e⟩
    refine ⟨z, fun W hW => ?_, .inr ⟨hno, rfl⟩⟩
    rcases K.find W hkey es.toList hkeys with ⟨h, _⟩ | ⟨j', e', _, h4, h5⟩
    · simp [Instr.lookup, run_underlying ht, MapKept.run_getObj_map hW, K.check W _ hkey, h, hz, Result.andThen]
    · exact absurd h5 (hno e' (List.mem_of_getElem? h4))
end
theorem MapE.look {w : World} {base m : Nat} {bs : List Int} {i : Nat} {es : Array MapEntry} {clock : Nat} (h : MapE w base m bs i es clock) {t : Int × Int × Int} (hok : ok3 t) :
    ∃ v0 : Value, (∀ W : World, W.heap[m]? = some (.map es clock) → (Instr.lookup 46 (.map (some m)) (key3 t) false).run Try.prog W = .ok v0 W) ∧ Own w base 3 v0 (ints .i64 (nats (poss bs i t))) := by
  obtain ⟨kl, hkl⟩ := key3_some hok
  obtain ⟨v0, h1, h2⟩ := look_run (b := m) key3_law Try.underlying46 Try.u25zero h.keys h.st hkl
  exact ⟨v0, h1, h.at_ h2⟩
end Go.Proofs.Ytnnjpbghnfohaaa
