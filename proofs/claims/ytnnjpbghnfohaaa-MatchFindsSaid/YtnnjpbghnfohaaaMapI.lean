import Derived.Test.YtnnjpbghnfohaaaMapB
namespace Go.Proofs.Ytnnjpbghnfohaaa
set_option linter.unusedVariables false
set_option linter.unusedSimpArgs false
open Go.RowKit Go.MapKept
open Go.ChangeMaps (setBlock heap_setBlock_same)

def nats (W : List Nat) : List Int := W.map fun k : Nat => (k : Int)
theorem nats_length (W : List Nat) : (nats W).length = W.length := by simp [nats]
theorem nats_append (W X : List Nat) : nats (W ++ X) = nats W ++ nats X := by simp [nats]
def tri (bs : List Int) (p : Nat) : Int × Int × Int := (bs.getD p 0, bs.getD (p + 1) 0, bs.getD (p + 2) 0)
def poss (bs : List Int) (i : Nat) (t : Int × Int × Int) : List Nat := (List.range i).filter (fun p => decide (tri bs p = t))
theorem poss_succ (bs : List Int) (i : Nat) (t : Int × Int × Int) : poss bs (i + 1) t = poss bs i t ++ if tri bs i = t then [i] else [] := by
  unfold poss
  rw [List.range_succ, List.filter_append]
  congr 1
  by_cases h : tri bs i = t <;> simp [h]
theorem poss_le (bs : List Int) (i : Nat) (t : Int × Int × Int) : (poss bs i t).length ≤ i := by
  have := List.length_filter_le (fun p => decide (tri bs p = t)) (List.range i)
  rw [List.length_range] at this
  exact this
structure MapE (w : World) (base m : Nat) (bs : List Int) (i : Nat) (es : Array MapEntry) (clock : Nat) : Prop where
  blk : w.heap[m]? = some (.map es clock)
  st : Stamped es clock
  rows : ∀ x ∈ es.toList, ∃ t, ok3 t ∧ x.key = key3 t ∧ Own w base 3 x.val (ints .i64 (nats (poss bs i t))) ∧ poss bs i t ≠ []
  all : ∀ p, p < i → ∃ x ∈ es.toList, x.key = key3 (tri bs p)
  apart : ∀ x ∈ es.toList, ∀ y ∈ es.toList, x.key ≠ y.key → ∀ g, x.val.ownBlock = some g → y.val.ownBlock ≠ some g
theorem MapE.keys {w : World} {base m : Nat} {bs : List Int} {i : Nat} {es : Array MapEntry} {clock : Nat} (h : MapE w base m bs i es clock) : ∀ x ∈ es.toList, ∃ l, keyOf Try.prog 49 x.key = some l := fun x hx => by
  obtain ⟨t, h1, h2, _⟩ := h.rows x hx
  rw [h2]; exact key3_some h1
theorem Own.ne_map {w : World} {base m g : Nat} {e : TypeId} {v : Value} {xs : List Value} {es : Array MapEntry} {clock : Nat} (h : Own w base e v xs) (hg : v.ownBlock = some g) (hm : w.heap[m]? = some (.map es clock)) : g ≠ m := by
  rintro rfl
  rcases h.2 with ⟨rfl, _⟩ | ⟨g', cap, cur, rfl, _, hh, _⟩
  · simp [Value.ownBlock] at hg
  · have : g' = g := by simpa [Value.ownBlock] using hg
    subst this
    rw [hh] at hm
    cases hm
theorem MapE.kept {w w' : World} {base m : Nat} {bs : List Int} {i : Nat} {es : Array MapEntry} {clock : Nat} {S : Nat → Prop} (h : MapE w base m bs i es clock) (hs : Same S w w') (hm : ¬ S m) (hr : ∀ x ∈ es.toList, ∀ g, x.val.ownBlock = some g → ¬ S g) : MapE w' base m bs i es clock :=
  ⟨(hs.block m (Array.getElem?_eq_some_iff.1 h.blk).1 hm).trans h.blk, h.st, fun x hx => by
    obtain ⟨t, a, b, c, d⟩ := h.rows x hx
    exact ⟨t, a, b, c.kept hs (hr x hx), d⟩, h.all, h.apart⟩
theorem set_mem {α : Type} {l : List α} {j : Nat} {a x : α} (h : x ∈ l.set j a) : x = a ∨ ∃ i, i ≠ j ∧ l[i]? = some x := by
  obtain ⟨i, hi⟩ := List.getElem?_of_mem h
  rw [List.getElem?_set] at hi
  by_cases e : j = i
  · rw [if_pos e] at hi
    split at hi
    · left; injection hi with hi; exact hi.symm
    · cases hi
  · rw [if_neg e] at hi
    exact .inr ⟨i, fun c => e c.symm, hi⟩
/-- One place more. -/
theorem MapE.step {w w3 : World} {base m : Nat} {bs : List Int} {i : Nat} {es es1 es' : Array MapEntry} {clock clock1 clock' : Nat} (h : MapE w base m bs i es clock) {t : Int × Int × Int} (ht : tri bs i = t) (hok : ok3 t) {v0 v3 : Value}
    (h0 : (∃ e0 ∈ es.toList, e0.key = key3 t ∧ v0 = e0.val) ∨ ((∀ x ∈ es.toList, x.key ≠ key3 t) ∧ v0 = .slice none 0 0))
    (h3 : Own w3 base 3 v3 (ints .i64 (nats (poss bs (i + 1) t)))) (hs : Same (fun k => k = m ∨ v0.ownBlock = some k) w w3) (hm : w3.heap[m]? = some (.map es1 clock1))
    (hv : v3.ownBlock = v0.ownBlock ∨ ∃ g, v3.ownBlock = some g ∧ w.heap.size ≤ g)
    (hes : (∃ j e0, es.toList[j]? = some e0 ∧ e0.key = key3 t ∧ es'.toList = es.toList.set j { e0 with val := v3 } ∧ clock' = clock) ∨ ((∀ x ∈ es.toList, x.key ≠ key3 t) ∧ es' = es.push ⟨key3 t, v3, clock⟩ ∧ clock' = clock + 1)) :
    MapE (setBlock w3 m (.map es' clock')) base m bs (i + 1) es' clock' := by
  have hst := setBlock_same w3 m (.map es' clock')
  have h3m : ∀ g, v3.ownBlock = some g → g ≠ m := fun g hg => h3.ne_map hg hm
  have h3' : Own (setBlock w3 m (.map es' clock')) base 3 v3 (ints .i64 (nats (poss bs (i + 1) t))) := h3.kept hst h3m
  have hne : poss bs (i + 1) t ≠ [] := by rw [poss_succ, if_pos ht]; simp
  -- an old entry of another key
  have hold : ∀ x ∈ es.toList, x.key ≠ key3 t → ∃ u, ok3 u ∧ x.key = key3 u ∧ Own (setBlock w3 m (.map es' clock')) base 3 x.val (ints .i64 (nats (poss bs (i + 1) u))) ∧ poss bs (i + 1) u ≠ [] := fun x hx hk => by
    obtain ⟨u, a, b, c, d⟩ := h.rows x hx
    have hu : tri bs i ≠ u := fun e => hk (by rw [b, ← e, ht])
    have hp : poss bs (i + 1) u = poss bs i u := by rw [poss_succ, if_neg hu, List.append_nil]
    refine ⟨u, a, b, ?_, by rw [hp]; exact d⟩
    rw [hp]
    refine (c.kept hs (fun g hg e => ?_)).kept hst (fun g hg => ?_)
    · rcases e with e | e
      · exact c.ne_map hg h.blk e
      · rcases h0 with ⟨e0, he, hk0, rfl⟩ | ⟨_, rfl⟩
        · exact h.apart x hx e0 he (fun e2 => hk (e2.trans hk0)) g hg e
        · simp [Value.ownBlock] at e
    · exact c.ne_map hg h.blk
  -- an old entry's row lies apart from the new one
  have hap : ∀ x ∈ es.toList, x.key ≠ key3 t → ∀ g, x.val.ownBlock = some g → v3.ownBlock ≠ some g := fun x hx hk g hg e => by
    obtain ⟨u, a, b, c, d⟩ := h.rows x hx
    rcases hv with e2 | ⟨g2, e2, hg2⟩
    · rcases h0 with ⟨e0, he, hk0, rfl⟩ | ⟨_, rfl⟩
      · rw [e2] at e
        exact h.apart x hx e0 he (fun e3 => hk (e3.trans hk0)) g hg e
      · rw [e2] at e; simp [Value.ownBlock] at e
    · rw [e2] at e
      injection e with e
      have := c.lt g hg
      omega
  obtain ⟨s1, s2, s3⟩ := h.st
  rcases hes with ⟨j, e0, hj, hk0, hE, rfl⟩ | ⟨hno, rfl, rfl⟩
  · have hkey : ∀ k x, es.toList[k]? = some x → k ≠ j → x.key ≠ key3 t := fun k x hk hkj e => by
      have a1 : (es.toList.map (·.key))[k]? = some (key3 t) := by rw [List.getElem?_map, hk]; simp [e]
      have a2 : (es.toList.map (·.key))[j]? = some (key3 t) := by rw [List.getElem?_map, hj]; simp [hk0]
      exact hkj (nodup_inj s3 a1 a2)
    refine ⟨heap_setBlock_same hm _, ⟨fun x hx => ?_, ?_, ?_⟩, fun x hx => ?_, fun p hp => ?_, fun x hx y hy hxy g hg => ?_⟩
    · rw [hE] at hx
      rcases set_mem hx with rfl | ⟨k, _, hk⟩
      · exact s1 e0 (List.mem_of_getElem? hj)
      · exact s1 x (List.mem_of_getElem? hk)
    · rw [hE, List.map_set, WideElems.set_self _ j e0.born (by rw [List.getElem?_map, hj]; rfl)]
      exact s2
    · rw [hE, List.map_set, WideElems.set_self _ j e0.key (by rw [List.getElem?_map, hj]; rfl)]
      exact s3
    · rw [hE] at hx
      rcases set_mem hx with rfl | ⟨k, hkj, hk⟩
      · exact ⟨t, hok, hk0, h3', hne⟩
      · exact hold x (List.mem_of_getElem? hk) (hkey k x hk hkj)
    · have hmem : ({ e0 with val := v3 } : MapEntry) ∈ es'.toList := by
        rw [hE]
        exact List.mem_of_getElem? (i := j) (by rw [List.getElem?_set_self (List.getElem?_eq_some_iff.1 hj).1])
      by_cases e : tri bs p = t
      · exact ⟨_, hmem, by rw [e]; exact hk0⟩
      · have hpi : p < i := by
          rcases Nat.lt_or_ge p i with c | c
          · exact c
          · exact absurd (by rw [show p = i from by omega]; exact ht) e
        obtain ⟨x, hx, hxk⟩ := h.all p hpi
        obtain ⟨k, hk⟩ := List.getElem?_of_mem hx
        have hkj : k ≠ j := fun c => by
          subst c
          rw [hj] at hk
          injection hk with hk
          subst hk
          rw [hk0] at hxk
          exact e (key3_inj hxk).symm
        refine ⟨x, ?_, hxk⟩
        rw [hE]
        exact List.mem_of_getElem? (i := k) (by rw [List.getElem?_set_ne (fun c => hkj c.symm)]; exact hk)
    · rw [hE] at hx hy
      rcases set_mem hx with rfl | ⟨k, hkj, hk⟩
      · rcases set_mem hy with rfl | ⟨k2, hkj2, hk2⟩
        · exact absurd rfl hxy
        · intro e
          exact hap y (List.mem_of_getElem? hk2) (hkey k2 y hk2 hkj2) g e hg
      · rcases set_mem hy with rfl | ⟨k2, hkj2, hk2⟩
        · exact hap x (List.mem_of_getElem? hk) (hkey k x hk hkj) g hg
        · exact h.apart x (List.mem_of_getElem? hk) y (List.mem_of_getElem? hk2) hxy g hg
  · have hE : (es.push ⟨key3 t, v3, clock⟩).toList = es.toList ++ [⟨key3 t, v3, clock⟩] := Array.toList_push
    have hin : ∀ x, x ∈ (es.push ⟨key3 t, v3, clock⟩).toList → x ∈ es.toList ∨ x = ⟨key3 t, v3, clock⟩ := fun x hx => by
      rw [hE] at hx
      rcases List.mem_append.1 hx with hx | hx
      · exact .inl hx
      · exact .inr (by simpa using hx)
    refine ⟨heap_setBlock_same hm _, ⟨fun x hx => ?_, ?_, ?_⟩, fun x hx => ?_, fun p hp => ?_, fun x hx y hy hxy g hg => ?_⟩
    · rcases hin x hx with hx | rfl
      · have := s1 x hx; omega
      · show clock < clock + 1; omega
    · rw [hE, List.map_append]
      refine List.nodup_append.2 ⟨s2, by simp, fun a ha c hc e1 => ?_⟩
      obtain ⟨x, hx, rfl⟩ := List.mem_map.1 ha
      have := s1 x hx
      simp at hc
      omega
    · rw [hE, List.map_append]
      refine List.nodup_append.2 ⟨s3, by simp, fun a ha c hc e1 => ?_⟩
      obtain ⟨x, hx, rfl⟩ := List.mem_map.1 ha
      simp at hc
      exact hno x hx (e1.trans hc)
    · rcases hin x hx with hx | rfl
      · exact hold x hx (hno x hx)
      · exact ⟨t, hok, rfl, h3', hne⟩
    · by_cases e : tri bs p = t
      · exact ⟨⟨key3 t, v3, clock⟩, by rw [hE]; simp, by rw [e]⟩
      · have hpi : p < i := by
          rcases Nat.lt_or_ge p i with c | c
          · exact c
          · exact absurd (by rw [show p = i from by omega]; exact ht) e
        obtain ⟨x, hx, hxk⟩ := h.all p hpi
        exact ⟨x, by rw [hE]; exact List.mem_append_left _ hx, hxk⟩
    · rcases hin x hx with hx | rfl
      · rcases hin y hy with hy | rfl
        · exact h.apart x hx y hy hxy g hg
        · exact hap x hx (hno x hx) g hg
      · rcases hin y hy with hy | rfl
        · intro e
          exact hap y hy (hno y hy) g e hg
        · exact absurd rfl hxy
end Go.Proofs.Ytnnjpbghnfohaaa
