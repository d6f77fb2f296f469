import Derived.Test.YtfmglcgdcdcpaaaPkQ
namespace Go.Proofs.Ytfmglcgdcdcpaaa
set_option linter.unusedVariables false
set_option linter.unusedSimpArgs false

/-! ### counts turned round, a greater most (PackOrder) -/
theorem cnr_anti {qs : List Nat} {r s : Nat} (h : r ≤ s) : cnr qs s ≤ cnr qs r := by
  unfold cnr
  exact List.countP_mono_left (fun a _ ha => by simp at ha ⊢; omega)
section
variable {cs : List Int} {ss : List Nat}
theorem Srt.order (h : Srt cs ss) {most : Nat} (h1 : 1 ≤ most) (h2 : 2 ≤ ss.length) (hn : ss.length ≤ 2 ^ most) {i k : Nat} (hi : i < cs.length) (hk : k < cs.length) (hp : 0 < cs.getD k 0) (hlt : cs.getD k 0 < cs.getD i 0) : (outL cs ss most).getD i 0 ≤ (outL cs ss most).getD k 0 := by
  obtain ⟨qs, a1, a2, a3, a4⟩ := taken_as h h1 h2 hn
  obtain ⟨r, hr, e1⟩ := List.getElem_of_mem (h.mem.2 ⟨hi, by omega⟩)
  obtain ⟨s, hs, e2⟩ := List.getElem_of_mem (h.mem.2 ⟨hk, hp⟩)
  have hrs : s ≤ r := by
    rcases Nat.lt_or_ge r s with c | c
    · have := (List.pairwise_iff_getElem.1 h.sorted) r s hr hs c
      rw [e1, e2] at this
      omega
    · exact c
  have := cnr_anti (qs := qs) hrs
  have b1 := (a3 r hr).1
  have b2 := (a3 s hs).1
  rw [e1] at b1
  rw [e2] at b2
  rw [out_at hi, out_at hk, b1, b2]
  omega
theorem map_kr_range (l : List Int) : (l.map kr) = (List.range l.length).map (fun i => kr (l.getD i 0)) := by
  apply List.ext_getElem
  · simp
  · intro i h1 h2
    simp only [List.getElem_map, List.getElem_range]
    rw [List.getD_eq_getElem?_getD, List.getElem?_eq_getElem (by simpa using h1)]; rfl
theorem Srt.least2 (h : Srt cs ss) {most : Nat} (h1 : 1 ≤ most) (h15 : most ≤ 15) (h2 : 2 ≤ ss.length) (hn : ss.length ≤ 2 ^ most) {l : List Int} (hl : l.length = cs.length) (hl1 : ∀ i, i < cs.length → 0 < cs.getD i 0 → 1 ≤ l.getD i 0 ∧ l.getD i 0 ≤ most)
    (hl0 : ∀ i, i < cs.length → ¬ 0 < cs.getD i 0 → l.getD i 0 = 0) (hk : (l.map kr).sum ≤ 32768) (hz : ∀ i, i < cs.length → 0 ≤ cs.getD i 0) : costL cs (outL cs ss most) ≤ costL cs l := by
  refine h.least h1 h15 h2 hn hl hl1 ?_ hz
  rw [← h.sum_all (fun i => kr (l.getD i 0)) (fun i hi hp => by rw [hl0 i hi hp]; rfl), ← hl, ← map_kr_range]
  exact hk
/-- A greater most never costs more. -/
theorem Srt.wider (h : Srt cs ss) {ss' : List Nat} (h' : Srt cs ss') {most : Nat} (h1 : 1 ≤ most) (h15 : most + 1 ≤ 15) (h2 : 2 ≤ ss.length) (hn : ss.length ≤ 2 ^ most) (hz : ∀ i, i < cs.length → 0 ≤ cs.getD i 0) : costL cs (outL cs ss' (most + 1)) ≤ costL cs (outL cs ss most) := by
  have hsl : ss'.length = ss.length := by rw [h'.perm.length_eq, h.perm.length_eq]
  have hok := h.out_ok h1 h2 hn
  refine h'.least2 (by omega) h15 (by omega) (by rw [hsl, Nat.pow_succ]; omega) hok.len (fun i hi hp => by have := hok.some_ i hi hp; omega) hok.none_ ?_ hz
  rw [h.out_kraft h1 (by omega) h2 hn]; decide
end
theorem costL_snoc (x y : Int) : ∀ (a b : List Int), a.length = b.length → costL (a ++ [x]) (b ++ [y]) = costL a b + x * y
  | [], [], _ => by simp [costL]
  | [], b :: bs, h => by simp at h
  | a :: as', [], h => by simp at h
  | a :: as', b :: bs, h => by
    rw [List.cons_append, List.cons_append, costL, costL, costL_snoc x y as' bs (by simpa using h)]; omega
theorem costL_rev : ∀ (a b : List Int), a.length = b.length → costL a.reverse b.reverse = costL a b
  | [], [], _ => rfl
  | [], b :: bs, h => by simp at h
  | a :: as', [], h => by simp at h
  | a :: as', b :: bs, h => by
    have h' : as'.length = bs.length := by simpa using h
    rw [List.reverse_cons, List.reverse_cons, costL_snoc _ _ _ _ (by simpa using h'), costL_rev as' bs h', costL]; omega
theorem rev_getD (l : List Int) {i : Nat} (h : i < l.length) : l.reverse.getD i 0 = l.getD (l.length - 1 - i) 0 := by
  rw [List.getD_eq_getElem?_getD, List.getD_eq_getElem?_getD, List.getElem?_reverse h]
theorem back_le {cs : List Int} {ss ss' : List Nat} (h : Srt cs ss) (h' : Srt cs.reverse ss') {most : Nat} (h1 : 1 ≤ most) (h15 : most ≤ 15) (h2 : 2 ≤ ss.length) (hn : ss.length ≤ 2 ^ most) (hsl : ss'.length = ss.length) (hz : ∀ i, i < cs.length → 0 ≤ cs.getD i 0) :
    costL cs (outL cs ss most) ≤ costL cs.reverse (outL cs.reverse ss' most) := by
  have hok := h'.out_ok h1 (by omega) (by omega)
  have hkr := h'.out_kraft h1 h15 (by omega) (by omega)
  have hl := hok.len
  rw [List.length_reverse] at hl
  generalize outL cs.reverse ss' most = O at *
  have e : costL cs.reverse O = costL cs O.reverse := by
    have := costL_rev cs O.reverse (by rw [List.length_reverse]; omega)
    rwa [List.reverse_reverse] at this
  rw [e]
  have hc : ∀ i, i < cs.length → cs.getD i 0 = cs.reverse.getD (cs.length - 1 - i) 0 := fun i hi => by
    rw [rev_getD _ (by omega)]
    congr 1; omega
  refine h.least2 h1 h15 h2 hn (by rw [List.length_reverse]; exact hl) (fun i hi hp => ?_) (fun i hi hp => ?_) ?_ hz
  · rw [rev_getD _ (by omega), hl]
    rw [hc i hi] at hp
    have := hok.some_ (cs.length - 1 - i) (by rw [List.length_reverse]; omega) hp
    exact this
  · rw [rev_getD _ (by omega), hl]
    rw [hc i hi] at hp
    exact hok.none_ (cs.length - 1 - i) (by rw [List.length_reverse]; omega) hp
  · rw [List.map_reverse, List.sum_reverse, hkr]; decide
end Go.Proofs.Ytfmglcgdcdcpaaa
