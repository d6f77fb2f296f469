import Derived.Test.YtfmglcgdcdcpaaaPkA
namespace Go.Proofs.Ytfmglcgdcdcpaaa
set_option linter.unusedVariables false
set_option linter.unusedSimpArgs false
open Go.RowKit
attribute [local go_sem] max2i min2i max2t min2t

theorem idx_all {cs : List Int} (h : ∀ x ∈ cs, 0 < x) : idx cs = List.range cs.length := by
  unfold idx
  refine List.filter_eq_self.2 (fun i hi => ?_)
  rw [List.mem_range] at hi
  have := h (cs.getD i 0) (by rw [List.getD_eq_getElem?_getD, List.getElem?_eq_getElem hi]; exact List.getElem_mem hi)
  simpa using this
theorem costL_costN {cs ls : List Int} (h : ls.length = cs.length) : costL cs ls = costN cs ls cs.length := by
  rw [cost_range _ _ h]
  unfold costN
  rw [isum_range]
  rfl
theorem SrtS.len {cs : List Int} {ss : List Nat} (h : SrtS cs ss) : ss.length = (idx cs).length := h.srt.perm.length_eq
theorem kr_sum_all {cs l : List Int} {ss : List Nat} (h : SrtS cs ss) (hp : ∀ x ∈ cs, 0 < x) (hl : l.length = cs.length) : (ss.map (fun i => kr (l.getD i 0))).sum = (l.map kr).sum := by
  have hpm := h.srt.perm
  rw [idx_all hp, ← hl] at hpm
  rw [sum_perm _ hpm]
  congr 1
  apply List.ext_getElem
  · simp
  · intro i h1 h2
    simp only [List.getElem_map, List.getElem_range]
    rw [List.getD_eq_getElem?_getD, List.getElem?_eq_getElem (by simpa using h2)]; rfl
theorem against_le {cs l : List Int} {ss : List Nat} {n : Nat} (h : SrtS cs ss) (hp : ∀ x ∈ cs, 0 < x) (h2 : 2 ≤ cs.length) (h12 : cs.length ≤ 2 ^ n) (hn1 : 1 ≤ n) (hn15 : n ≤ 15) (hl : l.length = cs.length) (hc : cs.length ≤ 400)
    (hl1 : ∀ x ∈ l, 1 ≤ x ∧ x ≤ (n : Int)) (hk : kind l ≠ 4) : costN cs (outL cs ss n) cs.length ≤ costN cs l cs.length := by
  have hsl : ss.length = cs.length := by rw [h.len, idx_all hp, List.length_range]
  have hok : okL l := fun x hx => by have := hl1 x hx; omega
  have hkr : (l.map kr).sum ≤ 32768 := by
    rw [← kraft_ok hok (by omega)]
    rcases kinds hok (by omega) with q | q | q | q | q <;> omega
  have hat : ∀ i, i < cs.length → 1 ≤ l.getD i 0 ∧ l.getD i 0 ≤ (n : Int) := fun i hi => by
    rw [List.getD_eq_getElem?_getD, List.getElem?_eq_getElem (by omega)]
    exact hl1 _ (List.getElem_mem _)
  have hle := h.srt.least (most := n) hn1 hn15 (by omega) (by omega) hl (fun i hi _ => hat i hi) (by rw [kr_sum_all h hp hl]; exact hkr) (fun i hi => by
    have := hp (cs.getD i 0) (by rw [List.getD_eq_getElem?_getD, List.getElem?_eq_getElem hi]; exact List.getElem_mem hi)
    omega)
  rw [costL_costN (out_len _ _ _), costL_costN hl] at hle
  exact hle
/-- What comes of counts that may be packed, two of them at least above 0. -/
theorem len_out {cs : List Int} {n : Nat} {w w' : World} {e : Ending} (h : LenPost cs n w e w') (hm : mayCs cs n = true) (hle : (idx cs).length ≤ 2 ^ n) : Below w.heap.size w w' ∧ ∃ A c l, e = .returned (.tuple #[.slice A cs.length c, .int .i64 0]) ∧ l.length = cs.length ∧ RowOf w' .i64 A c l ∧ (∀ ad, A = some ad → w.heap.size ≤ ad.block) ∧ if (idx cs).length < 2 then l = onesL cs else ∃ ss, SrtS cs ss ∧ l = outL cs ss n := by
  obtain ⟨hb, h⟩ := h
  rw [if_pos ⟨hm, by simpa using hle⟩] at h
  obtain ⟨A, c, l, e, hl, hr, hf, hv⟩ := h
  exact ⟨hb, A, c, l, e, hl, hr, hf, by simpa using hv⟩
theorem may_ok {cs : List Int} {n : Nat} (h1 : 1 ≤ n) (h2 : n ≤ 15) (hl : cs.length ≤ 400) (h : ∀ x ∈ cs, 0 ≤ x ∧ x ≤ 1073741824) : mayCs cs n = true := by
  unfold mayCs
  exact decide_eq_true ⟨by omega, by omega, hl, h⟩
def mk21 (l : List Int) : List Int := l.map (fun x => 1 + x % 1048576)
theorem mk21_len (l : List Int) : (mk21 l).length = l.length := by simp [mk21]
theorem mk21_snoc {l : List Int} {i : Nat} (h : i < l.length) : mk21 (l.take (i + 1)) = mk21 (l.take i) ++ [1 + l.getD i 0 % 1048576] := by
  rw [take_snoc h]; unfold mk21; rw [List.map_append]; rfl
theorem mk21_rng (l : List Int) : ∀ x ∈ mk21 l, 1 ≤ x ∧ x ≤ 1048576 := fun x hx => by
  obtain ⟨y, _, rfl⟩ := List.mem_map.1 hx
  omega
theorem outL_rng {cs : List Int} {ss : List Nat} {n : Nat} (h : SrtS cs ss) (h1 : 1 ≤ n) (h2 : 2 ≤ (idx cs).length) (hn : (idx cs).length ≤ 2 ^ n) : ∀ x ∈ outL cs ss n, 0 ≤ x ∧ x ≤ (n : Int) := fun x hx => by
  have hok := h.srt.out_ok h1 (by rw [h.len]; exact h2) (by rw [h.len]; exact hn)
  obtain ⟨i, hi, e⟩ := List.getElem_of_mem hx
  have hi' : i < cs.length := by rw [← hok.len]; exact hi
  have e2 : (outL cs ss n).getD i 0 = x := by rw [List.getD_eq_getElem?_getD, List.getElem?_eq_getElem hi]; exact e
  by_cases hp : 0 < cs.getD i 0
  · have := hok.some_ i hi' hp; omega
  · have := hok.none_ i hi' hp; omega
theorem onesL_rng (cs : List Int) : ∀ x ∈ onesL cs, 0 ≤ x ∧ x ≤ 1 := fun x hx => by
  obtain ⟨i, _, rfl⟩ := List.mem_map.1 hx
  split <;> omega
end Go.Proofs.Ytfmglcgdcdcpaaa
