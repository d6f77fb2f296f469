import Derived.Test.YteknaaijlkenkaaTabF
import Derived.Test.YteknaaijlkenkaaCanR
namespace Go.Proofs.Yteknaaijlkenkaa
set_option linter.unusedVariables false
set_option linter.unusedSimpArgs false
open Go.RowKit
attribute [local go_sem] max2i min2i max2t min2t

theorem nats_at (D : List Nat) (p : Nat) : (nats D)[p]? = D[p]?.map (fun n : Nat => (n : Int)) := by simp [nats]
theorem nats_getD (D : List Nat) {p : Nat} (h : p < D.length) : (nats D).getD p 0 = ((D.getD p 0 : Nat) : Int) := by
  rw [List.getD_eq_getElem?_getD, nats_at, List.getD_eq_getElem?_getD, List.getElem?_eq_getElem h]; rfl
theorem nats_set (D : List Nat) (p n : Nat) : (nats D).set p (n : Int) = nats (D.set p n) := by simp [nats, List.map_set]
structure DpRel (w : World) (l : List Int) (F g0 : Nat) (g : Nat) (v19 : Value) (wr : World) : Prop where mk ::
  out_ : ∃ (k : Nat) (D : List Nat), k ≤ l.length ∧ l.length ≤ g + k ∧ v19 = .int .i64 (k : Int) ∧ Own wr w.heap.size 3 (.slice (some ⟨g0, 0, none⟩) (2 ^ F) (2 ^ F)) (ints .i64 (nats D)) ∧ D.length = 2 ^ F ∧ (∀ p, D.getD p 0 ≤ 15 - F) ∧
    (∀ i, i < k → F < ln l i → ln l i - F ≤ D.getD (tc l i % 2 ^ F) 0) ∧ Below w.heap.size w wr
set_option maxHeartbeats 1600000 in
set_option maxRecDepth 100000 in
theorem tab_deep {w : World} {p F gl capl N : Nat} {fr ct : Nat → Int} {l : List Int} {A A2 : Option Addr} {c c2 : Nat} (hg : Good l) (hF1 : 1 ≤ F) (hF : F ≤ 15) (hN : N = 2 ^ F) (h : TabB w p F (.slice (some ⟨gl, 0, none⟩) N capl) fr ct)
    (hr : RowOf w .i64 A c l) (hr2 : RowOf w .u32 A2 c2 (codes l)) :
    Calls Try.prog 84 #[.pointer (some ⟨p, 0, none⟩), .slice A l.length c, .slice A2 l.length c2] w fun e w' => ∃ g cap D, e = .returned (.slice (some ⟨g, 0, none⟩) N cap) ∧ Own w' w.heap.size 3 (.slice (some ⟨g, 0, none⟩) N cap) (ints .i64 (nats D)) ∧ D.length = N ∧ (∀ p, D.getD p 0 ≤ 15 - F) ∧
      (∀ i, i < l.length → F < ln l i → ln l i - F ≤ D.getD (tc l i % 2 ^ F) 0) ∧ Below w.heap.size w w' := by
  have hm := hr.most
  have hcap := hr.cap
  have hN1 : 2 ≤ N ∧ N ≤ 32768 := by
    have h1 := Nat.pow_le_pow_right (n := 2) (by decide) hF
    have h2 := Nat.pow_le_pow_right (n := 2) (by decide) hF1
    have : 2 ^ 15 = 32768 := by decide
    omega
  obtain ⟨hN2, hN3⟩ := hN1
  have hmk := run_make1 (P := Try.prog) 97 3 (.int .i64 0) 8 Try.underlying97 Try.intinfo rfl N N (Nat.le_refl _) (by omega) (by omega)
  have f0 := TabB.first h
  have f1 := TabB.rows h
  have hpl : p < w.heap.size := Blk.lt h
  have HN := Lib.hid hN
  have ho1 : Own (w.alloc (.cells (madeCells #[.int .i64 0] N) 3)) w.heap.size 3 (.slice (some ⟨w.heap.size, 0, none⟩) N N) (ints .i64 (nats (List.replicate N 0))) := by
    have e : (ints .i64 (nats (List.replicate N 0))) = List.replicate N (.int .i64 0) := by simp [ints, nats]
    rw [e]
    refine ⟨by simp, .inr ⟨w.heap.size, N, madeCells #[.int .i64 0] N, by simp, Nat.le_refl _, heap_alloc_new w _, by simp, by simp [maxLen]; omega, by simp [madeCells], ?_⟩⟩
    rw [made_tab, List.length_replicate]
    apply List.ext_getElem
    · simp [tab]
    · intro i h1 h2
      simp [tab]
  have hB := (Below.refl w.heap.size w).alloc (Nat.le_refl _) (.cells (madeCells #[.int .i64 0] N) 3)
  clear hN
  go_enter Try.func84, Try.ntmps84
  go_wp2_with fail
  clear hmk
  generalize w.alloc (.cells (madeCells #[.int .i64 0] N) 3) = w2 at *
  go_loopg [19] l.length (DpRel w l F w.heap.size)
  case atStart => exact ⟨0, List.replicate N 0, by omega, by omega, rfl, by rw [← HN.out]; exact ho1, by simp [HN.out], fun p => by simp [List.getD_eq_getElem?_getD, List.getElem?_replicate]; split <;> simp, fun i hi => by omega, hB⟩
  case round =>
    clear ho1 hB
    obtain ⟨k, D, hk, hgk, rfl, ho, hDl, hD1, hD2, hB⟩ := hrel
    rw [← HN.out] at ho hDl
    have HD1 := Lib.hid hD1
    have HD2 := Lib.hid hD2
    have HDL := Lib.hid hDl
    clear hD1 hD2 hDl
    by_cases hlt : k < l.length
    · have hgat := hg.at_ k
      obtain ⟨x, hx⟩ : ∃ x, l[k]? = some x := ⟨_, List.getElem?_eq_getElem hlt⟩
      have hln : l.getD k 0 = x := by rw [List.getD_eq_getElem?_getD, hx]; rfl
      obtain ⟨n, hn⟩ : ∃ n, n = ln l k := ⟨_, rfl⟩
      rw [← hn] at hgat
      obtain rfl : x = n := by rw [← hln]; exact hgat.2
      obtain ⟨ad, rfl, q0⟩ := hr.rd k n hx
      have q0 := (hB.cell (World.block_lt_of_cell? w _ q0)).trans q0
      have hn15 := hgat.1
      have f0 := (hB.cell (p := ⟨p, 0, none⟩) hpl).trans f0
      clear hx hln hgat
      by_cases hnF : F < n
      · have d1 : decide ((F : Int) < n) = true := by simp; omega
        have d1' : decide (F < n) = true := by simp; omega
        obtain ⟨hco, hcl⟩ := hg.cod (j := k) (by omega)
        obtain ⟨ad2, rfl, q2⟩ := hr2.rd k (code l k) (by simp [codes, hlt])
        rw [hco] at q2
        have q2 := (hB.cell (World.block_lt_of_cell? w _ q2)).trans q2
        have htt := hg.tc_turn (j := k) (by omega)
        rw [← hn] at hcl htt
        have HT := Lib.hid (tab_turned (codeN l k) n wr hcl hn15)
        rw [← htt] at HT
        have hm1 : bits .and .u32 (tc l k : Int) ((N : Int) - 1) = ((tc l k % 2 ^ F : Nat) : Int) := by
          have := and_maskK .u32 (.inl rfl) (tc l k : Int) F (by show F ≤ 32; omega)
          rw [← HN.out, show ((N - 1 : Nat) : Int) = (N : Int) - 1 from by omega] at this
          rw [this, ← HN.out, Int.natCast_emod]
        have hpp : tc l k % 2 ^ F < N := by rw [HN.out]; exact Nat.mod_lt _ (Nat.pow_pos (by decide))
        have htl : tc l k < 2 ^ 15 := Nat.lt_of_lt_of_le (hg.tc_lt (i := k) (by omega)) (Nat.pow_le_pow_right (by decide) (by omega))
        obtain ⟨q, hq⟩ : ∃ q, tc l k % 2 ^ F = q := ⟨_, rfl⟩
        rw [hq] at hm1 hpp
        have HQQ := Lib.hid hq
        clear hq htt hcl hco
        obtain ⟨tt, htt2⟩ : ∃ tt, tc l k = tt := ⟨_, rfl⟩
        rw [htt2] at hm1 HT htl
        have HTT := Lib.hid htt2
        clear htt2
        generalize codeN l k = cc at *
        have cI := ho.cellI (i := q) (by rw [nats_length, HDL.out]; omega)
        rw [nats_getD _ (by rw [HDL.out]; exact hpp)] at cI
        have fI := ho.frozenI q
        have hDq := HD1.out q
        generalize hdq : D.getD q 0 = dq at *
        have HDQ := Lib.hid hdq
        clear hdq
        have hgs := fun (u : Nat) => ho.drew.set_ q (u : Int)
        have HGS := Lib.hid hgs
        have hpn : p ≠ w.heap.size := by omega
        have cId := (show wr.drew.cell? ⟨w.heap.size, q, none⟩ = _ from cI)
        have HNn := Lib.hid hn
        obtain ⟨u, hu⟩ : ∃ u : Nat, max (dq : Int) ((n : Int) - F) = u := ⟨max dq (n - F), by omega⟩
        have HU := Lib.hid hu
        clear hgs hn
        go_wp2_with fail
        refine HT.out.mono ?_
        rintro e w3 ⟨rfl, hw⟩
        subst hw
        go_wp2_with fail
        go_region
        go_wp2_with fail
        go_roundg (gk - 1)
        case measure => omega
        case rel =>
          have hqD : q < D.length := by rw [HDL.out]; exact hpp
          have hu := HU.out
          refine ⟨k + 1, D.set q u, by omega, by omega, by go_num, ?_, by rw [List.length_set, ← HN.out]; exact HDL.out, fun x => ?_, fun i hi h1 => ?_, below_set hB.drew (p := ⟨w.heap.size, q, none⟩) (Nat.le_refl _) _⟩
          · rw [← HN.out, ← nats_set]; exact HGS.out u
          · rw [getD_set D q x u 0 hqD]
            split
            · omega
            · exact HD1.out x
          · rw [getD_set D q _ u 0 hqD]
            by_cases e : i = k
            · subst e
              rw [if_pos HQQ.out, ← HNn.out]; omega
            · have h2 := HD2.out i (by omega) h1
              split
              · rename_i e2
                rw [e2, HDQ.out] at h2
                omega
              · exact h2
      · have d1 : decide ((F : Int) < n) = false := by simp; omega
        have d1' : decide (F < n) = false := by simp; omega
        have HNn := Lib.hid hn
        clear hn
        go_wp2_with fail
        go_roundg (gk - 1)
        case measure => omega
        case rel => exact ⟨k + 1, D, by omega, by omega, by go_num, by rw [← HN.out]; exact ho, by rw [← HN.out]; exact HDL.out, HD1.out, fun i hi h1 => by
          by_cases e : i = k
          · subst e; have := HNn.out; omega
          · exact HD2.out i (by omega) h1, hB⟩
    · have hkl : k = l.length := by omega
      subst hkl
      go_wp2_with fail
      go_ret
      exact ⟨w.heap.size, N, D, rfl, ho, HDL.out, HD1.out, HD2.out, hB⟩
end Go.Proofs.Yteknaaijlkenkaa
