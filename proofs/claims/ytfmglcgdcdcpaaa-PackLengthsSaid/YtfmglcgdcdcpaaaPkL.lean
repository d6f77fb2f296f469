import Derived.Test.YtfmglcgdcdcpaaaPkN
namespace Go.Proofs.Ytfmglcgdcdcpaaa
set_option linter.unusedVariables false
set_option linter.unusedSimpArgs false
open Go.RowKit
attribute [local go_sem] max2i min2i max2t min2t

/-! ### lengths from counts (pack.Lengths) -/
def onesL (cs : List Int) : List Int := (List.range cs.length).map (fun i => if 0 < cs.getD i 0 then 1 else 0)
def cntL (n : Nat) (T : List Int) : List Int := (List.range n).map (fun i : Nat => ((T.count (i : Int) : Nat) : Int))
theorem cntL_len (n : Nat) (T : List Int) : (cntL n T).length = n := by simp [cntL]
theorem cntL_at {n i : Nat} (T : List Int) (h : i < n) : (cntL n T).getD i 0 = ((T.count (i : Int) : Nat) : Int) := by
  unfold cntL
  rw [List.getD_eq_getElem?_getD, List.getElem?_map, List.getElem?_range h]; rfl
theorem cntL_snoc {n i : Nat} (T : List Int) (h : i < n) : cntL n (T ++ [(i : Int)]) = (cntL n T).set i ((cntL n T).getD i 0 + 1) := by
  apply List.ext_getElem
  · simp [cntL]
  · intro j h1 h2
    have hj : j < n := by simpa [cntL] using h1
    rw [List.getElem_set]
    simp only [cntL, List.getElem_map, List.getElem_range]
    rw [List.count_append, List.count_singleton]
    by_cases e : i = j
    · subst e
      rw [if_pos rfl, if_pos (by simp)]
      have := cntL_at T h
      unfold cntL at this
      rw [this]; omega
    · rw [if_neg e, if_neg (by simp; omega)]; simp
theorem cntL_nil (n : Nat) : cntL n [] = List.replicate n 0 := by
  unfold cntL
  apply List.ext_getElem <;> simp
theorem out_cnt (cs : List Int) (ss : List Nat) (m : Nat) : outL cs ss m = cntL cs.length (taken cs ss m) := rfl
theorem ixs_len (l : List Nat) : (ixs l).length = l.length := by simp [ixs]
theorem ixs_perm {L : List Int} {l : List Nat} (h : L.Perm (ixs l)) : ∃ ss : List Nat, L = ixs ss ∧ ss.Perm l := by
  refine ⟨L.map Int.toNat, ?_, ?_⟩
  · unfold ixs
    rw [List.map_map]
    conv => lhs; rw [← List.map_id L]
    refine List.map_congr_left (fun x hx => ?_)
    obtain ⟨i, _, rfl⟩ := List.mem_map.1 (h.mem_iff.1 hx)
    simp
  · have := h.map Int.toNat
    unfold ixs at this
    rw [List.map_map] at this
    have e : Int.toNat ∘ (fun i : Nat => (i : Int)) = id := by funext i; simp
    rwa [e, List.map_id] at this
/-- The symbols with a count, the least first, of like ones the first. -/
structure SrtS (cs : List Int) (ss : List Nat) : Prop where
  srt : Srt cs ss
  stab : ss.Pairwise (fun i j => cs.getD i 0 < cs.getD j 0 ∨ (cs.getD i 0 = cs.getD j 0 ∧ i < j))
theorem idx_lt (cs : List Int) : (idx cs).Pairwise (· < ·) := List.Pairwise.filter _ List.pairwise_lt_range
theorem at0_ixs {ss : List Nat} {p : Nat} (h : p < ss.length) : at0 (ixs ss) p = ((ss[p] : Nat) : Int) := by
  unfold at0 ixs
  rw [List.getD_eq_getElem?_getD, List.getElem?_map, List.getElem?_eq_getElem h]; rfl
theorem idx_stab (cs : List Int) : Stab (keyc cs) (ixs (idx cs)) := fun p q hpq hq _ => by
  rw [ixs_len] at hq
  rw [at0_ixs hq, at0_ixs (by omega)]
  have := (List.pairwise_iff_getElem.1 (idx_lt cs)) p q (by omega) hq hpq
  omega
theorem srtS_of {cs : List Int} {L : List Int} (hp : L.Perm (ixs (idx cs))) (h1 : SortK (keyc cs) L 0 L.length) (h2 : Stab (keyc cs) L) : ∃ ss, L = ixs ss ∧ SrtS cs ss := by
  obtain ⟨ss, rfl, hss⟩ := ixs_perm hp
  rw [ixs_len] at h1
  have ke : ∀ p (h : p < ss.length), keyc cs (at0 (ixs ss) p) = cs.getD ss[p] 0 := fun p h => by rw [at0_ixs h]; rfl
  refine ⟨ss, rfl, ⟨hss, List.pairwise_iff_getElem.2 (fun i j hi hj hij => ?_)⟩, List.pairwise_iff_getElem.2 (fun i j hi hj hij => ?_)⟩
  · have := h1 i j (by omega) (by omega) hj
    rwa [ke i hi, ke j hj] at this
  · have a1 := h1 i j (by omega) (by omega) hj
    have a2 := h2 i j hij (by rw [ixs_len]; exact hj)
    rw [ke i hi, ke j hj] at a1 a2
    rw [at0_ixs hi, at0_ixs hj] at a2
    rcases Int.lt_or_le (cs.getD ss[i] 0) (cs.getD ss[j] 0) with c | c
    · exact .inl c
    · have : cs.getD ss[i] 0 = cs.getD ss[j] 0 := by omega
      have := a2 this
      exact .inr ⟨by omega, by omega⟩
theorem srtS_one {cs : List Int} {a b : List Nat} (h1 : SrtS cs a) (h2 : SrtS cs b) : a = b := by
  refine (h1.srt.perm.trans h2.srt.perm.symm).eq_of_pairwise (le := fun i j => cs.getD i 0 < cs.getD j 0 ∨ (cs.getD i 0 = cs.getD j 0 ∧ i < j)) (fun x y _ _ c d => ?_) h1.stab h2.stab
  rcases c with c | c <;> rcases d with d | d <;> omega
theorem lev_has {cs : List Int} {ss : List Nat} : ∀ (k : Nat) (x : Bn), x ∈ lev (sngl cs ss) k → ∀ i ∈ x.has, ∃ j ∈ ss, i = ((j : Nat) : Int)
  | 0, x, hx, i, hi => by
    obtain ⟨j, hj, rfl⟩ := List.mem_map.1 hx
    exact ⟨j, hj, by simpa using hi⟩
  | k + 1, x, hx, i, hi => by
    rcases mrg_mem.1 hx with hx | hx
    · obtain ⟨j, hj, rfl⟩ := List.mem_map.1 hx
      exact ⟨j, hj, by simpa using hi⟩
    · obtain ⟨j, hj, e⟩ := List.getElem_of_mem hx
      obtain ⟨u, v, hu, hv, e2⟩ := prs_at _ j x (by rw [List.getElem?_eq_getElem hj, e])
      subst e2
      rcases List.mem_append.1 hi with hi | hi
      · exact lev_has k u (List.mem_of_getElem? hu) i hi
      · exact lev_has k v (List.mem_of_getElem? hv) i hi
theorem BLM.keepG {w w' : World} {A : Option Addr} {c M G g : Nat} {l : List Bv} (h : BLM w A c l M G) (hs : Same (fun k => k = g) w w') (hg : g < G) (hA : ∀ ad, A = some ad → G ≤ ad.block) : BLM w' A c l M G :=
  ⟨fun i x hx => by
    obtain ⟨b, o, e, hc⟩ := h.rd i x hx
    exact ⟨b, o, e, fun j v hv => hs.cell (hc j v hv) (fun c => by have := hA _ e; simp only at this c; omega)⟩, h.cap, h.most, fun x hx => by
    have q := h.ok x hx
    refine ⟨?_, q.lo, q.len, q.w0, q.w1⟩
    by_cases h0 : x.h = []
    · have := q.row; rw [h0] at this ⊢; exact this.empty
    · exact q.row.same hs (fun ad e c => by have := q.lo h0 ad e; omega), h.nil⟩
theorem BLM.take {w : World} {A : Option Addr} {c M G : Nat} {l : List Bv} (h : BLM w A c l M G) (m : Nat) : BLM w A c (l.take m) M G :=
  ⟨fun i x hx => h.rd i x (by rw [List.getElem?_take] at hx; split at hx <;> simp_all), by have := h.cap; rw [List.length_take]; omega, h.most, fun x hx => h.ok x (List.mem_of_mem_take hx), h.nil⟩
def LenPost (cs : List Int) (most : Int) (w : World) (e : Ending) (w' : World) : Prop := Below w.heap.size w w' ∧
  if mayCs cs most = true ∧ (idx cs).length ≤ 2 ^ most.toNat then ∃ A c l, e = .returned (.tuple #[.slice A cs.length c, .int .i64 0]) ∧ l.length = cs.length ∧ RowOf w' .i64 A c l ∧ (∀ ad, A = some ad → w.heap.size ≤ ad.block) ∧ if (idx cs).length < 2 then l = onesL cs else ∃ ss, SrtS cs ss ∧ l = outL cs ss most.toNat
  else e = .returned (.tuple #[.slice none 0 0, .int .i64 1])
theorem len_bad {cs : List Int} {most : Int} {w w' : World} (h : ¬ (mayCs cs most = true ∧ (idx cs).length ≤ 2 ^ most.toNat)) (hb : Below w.heap.size w w') : LenPost cs most w (.returned (.tuple #[.slice none 0 0, .int .i64 1])) w' := ⟨hb, by rw [if_neg h]⟩
theorem len_good {cs : List Int} {most : Int} {w w' : World} {A : Option Addr} {c n : Nat} {l : List Int} (h : mayCs cs most = true ∧ (idx cs).length ≤ 2 ^ most.toNat) (hb : Below w.heap.size w w') (hl : l.length = cs.length) (hn : n = cs.length) (hr : RowOf w' .i64 A c l) (ha : ∀ ad, A = some ad → w.heap.size ≤ ad.block)
    (hv : if (idx cs).length < 2 then l = onesL cs else ∃ ss, SrtS cs ss ∧ l = outL cs ss most.toNat) : LenPost cs most w (.returned (.tuple #[.slice A n c, .int .i64 0])) w' := by
  subst hn
  exact ⟨hb, by rw [if_pos h]; exact ⟨A, c, l, rfl, hl, hr, ha, hv⟩⟩
theorem ones_none {cs : List Int} (h : idx cs = []) : onesL cs = List.replicate cs.length 0 := by
  unfold onesL
  apply List.ext_getElem
  · simp
  · intro i h1 h2
    have hi : i < cs.length := by simpa using h1
    simp only [List.getElem_map, List.getElem_range, List.getElem_replicate]
    rw [if_neg (fun c => by
      have : i ∈ idx cs := idx_mem.2 ⟨hi, c⟩
      rw [h] at this; simp at this)]
theorem ones_one {cs : List Int} {i : Nat} (h : idx cs = [i]) : onesL cs = (List.replicate cs.length 0).set i 1 := by
  unfold onesL
  apply List.ext_getElem
  · simp
  · intro j h1 h2
    have hj : j < cs.length := by simpa using h1
    rw [List.getElem_set]
    simp only [List.getElem_map, List.getElem_range, List.getElem_replicate]
    have := idx_mem (cs := cs) (i := j)
    rw [h, List.mem_singleton] at this
    by_cases e : i = j
    · rw [if_pos e, if_pos (this.1 e.symm).2]
    · rw [if_neg e, if_neg (fun c => e (this.2 ⟨hj, c⟩).symm)]
theorem rdn_block {w : World} {g : Nat} {t : TypeId} {cs : Array Value} (h : Blk w g t cs) : RdN w (some ⟨g, 0, none⟩) cs.toList := fun j u hj => ⟨g, 0, rfl, by rw [Nat.zero_add, h.cell, ← Array.getElem?_toList]; exact hj⟩
structure SgRel (w : World) (G : Nat) (cs : List Int) (ss : List Nat) (gk : Nat) (v9 v11 v45 : Value) (wr : World) : Prop where mk ::
  out_ : ∃ (j : Nat) (acc : List Bv), j ≤ ss.length ∧ ss.length ≤ gk + j ∧ v45 = .int .i64 (j : Int) ∧ acc.length = j ∧ wr.ownsRow w.heap.size 43 2 v9 acc.length (catB acc) ∧ (∀ x ∈ acc, Bv.ok 1 G wr x ∧ apartB v9 x) ∧ acc.map Bv.bn = sngl cs (ss.take j) ∧ Below w.heap.size w wr
structure LvRel (w : World) (G : Nat) (s : List Bn) (m : Nat) (gk : Nat) (v12 v63 : Value) (wr : World) : Prop where mk ::
  out_ : ∃ (k : Nat) (A : Option Addr) (c : Nat) (l : List Bv), k + 1 ≤ m ∧ m ≤ gk + k + 1 ∧ v63 = .int .i64 (k : Int) ∧ v12 = .slice A l.length c ∧ BLM wr A c l (2 ^ k) G ∧ (∀ ad, A = some ad → G ≤ ad.block) ∧ l.map Bv.bn = lev s k ∧ Below w.heap.size w wr
structure OtRel (w : World) (base g n : Nat) (lt : List Bv) (gk : Nat) (v14 v16 v77 : Value) (wr : World) : Prop where mk ::
  out_ : ∃ j : Nat, j ≤ lt.length ∧ lt.length ≤ gk + j ∧ v77 = .int .i64 (j : Int) ∧ Own wr base 3 (.slice (some ⟨g, 0, none⟩) n n) (ints .i64 (cntL n ((lt.take j).flatMap Bv.h))) ∧ ((lt.take j).flatMap Bv.h).length ≤ j * 32768 ∧ Same (fun k => k = g) w wr
structure UpRel (w : World) (base g n : Nat) (T h : List Int) (gk : Nat) (v16 v84 : Value) (wr : World) : Prop where mk ::
  out_ : ∃ r : Nat, r ≤ h.length ∧ h.length ≤ gk + r ∧ v84 = .int .i64 (r : Int) ∧ Own wr base 3 (.slice (some ⟨g, 0, none⟩) n n) (ints .i64 (cntL n (T ++ h.take r))) ∧ Same (fun k => k = g) w wr
set_option maxHeartbeats 8000000 in
set_option maxRecDepth 100000 in
theorem pack_lengths {A : Option Addr} {c : Nat} {cs : List Int} (most : Int) (hm : (Lit.int .i64 most).wf = true) (w : World) (hr : RowOf w .i64 A c cs) :
    Calls Try.prog 11 #[.slice A cs.length c, .int .i64 most] w fun e w' => LenPost cs most w e w' := by
  have hcap := hr.cap
  have hmost := hr.most
  have hb1 := Blk.new w 22 #[.slice A cs.length c]
  have hB1 := (Below.refl w.heap.size w).alloc (Nat.le_refl _) (.cells #[.slice A cs.length c] 22)
  have hsz1 : (w.alloc (.cells #[.slice A cs.length c] 22)).heap.size = w.heap.size + 1 := by simp
  have CM := Lib.hid (pack_may most hm _ (hr.belo hB1))
  have HR := Lib.hid hr
  by_cases hmc : mayCs cs most = true
  · have hfacts : 1 ≤ most ∧ most ≤ 15 ∧ cs.length ≤ 400 ∧ ∀ x ∈ cs, 0 ≤ x ∧ x ≤ 1073741824 := by unfold mayCs at hmc; simpa using hmc
    obtain ⟨hm1, hm15, hcl, hrng⟩ := hfacts
    obtain ⟨m, rfl⟩ : ∃ m : Nat, most = m := ⟨most.toNat, by omega⟩
    have hil := idx_len cs
    have HRNG := Lib.hid hrng
    have HMC := Lib.hid hmc
    clear hrng hmc hm
    go_enter Try.func11, Try.ntmps11
    go_upto_region 2 with (go_at_call 15; refine CM.out.mono ?_; rintro e w2 ⟨hB2, hm2⟩; rw [HMC.out, if_pos rfl] at hm2; obtain ⟨v2, rfl, ho2⟩ := hm2)
    have hBw2 := hB1.trans (hB2.mono hB1.size)
    have hsz2 := hB2.size
    rw [hsz1] at hsz2 ho2
    have hb2 := hb1.below hB2 (by rw [hsz1]; omega)
    have hr2 := HR.out.belo hBw2
    have k2 : w2.cell? ⟨w.heap.size, 0, none⟩ = some (.slice A cs.length c) := hb2.cell 0
    obtain ⟨Av, cv, ev, hcv, _⟩ := ho2.rd
    have hil2 : (ixs (idx cs)).length = (idx cs).length := ixs_len _
    have HO2 := Lib.hid ho2
    rw [hil2] at ev hcv
    subst ev
    by_cases hle : (idx cs).length ≤ 2 ^ m
    · have dle : decide ((idx cs).length ≤ 2 ^ m) = true := by simpa using hle
      rw [dle]
      clear dle
      have hmk := run_make1 (P := Try.prog) 22 3 (.int .i64 0) 8 Try.underlying22 Try.intinfo rfl cs.length cs.length (Nat.le_refl _) (by omega) (by omega)
      have hO3 : Own (w2.alloc (.cells (madeCells #[.int .i64 0] cs.length) 3)) w2.heap.size 3 (.slice (some ⟨w2.heap.size, 0, none⟩) cs.length cs.length) (ints .i64 (List.replicate cs.length 0)) := by
        have := Own.made w2 w2.heap.size 3 (.int .i64 0) cs.length cs.length (Nat.le_refl _) (Nat.le_refl _) (by omega)
        simpa [ints] using this
      have hB3 := hBw2.alloc hBw2.size (.cells (madeCells #[.int .i64 0] cs.length) 3)
      have hb3 := hb2.alloc (.cells (madeCells #[.int .i64 0] cs.length) 3)
      have hgood : mayCs cs (m : Int) = true ∧ (idx cs).length ≤ 2 ^ ((m : Int)).toNat := ⟨HMC.out, by simpa using hle⟩
      have HG := Lib.hid hgood
      have HM1 := Lib.hid hm1
      have HM15 := Lib.hid hm15
      clear hgood hm1 hm15
      obtain ⟨W3, hW3⟩ : ∃ W, W = w2.alloc (.cells (madeCells #[.int .i64 0] cs.length) 3) := ⟨_, rfl⟩
      have s23 : Same (fun _ => False) w2 W3 := by rw [hW3]; exact (Same.refl w2).alloc _
      rw [← hW3] at hO3 hB3 hb3
      by_cases h2 : (idx cs).length < 2
      · by_cases h0 : (idx cs).length = 0
        · have hnil : idx cs = [] := List.eq_nil_of_length_eq_zero h0
          have HV := Lib.hid (show if (idx cs).length < 2 then List.replicate cs.length (0 : Int) = onesL cs else ∃ ss, SrtS cs ss ∧ List.replicate cs.length (0 : Int) = outL cs ss ((m : Int)).toNat by rw [if_pos h2]; exact (ones_none hnil).symm)
          obtain ⟨A5, c5, e5, hr5, ha5⟩ := hO3.row (fun x hx => by rw [List.eq_of_mem_replicate hx]; rfl)
          have hA5 : ∀ ad, A5 = some ad → w.heap.size ≤ ad.block := fun ad e => by have := hO3.base_le _ (ha5 ad e); omega
          rw [List.length_replicate] at e5
          injection e5 with e5a e5b e5c
          subst e5a e5c
          rw [h0]
          subst hW3
          clear hO3 ha5 hnil h0 h2 ho2 HO2
          go_wp2_with fail
          go_ret2
          exact len_good HG.out hB3 (by simp) rfl hr5 hA5 HV.out
        · have h1 : (idx cs).length = 1 := by omega
          obtain ⟨i, hi⟩ : ∃ i, idx cs = [i] := List.length_eq_one_iff.1 h1
          have hin : i < cs.length := (idx_mem.1 (by rw [hi]; simp : i ∈ idx cs)).1
          have HV := Lib.hid (show if (idx cs).length < 2 then (List.replicate cs.length (0 : Int)).set i 1 = onesL cs else ∃ ss, SrtS cs ss ∧ (List.replicate cs.length (0 : Int)).set i 1 = outL cs ss ((m : Int)).toNat by rw [if_pos h2]; exact (ones_one hi).symm)
          rw [h1] at ho2 HO2 ⊢
          obtain ⟨g, cap, hv, hgb, hgl⟩ := World.ownsRow.form HO2.out (by rw [ints_length, ixs_len, h1]; decide)
          injection hv with hv1 hv2 hv3
          subst hv1 hv3
          clear hv2
          rw [hi] at ho2
          have ki : w2.cell? ⟨g, 0, none⟩ = some (.int .i64 (i : Int)) := ho2.cellI (i := 0) (by simp [ixs])
          have k3 := s23.cell ki (fun c => c)
          have ho5 := hO3.set_ i 1
          have hc3 : W3.cell? ⟨w2.heap.size, i, none⟩ = some (.int .i64 ((List.replicate cs.length (0 : Int)).getD i 0)) := hO3.cellI (by simpa using hin)
          have hf3 := hO3.frozenI i
          generalize (List.replicate cs.length (0 : Int)).getD i 0 = old at *
          have hwf5 : ∀ x ∈ (List.replicate cs.length (0 : Int)).set i 1, (Lit.int .i64 x).wf = true := fun x hx => by
            rcases List.mem_or_eq_of_mem_set hx with hx | hx
            · rw [List.eq_of_mem_replicate hx]; rfl
            · rw [hx]; rfl
          obtain ⟨A5, c5, e5, hr5, ha5⟩ := ho5.row hwf5
          have hA5 : ∀ ad, A5 = some ad → w.heap.size ≤ ad.block := fun ad e => by have := ho5.base_le _ (ha5 ad e); omega
          rw [List.length_set, List.length_replicate] at e5
          injection e5 with e5a e5b e5c
          subst e5a e5c
          have hB5 : Below w.heap.size w (W3.setCell ⟨w2.heap.size, i, none⟩ (.int .i64 1)) := hB3.setCell (by simp; omega) _
          have hin2 : (i : Int) < cs.length := by omega
          clear hO3 ha5 hi h1 h0 h2 ho2 HO2 ho5 hwf5 s23
          go_upto_region 5 with fail
          rw [← hW3]
          clear hW3 hmk
          go_wp2_with fail
          go_ret2
          exact len_good HG.out hB5 (by simp) rfl hr5 hA5 HV.out
      · obtain ⟨g, cap, hv, hgb, hgl⟩ := World.ownsRow.form HO2.out (by rw [ints_length, ixs_len]; omega)
        injection hv with hv1 hv2 hv3
        subst hv1 hv3
        clear hv2
        have hn2 : 2 ≤ (idx cs).length := by omega
        have hok3 : CmpOk W3 (w.heap.size + 1) w.heap.size A c cs := by
          refine ⟨hb3, HR.out.belo hB3, by omega, fun h0 ad e => by have := HR.out.lt h0 ad e; omega, HRNG.out⟩
        have hri : RowIn W3 (w.heap.size + 1) g (idx cs).length cv cs.length (ixs (idx cs)) := by
          refine ⟨?_, hil2, hcv, fun x hx => ?_⟩
          · have := HO2.out.kept s23 (fun _ _ c => c)
            exact this
          · obtain ⟨i, hi, rfl⟩ := List.mem_map.1 hx
            have := (idx_mem.1 hi).1
            omega
        have CS := sort_stable hok3 hri (by omega)
        unfold cmpV at CS
        have CS := Lib.hid CS
        have d1 : ((idx cs).length == 1) = false := by rw [beq_eq_false_iff_ne]; omega
        have d1' : (((idx cs).length : Int) == 1) = false := by rw [beq_eq_false_iff_ne]; omega
        have d2 : decide (((idx cs).length : Int) < 2) = false := by simp; omega
        have HIL := Lib.hid hil2
        rw [hW3] at CS
        clear h2 hil2 ho2
        generalize hN : (idx cs).length = N at *
        have d3 : decide (N < 2) = false := by simp; omega
        have hn1 : ¬ N = 1 := by omega
        have hn1' : ¬ (N : Int) = 1 := by omega
        go_wp2_with (go_at_call 16; refine CS.out.mono ?_; rintro e w4 ⟨rfl, L4, hr4, hsh4, hso4, hs4⟩)
        subst hW3
        have hB4 : Below w.heap.size w w4 := hs4.below_of hB3 hB3.size (fun k hk e => by omega)
        have hL4 := hsh4.len
        obtain ⟨ss, rfl, hss⟩ := srtS_of (cs := cs) hsh4.perm (by rw [hL4, HIL.out]; exact hso4) (hsh4.stab (idx_stab cs))
        have hsl : ss.length = N := by rw [← ixs_len ss, hL4, HIL.out]
        have hok4 := hok3.kept hs4 (fun k e => by rw [e]; exact hgb)
        have ho4 := hO3.kept hs4 (fun q hq e => by
          have e1 : w2.heap.size = q := by simpa [Value.ownBlock] using hq
          rw [e] at e1
          omega)
        have hgl4 : g < w4.heap.size := by have := hs4.size; simp at this; omega
        have hout4 : w2.heap.size < w4.heap.size := by have := hs4.size; simp at this; omega
        have HSS := Lib.hid hss
        have HSL := Lib.hid hsl
        have HO4 := Lib.hid ho4
        have HB4 := Lib.hid hB4
        clear hs4 hso4 hsh4 hL4 hss CS HIL hri hO3 hB3 hb3 s23 hmk hok3
        go_loopg [9, 11, 45] N (SgRel w4 w4.heap.size cs ss)
        case atStart => exact ⟨⟨0, [], by omega, by omega, rfl, rfl, ⟨by simp [catB], .inl ⟨rfl, rfl⟩⟩, by simp, by simp [sngl], Below.refl _ _⟩⟩
        case round =>
          obtain ⟨j, acc, hj, hgj, rfl, hal, ho, hok, hac, hbl⟩ := hrel.out_
          clear hrel
          by_cases hlt : j < N
          · have e1 : decide (j < N) = true := by simpa using hlt
            have hjs : j < ss.length := by omega
            obtain ⟨i, hi⟩ : ∃ i, ss[j] = i := ⟨_, rfl⟩
            have hat : at0 (ixs ss) j = ((i : Nat) : Int) := by rw [at0_ixs hjs, hi]
            obtain ⟨hin, hip⟩ := HSS.out.srt.mem.1 (hi ▸ List.getElem_mem hjs)
            have s4r : Same (fun _ => False) w4 wr := Same.of_below hbl
            have kj := (hr4.same s4r).cell (p := j) (by omega)
            rw [hat] at kj
            have hokr := hok4.kept s4r (fun _ c => c.elim)
            have kb := hokr.blk.cell 0
            have gx : cs[i]? = some (cs.getD i 0) := by rw [List.getD_eq_getElem?_getD, List.getElem?_eq_getElem hin]; rfl
            obtain ⟨ad, eA, kc⟩ := hokr.row.rd i _ gx
            have hxr := hokr.at_ i
            have htk : sngl cs (ss.take (j + 1)) = sngl cs (ss.take j) ++ [⟨cs.getD i 0, [(i : Int)]⟩] := by
              rw [List.take_succ_eq_append_getElem hjs, hi]
              unfold sngl
              rw [List.map_append]; rfl
            have HTK := Lib.hid htk
            have hin2 : (i : Int) < cs.length := by omega
            have hwr := hbl.size
            have HOK := Lib.hid hok
            have HAC := Lib.hid hac
            have lit := RowOf.lit wr .i64 3 [(i : Int)] (fun y hy => by rw [List.mem_singleton] at hy; subst hy; simp [Lit.wf, IntKind.min, IntKind.max, IntKind.bits, IntKind.signed]; omega) (by simp)
            have hnx : RdN ((wr.alloc (.cells #[.int .i64 (i : Int)] 3)).alloc (.cells #[.int .i64 (cs.getD i 0), .slice (some ⟨wr.heap.size, 0, none⟩) 1 1] 43)) (some ⟨wr.heap.size + 1, 0, none⟩) [.int .i64 (cs.getD i 0), .slice (some ⟨wr.heap.size, 0, none⟩) 1 1] := by
              have hb := Blk.new (wr.alloc (.cells #[.int .i64 (i : Int)] 3)) 43 #[.int .i64 (cs.getD i 0), .slice (some ⟨wr.heap.size, 0, none⟩) 1 1]
              have e : (wr.alloc (.cells #[.int .i64 (i : Int)] 3)).heap.size = wr.heap.size + 1 := by simp
              rw [e] at hb
              exact rdn_block hb
            subst eA
            have ho7 := ownsRow_kept2 ho (((Same.refl (S := fun _ => False) wr).alloc (.cells #[.int .i64 (i : Int)] 3)).alloc (.cells #[.int .i64 (cs.getD i 0), .slice (some ⟨wr.heap.size, 0, none⟩) 1 1] 43))
            have hal2 : acc.length ≤ 400 := by omega
            generalize hcx : cs.getD i 0 = cx at *
            clear hat hjs hi gx htk hok hac hokr
            go_wp2_with (at_builtin; go_loud (refine wpList_appN w4.heap.size rfl (.tmp 49) (.tmp 57) 41 43 (.agg #[.int .i64 0, .slice none 0 0]) 2 32 rfl Try.underlying41 Try.bvinfo rfl (by decide) u9 acc.length (catB acc) (some ⟨wr.heap.size + 1, 0, none⟩) 1 1 [.int .i64 cx, .slice (some ⟨wr.heap.size, 0, none⟩) 1 1] rfl rfl rfl hnx (by simp) (by simp [Value.oneCell']) ho7 (by simp; omega) (by omega) (by omega) ?_); intro v9 w9 ho9 hs9 hat9)
            have S9 : Same (fun k => u9.ownBlock = some k) wr w9 := (((Same.refl wr).alloc _).alloc _).then hs9
            have B9 := S9.below_of hbl hwr (fun k hk e => by have := ownsRow_ge2 ho k e; omega)
            have hlo : ∀ k, u9.ownBlock = some k → k < wr.heap.size := fun k e => ownsRow_lt2 ho k e
            have hg9' : ∀ k, v9.ownBlock = some k → u9.ownBlock = some k ∨ wr.heap.size + 2 ≤ k := fun k e => by
              rcases hat9 with h | h
              · exact .inl (by rw [← h]; exact e)
              · right
                rw [h] at e
                injection e with e
                simp at e
                omega
            have hr9 : RowOf w9 .i64 (some ⟨wr.heap.size, 0, none⟩) 1 [(i : Int)] := lit.same (S := fun k => u9.ownBlock = some k) (((Same.refl _).alloc _).then hs9) (fun ad e c => by
              injection e with e
              subst e
              have := hlo _ c
              simp at this)
            have hok10 : ∀ z ∈ acc ++ [(⟨cx, some ⟨wr.heap.size, 0, none⟩, 1, [(i : Int)]⟩ : Bv)], Bv.ok 1 w4.heap.size w9 z ∧ apartB v9 z := fun z hz => by
              rcases List.mem_append.1 hz with hz | hz
              · obtain ⟨q1, q2⟩ := HOK.out z hz
                refine ⟨⟨?_, q1.lo, q1.len, q1.w0, q1.w1⟩, fun hn ad e c => ?_⟩
                · by_cases h0 : z.h = []
                  · have := q1.row; rw [h0] at this ⊢; exact this.empty
                  · exact q1.row.same S9 (fun ad e => q2 h0 ad e)
                · rcases hg9' _ c with c | c
                  · exact q2 hn ad e c
                  · have := q1.row.lt hn ad e
                    omega
              · rw [List.mem_singleton] at hz
                subst hz
                refine ⟨⟨hr9, fun _ ad e => by injection e with e; subst e; exact hwr, by simp, hxr.1, by simp only; omega⟩, fun hn ad e c => ?_⟩
                injection e with e
                subst e
                rcases hg9' _ c with c | c
                · have := hlo _ c; simp at this
                · simp at c; omega
            have ho10 : w9.ownsRow w4.heap.size 43 2 v9 (acc ++ [(⟨cx, some ⟨wr.heap.size, 0, none⟩, 1, [(i : Int)]⟩ : Bv)]).length (catB (acc ++ [(⟨cx, some ⟨wr.heap.size, 0, none⟩, 1, [(i : Int)]⟩ : Bv)])) := by rw [catB_snoc, List.length_append]; exact ho9
            go_roundg (gk - 1)
            case measure => omega
            case rel => exact ⟨⟨j + 1, _, by omega, by omega, by go_num, by rw [List.length_append, hal]; rfl, ho10, hok10, by rw [List.map_append, HAC.out, HTK.out]; rfl, B9⟩⟩
          · have e1 : decide (j < N) = false := by simpa using hlt
            have hjN : j = N := by omega
            subst hjN
            have hacs : acc.map Bv.bn = sngl cs ss := by rw [hac, List.take_of_length_le (by rw [HSL.out]; exact Nat.le_refl _)]
            obtain ⟨A1, c1, rfl, hS, hfr⟩ := own_BLM ho (fun x hx => (hok x hx).1)
            rw [hal]
            have HAL := Lib.hid hal
            have HACS := Lib.hid hacs
            have hal2 : acc.length ≤ 400 := by omega
            have s4r : Same (fun _ => False) w4 wr := Same.of_below hbl
            clear hacs hac hok ho hal
            obtain ⟨M1, hM1⟩ : ∃ M1, m = M1 + 1 := ⟨m - 1, by have := HM1.out; omega⟩
            have hM14 : M1 ≤ 14 := by have := HM15.out; omega
            have em : (m : Int) - 1 = (M1 : Int) := by omega
            have HMM := Lib.hid hM1
            have hB5 : Below w.heap.size w wr := HB4.out.trans (hbl.mono HB4.out.size)
            have HB5 := Lib.hid hB5
            have hG5 := hbl.size
            clear hM1 hB5
            go_wp2_with fail
            go_loopg [12, 63] M1 (LvRel wr w4.heap.size (sngl cs ss) (M1 + 1))
            case atStart => exact ⟨⟨0, A1, c1, acc, by omega, by omega, rfl, by rw [HAL.out], hS.mono (Nat.le_refl _), hfr, HACS.out, Below.refl _ _⟩⟩
            case round =>
              rename World => wi
              rename Nat => gq
              obtain ⟨k, Al, cl, l, hk1, hgq, rfl, rfl, hl, hfl, hlv, hbi⟩ := hrel.out_
              clear hrel
              have hll : l.length ≤ 800 := by
                have h1 := congrArg List.length hlv
                rw [List.length_map] at h1
                have h2 := lev_most (sngl cs ss) k
                rw [sngl_len, HSL.out] at h2
                omega
              have hzi := hbi.size
              by_cases hkM : k < M1
              · have e3 : decide (k < M1) = true := by simpa using hkM
                have h2k : 2 ^ k ≤ 2 ^ 14 := Nat.pow_le_pow_right (by decide) (by omega)
                have CP := Lib.hid (pack_pairs wi (G := w4.heap.size) (by omega) (by omega : 2 ^ k ≤ 32768) hl (by omega))
                have HLV := Lib.hid hlv
                have HL2 := Lib.hid h2k
                clear hlv h2k
                go_wp2_with (first
                  | (go_at_call 19; refine CP.out.mono ?_; rintro e w6 ⟨A6, c6, l6, rfl, hp6, hm6, hb6, hf6⟩; have B6 := hbi.trans (hb6.mono hzi); have hl6 : l6.length ≤ 800 := by (have h1 := congrArg List.length hm6; rw [List.length_map, prs_len, List.length_map] at h1; omega))
                  | (go_at_call 18; have CG := pack_merged w6 ((hS.mono (by have : 0 < 2 ^ k := Nat.pow_pos (by decide); omega : 1 ≤ 2 * 2 ^ k)).belo B6) hp6 (by omega); rw [HAL.out] at CG; refine CG.mono ?_; rintro e w7 ⟨A7, c7, l7, rfl, hp7, hm7, hb7, hf7⟩; have B7 := B6.trans (hb7.mono B6.size))
                  | fail)
                go_roundg (gq - 1)
                case measure => omega
                case rel =>
                  refine ⟨⟨k + 1, A7, c7, l7, by omega, by omega, by go_num, rfl, ?_, fun ad e => by have := hf7 ad e; have := B6.size; omega, ?_, B7⟩⟩
                  · rw [Nat.pow_succ, Nat.mul_comm]; exact hp7
                  · rw [hm7, hm6, HACS.out, HLV.out, lev]
              · have e3 : decide (k < M1) = false := by simpa using hkM
                have hkM1 : k = M1 := by omega
                subst hkM1
                have hroom := lev_room (sngl cs ss) k 2 (by rw [sngl_len, HSL.out]; have := hle; rw [HMM.out, Nat.pow_succ] at this; omega)
                rw [sngl_len, HSL.out] at hroom
                have hlen : (lev (sngl cs ss) k).length = l.length := by rw [← hlv, List.length_map]
                rw [hlen] at hroom
                obtain ⟨R, hR⟩ : ∃ R, 2 * j - 2 = R := ⟨_, rfl⟩
                have eR : 2 * (j : Int) - 2 = (R : Int) := by omega
                have hRl : R ≤ l.length := by omega
                have hcl2 := hl.cap
                have hlt := hl.take R
                have hltl : (l.take R).length = R := by rw [List.length_take]; omega
                have htk : (l.take R).flatMap Bv.h = taken cs ss m := by
                  unfold taken
                  rw [HMM.out, Nat.add_sub_cancel, ← hlv, HSL.out, hR, ← List.map_take, List.flatMap_map]
                  rfl
                have hmem : ∀ x ∈ l.take R, ∀ i ∈ x.h, ∃ q : Nat, i = (q : Int) ∧ q < cs.length := fun x hx i hi => by
                  have hx' : x.bn ∈ lev (sngl cs ss) k := by rw [← hlv]; exact List.mem_map_of_mem (List.mem_of_mem_take hx)
                  obtain ⟨q, hq, e⟩ := lev_has k x.bn hx' i hi
                  exact ⟨q, e, (HSS.out.srt.mem.1 hq).1⟩
                have h2k : 2 ^ k ≤ 2 ^ 14 := Nat.pow_le_pow_right (by decide) (by omega)
                have hB6 : Below w.heap.size w wi := HB5.out.trans (hbi.mono HB5.out.size)
                have s4i : Same (fun _ => False) w4 wi := (Same.of_below hbl).then (Same.of_below hbi)
                have ho6 := HO4.out.kept s4i (fun _ _ c => c)
                have hzz := s4i.size
                have hout6 : w2.heap.size < w4.heap.size := by omega
                rw [← cntL_nil] at ho6
                have HTK := Lib.hid htk
                have HMEM := Lib.hid hmem
                have H2K := Lib.hid h2k
                have HB6 := Lib.hid hB6
                have l1 : (R : Int) ≤ (cl : Int) := by omega
                clear htk hmem h2k hB6 hroom hlen hlv hS hfr
                generalize l.take R = lt at *
                go_wp2_with fail
                clear hr4 hok4 hl
                go_loopg [14, 16, 77] R (OtRel wi w2.heap.size w2.heap.size cs.length lt)
                case atStart => exact ⟨⟨0, by omega, by omega, rfl, by simpa using ho6, by simp, Same.refl _⟩⟩
                case round =>
                  rename World => wj
                  rename Nat => gz
                  obtain ⟨q, hq, hgz, rfl, hoq, hTl, hsq⟩ := hrel.out_
                  clear hrel ho6
                  have hltq := hlt.keepG hsq hout6 hfl
                  by_cases hqR : q < R
                  · have e5 : decide (q < R) = true := by simpa using hqR
                    obtain ⟨b, o, eA, ka, kb⟩ := hltq.at_ (i := q) (by omega)
                    have hokx := hltq.ok lt[q] (List.getElem_mem _)
                    have hmx := HMEM.out lt[q] (List.getElem_mem _)
                    have htq : lt.take (q + 1) = lt.take q ++ [lt[q]] := List.take_succ_eq_append_getElem (by omega)
                    generalize lt[q] = x at *
                    subst eA
                    have hqR2 : (q : Int) < R := by omega
                    have HTQ := Lib.hid htq
                    have HMX := Lib.hid hmx
                    clear hmx htq
                    go_wp2_with fail
                    have hs1 : Same (fun k => k = w2.heap.size) wi (wj.alloc (.cells #[.int .i64 x.w, .slice x.a x.h.length x.c] 43)) := hsq.alloc _
                    have hrx := hokx.row.same (S := fun _ => False) ((Same.refl wj).alloc (.cells #[.int .i64 x.w, .slice x.a x.h.length x.c] 43)) (fun _ _ c => c)
                    have hoq1 := hoq.alloc (.cells #[.int .i64 x.w, .slice x.a x.h.length x.c] 43)
                    have hxl : x.h.length ≤ 16384 := Nat.le_trans hokx.len H2K.out
                    have hxlo := hokx.lo
                    obtain ⟨T, hT⟩ : ∃ T, (lt.take q).flatMap Bv.h = T := ⟨_, rfl⟩
                    rw [hT] at hoq1 hTl
                    have HT := Lib.hid hT
                    clear hokx hoq hltq ka kb hT
                    generalize wj.alloc (.cells #[.int .i64 x.w, .slice x.a x.h.length x.c] 43) = W1 at *
                    go_loopg [16, 84] x.h.length (UpRel W1 w2.heap.size w2.heap.size cs.length T x.h)
                    case atStart => exact ⟨⟨0, by omega, by omega, rfl, by simpa using hoq1, Same.refl _⟩⟩
                    case round =>
                      rename World => wk
                      rename Nat => gy
                      obtain ⟨r, hr, hgy, rfl, hor, hsr⟩ := hrel.out_
                      clear hrel hoq1
                      by_cases hrx2 : r < x.h.length
                      · have e6 : decide (r < x.h.length) = true := by simpa using hrx2
                        obtain ⟨bx, ox, hxa⟩ := hrx.addr (fun e => by rw [e] at hrx2; simp at hrx2)
                        have hge := hxlo (fun e => by rw [e] at hrx2; simp at hrx2) _ hxa
                        have hxg : x.h[r]? = some x.h[r] := List.getElem?_eq_getElem hrx2
                        obtain ⟨i, hi, hin⟩ := HMX.out x.h[r] (List.getElem_mem _)
                        obtain ⟨ad, e7, hcx⟩ := hrx.rd r _ hxg
                        rw [hxa] at e7
                        cases e7
                        rw [Addr.add_lit, hi] at hcx
                        have hcx := hsr.cell hcx (by simp only; simp only at hge; omega)
                        have htr : x.h.take (r + 1) = x.h.take r ++ [(i : Int)] := by rw [List.take_succ_eq_append_getElem hrx2, hi]
                        have hci := hor.cellI (i := i) (by rw [cntL_len]; exact hin)
                        have hfi := hor.frozenI i
                        have hst := hor.set_ i ((cntL cs.length (T ++ x.h.take r)).getD i 0 + 1)
                        rw [← cntL_snoc _ hin, List.append_assoc, ← htr] at hst
                        have hcnt := cntL_at (T ++ x.h.take r) hin
                        have hcle := List.count_le_length (a := (i : Int)) (l := T ++ x.h.take r)
                        rw [List.length_append, List.length_take] at hcle
                        obtain ⟨C, hC⟩ : ∃ C : Nat, (T ++ x.h.take r).count (i : Int) = C := ⟨_, rfl⟩
                        rw [hC] at hcnt hcle
                        rw [hcnt] at hci hst
                        have hCb : C ≤ 100000000 := by omega
                        have hin3 : (i : Int) < cs.length := by omega
                        have hrx3 : (r : Int) < x.h.length := by omega
                        have HST := Lib.hid hst
                        have hs5 : Same (fun k => k = w2.heap.size) W1 (wk.setCell ⟨w2.heap.size, i, none⟩ (.int .i64 ((C : Int) + 1))) := hsr.set_ (p := ⟨w2.heap.size, i, none⟩) (fun _ => rfl) _
                        clear hst hcnt hC htr hxg hi hor
                        rw [hxa]
                        go_wp2_with fail
                        rw [← hxa]
                        go_roundg (gy - 1)
                        case measure => omega
                        case rel => exact ⟨⟨r + 1, by omega, by omega, by go_num, HST.out, hs5⟩⟩
                      · have e6 : decide (r < x.h.length) = false := by simpa using hrx2
                        have hrl : r = x.h.length := by omega
                        rw [List.take_of_length_le (by omega : x.h.length ≤ r)] at hor
                        have hTT : (lt.take (q + 1)).flatMap Bv.h = T ++ x.h := by rw [HTQ.out, List.flatMap_append, HT.out]; simp
                        have HTT := Lib.hid hTT
                        have HOR := Lib.hid hor
                        clear hTT hor
                        go_wp2_with fail
                        go_roundg (gz - 1)
                        case measure => omega
                        case rel => exact ⟨⟨q + 1, by omega, by omega, by go_num, by rw [HTT.out]; exact HOR.out, by rw [HTT.out, List.length_append]; omega, hs1.then hsr⟩⟩
                  · have e5 : decide (q < R) = false := by simpa using hqR
                    have hqe : lt.length ≤ q := by omega
                    rw [List.take_of_length_le hqe, HTK.out, ← out_cnt] at hoq
                    have hwf : ∀ z ∈ outL cs ss m, (Lit.int .i64 z).wf = true := fun z hz => by
                      rw [out_cnt] at hz
                      obtain ⟨i, hi, rfl⟩ := List.mem_map.1 hz
                      have := List.count_le_length (a := (i : Int)) (l := taken cs ss m)
                      rw [← HTK.out] at this ⊢
                      rw [List.take_of_length_le hqe] at hTl
                      simp [Lit.wf, IntKind.min, IntKind.max, IntKind.bits, IntKind.signed]
                      omega
                    obtain ⟨A5, c5, e7, hr5, ha5⟩ := hoq.row hwf
                    have hA5 : ∀ ad, A5 = some ad → w.heap.size ≤ ad.block := fun ad e => by have := hoq.base_le _ (ha5 ad e); omega
                    rw [out_len] at e7
                    injection e7 with e7a e7b e7c
                    subst e7a e7c
                    have hBj : Below w.heap.size w wj := hsq.below_of HB6.out HB6.out.size (fun k hk e => by omega)
                    have HV := Lib.hid (show if (idx cs).length < 2 then outL cs ss m = onesL cs else ∃ s', SrtS cs s' ∧ outL cs ss m = outL cs s' ((m : Int)).toNat from by
                      rw [if_neg (by omega)]
                      exact ⟨ss, HSS.out, by simp⟩)
                    clear hoq ha5 hwf
                    go_wp2_with fail
                    go_ret2
                    exact len_good (by rw [hN]; exact HG.out) hBj (out_len _ _ _) rfl hr5 hA5 HV.out
    · have dle : decide ((idx cs).length ≤ 2 ^ m) = false := by simpa using hle
      rw [dle]
      clear dle
      have HN := Lib.hid (fun W (hb : Below w.heap.size w W) => len_bad (cs := cs) (most := (m : Int)) (w := w) (w' := W) (fun c => hle (by simpa using c.2)) hb)
      clear hle
      go_wp2_with fail
      go_ret2
      exact HN.out _ hBw2
  · have HN := Lib.hid (fun W (hb : Below w.heap.size w W) => len_bad (cs := cs) (most := most) (w := w) (w' := W) (fun c => hmc c.1) hb)
    have HMC := Lib.hid hmc
    clear hmc hr hm
    go_enter Try.func11, Try.ntmps11
    go_wp2_with (go_at_call 15; refine CM.out.mono ?_; rintro e w2 ⟨hB2, hm2⟩; rw [if_neg HMC.out] at hm2; subst hm2)
    go_ret2
    exact HN.out _ (hB1.trans (hB2.mono hB1.size))
end Go.Proofs.Ytfmglcgdcdcpaaa
