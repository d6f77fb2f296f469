import Derived.Test.YtnnjpbghnfohaaaMapW
import Derived.Test.YtnnjpbghnfohaaaLzF
namespace Go.Proofs.Ytnnjpbghnfohaaa
set_option linter.unusedVariables false
set_option linter.unusedSimpArgs false
open Go.RowKit Go.MapKept
attribute [local go_sem] max2i min2i max2t min2t

def TkFine (x : Tk) : Prop := x.n ≤ 100000 ∧ x.d ≤ 100000 ∧ (Lit.int .u8 x.c).wf = true
theorem getD_wf {bs : List Int} (hwf : ∀ x ∈ bs, (Lit.int .u8 x).wf = true) (i : Nat) : (Lit.int .u8 (bs.getD i 0)).wf = true := by
  rw [List.getD_eq_getElem?_getD]
  by_cases h : i < bs.length
  · rw [List.getElem?_eq_getElem h]; exact hwf _ (List.getElem_mem h)
  · rw [List.getElem?_eq_none (by omega)]; rfl
theorem tokL_fine (bs : List Int) (hwf : ∀ x ∈ bs, (Lit.int .u8 x).wf = true) (M : Nat) (hM : M ≤ 65538) (far chain good : Int) (lazy : Bool) (hl : bs.length ≤ 30000) : ∀ k at_, bs.length - at_ ≤ k → ∀ x ∈ tokL bs M far chain good lazy at_, TkFine x
  | 0, at_, h, x, hx => by rw [tokL_end (by omega)] at hx; simp at hx
  | k + 1, at_, h, x, hx => by
    by_cases hlt : at_ < bs.length
    · by_cases h0 : lazyN bs M far chain good lazy at_ = 0
      · rw [tokL_byte hlt h0] at hx
        rcases List.mem_cons.1 hx with rfl | hx
        · exact ⟨Nat.zero_le _, Nat.zero_le _, getD_wf hwf at_⟩
        · exact tokL_fine bs hwf M hM far chain good lazy hl k _ (by omega) x hx
      · rw [tokL_match hlt rfl h0] at hx
        rcases List.mem_cons.1 hx with rfl | hx
        · obtain ⟨h1, h2⟩ := findQ_le bs M far chain good at_
          have h3 := (lazyN_cases bs M far chain good lazy at_).resolve_left h0
          exact ⟨by simp only; omega, by simp only; omega, rfl⟩
        · exact tokL_fine bs hwf M hM far chain good lazy hl k _ (by omega) x hx
    · rw [tokL_end (by omega)] at hx; simp at hx
theorem tokZ_fine (store : Bool) (bs : List Int) (hwf : ∀ x ∈ bs, (Lit.int .u8 x).wf = true) (M : Nat) (hM : M ≤ 65538) (far chain good : Int) (lazy : Bool) (hl : bs.length ≤ 30000) : ∀ x ∈ tokZ store bs M far chain good lazy 0, TkFine x := by
  cases store
  · exact tokL_fine bs hwf M hM far chain good lazy hl _ 0 (Nat.le_refl _)
  · intro x hx
    simp only [tokZ, if_true, List.drop_zero, storeL, List.mem_map] at hx
    obtain ⟨y, hy, rfl⟩ := hx
    exact ⟨Nat.zero_le _, Nat.zero_le _, hwf y hy⟩
theorem exp_tokZ (store : Bool) (bs : List Int) (wide : Bool) (M : Nat) (hM : M = if wide then 65538 else 258) (far chain good : Int) (lazy : Bool) (hl : bs.length ≤ 30000) : expand wide 1048576 ((tokZ store bs M far chain good lazy 0).map Tk.tok) 0 [] = (bs, 0, 0) := by
  cases store
  · have := exp_tokL bs wide M hM far chain good lazy 1048576 (by omega) (by omega) bs.length 0 0 (by omega) (by omega)
    rwa [List.take_zero] at this
  · have := exp_storeL wide 1048576 bs [] 0 (by simp; omega)
    simpa [tokZ] using this
theorem i64_small {n : Nat} (h : n ≤ 100000) : (Lit.int .i64 (n : Int)).wf = true := by
  simp [Lit.wf, IntKind.min, IntKind.max, IntKind.bits, IntKind.signed]; omega
theorem RdTk.rows {w : World} {A : Option Addr} {c : Nat} {xs : List Tk} (h : RdTk w A xs) (hc : xs.length ≤ c) (hm : c ≤ 9223372036854775807) (hA : A = none → c = 0) (hf : ∀ x ∈ xs, TkFine x) : RowS w 3 A c (xs.map Tk.tok) S45.enc (S45.ok w) :=
  ⟨fun i x hx => by
    rw [List.getElem?_map] at hx
    obtain ⟨y, hy, rfl⟩ := Option.map_eq_some_iff.1 hx
    obtain ⟨b, off, rfl, c0, c1, c2⟩ := h i y hy
    refine ⟨b, off, rfl, fun j v hv => ?_⟩
    match j, hv with
    | 0, hv => obtain rfl := Option.some.inj hv; exact c0
    | 1, hv => obtain rfl := Option.some.inj hv; exact c1
    | 2, hv => obtain rfl := Option.some.inj hv; exact c2
    | _ + 3, hv => simp [S45.enc] at hv, by rw [List.length_map]; exact hc, hm, fun x hx => by
    obtain ⟨y, hy, rfl⟩ := List.mem_map.1 hx
    obtain ⟨h1, h2, h3⟩ := hf y hy
    exact ⟨i64_small h1, i64_small h2, h3⟩, hA⟩
set_option maxHeartbeats 4000000 in
set_option maxRecDepth 100000 in
theorem matchExpands_walk (A : Option Addr) (c : Nat) (bs : List Int) (n : Int) (store : Bool) (chain : Int) (lazy : Bool) (good : Int) (wide : Bool) (w : World) (h00 : RowOf w .u8 A c bs) (h01 : (Lit.int .i64 n).wf = true) (h02 : (Lit.int .i64 chain).wf = true) (h03 : (Lit.int .i64 good).wf = true) :
    Calls Try.prog 5 #[.slice A bs.length c, .int .i64 n, .agg #[.bool store, .int .i64 chain, .bool lazy, .int .i64 good], .bool wide] w fun e w' => e = .returned (.bool true) ∧ Below w.heap.size w w' := by
  have ht := fun W => Lib.hid (told13 W)
  have hm := h00.most
  have hcap := h00.cap
  have hB0 := (Below.refl w.heap.size w).alloc (Nat.le_refl _) (.cells #[.bool store, .int .i64 chain, .bool lazy, .int .i64 good] 24)
  have hbx := Blk.new w 24 #[.bool store, .int .i64 chain, .bool lazy, .int .i64 good]
  have hr0 := h00.belo hB0
  by_cases h1 : 300 < bs.length
  · have h1' : decide ((300 : Int) < bs.length) = true := by simp; omega
    go_enter Try.func5, Try.ntmps5
    go_wp2_with (go_at_call 8; refine (ht _).out.mono ?_; rintro e w' ⟨rfl, hb⟩)
    go_ret
    exact ⟨rfl, hB0.trans (hb.mono hB0.size)⟩
  have h1' : decide ((300 : Int) < bs.length) = false := by simp; omega
  go_enter Try.func5, Try.ntmps5
  go_wp2_with fail
  generalize w.alloc (.cells #[.bool store, .int .i64 chain, .bool lazy, .int .i64 good] 24) = w0 at *
  refine (match_longB A c bs n w0 hr0 (by omega)).mono ?_
  rintro e w1 ⟨A', c', s, rfl, hr1, hrb1, hs1, hs2, hb1⟩
  have hx1 := hbx.below hb1 hbx.lt
  have hb01 := hB0.trans (hb1.mono hB0.size)
  obtain ⟨M, hM⟩ : ∃ M : Nat, M = if wide then 65538 else 258 := ⟨_, rfl⟩
  obtain ⟨far, hfar⟩ : ∃ far : Int, far = if wide then 65536 else 32768 := ⟨_, rfl⟩
  have hM1 : M ≤ 65538 := by rw [hM]; cases wide <;> simp
  have hLl := tokZ_len store s M far chain (max good 1) lazy
  have hLf := tokZ_fine store s hr1.wf M hM1 far chain (max good 1) lazy (by omega)
  have hLe := exp_tokZ store s wide M hM far chain (max good 1) lazy (by omega)
  have hLs : store = true → (tokZ store s M far chain (max good 1) lazy 0).length = s.length := fun e => by subst e; simp [tokZ, storeL]
  have C1 := match_tokZ A' c' s store lazy wide chain good M far hM hfar w1 hr1 (by omega)
  generalize tokZ store s M far chain (max good 1) lazy 0 = L at *
  have x0 := hx1.cell 0
  have x1 := hx1.cell 1
  have x2 := hx1.cell 2
  have x3 := hx1.cell 3
  clear hM hfar
  go_wp2_with fail
  refine C1.mono ?_
  rintro e w2 ⟨v, base, rfl, hbase, ho, hbb2⟩
  obtain ⟨A2, c2, rfl, k1, k2, k3, k4, k5⟩ := own_tk ho
  have hx2 := hx1.below hbb2 hx1.lt
  have hb02 := hb01.trans (hbb2.mono hb01.size)
  have hrb2 := hrb1.same (Same.of_below (S := fun _ => False) hbb2) (fun _ _ c => c)
  have C2 := ref_expand A2 c2 (L.map Tk.tok) wide 1048576 w2 (k3.rows k1 k2 k5 hLf) (by omega) (by omega)
  rw [hLe, List.length_map] at C2
  clear C1 ho k3 k4 hLf hLe x0 x1 x2 x3 hx1 hrb1
  go_wp2_with fail
  refine C2.mono ?_
  rintro e w3 ⟨v3, rfl, ho3, hbb3⟩
  obtain ⟨A3, c3, rfl, _, _, hrb3, _⟩ := ho3.rdb
  have hx3 := hx2.below hbb3 hx2.lt
  have hb03 := hb02.trans (hbb3.mono hb02.size)
  have hrb2 := hrb2.same (Same.of_below (S := fun _ => False) hbb3) (fun _ _ c => c)
  clear C2 ho3 hx2
  have HLS := Lib.hid hLs
  clear hLs
  cases store
  · go_wp2_with (go_at_call 8; refine (ht _).out.mono ?_; rintro e w' ⟨rfl, hb'⟩; have x0 := (hx3.below hb' hx3.lt).cell 0; have k1 := (hrb2.same (Same.of_below (S := fun _ => False) hb') (fun _ _ c => c)).to_string (P := Try.prog) (c := c') rfl Try.underlying22 Try.underlying5 Try.underlying9; have k2 := (hrb3.same (Same.of_below (S := fun _ => False) hb') (fun _ _ c => c)).to_string (P := Try.prog) (c := c3) rfl Try.underlying22 Try.underlying5 Try.underlying9)
    go_ret
    exact ⟨rfl, hb03.trans (hb'.mono hb03.size)⟩
  · have eL := HLS.out rfl
    have e5 : (((L.length : Nat) : Int) == (s.length : Int)) = true := by rw [eL]; simp
    have e6 : (L.length == s.length) = true := by rw [eL]; simp
    clear eL
    go_wp2_with (go_at_call 8; refine (ht _).out.mono ?_; rintro e w' ⟨rfl, hb'⟩; have x0 := (hx3.below hb' hx3.lt).cell 0; have k1 := (hrb2.same (Same.of_below (S := fun _ => False) hb') (fun _ _ c => c)).to_string (P := Try.prog) (c := c') rfl Try.underlying22 Try.underlying5 Try.underlying9; have k2 := (hrb3.same (Same.of_below (S := fun _ => False) hb') (fun _ _ c => c)).to_string (P := Try.prog) (c := c3) rfl Try.underlying22 Try.underlying5 Try.underlying9)
    go_ret
    exact ⟨rfl, hb03.trans (hb'.mono hb03.size)⟩
end Go.Proofs.Ytnnjpbghnfohaaa
