import Derived.Test.YteknaaijlkenkaaTabM
namespace Go.Proofs.Yteknaaijlkenkaa
set_option linter.unusedVariables false
set_option linter.unusedSimpArgs false
open Go.RowKit
attribute [local go_sem] max2i min2i max2t min2t

def flat (P : List Pl) : List Value := P.flatMap fun x => [.int .i64 x.k, .int .i64 x.s, .int .i64 x.n]
theorem flat_length (P : List Pl) : (flat P).length = P.length * 3 := by
  unfold flat
  induction P with
  | nil => rfl
  | cons x P ih => rw [List.flatMap_cons, List.length_append, ih, List.length_cons]; simp; omega
theorem flat_at : ∀ {P : List Pl} {q : Nat}, q < P.length → (flat P)[q * 3]? = some (.int .i64 (pg P q).k) ∧ (flat P)[q * 3 + 1]? = some (.int .i64 (pg P q).s) ∧ (flat P)[q * 3 + 2]? = some (.int .i64 (pg P q).n)
  | [], _, h => by simp at h
  | x :: P, 0, _ => ⟨rfl, rfl, rfl⟩
  | x :: P, q + 1, h => by
    have ih := flat_at (P := P) (q := q) (by simpa using h)
    have e : flat (x :: P) = .int .i64 x.k :: .int .i64 x.s :: .int .i64 x.n :: flat P := rfl
    rw [e, show (q + 1) * 3 = q * 3 + 3 from by omega, show q * 3 + 3 + 1 = (q * 3 + 1) + 3 from by omega, show q * 3 + 3 + 2 = (q * 3 + 2) + 3 from by omega]
    exact ih
structure TabAt (w : World) (base p F : Nat) (v : Value) (P : List Pl) (fr ct : Nat → Int) : Prop where
  pb : TabB w p F v fr ct
  row : w.ownsRow base 134 3 v P.length (flat P)
theorem ownsRow_kept {S : Nat → Prop} {w w' : World} {base : Nat} {e : TypeId} {m : Nat} {v : Value} {n : Nat} {xs : List Value} (h : w.ownsRow base e m v n xs) (hs : Same S w w') (hv : ∀ g, v.ownBlock = some g → ¬ S g) : w'.ownsRow base e m v n xs := by
  obtain ⟨h1, h2⟩ := h
  refine ⟨h1, ?_⟩
  rcases h2 with h2 | ⟨g, cap, cur, rfl, hb, hh, r⟩
  · exact .inl h2
  · exact .inr ⟨g, cap, cur, rfl, hb, (hs.block g (Array.getElem?_eq_some_iff.1 hh).1 (hv g rfl)).trans hh, r⟩
section
variable {w w' : World} {base p F : Nat} {v : Value} {P : List Pl} {fr ct : Nat → Int}
theorem TabAt.kept {S : Nat → Prop} (h : TabAt w base p F v P fr ct) (hs : Same S w w') (hp : ¬ S p) (hv : ∀ g, v.ownBlock = some g → ¬ S g) : TabAt w' base p F v P fr ct := ⟨Blk.same h.pb hs hp, ownsRow_kept h.row hs hv⟩
theorem TabAt.same (h : TabAt w base p F v P fr ct) (hs : Same (fun _ => False) w w') : TabAt w' base p F v P fr ct := h.kept hs (fun c => c) (fun _ _ c => c)
theorem TabAt.form (h : TabAt w base p F v P fr ct) (h0 : 0 < P.length) : ∃ g cap, v = .slice (some ⟨g, 0, none⟩) P.length cap ∧ P.length ≤ cap ∧ cap ≤ 9223372036854775807 ∧ base ≤ g ∧ g < w.heap.size ∧ g ≠ p ∧
    ∀ q, q < P.length → w.cell? ⟨g, q * 3, none⟩ = some (.int .i64 (pg P q).k) ∧ w.cell? ⟨g, q * 3 + 1, none⟩ = some (.int .i64 (pg P q).s) ∧ w.cell? ⟨g, q * 3 + 2, none⟩ = some (.int .i64 (pg P q).n) := by
  have hr := h.row
  rcases h.row.2 with ⟨e, hn⟩ | ⟨g, cap, cur, rfl, hbg, hg, hnc, hcm, _, _⟩
  · omega
  · refine ⟨g, cap, rfl, hnc, by simpa [maxLen] using hcm, hbg, (Array.getElem?_eq_some_iff.1 hg).1, fun e => ?_, fun q hq => ?_⟩
    · have := Blk.ne_ (t := 134) hg h.pb (by decide)
      exact this e
    · have hc := fun j u hu => World.ownsRow.cells hr (g := g) rfl j u hu
      obtain ⟨a, b, c⟩ := flat_at hq
      have h1 := hc _ _ a
      have h2 := hc _ _ b
      have h3 := hc _ _ c
      rw [Addr.add_lit, Nat.zero_add] at h1 h2 h3
      exact ⟨h1, h2, h3⟩
end
structure TFin (l : List Int) (F : Nat) (P : List Pl) (fr ct : Nat → Int) : Prop where
  good : Good l
  lo : 1 ≤ F
  hi : F ≤ 15
  inv : ∃ D, TInv l F D l.length l.length P ∧ ∀ p, p < 2 ^ F → D.getD p 0 ≤ 15
  fr : ∀ k, 1 ≤ k → k ≤ 15 → 0 < cnt l k → fr k = nxt l k
  ct : ∀ k, 1 ≤ k → k ≤ 15 → ct k = cnt l k
theorem mask_u32 (x n : Nat) (hn : n ≤ 31) : bits .and .u32 (x : Int) ((2 ^ n - 1) % 4294967296) = ((x % 2 ^ n : Nat) : Int) := by
  have hp := Nat.pow_le_pow_right (n := 2) (by decide) hn
  have h0 : 0 < 2 ^ n := Nat.pow_pos (by decide)
  have e : ((2 : Int) ^ n - 1) % 4294967296 = ((2 ^ n - 1 : Nat) : Int) := by
    have : ((2 : Int) ^ n) = ((2 ^ n : Nat) : Int) := by rw [Int.natCast_pow]; rfl
    rw [this]; omega
  rw [e, and_maskK .u32 (.inl rfl) _ _ (by show n ≤ 32; omega), Int.natCast_emod]
theorem find_cases {l : List Int} {F : Nat} {D : List Nat} {P : List Pl} (hg : Good l) (hI : TInv l F D l.length l.length P) {vm n yk ys yn : Nat} (hv : vm < 2 ^ n) (hy : look P F vm = ⟨yk, ys, yn⟩) :
    (yk = 1 ∧ yn ≤ n ∧ findN l vm n = (ys, yn, 0)) ∨ ((yk = 1 ∧ n < yn ∨ yk = 0) ∧ findN l vm n = if begC l (turnN vm n) n then (0, 0, 5) else (0, 0, 2)) := by
  have hb : begC l (turnN vm n) n = begN l vm n := by
    rw [Bool.eq_iff_iff, begC_iff hg, begN_iff hg]
    constructor
    · rintro ⟨j, h1, h2⟩; exact ⟨j, h1, (hg.tc_beg h1 hv).2 h2⟩
    · rintro ⟨j, h1, h2⟩; exact ⟨j, h1, (hg.tc_beg h1 hv).1 h2⟩
  rw [hb]
  by_cases hex : ∃ j, mt l j vm
  · obtain ⟨j, hj⟩ := hex
    have h1 := hI.look1 vm j (hg.lt hj.1) hj
    rw [hy] at h1
    injection h1 with e1 e2 e3
    subst e1 e2 e3
    by_cases hn : ln l ys ≤ n
    · exact .inl ⟨rfl, hn, by unfold findN; rw [hg.hit hj hn]⟩
    · refine .inr ⟨.inl ⟨rfl, by omega⟩, ?_⟩
      have : hitN l vm n = none := by
        cases hh : hitN l vm n with
        | none => rfl
        | some i =>
          obtain ⟨a, b⟩ := hit_some hh
          have := hg.one a hj
          subst this
          omega
      unfold findN
      rw [this]
  · have h0 := hI.look0 vm (fun j _ hm => hex ⟨j, hm⟩)
    rw [hy] at h0
    refine .inr ⟨.inr h0, ?_⟩
    have : hitN l vm n = none := by
      cases hh : hitN l vm n with
      | none => rfl
      | some i => exact absurd ⟨i, (hit_some hh).1⟩ hex
    unfold findN
    rw [this]
set_option maxHeartbeats 1600000 in
set_option maxRecDepth 100000 in
theorem tab_find {w : World} {base p F : Nat} {vv : Value} {P : List Pl} {fr ct : Nat → Int} {l : List Int} (h : TabAt w base p F vv P fr ct) (hF : TFin l F P fr ct) (v : Nat) (hv : v < 4294967296) (ni : Int) (n : Nat) (hni : min (max ni 0) 15 = n) :
    Calls Try.prog 82 #[.pointer (some ⟨p, 0, none⟩), .int .u32 v, .int .i64 ni] w fun e w' => e = .returned (.tuple #[.int .i64 (findN l (v % 2 ^ n) n).1, .int .i64 (findN l (v % 2 ^ n) n).2.1, .int .i64 (findN l (v % 2 ^ n) n).2.2]) ∧ Below w.heap.size w w' := by
  have hn : n ≤ 15 := by omega
  have hg := hF.good
  obtain ⟨D, hI, hD⟩ := hF.inv
  have hlo := hF.lo
  have hhi := hF.hi
  have hpos : 0 < P.length := Nat.lt_of_lt_of_le (Nat.pow_pos (by decide)) hI.len
  obtain ⟨g, cap, rfl, hc1, hc2, hbg, hgl, hgp, hcell⟩ := h.form hpos
  have f0 := TabB.first h.pb
  have f1 := TabB.rows h.pb
  have hpl : p < w.heap.size := Blk.lt h.pb
  have hpn : p ≠ w.heap.size := by omega
  have hgn : g ≠ w.heap.size := by omega
  have HC := Lib.hid hcell
  clear hcell
  have m1 := mask_u32 v n (by omega)
  generalize hvm : v % 2 ^ n = vm at *
  have hvm2 : vm < 2 ^ n := by rw [← hvm]; exact Nat.mod_lt _ (Nat.pow_pos (by decide))
  have hvm3 : vm < 32768 := Nat.lt_of_lt_of_le hvm2 (by have := Nat.pow_le_pow_right (n := 2) (by decide) hn; simpa using this)
  obtain ⟨a1, a2, a3, hres⟩ : ∃ a1 a2 a3, findN l vm n = (a1, a2, a3) := ⟨_, _, _, rfl⟩
  rw [hres]
  have m2 := mask_u32 vm F (by omega)
  have hi1 : vm % 2 ^ F < 2 ^ F := Nat.mod_lt _ (Nat.pow_pos (by decide))
  have hlen := hI.len
  obtain ⟨xk, xs, xn, hx⟩ : ∃ a b c, pg P (vm % 2 ^ F) = ⟨a, b, c⟩ := ⟨_, _, _, rfl⟩
  have hlook : look P F vm = if xk = 2 then pg P (xs + vm / 2 ^ F % 2 ^ xn) else ⟨xk, xs, xn⟩ := by unfold look; rw [hx]
  have hmore := hI.more (vm % 2 ^ F) hi1
  rw [hx] at hmore
  have hi1l : vm % 2 ^ F < P.length := by omega
  obtain ⟨c0, c1, c2⟩ := HC.out _ hi1l
  rw [hx] at c0 c1 c2
  have hD1 := hD _ hi1
  clear hvm
  by_cases hk : xk = 2
  · obtain ⟨o1, o2, o3⟩ := hmore hk
    simp only at o1 o2 o3
    rw [if_pos hk] at hlook
    have m3 := mask_u32 (vm / 2 ^ F) xn (by omega)
    have hr := Nat.mod_lt (vm / 2 ^ F) (Nat.pow_pos (n := xn) (show 0 < 2 by decide))
    rw [← o1] at o3
    have hi2 : xs + vm / 2 ^ F % 2 ^ xn < P.length := by omega
    obtain ⟨yk, ys, yn, hy⟩ : ∃ a b c, pg P (xs + vm / 2 ^ F % 2 ^ xn) = ⟨a, b, c⟩ := ⟨_, _, _, rfl⟩
    obtain ⟨b0, b1, b2⟩ := HC.out _ hi2
    rw [hy] at b0 b1 b2 hlook
    have hxn : xn ≤ 15 := by omega
    have hdv : (vm : Int) / 2 ^ F = ((vm / 2 ^ F : Nat) : Int) := by rw [Int.natCast_ediv, Int.natCast_pow]; rfl
    have hdl : vm / 2 ^ F ≤ vm := Nat.div_le_self _ _
    clear hy hx o1 hmore
    subst hk
    have hi2i : (xs : Int) + ((vm / 2 ^ F % 2 ^ xn : Nat) : Int) < P.length := by omega
    have hi2j : 0 ≤ (xs : Int) + ((vm / 2 ^ F % 2 ^ xn : Nat) : Int) := by omega
    have hi2t : ((xs : Int) + ((vm / 2 ^ F % 2 ^ xn : Nat) : Int)).toNat = xs + vm / 2 ^ F % 2 ^ xn := by omega
    have hi2w : IntKind.i64.wrap ((xs : Int) + ((vm / 2 ^ F % 2 ^ xn : Nat) : Int)) = (xs : Int) + ((vm / 2 ^ F % 2 ^ xn : Nat) : Int) := IntWalk.i64_in _ (by omega)
    generalize vm / 2 ^ F % 2 ^ xn = r at *
    generalize vm / 2 ^ F = qv at *
    generalize vm % 2 ^ F = i1 at *
    rcases find_cases hg hI hvm2 hlook with ⟨k1, k2, k3⟩ | ⟨k1, k3⟩
    · subst k1
      have d1 : decide ((yn : Int) ≤ n) = true := by simp; omega
      have d2 : decide (yn ≤ n) = true := by simp; omega
      rw [hres] at k3
      have K3 := Lib.hid k3
      clear k3
      go_enter Try.func82, Try.ntmps82
      go_wp2_with fail
      go_region
      go_wp2_with fail
      go_region

      go_wp2_with fail
      go_region
      go_wp2_with fail
      go_ret3
      refine ⟨?_, ?_⟩
      · obtain ⟨rfl, rfl, rfl⟩ : a1 = _ ∧ a2 = _ ∧ a3 = _ := by have := K3.out; simp only [Prod.mk.injEq] at this; exact this
        rfl
      · first | exact (((Below.refl _ _).alloc (Nat.le_refl _) _).drew).drew | exact ((((Below.refl _ _).alloc (Nat.le_refl _) _).drew).drew).drew
    · rw [hres] at k3
      have K3 := Lib.hid k3
      clear k3
      rcases k1 with ⟨k1, k2⟩ | k1
      · subst k1
        have d1 : decide ((yn : Int) ≤ n) = false := by simp; omega
        have d2 : decide (yn ≤ n) = false := by simp; omega
        go_enter Try.func82, Try.ntmps82
        go_wp2_with fail
        go_region
        go_wp2_with fail
        go_region

        go_wp2_with fail
        refine (tab_turned vm n _ hvm2 hn).mono ?_
        rintro e w2 ⟨rfl, hw⟩
        have hB2 : Below w.heap.size w w2 := by
          rw [hw]
          first | exact ((Below.refl _ _).alloc (Nat.le_refl _) _).drew | exact (((Below.refl _ _).alloc (Nat.le_refl _) _).drew).drew
        clear hw
        have hp2 : TabB w2 p F (.slice (some ⟨g, 0, none⟩) P.length cap) fr ct := Blk.below h.pb hB2 hpl
        go_wp2_with fail
        refine (tab_begins hg hp2 hF.fr hF.ct (turnN vm n) n (turnN_lt _ _) hn).mono ?_
        rintro e w3 ⟨rfl, hs3⟩
        have hB3 := hs3.below_of hB2 hB2.size (fun _ _ c => c)
        clear hs3 hp2 hB2
        cases hbc : begC l (turnN vm n) n with
        | true =>
          rw [hbc] at K3
          clear hbc
          go_wp2_with fail
          go_ret3
          refine ⟨?_, hB3⟩
          obtain ⟨rfl, rfl, rfl⟩ : a1 = _ ∧ a2 = _ ∧ a3 = _ := by have := K3.out; simp only [if_true, Prod.mk.injEq] at this; exact this
          rfl
        | false =>
          rw [hbc] at K3
          clear hbc
          go_wp2_with fail
          go_ret3
          refine ⟨?_, hB3⟩
          obtain ⟨rfl, rfl, rfl⟩ : a1 = _ ∧ a2 = _ ∧ a3 = _ := by have := K3.out; simp only [Bool.false_eq_true, if_false, Prod.mk.injEq] at this; exact this
          rfl
      · subst k1
        go_enter Try.func82, Try.ntmps82
        go_wp2_with fail
        go_region
        go_wp2_with fail
        go_region

        go_wp2_with fail
        refine (tab_turned vm n _ hvm2 hn).mono ?_
        rintro e w2 ⟨rfl, hw⟩
        have hB2 : Below w.heap.size w w2 := by
          rw [hw]
          first | exact ((Below.refl _ _).alloc (Nat.le_refl _) _).drew | exact (((Below.refl _ _).alloc (Nat.le_refl _) _).drew).drew
        clear hw
        have hp2 : TabB w2 p F (.slice (some ⟨g, 0, none⟩) P.length cap) fr ct := Blk.below h.pb hB2 hpl
        go_wp2_with fail
        refine (tab_begins hg hp2 hF.fr hF.ct (turnN vm n) n (turnN_lt _ _) hn).mono ?_
        rintro e w3 ⟨rfl, hs3⟩
        have hB3 := hs3.below_of hB2 hB2.size (fun _ _ c => c)
        clear hs3 hp2 hB2
        cases hbc : begC l (turnN vm n) n with
        | true =>
          rw [hbc] at K3
          clear hbc
          go_wp2_with fail
          go_ret3
          refine ⟨?_, hB3⟩
          obtain ⟨rfl, rfl, rfl⟩ : a1 = _ ∧ a2 = _ ∧ a3 = _ := by have := K3.out; simp only [if_true, Prod.mk.injEq] at this; exact this
          rfl
        | false =>
          rw [hbc] at K3
          clear hbc
          go_wp2_with fail
          go_ret3
          refine ⟨?_, hB3⟩
          obtain ⟨rfl, rfl, rfl⟩ : a1 = _ ∧ a2 = _ ∧ a3 = _ := by have := K3.out; simp only [Bool.false_eq_true, if_false, Prod.mk.injEq] at this; exact this
          rfl
  · rw [if_neg hk] at hlook
    have e0 : ((xk : Int) == 2) = false := by rw [beq_eq_false_iff_ne]; omega
    clear hx hmore hk
    generalize vm % 2 ^ F = i1 at *
    rcases find_cases hg hI hvm2 hlook with ⟨k1, k2, k3⟩ | ⟨k1, k3⟩
    · subst k1
      have d1 : decide ((xn : Int) ≤ n) = true := by simp; omega
      have d2 : decide (xn ≤ n) = true := by simp; omega
      rw [hres] at k3
      have K3 := Lib.hid k3
      clear k3
      go_enter Try.func82, Try.ntmps82
      go_wp2_with fail
      go_region
      go_wp2_with fail
      skip
      go_region
      go_wp2_with fail
      go_ret3
      refine ⟨?_, ?_⟩
      · obtain ⟨rfl, rfl, rfl⟩ : a1 = _ ∧ a2 = _ ∧ a3 = _ := by have := K3.out; simp only [Prod.mk.injEq] at this; exact this
        rfl
      · first | exact (((Below.refl _ _).alloc (Nat.le_refl _) _).drew).drew | exact ((((Below.refl _ _).alloc (Nat.le_refl _) _).drew).drew).drew
    · rw [hres] at k3
      have K3 := Lib.hid k3
      clear k3
      rcases k1 with ⟨k1, k2⟩ | k1
      · subst k1
        have d1 : decide ((xn : Int) ≤ n) = false := by simp; omega
        have d2 : decide (xn ≤ n) = false := by simp; omega
        go_enter Try.func82, Try.ntmps82
        go_wp2_with fail
        go_region
        go_wp2_with fail
        skip
        refine (tab_turned vm n _ hvm2 hn).mono ?_
        rintro e w2 ⟨rfl, hw⟩
        have hB2 : Below w.heap.size w w2 := by
          rw [hw]
          first | exact ((Below.refl _ _).alloc (Nat.le_refl _) _).drew | exact (((Below.refl _ _).alloc (Nat.le_refl _) _).drew).drew
        clear hw
        have hp2 : TabB w2 p F (.slice (some ⟨g, 0, none⟩) P.length cap) fr ct := Blk.below h.pb hB2 hpl
        go_wp2_with fail
        refine (tab_begins hg hp2 hF.fr hF.ct (turnN vm n) n (turnN_lt _ _) hn).mono ?_
        rintro e w3 ⟨rfl, hs3⟩
        have hB3 := hs3.below_of hB2 hB2.size (fun _ _ c => c)
        clear hs3 hp2 hB2
        cases hbc : begC l (turnN vm n) n with
        | true =>
          rw [hbc] at K3
          clear hbc
          go_wp2_with fail
          go_ret3
          refine ⟨?_, hB3⟩
          obtain ⟨rfl, rfl, rfl⟩ : a1 = _ ∧ a2 = _ ∧ a3 = _ := by have := K3.out; simp only [if_true, Prod.mk.injEq] at this; exact this
          rfl
        | false =>
          rw [hbc] at K3
          clear hbc
          go_wp2_with fail
          go_ret3
          refine ⟨?_, hB3⟩
          obtain ⟨rfl, rfl, rfl⟩ : a1 = _ ∧ a2 = _ ∧ a3 = _ := by have := K3.out; simp only [Bool.false_eq_true, if_false, Prod.mk.injEq] at this; exact this
          rfl
      · subst k1
        go_enter Try.func82, Try.ntmps82
        go_wp2_with fail
        go_region
        go_wp2_with fail
        skip
        refine (tab_turned vm n _ hvm2 hn).mono ?_
        rintro e w2 ⟨rfl, hw⟩
        have hB2 : Below w.heap.size w w2 := by
          rw [hw]
          first | exact ((Below.refl _ _).alloc (Nat.le_refl _) _).drew | exact (((Below.refl _ _).alloc (Nat.le_refl _) _).drew).drew
        clear hw
        have hp2 : TabB w2 p F (.slice (some ⟨g, 0, none⟩) P.length cap) fr ct := Blk.below h.pb hB2 hpl
        go_wp2_with fail
        refine (tab_begins hg hp2 hF.fr hF.ct (turnN vm n) n (turnN_lt _ _) hn).mono ?_
        rintro e w3 ⟨rfl, hs3⟩
        have hB3 := hs3.below_of hB2 hB2.size (fun _ _ c => c)
        clear hs3 hp2 hB2
        cases hbc : begC l (turnN vm n) n with
        | true =>
          rw [hbc] at K3
          clear hbc
          go_wp2_with fail
          go_ret3
          refine ⟨?_, hB3⟩
          obtain ⟨rfl, rfl, rfl⟩ : a1 = _ ∧ a2 = _ ∧ a3 = _ := by have := K3.out; simp only [if_true, Prod.mk.injEq] at this; exact this
          rfl
        | false =>
          rw [hbc] at K3
          clear hbc
          go_wp2_with fail
          go_ret3
          refine ⟨?_, hB3⟩
          obtain ⟨rfl, rfl, rfl⟩ : a1 = _ ∧ a2 = _ ∧ a3 = _ := by have := K3.out; simp only [Bool.false_eq_true, if_false, Prod.mk.injEq] at this; exact this
          rfl
end Go.Proofs.Yteknaaijlkenkaa
