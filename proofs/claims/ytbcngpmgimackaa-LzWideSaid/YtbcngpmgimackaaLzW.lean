import Derived.Test.YtbcngpmgimackaaLzJ
namespace Go.Proofs.Ytbcngpmgimackaa
open Go.RowKit
attribute [local go_sem] max2i min2i max2t min2t

theorem may_wide {t : Tok} (h : may false t = true) : may true t = true := by
  unfold may at *
  by_cases h0 : t.f0 = 0
  · rw [if_pos h0] at *; exact h
  · rw [if_neg h0] at *
    simp only [Bool.and_eq_true, beq_iff_eq, decide_eq_true_eq, Bool.false_eq_true, if_false, if_true] at *
    omega
theorem expand_wide {most : Int} : ∀ {l : List Tok} {i : Nat} {out r : List Int} {a : Nat}, expand false most l i out = (r, a, 0) → expand true most l i out = (r, a, 0)
  | [], i, out, r, a, h => h
  | t :: l, i, out, r, a, h => by
    obtain ⟨hw, h⟩ := expand_cons h
    obtain ⟨h1, h2, h3⟩ := wrong_zero hw
    rw [expand, if_pos (wrong_ok (may_wide h1) h2 h3)]
    exact expand_wide h
theorem expand_bad {wide : Bool} {most : Int} : ∀ {l : List Tok} {i : Nat} {out r : List Int} {a : Nat} {c : Int}, expand wide most l i out = (r, a, c) → c ≠ 0 → r = []
  | [], i, out, r, a, c, h, hc => by
    simp only [expand, Prod.mk.injEq] at h
    exact absurd h.2.2.symm hc
  | t :: l, i, out, r, a, c, h, hc => by
    rw [expand] at h
    split at h
    · exact expand_bad h hc
    · simp only [Prod.mk.injEq] at h
      exact h.1.symm
theorem more_ahead (out : List Int) (t : Tok) : ∃ s, more out t = out ++ s := by
  unfold more
  split
  · exact ⟨_, rfl⟩
  · exact ⟨_, ext_split _ _ _⟩
theorem expand_ahead {wide : Bool} {most : Int} : ∀ {l : List Tok} {i : Nat} {out r : List Int} {a : Nat}, expand wide most l i out = (r, a, 0) → ∃ s, r = out ++ s
  | [], i, out, r, a, h => by
    simp only [expand, Prod.mk.injEq] at h
    exact ⟨[], by simp [h.1]⟩
  | t :: l, i, out, r, a, h => by
    obtain ⟨hw, h⟩ := expand_cons h
    obtain ⟨s, hs⟩ := expand_ahead h
    obtain ⟨s', hs'⟩ := more_ahead out t
    exact ⟨s' ++ s, by rw [hs, hs', List.append_assoc]⟩

/-- How the bytes go on: token by token. -/
structure Step (a : List Int) (cur : List Int) (t : Tok) : Prop where
  len : (more cur t).length ≤ a.length
  lit : t.f0 = 0 → cur.length < a.length ∧ a.getD cur.length 0 = t.f2 ∧ (more cur t).length = cur.length + 1
  mat : t.f0 ≠ 0 → 3 ≤ t.f0 ∧ t.f0 ≤ 65538 ∧ 1 ≤ t.f1 ∧ t.f1 ≤ cur.length ∧ ((more cur t).length : Int) = cur.length + t.f0 ∧ ∀ q : Nat, (q : Int) < t.f0 → cur.length + q < a.length ∧ a.getD (cur.length + q) 0 = a.getD (cur.length + q - t.f1.toNat) 0
theorem step {wide : Bool} {most : Int} {l : List Tok} {k : Nat} {cur a : List Int} {x : Nat} {t : Tok} (h : expand wide most (t :: l) k cur = (a, x, 0)) : Step a cur t ∧ expand wide most l (k + 1) (more cur t) = (a, x, 0) := by
  obtain ⟨hw, h⟩ := expand_cons h
  obtain ⟨h1, h2, h3⟩ := wrong_zero hw
  obtain ⟨s, hs⟩ := expand_ahead h
  obtain ⟨hl, _⟩ := more_length_ok hw
  have hle : (more cur t).length ≤ a.length := by rw [hs]; simp
  refine ⟨⟨hle, fun h0 => ?_, fun h0 => ?_⟩, h⟩
  · have e : more cur t = cur ++ [t.f2] := by rw [more, if_pos h0]
    rw [e] at hs hle ⊢
    simp at hle
    refine ⟨by omega, ?_, by simp⟩
    rw [hs]; simp [List.getD_eq_getElem?_getD]
  · obtain ⟨_, m1, m2, m3, m4⟩ := may_match h1 h0
    have e : more cur t = ext cur t.f1.toNat t.f0.toNat := by rw [more, if_neg h0]
    have el : (more cur t).length = cur.length + t.f0.toNat := by rw [e, ext_length]
    refine ⟨m1, m2, m3, h2, by omega, fun q hq => ⟨by omega, ?_⟩⟩
    rw [e] at hs
    rw [hs, List.getD_eq_getElem?_getD, List.getD_eq_getElem?_getD, List.getElem?_append_left (by rw [ext_length]; omega), List.getElem?_append_left (by rw [ext_length]; omega), ext_new cur t.f1.toNat t.f0.toNat q (by omega) (by omega) (by omega)]

structure WideRel (w w4 : World) (l : List Tok) (a : List Int) (x : Nat) (g : Nat) (v9 v10 : Value) (wr : World) : Prop where mk ::
  out_ : ∃ (k : Nat) (cur : List Int), k ≤ l.length ∧ l.length ≤ g + k ∧ v9 = .int .i64 (cur.length : Int) ∧ v10 = .int .i64 (k : Int) ∧ cur.length ≤ a.length ∧ expand false 1073741824 (l.drop k) k cur = (a, x, 0) ∧ Same (fun _ => False) w4 wr
structure WideRel2 (w4 : World) (n M : Nat) (g : Nat) (v9 v11 : Value) (wr : World) : Prop where mk ::
  out_ : ∃ (q : Nat), q ≤ M ∧ M ≤ g + q ∧ v9 = .int .i64 ((n + q : Nat) : Int) ∧ v11 = .int .i64 (q : Int) ∧ Same (fun _ => False) w4 wr

set_option maxHeartbeats 1600000 in
set_option maxRecDepth 100000 in
theorem lzWide_walk (A : Option Addr) (c : Nat) (l : List Tok) (w : World) (h00 : RowS w 3 A c l S42.enc (S42.ok w)) :
    Calls Try.prog 9 #[.slice A l.length c] w fun e w' => e = .returned (.bool true) ∧ Below w.heap.size w w' := by
  have ht := fun W => Lib.hid (told11 W)
  have hm1 := h00.most
  have hcap := h00.cap
  have he : ∀ x : Tok, (S42.enc x).length = 3 := fun _ => rfl
  have H1 := Lib.hid (few_calls A c l w h00)
  have B0 := Below.refl w.heap.size w
  by_cases f1 : l.length ≤ 100 ∧ size l ≤ 70000
  · have f1' : decide (l.length ≤ 100 ∧ size l ≤ 70000) = true := by simpa using f1
    rw [f1'] at H1
    obtain ⟨f1a, f1b⟩ := f1
    clear f1'
    go_enter Try.func9, Try.ntmps9
    go_wp2_with fail
    refine H1.out.mono ?_
    rintro e w2 ⟨rfl, B2⟩
    clear H1
    go_wp2_with fail
    refine (expand_calls A c l false w2 (h00.below B2 (fun _ h => h))).mono ?_
    rintro e w3 ⟨v3, rfl, ho3, hb3⟩
    have B3 := B2.trans (hb3.mono B2.size)
    go_wp2_with fail
    refine (expand_calls A c l true w3 (h00.below B3 (fun _ h => h))).mono ?_
    rintro e w4 ⟨v4, rfl, ho4, hb4⟩
    have B4 := B3.trans (hb4.mono B3.size)
    generalize hx : expand false 1073741824 l 0 [] = rl at *
    obtain ⟨a, xa, ca⟩ := rl
    by_cases ea : ca = 0
    · subst ea
      rw [expand_wide hx] at ho4 ⊢
      simp only at ho3 ho4 ⊢
      obtain ⟨rfl, hal, _, hsa⟩ := expand_size (by omega) hx (by simp)
      change size l = _ at hsa
      have hla : a.length ≤ 70000 := by omega
      clear hsa hal
      have HX := Lib.hid hx
      clear hx
      obtain ⟨A3, c3, rfl, hc3, hc3m, hR3, _⟩ := ho3.rdb
      obtain ⟨A4, c4, rfl, _, _, hR4, _⟩ := ho4.rdb
      have hR3 := hR3.same (Same.of_below (S := fun _ => False) hb4) (fun _ _ c => c)
      have t3 := hR3.to_string (P := Try.prog) (n := a.length) (c := c3) (dst := 9) rfl Try.underlying28 Try.underlying5 Try.underlying9
      have t4 := hR4.to_string (P := Try.prog) (n := a.length) (c := c4) (dst := 9) rfl Try.underlying28 Try.underlying5 Try.underlying9
      clear ho3 ho4 hR4 hb3 hb4 B2 B3
      generalize strOfNums a = st at *
      go_wp2_with fail
      clear t3 t4
      go_loopg [9, 10] l.length (WideRel w w4 l a 0)
      case atStart => exact ⟨0, [], by omega, by omega, rfl, rfl, by simp, by simpa using HX.out, Same.refl _⟩
      case round =>
        obtain ⟨k, cur, hk, hg, rfl, rfl, hca, hE, hs⟩ := hrel
        have hb : Below w.heap.size w wr := hs.below_of B4 B4.size (fun _ _ c => c)
        by_cases hlt : k < l.length
        · obtain ⟨x, hx⟩ : ∃ x, l[k]? = some x := ⟨_, List.getElem?_eq_getElem hlt⟩
          obtain ⟨b, off, rfl, c0, c1, c2⟩ := S42.at_ h00 B4 hx
          rw [drop_at hx] at hE
          obtain ⟨hS, hE'⟩ := step hE
          have HE := Lib.hid hE'
          have hok := h00.ok x (List.mem_of_getElem? hx)
          clear hE hE' hx
          obtain ⟨hS1, hS2, hS3⟩ := hS
          generalize hmo : more cur x = nxt at *
          by_cases h0 : x.f0 = 0
          · obtain ⟨q1, q2, q3⟩ := hS2 h0
            clear hS2 hS3
            have h0' : (x.f0 == 0) = true := by simpa using h0
            have hge : decide (a.length ≤ cur.length) = false := by simp; omega
            rcases hR3 with ⟨rfl, rfl⟩ | ⟨b7, o7, rfl, hcell⟩
            · simp at q1
            have d1 := hcell cur.length q1
            rw [q2] at d1
            have k0 : ∀ d : Ext (fun _ => False) wr, d.world.cell? ⟨b, off + k * 3, none⟩ = some (.int .i64 x.f0) := fun d => (hs.then d.same).cell c0 (fun c => c)
            have k2 : ∀ d : Ext (fun _ => False) wr, d.world.cell? ⟨b, off + k * 3 + 2, none⟩ = some (.int .u8 x.f2) := fun d => (hs.then d.same).cell c2 (fun c => c)
            have k7 : ∀ d : Ext (fun _ => False) wr, d.world.cell? ⟨b7, o7 + cur.length, none⟩ = some (.int .u8 x.f2) := fun d => (hs.then d.same).cell d1 (fun c => c)
            have en : (x.f2 != x.f2) = false := by simp
            have c0r := hs.cell c0 (fun c => c)
            clear hcell d1 c0 c1 c2
            go_wp2_with fail
            refine wp_region_ext (fun _ => False) (by kernel_rfl) (by kernel_rfl) ?_
            repeat (go_big_quiet_step (fail))
            refine wpQuiet_nil ?_
            rintro _ ⟨d, rfl⟩
            go_wp2_with fail
            go_roundg (gk - 1)
            case measure => omega
            case rel => exact ⟨k + 1, nxt, by omega, by omega, by rw [q3]; go_num, by go_num, by omega, HE.out, hs.then d.same⟩
          · obtain ⟨p1, p2, p3, p4, p5, p6⟩ := hS3 h0
            clear hS2 hS3
            have h0' : (x.f0 == 0) = false := by simpa using h0
            obtain ⟨M, hM⟩ : ∃ M : Nat, x.f0 = M := ⟨x.f0.toNat, by omega⟩
            obtain ⟨D, hD⟩ : ∃ D : Nat, x.f1 = D := ⟨x.f1.toNat, by omega⟩
            rw [hM] at p1 p2 p5 p6 c0 h0'
            rw [hD] at p3 p4 p6 c1
            rw [Int.toNat_natCast] at p6
            generalize cur.length = n at *
            have c0r := hs.cell c0 (fun c => c)
            have P6 := Lib.hid p6
            clear hM hD hok hmo h0 p6
            go_wp2_with fail
            go_loopg [9, 11] M (WideRel2 w4 n M)
            case atStart => exact ⟨0, by omega, by omega, rfl, rfl, hs⟩
            case round =>
              clear c0r
              rename Nat => gq
              obtain ⟨q, hq, hgq, rfl, rfl, hs⟩ := hrel
              have c0r := hs.cell c0 (fun c => c)
              by_cases hqM : q < M
              · obtain ⟨r1, r2⟩ := P6.out q (by omega)
                rcases hR3 with ⟨rfl, rfl⟩ | ⟨b7, o7, rfl, hcell⟩
                · simp at r1
                have d1 := hcell (n + q) r1
                have d2 := hcell (n + q - D) (by omega)
                rw [← r2] at d2
                clear r2
                generalize a.getD (n + q) 0 = y at *
                obtain ⟨P, hP⟩ : ∃ P, P = n + q := ⟨_, rfl⟩
                rw [← hP] at d1 d2 r1
                have hPn : P ≤ 70000 := by omega
                have hw : wrap64 ((P : Int) - D) = ((P - D : Nat) : Int) := by rw [IntWalk.wrap64_in _ (by omega)]; omega
                have hw2 : ((P : Int) - D) = ((P - D : Nat) : Int) := by omega
                have hsb2 : decide (wrap64 ((P : Int) - D) < 0) = false := by rw [hw]; simp
                rw [← hP]
                have hge : decide (a.length ≤ P) = false := by simp; omega
                have hsb : decide ((P : Int) - D < 0) = false := by rw [hw2]; simp
                clear hsb hsb2
                generalize P - D = E at *
                have hsE : decide ((E : Int) < 0) = false := by simp
                have k1 : ∀ d : Ext (fun _ => False) wr, d.world.cell? ⟨b, off + k * 3 + 1, none⟩ = some (.int .i64 D) := fun d => (hs.then d.same).cell c1 (fun c => c)
                have k7 : ∀ d : Ext (fun _ => False) wr, d.world.cell? ⟨b7, o7 + P, none⟩ = some (.int .u8 y) := fun d => (hs.then d.same).cell d1 (fun c => c)
                have k8 : ∀ d : Ext (fun _ => False) wr, d.world.cell? ⟨b7, o7 + E, none⟩ = some (.int .u8 y) := fun d => (hs.then d.same).cell d2 (fun c => c)
                have en : (y != y) = false := by simp
                have HP := Lib.hid hP
                clear hP hcell d1 d2 c0 c1 c2
                go_wp2_with fail
                refine wp_region_ext (fun _ => False) (by kernel_rfl) (by kernel_rfl) ?_
                repeat (go_big_quiet_step (fail))
                refine wpQuiet_nil ?_
                rintro _ ⟨d, rfl⟩
                go_wp2_with fail
                go_roundg (gq - 1)
                case measure => omega
                case rel => exact ⟨q + 1, by omega, by omega, by rw [show n + (q + 1) = P + 1 from by have := HP.out; omega]; go_num, by go_num, hs.then d.same⟩
              · have hqM' : q = M := by omega
                subst hqM'
                clear c0 c1 c2
                go_wp2_with fail
                go_roundg (gk - 1)
                case measure => omega
                case rel => exact ⟨k + 1, nxt, by omega, by omega, by rw [show ((n + q : Nat) : Int) = nxt.length from by omega], by go_num, by omega, HE.out, hs⟩
        · have hkl : k = l.length := by omega
          subst hkl
          rw [List.drop_length] at hE
          simp only [expand, Prod.mk.injEq] at hE
          obtain ⟨rfl, _⟩ := hE
          go_wp2_with fail

          refine (ht _).out.mono ?_
          rintro e w6 ⟨rfl, hb6⟩
          go_wp2_with fail
          go_ret
          exact ⟨rfl, hb.trans (hb6.mono hb.size)⟩
    · have ea' : (ca != 0) = true := by simp [ea]
      have hr := expand_bad hx ea
      subst hr
      simp only at ho3 ho4 ⊢
      obtain ⟨A3, c3, rfl, _, _, hR3, _⟩ := ho3.rdb
      clear hx ea
      go_wp2_with fail
      refine (ht _).out.mono ?_
      rintro e w6 ⟨rfl, hb6⟩
      go_wp2_with fail
      go_ret
      exact ⟨rfl, B4.trans (hb6.mono B4.size)⟩
  · have f1' : decide (l.length ≤ 100 ∧ size l ≤ 70000) = false := by simpa using f1
    rw [f1'] at H1
    clear f1 f1'
    go_enter Try.func9, Try.ntmps9
    go_wp2_with fail
    refine H1.out.mono ?_
    rintro e w1 ⟨rfl, hb1⟩
    go_wp2_with (go_at_call 16; refine (ht _).out.mono ?_; rintro e w' ⟨rfl, hb'⟩)
    go_ret
    exact ⟨rfl, hb1.trans (hb'.mono hb1.size)⟩
end Go.Proofs.Ytbcngpmgimackaa
