import Derived.Test.YtnnjpbghnfohaaaMapN
namespace Go.Proofs.Ytnnjpbghnfohaaa
set_option linter.unusedVariables false
set_option linter.unusedSimpArgs false
open Go.RowKit Go.MapKept
attribute [local go_sem] max2i min2i max2t min2t

/-! ### how many bytes from two places on are the same -/
def alkN (bs : List Int) (M p q : Nat) : Nat → Nat → Nat
  | 0, n => n
  | k + 1, n => if n < M ∧ q + n < bs.length ∧ bs.getD (p + n) 0 = bs.getD (q + n) 0 then alkN bs M p q k (n + 1) else n
def alk (bs : List Int) (M p q : Nat) : Nat := alkN bs M p q (bs.length - q) 0
theorem alkN_le (bs : List Int) (M p q : Nat) : ∀ k n, n ≤ alkN bs M p q k n
  | 0, n => Nat.le_refl _
  | k + 1, n => by
    rw [alkN]
    split
    · exact Nat.le_trans (Nat.le_succ n) (alkN_le bs M p q k (n + 1))
    · exact Nat.le_refl _
theorem alkN_same (bs : List Int) (M p q : Nat) : ∀ k n j, n ≤ j → j < alkN bs M p q k n → bs.getD (p + j) 0 = bs.getD (q + j) 0 ∧ j < M ∧ q + j < bs.length
  | 0, n, j, h1, h2 => by rw [alkN] at h2; omega
  | k + 1, n, j, h1, h2 => by
    rw [alkN] at h2
    split at h2
    · rename_i h
      by_cases e : j = n
      · subst e; exact ⟨h.2.2, h.1, h.2.1⟩
      · exact alkN_same bs M p q k (n + 1) j (by omega) h2
    · omega
theorem alkN_stop (bs : List Int) (M p q : Nat) : ∀ k n, bs.length - (q + n) ≤ k → ¬ (alkN bs M p q k n < M ∧ q + alkN bs M p q k n < bs.length ∧ bs.getD (p + alkN bs M p q k n) 0 = bs.getD (q + alkN bs M p q k n) 0)
  | 0, n, h => by rw [alkN]; omega
  | k + 1, n, h => by
    rw [alkN]
    by_cases c : n < M ∧ q + n < bs.length ∧ bs.getD (p + n) 0 = bs.getD (q + n) 0
    · rw [if_pos c]; exact alkN_stop bs M p q k (n + 1) (by omega)
    · rw [if_neg c]; exact c
theorem FinB.row {w : World} {base f m cf : Nat} {Af : Option Addr} {bs : List Int} {store lazy : Bool} {chain good far most : Int} (h : FinB w base f Af cf bs store lazy chain good far most m) (hwf : ∀ x ∈ bs, (Lit.int .u8 x).wf = true) : RowOf w .u8 Af cf bs := by
  obtain ⟨A, c, e, hr, _⟩ := h.own.row hwf
  injection e with e1 _ e3
  rw [e1, e3]
  exact hr
theorem FinB.addr {w : World} {base f m cf : Nat} {Af : Option Addr} {bs : List Int} {store lazy : Bool} {chain good far most : Int} (h : FinB w base f Af cf bs store lazy chain good far most m) (hne : bs ≠ []) : ∃ g, Af = some ⟨g, 0, none⟩ := by
  rcases h.own.2 with ⟨_, e⟩ | ⟨g, cap, cur, e, _⟩
  · exact absurd (by simpa [ints] using e) hne
  · injection e with e1
    exact ⟨g, e1⟩
structure AlRel (w : World) (bs : List Int) (M p q : Nat) (gk : Nat) (s7 : Value) (wr : World) : Prop where mk ::
  out_ : ∃ n : Nat, n ≤ M ∧ q + n ≤ bs.length ∧ gk = bs.length - (q + n) ∧ s7 = .int .i64 n ∧ alk bs M p q = alkN bs M p q (bs.length - (q + n)) n ∧ Same (fun _ => False) w wr
set_option maxHeartbeats 1600000 in
set_option maxRecDepth 100000 in
theorem match_alike {w : World} {base f m cf : Nat} {Af : Option Addr} {bs : List Int} {store lazy : Bool} {chain good far : Int} {M : Nat} (h : FinB w base f Af cf bs store lazy chain good far (M : Nat) m) (hwf : ∀ x ∈ bs, (Lit.int .u8 x).wf = true) (p q : Nat) (hpq : p < q) (hq : q < bs.length) (hl : bs.length ≤ 100000) (hM : M ≤ 100000) :
    Calls Try.prog 19 #[.pointer (some ⟨f, 0, none⟩), .int .i64 p, .int .i64 q] w fun e w' => e = .returned (.int .i64 (alk bs M p q : Nat)) ∧ Same (fun _ => False) w w' := by
  obtain ⟨g, rfl⟩ := h.addr (fun e => by rw [e] at hq; simp at hq)
  go_enter Try.func19, Try.ntmps19
  go_wp2_with fail
  go_loopg [7] (bs.length - q) (AlRel w bs M p q)
  case atStart => exact ⟨0, by omega, by omega, by omega, rfl, rfl, Same.refl _⟩
  case round =>
    obtain ⟨n, hn, hqn, hg, rfl, ha, hs⟩ := hrel.out_
    clear hrel
    have hF := h.kept hs (fun c => c) (fun _ _ c => c)
    have hr := hF.row hwf
    have c0 := fun d : Ext (fun _ => False) wr => (hF.pb.same d.same (fun c => c)).cell 0
    have c6 := fun d : Ext (fun _ => False) wr => (hF.pb.same d.same (fun c => c)).cell 6
    have ra := fun (j : Nat) (hj : j < bs.length) (d : Ext (fun _ => False) wr) => (show d.world.cell? ⟨g, j, none⟩ = some (.int .u8 (bs.getD j 0)) from by
      obtain ⟨ad, e, hc⟩ := (hr.rd.same d.same (fun _ _ c => c)).at_ hj
      injection e with e
      subst e
      rw [Addr.add_lit, Nat.zero_add] at hc
      exact hc)
    by_cases c1 : n < M
    · have e1 : decide ((n : Int) < M) = true := by simp; omega
      have e1' : decide (n < M) = true := by simp; omega
      by_cases c2 : q + n < bs.length
      · have e2 : decide ((q : Int) + n < bs.length) = true := by simp; omega
        have r1 := ra (p + n) (by omega)
        have r2 := ra (q + n) c2
        have k1 : ((p : Int) + n).toNat = p + n := by omega
        have k2 : ((q : Int) + n).toNat = q + n := by omega
        have e3 : decide ((p : Int) + n < bs.length) = true := by simp; omega
        have hf : bs.length - (q + n) = (bs.length - (q + (n + 1))) + 1 := by omega
        rw [hf, alkN] at ha
        clear ra
        by_cases c3 : bs.getD (p + n) 0 = bs.getD (q + n) 0
        · have e4 : (bs.getD (p + n) 0 == bs.getD (q + n) 0) = true := by rw [c3]; simp
          rw [if_pos ⟨c1, c2, c3⟩] at ha
          have HA := Lib.hid ha
          clear ha hf c3
          generalize bs.getD (p + n) 0 = b1 at *
          generalize bs.getD (q + n) 0 = b2 at *
          go_wp2_with fail
          refine wp_region_ext (fun _ => False) (by kernel_rfl) (by kernel_rfl) ?_
          repeat (go_big_quiet_step (fail))
          refine wpQuiet_nil ?_
          rintro _ ⟨d, rfl⟩
          go_wp2_with fail
          go_roundg (gk - 1)
          case measure => omega
          case rel => exact ⟨⟨n + 1, by omega, by omega, by omega, by go_num, HA.out, hs.then d.same⟩⟩
        · have e4 : (bs.getD (p + n) 0 == bs.getD (q + n) 0) = false := by simpa using c3
          rw [if_neg (fun c => c3 c.2.2)] at ha
          clear hf c3
          generalize bs.getD (p + n) 0 = b1 at *
          generalize bs.getD (q + n) 0 = b2 at *
          go_wp2_with fail
          refine wp_region_ext (fun _ => False) (by kernel_rfl) (by kernel_rfl) ?_
          repeat (go_big_quiet_step (fail))
          refine wpQuiet_nil ?_
          rintro _ ⟨d, rfl⟩
          go_wp2_with fail
          go_ret
          rw [ha]
          exact ⟨rfl, hs.then d.same⟩
      · have e2 : decide ((q : Int) + n < bs.length) = false := by simp; omega
        rw [show bs.length - (q + n) = 0 from by omega, alkN] at ha
        clear ra
        go_wp2_with fail
        refine wp_region_ext (fun _ => False) (by kernel_rfl) (by kernel_rfl) ?_
        repeat (go_big_quiet_step (fail))
        refine wpQuiet_nil ?_
        rintro _ ⟨d, rfl⟩
        go_wp2_with fail
        go_ret
        rw [ha]
        exact ⟨rfl, hs.then d.same⟩
    · have e1 : decide ((n : Int) < M) = false := by simp; omega
      have e1' : decide (n < M) = false := by simp; omega
      have ha' : alkN bs M p q (bs.length - (q + n)) n = n := by
        cases bs.length - (q + n) with
        | zero => rfl
        | succ k => rw [alkN, if_neg (fun c => c1 c.1)]
      rw [ha'] at ha
      clear ra ha'
      go_wp2_with fail
      refine wp_region_ext (fun _ => False) (by kernel_rfl) (by kernel_rfl) ?_
      repeat (go_big_quiet_step (fail))
      refine wpQuiet_nil ?_
      rintro _ ⟨d, rfl⟩
      go_wp2_with fail
      go_ret
      rw [ha]
      exact ⟨rfl, hs.then d.same⟩
end Go.Proofs.Ytnnjpbghnfohaaa
