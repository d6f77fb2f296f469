import Derived.Test.YteknaaijlkenkaaRxB
import Derived.Test.YteknaaijlkenkaaInfE
import Derived.Test.YteknaaijlkenkaaJInn
import Derived.Test.YteknaaijlkenkaaJTat
import Derived.StillTailTactics
namespace Go.Proofs.Yteknaaijlkenkaa
set_option linter.unusedVariables false
set_option linter.unusedSimpArgs false
open Go.RowKit
attribute [local go_sem] max2i min2i max2t min2t

set_option maxHeartbeats 1600000 in
set_option maxRecDepth 100000 in
theorem ref_baseP (s : Nat) (h1 : 257 ≤ s) (h2 : s < 1000) (wide : Bool) (w : World) :
    Calls Try.prog 57 #[.int .i64 (s : Int), .bool wide] w fun e w' => e = .returned (basV (baseP s wide)) ∧ w' = w := by
  by_cases h3 : s < 285
  · obtain ⟨k, rfl⟩ : ∃ k, s = 257 + k := ⟨s - 257, by omega⟩
    rw [base_is k (by omega) wide]
    exact ref_base k (by omega) wide w
  · by_cases h4 : s = 285
    · subst h4
      refine (ref_base285 wide w).mono ?_
      rintro e w' ⟨rfl, rfl⟩
      refine ⟨?_, rfl⟩
      cases wide <;> rfl
    · have e3 : decide ((s : Int) < 257) = false := by simp; omega
      have e4 : decide ((285 : Int) < s) = true := by simp; omega
      have hb : baseP s wide = none := by unfold baseP; rw [if_neg h4, if_pos (by omega)]
      rw [hb]
      go_enter Try.func57, Try.ntmps57
      go_wp2_with fail
      go_ret3
      exact ⟨rfl, rfl⟩
set_option maxHeartbeats 1600000 in
set_option maxRecDepth 100000 in
theorem ref_farP (s : Nat) (h2 : s < 32) (wide : Bool) (w : World) :
    Calls Try.prog 27 #[.int .i64 (s : Int), .bool wide] w fun e w' => e = .returned (basV (farP s wide)) ∧ w' = w := by
  by_cases h3 : 30 ≤ s → wide = true
  · rw [far_is s h2 wide h3]
    exact ref_far s h2 wide h3 w
  · obtain ⟨h4, h5⟩ : 30 ≤ s ∧ wide = false := by
      refine ⟨?_, ?_⟩
      · rcases Nat.lt_or_ge s 30 with h | h
        · exact absurd (fun c => by omega) h3
        · exact h
      · cases wide
        · rfl
        · exact absurd (fun _ => rfl) h3
    subst h5
    have hb : farP s false = none := by unfold farP; rw [if_pos (.inr ⟨by omega, rfl⟩)]
    rw [hb]
    exact ref_far_no s h2 h4 w
/-- The bits at hand as a number of so many bits. -/
theorem rx_bits15 (bs : List Int) (a : Nat) : ((ofB bs).drop (a + 0)).take 15 = bitT ((pk bs a 15 % 2 ^ min (lf bs a) 15 : Nat) : Int) (min (lf bs a) 15) := by
  rw [Nat.add_zero]
  obtain ⟨hb, hl⟩ := rx_T bs a 15
  refine numT_inj (a := []) (b := []) hb (bin_bitT _ _) (by rw [hl, bitT_length]; omega) ?_
  rw [numT_bitT _ (by omega), ← pk_num]
  have h1 := numT_range hb
  rw [hl, ← pk_num] at h1
  have h2 : pk bs a 15 < 2 ^ min (lf bs a) 15 := by
    have := h1.2
    rw [Nat.min_comm] at this
    have e : (((2 : Nat) ^ min (lf bs a) 15 : Nat) : Int) = (2 : Int) ^ min (lf bs a) 15 := by rw [Int.natCast_pow]; rfl
    rw [← e] at this
    exact_mod_cast this
  rw [Nat.mod_eq_of_lt h2]
  have e : ((pk bs a 15 : Nat) : Int) % 2 ^ min (lf bs a) 15 = ((pk bs a 15 % 2 ^ min (lf bs a) 15 : Nat) : Int) := by rw [Int.natCast_emod, Int.natCast_pow]; rfl
  rw [e, Nat.mod_eq_of_lt h2]
/-- What is found at the front of 15 bits, as far as they are there. -/
def symR (l bs : List Int) (a : Nat) : Nat × Nat × Nat := findN l (pk bs a 15 % 2 ^ min (lf bs a) 15) (min (lf bs a) 15)
theorem rx_find {l bs : List Int} {a : Nat} (hg : Good l) (hl : l.length ≤ 65536) (A : Option Addr) (c base : Nat) (W : World) (ho : Own W base 9 (.slice A l.length c) (strs l)) :
    Calls Try.prog 55 #[.slice A l.length c, .string (txt (((ofB bs).drop (a + 0)).take 15))] W fun e w' => e = .returned (.tuple #[.int .i64 (symR l bs a).1, .int .i64 (symR l bs a).2.1, .int .i64 (symR l bs a).2.2]) ∧ w' = W := by
  rw [rx_bits15]
  exact ref_find hg A c base W ho _ _ (Nat.mod_lt _ (Nat.pow_pos (by decide))) (by omega) hl
theorem symR_ok {l bs : List Int} {a s m : Nat} (h : symG l bs a = .ok (s, m)) : symR l bs a = (s, m, 0) := (symG_ok h).1
theorem symR_bad {l bs : List Int} {a e : Nat} (h : symG l bs a = .bad e) : symR l bs a = (0, 0, e) ∧ e ≠ 0 := by
  obtain ⟨h1, h2⟩ := symG_bad h
  exact ⟨h1, by omega⟩
def Mn (p : Nat) (vo : Value) (k : Nat) : Prop := k = p ∨ vo.ownBlock = some k
section
variable {w w' w7 : World} {B p : Nat} {A : Option Addr} {c : Nat} {vo vo' : Value} {bs : List Int} {a : Nat} {out : List Int} {wide : Bool} {size most : Nat} {code : Int}
/-- A byte more came out. -/
theorem XAt.grown (h : XAt w B p A c vo bs a out wide size most code) {b : Int} (hb : 0 ≤ b ∧ b < 256) (hs7 : Same (fun k => vo.ownBlock = some k) w w7) (ho7 : Own w7 B 5 vo' (ints .u8 (out ++ [b]))) (hat : ∀ g, vo'.ownBlock = some g → vo.ownBlock = some g ∨ w.heap.size ≤ g) :
    XAt (w7.setCell ⟨p, 2, none⟩ vo') B p A c vo' bs a (out ++ [b]) wide size most code ∧ Same (Mn p vo) w (w7.setCell ⟨p, 2, none⟩ vo') := by
  have hp := Blk.lt h.blk
  have b7 := (h.blk.same hs7 (fun e => h.np e)).set_ 2 vo'
  have hs8 : Same (fun k => k = p) w7 (w7.setCell ⟨p, 2, none⟩ vo') := Same.set_ (S := fun k => k = p) (p := ⟨p, 2, none⟩) (Same.refl w7) (fun _ => rfl) _
  have hM : Same (Mn p vo) w (w7.setCell ⟨p, 2, none⟩ vo') := (hs7.mono (fun _ _ e => .inr e)).then (hs8.mono (fun _ _ e => .inl e))
  have hnp : ∀ g, vo'.ownBlock = some g → g ≠ p := fun g hg e => by
    rcases hat g hg with h1 | h1
    · exact h.np (by rw [h1, e])
    · omega
  refine ⟨⟨b7, h.rowk hM (fun k _ e => ?_), ho7.kept hs8 (fun g hg e => hnp g hg e), fun x hx => ?_, Nat.le_trans h.bB hM.size, h.pB, h.ne, h.hl, h.al⟩, hM⟩
  · rcases e with e | e
    · rw [e]; exact h.pB
    · exact h.own.base_le k e
  · rcases List.mem_append.1 hx with hx | hx
    · exact h.outw x hx
    · rw [List.mem_singleton] at hx; subst hx; simp [Lit.wf, IntKind.min, IntKind.max, IntKind.bits, IntKind.signed]; omega
/-- Texts of codes lie elsewhere. -/
theorem XAt.codes (h : XAt w B p A c vo bs a out wide size most code) {b1 : Nat} {v1 : Value} {xs : List Value} (ho : Own w b1 9 v1 xs) (hs : Same (Mn p vo) w w') : Own w' b1 9 v1 xs := by
  refine ho.kept hs (fun g hg e => ?_)
  rcases e with e | e
  · subst e; exact ho.blk_ne h.blk (by decide) hg
  · rcases h.own.2 with ⟨e2, _⟩ | ⟨g', cap, cur, e2, _, hh, _⟩
    · rw [e2] at e; simp [Value.ownBlock] at e
    · rw [e2] at e
      have : g' = g := by simpa [Value.ownBlock] using e
      subst this
      exact ho.blk_ne (t := 5) hh (by decide) hg
end
structure CpRel (w : World) (B p : Nat) (A : Option Addr) (c : Nat) (vo : Value) (x : I) (code : Int) (a5 D N : Nat) (g : Nat) (v17 : Value) (wr : World) : Prop where mk ::
  out_ : ∃ (i : Nat) (vo' : Value), i ≤ N ∧ N ≤ g + i ∧ v17 = .int .i64 (i : Int) ∧ XAt wr B p A c vo' x.bs a5 (ext x.all D i) x.wide x.size x.most code ∧ Same (Mn p vo) w wr ∧ ∀ g, vo'.ownBlock = some g → vo.ownBlock = some g ∨ w.heap.size ≤ g
theorem Try.u8i0 : ∃ i0, Try.prog.info? 5 = some i0 ∧ i0.zero = some (.int .u8 0) ∧ i0.size = 1 ∧ i0.bytes = 1 := by
  obtain ⟨i0, hi, hzz⟩ := Option.map_eq_some_iff.1 Try.u8infI
  simp only [Prod.mk.injEq] at hzz
  exact ⟨i0, hi, hzz.1, hzz.2.1, hzz.2.2⟩
/-- What a token leaves. -/
def TokPost (w : World) (B p : Nat) (A : Option Addr) (c : Nat) (vo : Value) (x : I) (code : Int) (r : G I) (en : Ending) (w' : World) : Prop := match r with
  | .bad e => en = .returned (.int .i64 2) ∧ XAt w' B p A c vo x.bs x.at_ x.all x.wide x.size x.most (e : Nat) ∧ Same (Mn p vo) w w'
  | .ok y => ∃ vo' : Value, en = .returned (.int .i64 (if y.st = 2 then 0 else 1)) ∧ XAt w' B p A c vo' x.bs y.at_ y.all x.wide x.size x.most code ∧ Same (Mn p vo) w w' ∧ ∀ g, vo'.ownBlock = some g → vo.ownBlock = some g ∨ w.heap.size ≤ g
theorem CpRel.next {w wr w9 : World} {B p : Nat} {A : Option Addr} {c : Nat} {vo : Value} {x : I} {code : Int} {a5 D N g i g7 g9 cap cap9 Q : Nat} {E : List Int} {u9 : Int}
    (hX : XAt wr B p A c (.slice (some ⟨g7, 0, none⟩) (Q + D) cap) x.bs a5 E x.wide x.size x.most code) (hM : Same (Mn p vo) w wr) (hat : ∀ k, (Value.slice (some ⟨g7, 0, none⟩) (Q + D) cap).ownBlock = some k → vo.ownBlock = some k ∨ w.heap.size ≤ k)
    (hE : ext x.all D i = E) (hL : E.length = Q + D) (hD : 1 ≤ D) (hU : E.getD Q 0 = u9) (hi : i < N) (hg : N ≤ g + 1 + i)
    (ho9 : w9.ownsRow B 5 1 (.slice (some ⟨g9, 0, none⟩) (Q + D + 1) cap9) (Q + D + 1) (ints .u8 E ++ [.int .u8 u9])) (hat9 : (Value.slice (some ⟨g7, 0, none⟩) (Q + D) cap).ownBlock = some g9 ∨ g9 = wr.heap.size + 1)
    (hS9 : Same (fun k => (Value.slice (some ⟨g7, 0, none⟩) (Q + D) cap).ownBlock = some k) (wr.alloc (.cells #[.int .u8 u9] 5)) w9) :
    CpRel w B p A c vo x code a5 D N g (.int .i64 ((i : Int) + 1)) (w9.setCell ⟨p, 2, none⟩ (.slice (some ⟨g9, 0, none⟩) (Q + D + 1) cap9)) := by
  have hu8 : 0 ≤ u9 ∧ u9 < 256 := by
    refine u8_of' (hX.outw u9 ?_)
    rw [← hU, List.getD_eq_getElem?_getD, List.getElem?_eq_getElem (by omega)]
    exact List.getElem_mem _
  have h7 : Own w9 B 5 (.slice (some ⟨g9, 0, none⟩) (Q + D + 1) cap9) (ints .u8 (E ++ [u9])) := by
    unfold Own
    rw [ints_append, show (ints .u8 E ++ ints .u8 [u9]).length = Q + D + 1 from by rw [List.length_append, ints_length, hL]; rfl]
    exact ho9
  obtain ⟨h9, m9⟩ := (hX.same ((Same.refl (S := fun _ => False) wr).alloc (.cells #[.int .u8 u9] 5))).grown hu8 hS9 h7 (fun k hk => by
    rcases hat9 with e | e
    · left; rw [e]; exact hk
    · right
      have : g9 = k := by simpa [Value.ownBlock] using hk
      simp
      omega)
  have m0 : Same (Mn p (.slice (some ⟨g7, 0, none⟩) (Q + D) cap)) wr _ := ((Same.refl (S := fun _ => False) wr).alloc (.cells #[.int .u8 u9] 5)).any.then m9
  have hx : ext x.all D (i + 1) = E ++ [u9] := by rw [ext, hE, hL, Nat.add_sub_cancel, hU]
  refine ⟨⟨i + 1, _, by omega, by omega, by rw [Int.natCast_add]; rfl, by rw [hx]; exact h9, hM.trans m0 (fun k hk e => ?_), fun k hk => ?_⟩⟩
  · rcases e with e | e
    · exact .inl e
    · rcases hat k e with h | h
      · exact .inr h
      · omega
  · have e9 : g9 = k := by simpa [Value.ownBlock] using hk
    subst e9
    rcases hat9 with e | e
    · exact hat _ e
    · right; have := hM.size; omega
end Go.Proofs.Yteknaaijlkenkaa
