import Derived.Test.YteknaaijlkenkaaInfX
import Derived.Test.YteknaaijlkenkaaBas3
import Derived.Test.YteknaaijlkenkaaRefC
namespace Go.Proofs.Yteknaaijlkenkaa
set_option linter.unusedVariables false
set_option linter.unusedSimpArgs false
open Go.RowKit
attribute [local go_sem] max2i min2i max2t min2t

/-! ### the reference's inflate (stevedoreref12): its X in memory -/
structure XAt (w : World) (B p : Nat) (A : Option Addr) (c : Nat) (vo : Value) (bs : List Int) (a : Nat) (out : List Int) (wide : Bool) (size most : Nat) (code : Int) : Prop where
  blk : Blk w p 75 #[.slice A bs.length c, .int .i64 a, vo, .bool wide, .int .i64 size, .int .i64 most, .int .i64 code]
  row : RowOf w .u8 A c bs
  own : Own w B 5 vo (ints .u8 out)
  outw : ∀ x ∈ out, (Lit.int .u8 x).wf = true
  bB : B ≤ w.heap.size
  pB : B ≤ p
  ne : bs ≠ [] → ∀ ad, A = some ad → ad.block < B
  hl : bs.length ≤ 1000000000
  al : a ≤ 8 * bs.length
section
variable {w w' : World} {B p : Nat} {A : Option Addr} {c : Nat} {vo : Value} {bs : List Int} {a : Nat} {out : List Int} {wide : Bool} {size most : Nat} {code : Int}
theorem XAt.rowk (h : XAt w B p A c vo bs a out wide size most code) {S : Nat → Prop} (hs : Same S w w') (hS : ∀ k, k < w.heap.size → S k → B ≤ k) : RowOf w' .u8 A c bs := by
  by_cases h0 : bs = []
  · subst h0; exact h.row.empty
  · refine h.row.same hs (fun ad e hk => ?_)
    have h1 := h.ne h0 ad e
    have := hS ad.block (by have := h.bB; omega) hk
    omega
theorem XAt.np (h : XAt w B p A c vo bs a out wide size most code) : vo.ownBlock ≠ some p := h.own.blk_ne h.blk (by decide)
/-- New blocks alone. -/
theorem XAt.same (h : XAt w B p A c vo bs a out wide size most code) (hs : Same (fun _ => False) w w') : XAt w' B p A c vo bs a out wide size most code :=
  ⟨h.blk.same hs (fun c => c), h.rowk hs (fun _ _ c => c.elim), h.own.kept hs (fun _ _ c => c), h.outw, Nat.le_trans h.bB hs.size, h.pB, h.ne, h.hl, h.al⟩
theorem XAt.belo (h : XAt w B p A c vo bs a out wide size most code) (hb : Below w.heap.size w w') : XAt w' B p A c vo bs a out wide size most code := h.same (Same.of_below hb)
/-- Its own cells alone. -/
theorem XAt.onP (h : XAt w B p A c vo bs a out wide size most code) {a' : Nat} {code' : Int} (hs : Same (fun k => k = p) w w') (hb : Blk w' p 75 #[.slice A bs.length c, .int .i64 a', vo, .bool wide, .int .i64 size, .int .i64 most, .int .i64 code']) (ha : a' ≤ 8 * bs.length) : XAt w' B p A c vo bs a' out wide size most code' :=
  ⟨hb, h.rowk hs (fun k _ e => by rw [show k = p from e]; exact h.pB), h.own.kept hs (fun g hg e => h.np (by rw [hg, show g = p from e])), h.outw, Nat.le_trans h.bB hs.size, h.pB, h.ne, h.hl, ha⟩
theorem XAt.move (h : XAt w B p A c vo bs a out wide size most code) {a' : Nat} (ha : a' ≤ 8 * bs.length) : XAt (w.setCell ⟨p, 1, none⟩ (.int .i64 (a' : Int))) B p A c vo bs a' out wide size most code :=
  h.onP (Same.set_ (S := fun k => k = p) (p := ⟨p, 1, none⟩) (Same.refl w) (fun _ => rfl) _) (h.blk.set_ 1 (.int .i64 (a' : Int))) ha
theorem XAt.fail (h : XAt w B p A c vo bs a out wide size most code) (e : Int) : XAt (w.setCell ⟨p, 6, none⟩ (.int .i64 e)) B p A c vo bs a out wide size most e :=
  h.onP (Same.set_ (S := fun k => k = p) (p := ⟨p, 6, none⟩) (Same.refl w) (fun _ => rfl) _) (h.blk.set_ 6 (.int .i64 e)) h.al
end
theorem take_map48 (T : List Int) (i : Nat) (z : Int) (h : T[i]? = some z) : (T.map (48 + ·)).take i ++ [48 + z] = (T.map (48 + ·)).take (i + 1) := by
  obtain ⟨hi, e⟩ := List.getElem?_eq_some_iff.1 h
  rw [List.take_succ_eq_append_getElem (by simpa using hi)]
  simp [e]
structure LkRel (w : World) (T : List Int) (g : Nat) (v7 v8 : Value) (wr : World) : Prop where mk ::
  out_ : ∃ i : Nat, i ≤ T.length ∧ T.length ≤ g + i ∧ v8 = .int .i64 (i : Int) ∧ Own wr w.heap.size 5 v7 (ints .u8 ((T.map (48 + ·)).take i)) ∧ (∀ x ∈ (T.map (48 + ·)).take i, (Lit.int .u8 x).wf = true) ∧ Below w.heap.size w wr
set_option maxHeartbeats 4000000 in
set_option maxRecDepth 100000 in
theorem rx_look {w : World} {B p : Nat} {A : Option Addr} {c : Nat} {vo : Value} {bs : List Int} {a : Nat} {out : List Int} {wide : Bool} {size most : Nat} {code : Int} (h : XAt w B p A c vo bs a out wide size most code) (f n : Nat) (hf : f ≤ 1000) (hn : n ≤ 1000) :
    Calls Try.prog 51 #[.pointer (some ⟨p, 0, none⟩), .int .i64 f, .int .i64 n] w fun e w' => e = .returned (.string (txt (((ofB bs).drop (a + f)).take n))) ∧ Below w.heap.size w w' := by
  have hal := h.al
  have hhl := h.hl
  have hcap := h.row.cap
  have hmost := h.row.most
  obtain ⟨T, hT⟩ : ∃ T, ((ofB bs).drop (a + f)).take n = T := ⟨_, rfl⟩
  rw [hT]
  have hTl : T.length = min n (8 * bs.length - (a + f)) := by rw [← hT, List.length_take, List.length_drop, ofB_length]
  have hTx : ∀ i x, i < T.length → bs[(a + f + i) / 8]? = some x → T[i]? = some (x / 2 ^ ((a + f + i) % 8) % 2) := fun i x hi hx => by
    rw [← hT, List.getElem?_take, if_pos (by omega), List.getElem?_drop]
    exact ofB_at bs _ hx
  have HTX := Lib.hid hTx
  have HTL := Lib.hid hTl
  have hTb : T.length ≤ 1000 := by omega
  clear hT hTx hTl
  go_enter Try.func51, Try.ntmps51
  go_wp2_with fail
  go_loopg [7, 8] T.length (LkRel w T)
  case atStart => exact ⟨⟨0, by omega, by omega, rfl, Own.nil _ _ _, by simp, Below.refl _ _⟩⟩
  case round =>
    obtain ⟨i, hi, hg, rfl, ho, hwf, hB⟩ := hrel.out_
    clear hrel
    have hX := h.belo hB
    have m0 : ∀ d : Ext (fun _ => False) wr, d.world.cell? ⟨p, 0, none⟩ = some (.slice A bs.length c) := fun d => ((hX.same d.same).blk.cell 0)
    have m1 : ∀ d : Ext (fun _ => False) wr, d.world.cell? ⟨p, 1, none⟩ = some (.int .i64 a) := fun d => ((hX.same d.same).blk.cell 1)
    by_cases hlt : i < T.length
    · have hTl := HTL.out
      have c1 : decide (i < n) = true := by simp; omega
      have c2 : decide ((a : Int) + f + i < 8 * (bs.length : Int)) = true := by simp; omega
      have hq : (a + f + i) / 8 < bs.length := by omega
      obtain ⟨x, hx⟩ : ∃ x, bs[(a + f + i) / 8]? = some x := ⟨_, List.getElem?_eq_getElem hq⟩
      have hxx := HTX.out i x hlt hx
      have hx8 := u8_of' (h.row.wf x (List.mem_of_getElem? hx))
      obtain ⟨x, rfl⟩ : ∃ y : Nat, x = y := ⟨x.toNat, by omega⟩
      obtain ⟨q, hqe⟩ : ∃ q, q = (a + f + i) / 8 := ⟨_, rfl⟩
      obtain ⟨r, hre⟩ : ∃ r, r = (a + f + i) % 8 := ⟨_, rfl⟩
      rw [← hqe] at hq hx
      rw [← hre] at hxx
      obtain ⟨z, hz, ez⟩ := nat_of_mod ((x : Int) / 2 ^ r) 2 (by omega)
      rw [show ((2 : Nat) : Int) = 2 from rfl] at ez
      have hand := and_u8_1' ((x : Int) / 2 ^ r)
      rw [ez] at hand hxx
      have dq : ((a : Int) + f + i) / 8 = q := by omega
      have dr : ((a : Int) + f + i) % 8 = r := by omega
      have hr8 : r < 8 := by omega
      have HTK := Lib.hid (take_map48 T i z hxx)
      clear hqe hre ez hxx hTl
      go_upto_region 3 with fail
      refine wp_region_ext (fun _ => False) (by kernel_rfl) (by kernel_rfl) ?_
      repeat (go_big_quiet_step (fail))
      refine wpQuiet_nil ?_
      rintro _ ⟨d, rfl⟩
      have hod := ho.kept d.same (fun _ _ c => c)
      have hBd := d.same.below_of hB hB.size (fun _ _ c => c)
      obtain ⟨ad, hA, hcx⟩ := (hX.same d.same).row.rd q x hx
      subst hA
      have k0 := m0 d
      have k1 := m1 d
      have lit : RowOf (d.world.alloc (.cells #[.int .u8 (48 + (z : Int))] 5)) .u8 (some ⟨d.world.heap.size, 0, none⟩) 1 [48 + (z : Int)] := RowOf.lit d.world .u8 5 [48 + (z : Int)] (fun y hy => by rw [List.mem_singleton] at hy; subst hy; simp [Lit.wf, IntKind.min, IntKind.max, IntKind.bits, IntKind.signed]; omega) (by simp)
      have hil : ((T.map (48 + ·)).take i).length = i := by rw [List.length_take, List.length_map]; omega
      generalize hTK : (T.map (48 + ·)).take i = K at *
      clear m0 m1 hX hTK ho hx
      go_wp2_with (at_builtin; go_loud (refine wpList_catN .u8 w.heap.size rfl (.tmp 40) (.tmp 55) 22 5 1 rfl Try.underlying22 Try.u8inf _ K (some ⟨d.world.heap.size, 0, none⟩) 1 1 [48 + (z : Int)] rfl rfl rfl (hod.alloc _) lit (by have := hBd.size; simp; omega) (K.length + 1) rfl (by omega) (by omega) hwf ?_); intro A9 c9 w9 ho9 hr9 hs9 hat9; have B9 := hs9.below_of (hBd.alloc hBd.size (.cells #[.int .u8 (48 + (z : Int))] 5)) (by have := hBd.size; simp; omega) (fun i hi e => by have := hod.base_le i e; omega); clear hat9)
      go_roundg (gk - 1)
      case measure => omega
      case rel =>
        rw [HTK.out] at ho9 hr9
        have e9 : K.length + 1 = i + 1 := by rw [hil]
        rw [e9] at ho9
        exact ⟨⟨i + 1, by omega, by omega, by go_num, ho9, hr9.wf, B9⟩⟩
    · have hil : i = T.length := by omega
      subst hil
      obtain ⟨A5, c5, e5, hr5, ha5⟩ := ho.row hwf
      subst e5
      have hall : (T.map (48 + ·)).take T.length = T.map (48 + ·) := List.take_of_length_le (by rw [List.length_map]; exact Nat.le_refl _)
      rw [hall] at hr5 ho ⊢
      have HT := Lib.hid (show txt T = strOfNums (T.map (48 + ·)) from rfl)
      have hln : (T.map (48 + ·)).length = T.length := by rw [List.length_map]
      have t5 := fun d : Ext (fun _ => False) wr => (hr5.strAt rfl) d.world d.same
      rw [hln] at t5 ⊢
      have hTl := HTL.out
      generalize strOfNums (T.map (48 + ·)) = S at *
      clear hall hr5 ha5 ho hln
      by_cases hin : T.length < n
      · have c1 : decide (T.length < n) = true := by simpa using hin
        have c2 : decide ((a : Int) + f + T.length < 8 * (bs.length : Int)) = false := by simp; omega
        clear hin hTl
        go_upto_region 3 with fail
        refine wp_region_ext (fun _ => False) (by kernel_rfl) (by kernel_rfl) ?_
        repeat (go_big_quiet_step (fail))
        refine wpQuiet_nil ?_
        rintro _ ⟨d, rfl⟩
        have t6 := t5 d
        have hBd := d.same.below_of hB hB.size (fun _ _ c => c)
        go_wp2_with fail
        go_ret
        exact ⟨by rw [HT.out]; rfl, hBd⟩
      · have c1 : decide (T.length < n) = false := by simpa using hin
        clear hin hTl
        go_upto_region 3 with fail
        refine wp_region_ext (fun _ => False) (by kernel_rfl) (by kernel_rfl) ?_
        repeat (go_big_quiet_step (fail))
        refine wpQuiet_nil ?_
        rintro _ ⟨d, rfl⟩
        have t6 := t5 d
        have hBd := d.same.below_of hB hB.size (fun _ _ c => c)
        go_wp2_with fail
        go_ret
        exact ⟨by rw [HT.out]; rfl, hBd⟩
end Go.Proofs.Yteknaaijlkenkaa
