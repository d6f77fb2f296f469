import Derived.Test.YtbcngpmgimackaaLzR
namespace Go.Proofs.Ytbcngpmgimackaa
open Go.RowKit
attribute [local go_sem] max2i min2i max2t min2t

set_option maxHeartbeats 1600000 in
set_option maxRecDepth 100000 in
theorem told11 (w : World) : Calls Try.prog 16 #[] w fun e w' => e = .returned (.bool true) ∧ Below w.heap.size w w' := by
  have he : ∀ x : Tok, (S42.enc x).length = 3 := fun _ => rfl
  have x1 : expand false 1073741824 [⟨0, 0, 97⟩, ⟨0, 0, 98⟩, ⟨5, 2, 0⟩] 0 [] = ([97, 98, 97, 98, 97, 98, 97], 0, 0) := by decide
  have x2 : expand false 1073741824 [⟨0, 0, 97⟩, ⟨3, 2, 0⟩] 0 [] = ([], 1, 2) := by decide
  have x3 : size [⟨0, 0, 0⟩, ⟨7, 1, 0⟩] = 8 := by decide
  go_enter Try.func16, Try.ntmps16
  go_wp2_with fail
  refine (expand_calls (some ⟨w.heap.size, 0, none⟩) 3 [⟨0, 0, 97⟩, ⟨0, 0, 98⟩, ⟨5, 2, 0⟩] false _ (RowS.of_blk (l := [⟨0, 0, 97⟩, ⟨0, 0, 98⟩, ⟨5, 2, 0⟩]) he (t := 42) ?_ (by decide) ?_)).mono ?_
  · exact Blk.new w 42 #[.int .i64 0, .int .i64 0, .int .u8 97, .int .i64 0, .int .i64 0, .int .u8 98, .int .i64 5, .int .i64 2, .int .u8 0]
  · intro x hx
    simp at hx
    rcases hx with rfl | rfl | rfl <;> exact ⟨by decide, by decide, by decide⟩
  rw [x1]
  rintro e w1 ⟨v1, rfl, ho1, hb1⟩
  obtain ⟨A1, c1, rfl, _, _, hR1, _⟩ := ho1.rdb
  have B1 : Below w.heap.size w w1 := ((Below.refl _ w).alloc (Nat.le_refl _) _).trans (hb1.mono (by simp))
  go_wp2_with fail
  refine (expand_calls (some ⟨w1.heap.size, 0, none⟩) 2 [⟨0, 0, 97⟩, ⟨3, 2, 0⟩] false _ (RowS.of_blk (l := [⟨0, 0, 97⟩, ⟨3, 2, 0⟩]) he (t := 42) ?_ (by decide) ?_)).mono ?_
  · exact Blk.new w1 42 #[.int .i64 0, .int .i64 0, .int .u8 97, .int .i64 3, .int .i64 2, .int .u8 0]
  · intro x hx
    simp at hx
    rcases hx with rfl | rfl <;> exact ⟨by decide, by decide, by decide⟩
  rw [x2]
  rintro e w2 ⟨v2, rfl, ho2, hb2⟩
  have B2 : Below w.heap.size w w2 := (B1.alloc B1.size _).trans (hb2.mono (by have := B1.size; simp; omega))
  have hz2 := hb2.size
  rw [World.size_alloc] at hz2
  have hR2 := (hR1.same ((Same.refl (S := fun _ => False) w1).alloc _) (fun _ _ c => c)).same (Same.of_below (S := fun _ => False) hb2) (fun _ _ c => c)
  have hstr := hR2.to_string (P := Try.prog) (n := 7) (c := c1) (dst := 9) rfl Try.underlying28 Try.underlying5 Try.underlying9
  rw [show strOfNums [97, 98, 97, 98, 97, 98, 97] = ⟨#[97, 98, 97, 98, 97, 98, 97]⟩ from by decide] at hstr
  obtain ⟨A2, c2, rfl, _, _, _, _⟩ := ho2.rdb
  clear hR1 hR2 ho1 ho2 hb1 hb2 B1
  go_wp2_with fail
  refine (lz_size (some ⟨w2.heap.size, 0, none⟩) 2 [⟨0, 0, 0⟩, ⟨7, 1, 0⟩] _ (RowS.of_blk (l := [⟨0, 0, 0⟩, ⟨7, 1, 0⟩]) he (t := 42) ?_ (by decide) ?_)).mono ?_
  · exact Blk.new w2 42 #[.int .i64 0, .int .i64 0, .int .u8 0, .int .i64 7, .int .i64 1, .int .u8 0]
  · intro x hx
    simp at hx
    rcases hx with rfl | rfl <;> exact ⟨by decide, by decide, by decide⟩
  rw [x3]
  rintro e w3 ⟨rfl, hb3⟩
  go_wp2_with fail
  go_ret
  exact ⟨rfl, (B2.alloc B2.size _).trans (hb3.mono (by have := B2.size; simp; omega))⟩

structure LzRel (w : World) (l : List Tok) (g : Nat) (v5 : Value) (wr : World) : Prop where mk ::
  out_ : ∃ k : Nat, k ≤ l.length ∧ l.length ≤ g + k ∧ v5 = .int .i64 (k : Int) ∧ Below w.heap.size w wr

theorem RowS.below {α : Type} {w w' : World} {m c : Nat} {A : Option Addr} {l : List α} {enc : α → List Value} {ok ok' : α → Prop} (h : RowS w m A c l enc ok) (hb : Below w.heap.size w w') (hk : ∀ x, ok x → ok' x) : RowS w' m A c l enc ok' :=
  ⟨fun i x hx => by
    obtain ⟨b, off, e, hc⟩ := h.rd i x hx
    exact ⟨b, off, e, fun j v hv => (hb.cell (World.block_lt_of_cell? w _ (hc j v hv))).trans (hc j v hv)⟩, h.cap, h.most, fun x hx => hk x (h.ok x hx), h.nil⟩

set_option maxHeartbeats 1600000 in
set_option maxRecDepth 100000 in
theorem lzExpands_walk (A : Option Addr) (c : Nat) (l : List Tok) (wide : Bool) (w : World) (h00 : RowS w 3 A c l S42.enc (S42.ok w)) :
    Calls Try.prog 7 #[.slice A l.length c, .bool wide] w fun e w' => e = .returned (.bool true) ∧ Below w.heap.size w w' := by
  have ht := fun W => Lib.hid (told11 W)
  have hm := h00.most
  have hcap := h00.cap
  by_cases h1 : 100 < l.length
  · have h1' : decide ((100 : Int) < l.length) = true := by simp; omega
    go_enter Try.func7, Try.ntmps7
    go_wp2_with (go_at_call 16; refine (ht _).out.mono ?_; rintro e w' ⟨rfl, hb⟩)
    go_ret
    exact ⟨rfl, hb⟩
  · have h1' : decide ((100 : Int) < l.length) = false := by simp; omega
    go_enter Try.func7, Try.ntmps7
    go_wp2_with fail
    go_loopg [5] l.length (LzRel w l)
    case atStart => exact ⟨0, by omega, by omega, rfl, Below.refl _ _⟩
    case round =>
      obtain ⟨k, hk, hg, rfl, hb⟩ := hrel
      by_cases hlt : k < l.length
      · obtain ⟨x, hx⟩ : ∃ x, l[k]? = some x := ⟨_, List.getElem?_eq_getElem hlt⟩
        obtain ⟨b, off, rfl, c0, c1, c2⟩ := S42.at_ h00 hb hx
        have k0 : ∀ d : Ext (fun _ => False) wr, d.world.cell? ⟨b, off + k * 3, none⟩ = some (.int .i64 x.f0) := fun d => d.same.cell c0 (fun c => c)
        have k1 : ∀ d : Ext (fun _ => False) wr, d.world.cell? ⟨b, off + k * 3 + 1, none⟩ = some (.int .i64 x.f1) := fun d => d.same.cell c1 (fun c => c)
        have k2 : ∀ d : Ext (fun _ => False) wr, d.world.cell? ⟨b, off + k * 3 + 2, none⟩ = some (.int .u8 x.f2) := fun d => d.same.cell c2 (fun c => c)
        have m1 := fun d : Ext (fun _ => False) wr => Lib.hid (ext_call (lz_may x.f0 x.f1 x.f2 wide d.world))
        have m2 := fun d : Ext (fun _ => False) wr => Lib.hid (ext_call (ref_may x.f0 x.f1 x.f2 wide d.world))
        have en : (mayN x.f0 x.f1 x.f2 wide != mayN x.f0 x.f1 x.f2 wide) = false := by simp
        generalize mayN x.f0 x.f1 x.f2 wide = r at *
        clear hx c0 c1 c2
        go_wp2_with fail
        refine wp_region_ext (fun _ => False) (by kernel_rfl) (by kernel_rfl) ?_
        repeat (go_big_quiet_step (first | exact (m1 _).out | exact (m2 _).out))
        refine wpQuiet_nil ?_
        rintro _ ⟨d, rfl⟩
        go_wp2_with fail
        go_roundg (gk - 1)
        case measure => omega
        case rel => exact ⟨k + 1, by omega, by omega, by go_num, d.same.below_of hb hb.size (fun _ _ c => c)⟩
      · have hkl : k = l.length := by omega
        subst hkl
        go_wp2_with fail
        refine (lz_size A c l wr (h00.below hb (fun _ h => h))).mono ?_
        rintro e w1 ⟨rfl, hb1⟩
        have B1 := hb.trans (hb1.mono hb.size)
        go_wp2_with fail
        refine (ref_size A c l w1 (h00.below B1 (fun _ h => h))).mono ?_
        rintro e w2 ⟨rfl, hb2⟩
        have B2 := B1.trans (hb2.mono B1.size)
        have e1 : (size l != size l) = false := by simp
        go_wp2_with fail
        refine (few_calls A c l w2 (h00.below B2 (fun _ h => h))).mono ?_
        rintro e w3 ⟨rfl, hb3⟩
        have B3 := B2.trans (hb3.mono B2.size)
        clear hb hb1 hb2 hb3 B1 B2
        by_cases hf : l.length ≤ 100 ∧ size l ≤ 70000
        · have hf' : decide (l.length ≤ 100 ∧ size l ≤ 70000) = true := by simpa using hf
          rw [hf']
          clear hf hf'
          go_wp2_with fail
          refine (expand_calls A c l wide w3 (h00.below B3 (fun _ h => h))).mono ?_
          rintro e w4 ⟨v4, rfl, ho4, hb4⟩
          have B4 := B3.trans (hb4.mono B3.size)
          go_wp2_with fail
          refine (ref_expand A c l wide 1073741824 w4 (h00.below B4 (fun _ h => h)) (by omega) (by omega)).mono ?_
          rintro e w5 ⟨v5, rfl, ho5, hb5⟩
          have B5 := B4.trans (hb5.mono B4.size)
          generalize expand wide 1073741824 l 0 [] = res at *
          obtain ⟨out, at_, code⟩ := res
          simp only at *
          obtain ⟨A4, c4, rfl, _, _, hR4, _⟩ := ho4.rdb
          obtain ⟨A5, c5, rfl, _, _, hR5, _⟩ := ho5.rdb
          have hR4' := hR4.same (Same.of_below (S := fun _ => False) hb5) (fun _ _ c => c)
          clear ho4 ho5 hb4 hb5 hR4 B3 B4
          go_wp2_with fail
          refine (ht _).out.mono ?_
          rintro e w6 ⟨rfl, hb6⟩
          have B6 := B5.trans (hb6.mono B5.size)
          have t4 := (hR4'.same (Same.of_below (S := fun _ => False) hb6) (fun _ _ c => c)).to_string (P := Try.prog) (n := out.length) (c := c4) (dst := 9) rfl Try.underlying28 Try.underlying5 Try.underlying9
          have t5 := (hR5.same (Same.of_below (S := fun _ => False) hb6) (fun _ _ c => c)).to_string (P := Try.prog) (n := out.length) (c := c5) (dst := 9) rfl Try.underlying28 Try.underlying5 Try.underlying9
          generalize strOfNums out = st at *
          have e2 : ((at_ : Int) == at_) = true := by simp
          have e3 : (code == code) = true := by simp
          clear hR4' hR5 hb6 B5
          go_wp2_with fail
          go_ret
          exact ⟨rfl, B6⟩
        · have hf' : decide (l.length ≤ 100 ∧ size l ≤ 70000) = false := by simpa using hf
          rw [hf']
          clear hf hf'
          go_wp2_with (go_at_call 16; refine (ht _).out.mono ?_; rintro e w' ⟨rfl, hb'⟩)
          go_ret
          exact ⟨rfl, B3.trans (hb'.mono B3.size)⟩
end Go.Proofs.Ytbcngpmgimackaa
