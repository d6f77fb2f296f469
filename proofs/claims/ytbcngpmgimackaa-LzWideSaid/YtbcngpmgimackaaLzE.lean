import Derived.Test.YtbcngpmgimackaaLz
import Derived.Recover
namespace Go.Proofs.Ytbcngpmgimackaa
open Go.RowKit
attribute [local go_sem] max2i min2i max2t min2t

theorem Try.u8info2 : (Try.prog.info? 5).map (fun i => (i.zero, i.size, i.bytes)) = some (some (.int .u8 0), 1, 1) := by kernel_rfl
def faultOf (code at_ : Int) : PanicEntry := { v := .iface 54 (.agg #[.int .i64 code, .int .i64 at_]), recovered := false }

set_option maxHeartbeats 1600000 in
set_option maxRecDepth 100000 in
theorem put_bad (B : Nat) (v : Value) (out : List Int) (t : Tok) (wide : Bool) (at_ : Int) (w : World) (ho : Own w B 5 v (ints .u8 out)) (hl : out.length ≤ 1073741824) (hw : ¬ wrong wide 1073741824 out.length t = 0) :
    Calls Try.prog 25 #[v, tokV t, .bool wide, .int .i64 at_] w fun e w' => e = .panicked [faultOf (wrong wide 1073741824 out.length t) at_] ∧ Same (fun _ => False) w w' := by
  obtain ⟨A, c, rfl, hc1, hc2, _, _⟩ := ho.rdb
  clear ho
  obtain ⟨a, b, d⟩ := t
  have hmy := fun W => Lib.hid (lz_may a b d wide W)
  generalize hx : wrong wide 1073741824 out.length ⟨a, b, d⟩ = x at *
  have HX := Lib.hid hx
  clear hx
  simp only [tokV]
  by_cases h1 : may wide ⟨a, b, d⟩ = true
  · have h1' : mayN a b d wide = true := h1
    simp only [h1'] at hmy
    by_cases h2 : (out.length : Int) < b
    · have hx2 : x = 2 := by have := HX.out; rw [← this, wrong, if_pos (.inr h2)]
      subst hx2
      clear h1 h1' hw HX
      go_enter Try.func25, Try.ntmps25
      go_wp2_with fail
      refine (hmy _).out.mono ?_
      rintro e w1 ⟨rfl, hs⟩
      have f5 := (Blk.new w 42 #[.int .i64 a, .int .i64 b, .int .u8 d]).same hs (fun c => c)
      have hs1 : Same (fun _ => False) w w1 := hs.alloc_left
      have hz1 := hs.size
      rw [World.size_alloc] at hz1
      have c0 := f5.cell 0
      have c1 := f5.cell 1
      have c2 := f5.cell 2
      go_wp2_with fail
      exact ⟨rfl, rfl, hs1⟩
    · have h3 : (1073741824 : Int) - out.length < max a 1 := by
        have := HX.out
        rw [wrong, if_neg (by simp [h1]; omega)] at this
        split at this
        · rename_i h; exact h
        · exact absurd this.symm hw
      have hx2 : x = 3 := by have := HX.out; rw [← this, wrong, if_neg (by simp [h1]; omega), if_pos h3]
      subst hx2
      clear h1 h1' hw HX
      go_enter Try.func25, Try.ntmps25
      go_wp2_with fail
      refine (hmy _).out.mono ?_
      rintro e w1 ⟨rfl, hs⟩
      have f5 := (Blk.new w 42 #[.int .i64 a, .int .i64 b, .int .u8 d]).same hs (fun c => c)
      have hs1 : Same (fun _ => False) w w1 := hs.alloc_left
      have hz1 := hs.size
      rw [World.size_alloc] at hz1
      have c0 := f5.cell 0
      have c1 := f5.cell 1
      have c2 := f5.cell 2
      go_wp2_with fail
      exact ⟨rfl, rfl, hs1⟩
  · have h1' : mayN a b d wide = false := by rw [← Bool.not_eq_true]; exact h1
    simp only [h1'] at hmy
    have hx2 : x = 2 := by have := HX.out; rw [← this, wrong, if_pos (.inl (by simpa using h1))]
    subst hx2
    clear h1 h1' hw HX
    go_enter Try.func25, Try.ntmps25
    go_wp2_with fail
    refine (hmy _).out.mono ?_
    rintro e w1 ⟨rfl, hs⟩
    have f5 := (Blk.new w 42 #[.int .i64 a, .int .i64 b, .int .u8 d]).same hs (fun c => c)
    have hs1 : Same (fun _ => False) w w1 := hs.alloc_left
    have hz1 := hs.size
    rw [World.size_alloc] at hz1
    have c0 := f5.cell 0
    have c1 := f5.cell 1
    have c2 := f5.cell 2
    go_wp2_with fail
    exact ⟨rfl, rfl, hs1⟩

structure PutRel (w : World) (B : Nat) (v : Value) (out : List Int) (D M : Nat) (g : Nat) (v0 v43 : Value) (wr : World) : Prop where mk ::
  out_ : ∃ k : Nat, k ≤ M ∧ M ≤ g + k ∧ v43 = .int .i64 (k : Int) ∧ Own wr B 5 v0 (ints .u8 (ext out D k)) ∧ Blk wr w.heap.size 42 #[.int .i64 M, .int .i64 D, .int .u8 0] ∧
    Same (fun i => v.ownBlock = some i) w wr ∧ (∀ i, v0.ownBlock = some i → i < w.heap.size → v.ownBlock = some i) ∧ B ≤ wr.heap.size

set_option maxHeartbeats 1600000 in
set_option maxRecDepth 100000 in
theorem put_good (B : Nat) (v : Value) (out : List Int) (t : Tok) (wide : Bool) (at_ : Int) (w : World) (ho : Own w B 5 v (ints .u8 out)) (hB : B ≤ w.heap.size) (hl : out.length ≤ 1073741824) (hw : wrong wide 1073741824 out.length t = 0) :
    Calls Try.prog 25 #[v, tokV t, .bool wide, .int .i64 at_] w fun e w' => ∃ v', e = .returned v' ∧ Own w' B 5 v' (ints .u8 (more out t)) ∧ Same (fun i => v.ownBlock = some i) w w' := by
  have hwz := wrong_zero hw
  have ho0 := ho
  obtain ⟨A, c, rfl, hc1, hc2, _, _⟩ := ho.rdb
  have hown : ∀ g, (Value.slice A out.length c).ownBlock = some g → g < w.heap.size := fun g hg => ho.lt g hg
  obtain ⟨h1, h2, h3⟩ := hwz
  have hlit := fun h0 => may_lit h1 h0
  have hmat := fun h0 => may_match h1 h0
  obtain ⟨a, b, d⟩ := t
  have hmy := fun W => Lib.hid (lz_may a b d wide W)
  have h1' : mayN a b d wide = true := h1
  simp only [h1'] at hmy
  simp only at h2 h3 hlit hmat
  generalize hm : more out ⟨a, b, d⟩ = res
  have HM := Lib.hid hm
  have HO := Lib.hid ho
  clear h1 h1' hw hm ho ho0
  simp only [tokV]
  by_cases h0 : a = 0
  · subst h0
    have hb := hlit rfl
    subst hb
    clear hlit hmat
    go_enter Try.func25, Try.ntmps25
    go_wp2_with fail
    refine (hmy _).out.mono ?_
    rintro e w1 ⟨rfl, hs⟩
    have f5 := (Blk.new w 42 #[.int .i64 0, .int .i64 0, .int .u8 d]).same hs (fun c => c)
    have hs1 : Same (fun _ => False) w w1 := hs.alloc_left
    have hz1 := hs.size
    rw [World.size_alloc] at hz1
    have c0 := f5.cell 0
    have c1 := f5.cell 1
    have c2 := f5.cell 2
    have ho1 := HO.out.kept hs1 (fun _ _ c => c)
    go_wp2_with (at_builtin; go_loud (refine wpList_app1 B rfl (.tmp 36) (.tmp 39) 28 5 (.int .u8 0) 1 rfl Try.underlying28 Try.u8info2 rfl (.slice A out.length c) _ (.int .u8 d) ⟨w1.heap.size, 0, none⟩ 1 rfl rfl ?c1 rfl (ho1.alloc _) ?c2 ?c3 ?c4 ?_))
    case c1 => simp
    case c2 => simp; omega
    case c3 => simp [ints]; omega
    case c4 => simp [ints]; omega
    intro v2 w2 ho2 hs2 hat
    go_wp2_with fail
    go_ret
    refine ⟨v2, rfl, ?_, ?_⟩
    · rw [← HM.out, more, if_pos rfl, ints_append]; exact ho2
    · exact hs1.any.then hs2.alloc_left
  · obtain ⟨hd, ha1, ha2, hb1, hb2⟩ := hmat h0
    clear hlit hmat
    have h0' : (a == 0) = false := by simp [h0]
    obtain ⟨D, rfl⟩ : ∃ D : Nat, b = D := ⟨b.toNat, by omega⟩
    obtain ⟨M, rfl⟩ : ∃ M : Nat, a = M := ⟨a.toNat, by omega⟩
    clear h0
    subst hd
    have b18 : decide (out.length < D) = false := by simp; omega
    have b29 : decide ((1073741824 : Int) - out.length < max (M : Int) 1) = false := by simp; omega
    go_enter Try.func25, Try.ntmps25
    go_wp2_with fail
    refine (hmy _).out.mono ?_
    rintro e w1 ⟨rfl, hs⟩
    have f5 := (Blk.new w 42 #[.int .i64 M, .int .i64 D, .int .u8 0]).same hs (fun c => c)
    have hs1 : Same (fun _ => False) w w1 := hs.alloc_left
    have hz1 := hs.size
    rw [World.size_alloc] at hz1
    have c0 := f5.cell 0
    have c1 := f5.cell 1
    have c2 := f5.cell 2
    have ho1 := HO.out.kept hs1 (fun _ _ c => c)
    clear HO
    have hDl : D ≤ out.length := by omega
    have hMl : M + out.length ≤ 1073741824 := by omega
    clear h3
    go_wp2_with fail
    go_loopg [0, 43] M (PutRel w B (.slice A out.length c) out D M)
    case atStart => exact ⟨0, by omega, by omega, rfl, ho1, f5, hs1.any, fun i hi _ => hi, by omega⟩
    case round =>
      clear ho1 f5 hs1 hs hz1 c0 c1 c2
      obtain ⟨k, hk, hg, rfl, ho, f5, hsr, hbl, hBr⟩ := hrel
      have hL := ext_length out D k
      by_cases hlt : k < M
      · have hne := ho.blk_ne f5 (by decide)
        have ho7 := ho
        obtain ⟨A7, c7, rfl, hc7, hc8, hR, hA7⟩ := ho.rdb
        generalize hcur : ext out D k = cur at *
        have Hcur := Lib.hid hcur
        have HL := Lib.hid hL
        have hcl : cur.length ≤ 1073741824 := by omega
        have hclD : D ≤ cur.length := by omega
        have hcl0 : cur.length < 1073741824 := by omega
        clear hcur hL
        rcases hR with ⟨rfl, rfl⟩ | ⟨b7, o7, rfl, hcell⟩
        · simp at hclD; omega
        have hc9 := hcell (cur.length - D) (by omega)
        have hne7 : b7 ≠ w.heap.size := fun e => hne (congrArg some e)
        have hbl7 : b7 < w.heap.size → (Value.slice A out.length c).ownBlock = some b7 := fun h => hbl b7 rfl h
        have c0 := f5.cell 0
        have c1 := f5.cell 1
        have HO := Lib.hid ho7
        clear hcell ho ho7
        go_wp2_with (at_builtin; go_loud (refine wpList_app1 B rfl (.tmp 45) (.tmp 54) 28 5 (.int .u8 0) 1 rfl Try.underlying28 Try.u8info2 rfl (.slice (some ⟨b7, o7, none⟩) cur.length c7) _ (.int .u8 (cur.getD (cur.length - D) 0)) ⟨wr.heap.size, 0, none⟩ 1 rfl rfl ?d1 rfl (HO.out.alloc _) ?d2 ?d3 ?d4 ?_))
        case d1 => simp [List.getD_eq_getElem?_getD]
        case d2 => first | omega | (simp; omega)
        case d3 => simp [ints]; omega
        case d4 => simp [ints]; omega
        intro v8 w8 ho8 hs8 hat
        have hz8 := hs8.size
        rw [World.size_alloc] at hz8
        have ho9 : Own w8 B 5 v8 (ints .u8 (ext out D (k + 1))) := by
          rw [ext, Hcur.out, ints_append]; exact ho8
        have f9 := (f5.alloc (.cells #[.int .u8 (cur.getD (cur.length - D) 0)] 5)).same (hs8) (fun e => by have e2 : b7 = w.heap.size := (by first | exact e | simpa [Value.ownBlock] using e); exact hne7 e2)
        have hsz := hsr.size
        have hs9 : Same (fun i => (Value.slice A out.length c).ownBlock = some i) w w8 := hsr.trans hs8.alloc_left (fun i hi e => by have e2 : b7 = i := (by first | exact e | simpa [Value.ownBlock] using e); rw [← e2] at hi ⊢; exact hbl7 hi)
        have hb9 : ∀ i, v8.ownBlock = some i → i < w.heap.size → (Value.slice A out.length c).ownBlock = some i := fun i hi hlt => by
          rcases hat with e | e
          · have e2 : v8.ownBlock = some b7 := (by first | exact e | simpa [Value.ownBlock] using e)
            rw [e2] at hi
            injection hi with hi
            rw [← hi] at hlt ⊢
            exact hbl7 hlt
          · rw [e] at hi; injection hi with hi; first | omega | (simp at hi; omega)
        clear ho8 hs8 f5
        go_wp2_with fail
        go_roundg (gk - 1)
        case measure => omega
        case rel => exact ⟨k + 1, by omega, by omega, by go_num, ho9, f9, hs9, hb9, by omega⟩
      · have hkm : k = M := by omega
        subst hkm
        clear hL
        obtain ⟨A7, c7, rfl, _, _, _, _⟩ := ho.rdb
        go_wp2_with fail
        go_ret
        refine ⟨_, rfl, ?_, hsr⟩
        rw [← HM.out, more, if_neg (by simp only; omega)]
        exact ho

end Go.Proofs.Ytbcngpmgimackaa
