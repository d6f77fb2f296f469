import Derived.Test.YtbcngpmgimackaaLzX
namespace Go.Proofs.Ytbcngpmgimackaa
open Go.RowKit
attribute [local go_sem] max2i min2i max2t min2t

theorem flat_at {α : Type} {enc : α → List Value} {m : Nat} (hm : ∀ x, (enc x).length = m) : ∀ (l : List α) (i : Nat) (x : α) (j : Nat) (v : Value), l[i]? = some x → (enc x)[j]? = some v → (l.flatMap enc)[i * m + j]? = some v
  | [], i, x, j, v, h, _ => by simp at h
  | y :: l, 0, x, j, v, h, hv => by
    simp only [List.getElem?_cons_zero, Option.some.injEq] at h
    subst h
    have hj := (List.getElem?_eq_some_iff.1 hv).1
    rw [List.flatMap_cons, Nat.zero_mul, Nat.zero_add, List.getElem?_append_left hj, hv]
  | y :: l, i + 1, x, j, v, h, hv => by
    simp only [List.getElem?_cons_succ] at h
    rw [List.flatMap_cons, List.getElem?_append_right (by rw [hm]; rw [Nat.add_mul]; omega), hm, show (i + 1) * m + j - m = i * m + j from by rw [Nat.add_mul]; omega]
    exact flat_at hm l i x j v h hv
theorem RowS.of_blk {α : Type} {w : World} {g m : Nat} {t : TypeId} {l : List α} {enc : α → List Value} {ok : α → Prop} (hm : ∀ x, (enc x).length = m) (hB : Blk w g t (l.flatMap enc).toArray) (hl : l.length ≤ 9223372036854775807) (hok : ∀ x ∈ l, ok x) :
    RowS w m (some ⟨g, 0, none⟩) l.length l enc ok :=
  ⟨fun i x hx => ⟨g, 0, rfl, fun j v hv => by
    rw [Nat.zero_add, hB.cell]
    simpa using flat_at hm l i x j v hx hv⟩, Nat.le_refl _, hl, hok, by simp⟩
structure ExpRel (w : World) (l : List Tok) (wide : Bool) (g : Nat) (v12 : Value) (wr : World) : Prop where mk ::
  out_ : ∃ (k : Nat) (v : Value) (out : List Int), k ≤ l.length ∧ l.length ≤ g + k ∧ v12 = .int .i64 (k : Int) ∧ expand wide 1073741824 l 0 [] = expand wide 1073741824 (l.drop k) k out ∧
    Named wr w.heap.size (w.heap.size + 1) (w.heap.size + 2) v 0 0 ∧ Own wr (w.heap.size + 3) 5 v (ints .u8 out) ∧ w.heap.size + 3 ≤ wr.heap.size ∧ out.length ≤ k * 65538 ∧ out.length ≤ 1073741824 ∧ Below w.heap.size w wr

theorem Named.kept {w w' : World} {p0 p1 p2 : Nat} {v : Value} {a e : Int} {S : Nat → Prop} (h : Named w p0 p1 p2 v a e) (hs : Same S w w') (h0 : ¬ S p0) (h1 : ¬ S p1) (h2 : ¬ S p2) : Named w' p0 p1 p2 v a e :=
  ⟨h.b0.same hs h0, h.b1.same hs h1, h.b2.same hs h2⟩
theorem Named.store {w : World} {p0 p1 p2 : Nat} {v : Value} {a e : Int} (h : Named w p0 p1 p2 v a e) (v' : Value) : Named (w.setCell ⟨p0, 0, none⟩ v') p0 p1 p2 v' a e :=
  ⟨by have := h.b0.set_ 0 v'; simpa using this, h.b1.far (h.b1.ne_ h.b0 (by decide)) _, h.b2.far (h.b2.ne_ h.b0 (by decide)) _⟩
theorem drop_at {α : Type} {l : List α} {k : Nat} {x : α} (h : l[k]? = some x) : l.drop k = x :: l.drop (k + 1) := by
  have hk := (List.getElem?_eq_some_iff.1 h).1
  rw [List.drop_eq_getElem_cons hk, (List.getElem?_eq_some_iff.1 h).2]

set_option maxHeartbeats 1600000 in
set_option maxRecDepth 100000 in
theorem expand_calls (A : Option Addr) (c : Nat) (l : List Tok) (wide : Bool) (w : World) (h00 : RowS w 3 A c l S42.enc (S42.ok w)) :
    Calls Try.prog 22 #[.slice A l.length c, .bool wide] w fun e w' => ∃ v, e = .returned (.tuple #[v, .int .i64 ((expand wide 1073741824 l 0 []).2.1 : Nat), .int .i64 (expand wide 1073741824 l 0 []).2.2]) ∧
      Own w' w.heap.size 5 v (ints .u8 (expand wide 1073741824 l 0 []).1) ∧ Below w.heap.size w w' := by
  have hmf : ∀ (fn : Fn) (first cap : Array Value) (w : World), (Instr.makeFunc fn first cap).run Try.prog w = .ok (.func fn first cap) w := fun _ _ _ _ => rfl
  have hm := h00.most
  have hcap := h00.cap
  generalize hres : expand wide 1073741824 l 0 [] = res
  have HRES := Lib.hid hres
  clear hres
  go_enter_defers Try.func22, Try.ntmps22
  go_wp2_with fail
  go_loopg [12] l.length (ExpRel w l wide)
  case atStart =>
    refine ⟨0, .slice none 0 0, [], by omega, by omega, rfl, by simp, ⟨?_, ?_, ?_⟩, Own.nil _ _ _, by simp, by simp, by simp, ?_⟩
    · exact ((Blk.new w 28 #[.slice none 0 0]).alloc _).alloc _
    · have := (Blk.new (w.alloc (.cells #[.slice none 0 0] 28)) 3 #[.int .i64 0]).alloc (.cells #[.int .i64 0] 24)
      simpa using this
    · have := Blk.new ((w.alloc (.cells #[.slice none 0 0] 28)).alloc (.cells #[.int .i64 0] 3)) 24 #[.int .i64 0]
      simpa using this
    · exact ((((Below.refl _ w).alloc (Nat.le_refl _) _).alloc (by simp) _).alloc (by simp; omega) _)
  case round =>
    obtain ⟨k, v, out, hk, hg, rfl, hex, hnm, hO, hB, hlen, hlen2, hb⟩ := hrel
    have HEX := Lib.hid hex
    clear hex
    have n0 := hO.blk_ne hnm.b0 (by decide)
    have n1 := hO.blk_ne hnm.b1 (by decide)
    have n2 := hO.blk_ne hnm.b2 (by decide)
    have hO' := Lib.hid hO
    obtain ⟨A9, c9, rfl, _, _, _, _⟩ := hO.rdb
    clear hO
    by_cases hlt : k < l.length
    · obtain ⟨x, hx⟩ : ∃ x, l[k]? = some x := ⟨_, List.getElem?_eq_getElem hlt⟩
      obtain ⟨b, off, rfl, c0, c1, c2⟩ := S42.at_ h00 hb hx
      have hdr := Lib.hid (drop_at hx)
      have q0 := hnm.b0.cell 0
      have qf := hnm.b0.frozen 0
      have ql := hnm.b0.lt
      clear hx
      by_cases hw : wrong wide 1073741824 out.length x = 0
      · go_wp2_with fail
        have hbx := (Same.refl (S := fun _ => False) wr).alloc (.cells #[.int .i64 x.f0, .int .i64 x.f1, .int .u8 x.f2] 42)
        have hO2 := hO'.out.alloc (.cells #[.int .i64 x.f0, .int .i64 x.f1, .int .u8 x.f2] 42)
        have hnm2 := hnm.kept hbx (fun c => c) (fun c => c) (fun c => c)
        have hb2 := hb.alloc hb.size (.cells #[.int .i64 x.f0, .int .i64 x.f1, .int .u8 x.f2] 42)
        have hz2 : wr.heap.size < (wr.alloc (.cells #[.int .i64 x.f0, .int .i64 x.f1, .int .u8 x.f2] 42)).heap.size := by simp
        clear c0 c1 c2 hnm hb hbx q0 qf
        generalize wr.alloc (.cells #[.int .i64 x.f0, .int .i64 x.f1, .int .u8 x.f2] 42) = w1 at *
        have hbase := fun g hg => hO2.base_le g hg
        refine (put_good (w.heap.size + 3) _ out x wide k w1 hO2 (by omega) hlen2 hw).mono ?_
        rintro e w2 ⟨v2, rfl, hO3, hs3⟩
        have hnm3 := hnm2.kept hs3 (fun c => n0 c) (fun c => n1 c) (fun c => n2 c)
        have hb3 := hs3.below_of hb2 (by omega) (fun i hi c => by have := hbase i c; omega)
        have hz3 := hs3.size
        have n3 := hO3.blk_ne hnm3.b0 (by decide)
        have hO4 := hO3.kept ((Same.refl (S := fun i => i = w.heap.size) w2).set_ (p := ⟨w.heap.size, 0, none⟩) (fun _ => rfl) v2) (fun g hg c => by have c2 : g = w.heap.size := c; rw [c2] at hg; exact n3 hg)
        have hnm4 := hnm3.store v2
        have hb4 := hb3.setCell (p := ⟨w.heap.size, 0, none⟩) (Nat.le_refl _) v2
        have q0 := hnm3.b0.cell 0
        have qf := hnm3.b0.frozen 0
        obtain ⟨A8, c8, rfl, _, _, _, _⟩ := hO3.rdb
        have hwz := wrong_zero hw
        have hml : (more out x).length ≤ (k + 1) * 65538 ∧ (more out x).length ≤ 1073741824 := by
          rw [more_length]
          by_cases h0 : x.f0 = 0
          · rw [if_pos h0]; omega
          · have := may_match hwz.1 h0
            rw [if_neg h0]; omega
        have hEX2 : res = expand wide 1073741824 (l.drop (k + 1)) (k + 1) (more out x) := by
          rw [← HRES.out, HEX.out, hdr.out, expand, if_pos hw]
        have HEX2 := Lib.hid hEX2
        clear hEX2 hnm2 hb2 hnm3 hb3 hO3 hs3 hO2
        go_wp2_with fail
        go_roundg (gk - 1)
        case measure => omega
        case rel => exact ⟨k + 1, _, more out x, by omega, by omega, by go_num, by rw [HRES.out]; exact HEX2.out, hnm4, hO4, by simp; omega, hml.1, hml.2, hb4⟩
      · have hbx := (Same.refl (S := fun _ => False) wr).alloc (.cells #[.int .i64 x.f0, .int .i64 x.f1, .int .u8 x.f2] 42)
        have hO2 := hO'.out.alloc (.cells #[.int .i64 x.f0, .int .i64 x.f1, .int .u8 x.f2] 42)
        have hnm2 := hnm.kept hbx (fun c => c) (fun c => c) (fun c => c)
        have hb2 := hb.alloc hb.size (.cells #[.int .i64 x.f0, .int .i64 x.f1, .int .u8 x.f2] 42)
        have hres2 : res = ([], k, wrong wide 1073741824 out.length x) := by
          rw [← HRES.out, HEX.out, hdr.out, expand, if_neg hw]
        subst hres2
        go_wp2_with fail
        refine (put_bad (w.heap.size + 3) _ out x wide k _ hO2 hlen2 hw).mono ?_
        rintro e w2 ⟨rfl, hs3⟩
        have hnm3 := hnm2.kept hs3 (fun c => c) (fun c => c) (fun c => c)
        have hb3 := hs3.below_of hb2 (by simp; omega) (fun i hi c => c)
        clear hnm hnm2 hb hb2 hbx c0 c1 c2 q0 qf
        go_wp2_with fail
        refine leaves_cons (f := 24) (args := #[.pointer (some ⟨w.heap.size, 0, none⟩), .pointer (some ⟨w.heap.size + 1, 0, none⟩), .pointer (some ⟨w.heap.size + 2, 0, none⟩)]) (by simp) (by simp [go_sem]) ?_
        refine (catch_panics _ _ _ A9 out.length c9 0 0 (wrong wide 1073741824 out.length x) k [] w2 hnm3).mono ?_
        rintro e u' w3 ⟨rfl, rfl, rfl⟩
        have hm3 := hnm3.kept ((Same.refl (S := fun _ => False) w2).alloc (.cells #[.int .i64 (wrong wide 1073741824 out.length x), .int .i64 k] 54)) (fun c => c) (fun c => c) (fun c => c)
        have hb4 := hb3.alloc hb3.size (.cells #[.int .i64 (wrong wide 1073741824 out.length x), .int .i64 k] 54)
        have hz4 := hb4.size
        generalize w2.alloc (.cells #[.int .i64 (wrong wide 1073741824 out.length x), .int .i64 k] 54) = w4 at *
        generalize wrong wide 1073741824 out.length x = code at *
        have e0 := ((hm3.b0.set_ 0 (.slice none 0 0)).far (p := ⟨w.heap.size + 1, 0, none⟩) (by simp) (.int .i64 k)).far (p := ⟨w.heap.size + 2, 0, none⟩) (by simp) (.int .i64 code)
        have e1 := (((hm3.b1.far (p := ⟨w.heap.size, 0, none⟩) (by simp) (.slice none 0 0)).set_ 0 (.int .i64 k))).far (p := ⟨w.heap.size + 2, 0, none⟩) (by simp) (.int .i64 code)
        have e2 := (((hm3.b2.far (p := ⟨w.heap.size, 0, none⟩) (by simp) (.slice none 0 0)).far (p := ⟨w.heap.size + 1, 0, none⟩) (by simp) (.int .i64 k))).set_ 0 (.int .i64 code)
        have r0 := e0.cell 0
        have r1 := e1.cell 0
        have r2 := e2.cell 0
        have hb5 := ((hb4.setCell (p := ⟨w.heap.size, 0, none⟩) (Nat.le_refl _) (.slice none 0 0)).setCell (p := ⟨w.heap.size + 1, 0, none⟩) (by simp) (.int .i64 k)).setCell (p := ⟨w.heap.size + 2, 0, none⟩) (by simp) (.int .i64 code)
        clear e0 e1 e2 hm3 hb4 hnm3 hb3
        generalize ((w4.setCell ⟨w.heap.size, 0, none⟩ (.slice none 0 0)).setCell ⟨w.heap.size + 1, 0, none⟩ (.int .i64 k)).setCell ⟨w.heap.size + 2, 0, none⟩ (.int .i64 code) = w5 at *
        simp only [settle, List.dropWhile_nil]
        refine ⟨.tuple #[.slice none 0 0, .int .i64 k, .int .i64 code], ?_, .slice none 0 0, rfl, Own.nil _ _ _, hb5.drew⟩
        simp [results, Try.results22, go_sem, r0, r1, r2]
    · have hkl : k = l.length := by omega
      subst hkl
      have hres2 : res = (out, 0, 0) := by
        rw [← HRES.out, HEX.out, List.drop_length, expand]
      subst hres2
      have q0 := hnm.b0.cell 0
      have qf := hnm.b0.frozen 0
      have q1 := hnm.b1.cell 0
      have qf1 := hnm.b1.frozen 0
      have q2 := hnm.b2.cell 0
      have qf2 := hnm.b2.frozen 0
      go_wp2_with fail
      refine leaves_cons (f := 24) (args := #[.pointer (some ⟨w.heap.size, 0, none⟩), .pointer (some ⟨w.heap.size + 1, 0, none⟩), .pointer (some ⟨w.heap.size + 1 + 1, 0, none⟩)]) (by simp) (by simp [go_sem]) ?_
      refine (catch_idle _ _ _ _).mono ?_
      rintro e u' w3 ⟨rfl, rfl, rfl⟩
      have e0 := ((hnm.b0.set_ 0 (.slice A9 out.length c9)).far (p := ⟨w.heap.size + 1, 0, none⟩) (by simp) (.int .i64 0)).far (p := ⟨w.heap.size + 1 + 1, 0, none⟩) (by simp; omega) (.int .i64 0)
      have e1 := (((hnm.b1.far (p := ⟨w.heap.size, 0, none⟩) (by simp) (.slice A9 out.length c9)).set_ 0 (.int .i64 0))).far (p := ⟨w.heap.size + 1 + 1, 0, none⟩) (by simp) (.int .i64 0)
      have e2 := (((hnm.b2.far (p := ⟨w.heap.size, 0, none⟩) (by simp) (.slice A9 out.length c9)).far (p := ⟨w.heap.size + 1, 0, none⟩) (by simp) (.int .i64 0))).set_ 0 (.int .i64 0)
      have hb5 := ((hb.setCell (p := ⟨w.heap.size, 0, none⟩) (Nat.le_refl _) (.slice A9 out.length c9)).setCell (p := ⟨w.heap.size + 1, 0, none⟩) (by simp) (.int .i64 0)).setCell (p := ⟨w.heap.size + 1 + 1, 0, none⟩) (by simp; omega) (.int .i64 0)
      have hOw : Own (((wr.setCell ⟨w.heap.size, 0, none⟩ (.slice A9 out.length c9)).setCell ⟨w.heap.size + 1, 0, none⟩ (.int .i64 0)).setCell ⟨w.heap.size + 1 + 1, 0, none⟩ (.int .i64 0)) (w.heap.size + 3) 5 (.slice A9 out.length c9) (ints .u8 out) :=
        hO'.out.kept ((((Same.refl (S := fun i => i < w.heap.size + 3) wr).set_ (p := ⟨w.heap.size, 0, none⟩) (fun _ => by simp) _).set_ (p := ⟨w.heap.size + 1, 0, none⟩) (fun _ => by simp) _).set_ (p := ⟨w.heap.size + 1 + 1, 0, none⟩) (fun _ => by simp) _) (fun g hg c => by have := hO'.out.base_le g hg; omega)
      clear q0 qf q1 qf1 q2 qf2 hnm hb
      generalize ((wr.setCell ⟨w.heap.size, 0, none⟩ (.slice A9 out.length c9)).setCell ⟨w.heap.size + 1, 0, none⟩ (.int .i64 0)).setCell ⟨w.heap.size + 1 + 1, 0, none⟩ (.int .i64 0) = w5 at *
      have r0 := (e0.alloc (.cells #[.int .i64 0, .int .i64 0] 54)).cell 0
      have r1 := (e1.alloc (.cells #[.int .i64 0, .int .i64 0] 54)).cell 0
      have r2 := (e2.alloc (.cells #[.int .i64 0, .int .i64 0] 54)).cell 0
      have hb6 := hb5.alloc hb5.size (.cells #[.int .i64 0, .int .i64 0] 54)
      have hO6 := hOw.alloc (.cells #[.int .i64 0, .int .i64 0] 54)
      generalize w5.alloc (.cells #[.int .i64 0, .int .i64 0] 54) = w6 at *
      simp only [settle]
      refine ⟨.tuple #[.slice A9 out.length c9, .int .i64 0, .int .i64 0], ?_, .slice A9 out.length c9, rfl, ⟨hO6.1, ?_⟩, hb6⟩
      · simp [results, Try.results22, go_sem, r0, r1, r2]
      · rcases hO6.2 with h | ⟨g, cap, cur, h1, h2, h3⟩
        · exact .inl h
        · exact .inr ⟨g, cap, cur, h1, by omega, h3⟩
end Go.Proofs.Ytbcngpmgimackaa
