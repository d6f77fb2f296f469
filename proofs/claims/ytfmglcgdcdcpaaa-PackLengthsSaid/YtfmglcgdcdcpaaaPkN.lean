import Derived.Test.YtfmglcgdcdcpaaaPkC
import Derived.Deep.RegionHeldLaw
namespace Go.Proofs.Ytfmglcgdcdcpaaa
set_option linter.unusedVariables false
set_option linter.unusedSimpArgs false
open Go.RowKit
attribute [local go_sem] max2i min2i max2t min2t

def apartB (v : Value) (x : Bv) : Prop := x.h ≠ [] → ∀ ad, x.a = some ad → v.ownBlock ≠ some ad.block
theorem ownsRow_lt2 {w : World} {base size : Nat} {e : TypeId} {v : Value} {n : Nat} {xs : List Value} (h : w.ownsRow base e size v n xs) (k : Nat) (hk : v.ownBlock = some k) : k < w.heap.size := by
  rcases h.2 with ⟨rfl, _⟩ | ⟨g, cap, cur, rfl, hb, hh, _⟩
  · simp [Value.ownBlock] at hk
  · simp [Value.ownBlock] at hk
    subst hk
    exact (Array.getElem?_eq_some_iff.1 hh).1
structure PaRel (w : World) (M G : Nat) (l : List Bv) (gk : Nat) (v3 v4 : Value) (wr : World) : Prop where mk ::
  out_ : ∃ (i : Nat) (acc : List Bv), i ≤ l.length + 1 ∧ l.length ≤ gk + i ∧ v4 = .int .i64 (i : Int) ∧ acc.length ≤ i ∧ wr.ownsRow w.heap.size 43 2 v3 acc.length (catB acc) ∧ (∀ x ∈ acc, Bv.ok (2 * M) G wr x ∧ apartB v3 x) ∧ acc.map Bv.bn ++ prs ((l.map Bv.bn).drop i) = prs (l.map Bv.bn) ∧ Below w.heap.size w wr
theorem drop_two {l : List Bv} {i : Nat} (h : i + 1 < l.length) : (l.map Bv.bn).drop i = l[i].bn :: l[i + 1].bn :: (l.map Bv.bn).drop (i + 2) := by
  rw [List.drop_eq_getElem_cons (by rw [List.length_map]; omega), List.drop_eq_getElem_cons (by rw [List.length_map]; omega), List.getElem_map, List.getElem_map]
set_option maxHeartbeats 4000000 in
set_option maxRecDepth 100000 in
theorem pack_pairs {A : Option Addr} {c M G : Nat} {l : List Bv} (w : World) (hG : G ≤ w.heap.size) (hM : M ≤ 32768) (ha : BLM w A c l M G) (hN : l.length ≤ 100000) :
    Calls Try.prog 19 #[.slice A l.length c] w fun e w' => ∃ A' c' l', e = .returned (.slice A' l'.length c') ∧ BLM w' A' c' l' (2 * M) G ∧ l'.map Bv.bn = prs (l.map Bv.bn) ∧ Below w.heap.size w w' ∧ ∀ ad, A' = some ad → w.heap.size ≤ ad.block := by
  have hcap := ha.cap
  have hmost := ha.most
  go_enter Try.func19, Try.ntmps19
  go_wp2_with fail
  go_loopg [3, 4] l.length (PaRel w M G l)
  case atStart => exact ⟨⟨0, [], by omega, by omega, rfl, by simp, ⟨by simp [catB], .inl ⟨rfl, rfl⟩⟩, by simp, by simp, Below.refl _ _⟩⟩
  case round =>
    obtain ⟨i, acc, hi, hg, rfl, hal, ho, hok, hpr, hbl⟩ := hrel.out_
    clear hrel
    by_cases hlt : i + 1 < l.length
    · have d1 : decide ((i : Int) + 1 < l.length) = true := by simp; omega
      obtain ⟨b, o, rfl, ka0, ka1⟩ := ha.at_ (i := i) (by omega)
      obtain ⟨b', o', e', kb0, kb1⟩ := ha.at_ (i := i + 1) (by omega)
      cases e'
      have hokx := ha.ok l[i] (List.getElem_mem _)
      have hoky := ha.ok l[i + 1] (List.getElem_mem _)
      rw [drop_two hlt] at hpr
      generalize l[i] = x at *
      generalize l[i + 1] = y at *
      obtain ⟨q, hq⟩ : ∃ q, i + 1 = q := ⟨_, rfl⟩
      have hwq : IntKind.i64.wrap ((i : Int) + 1) = (q : Int) := by rw [IntKind.wrap_i64]; omega
      rw [hq] at kb0 kb1
      have hwr := hbl.size
      obtain ⟨i0, hi0, hz0, hz1, hz2⟩ := info_parts Try.bvinfo
      have F4 : ∀ W, Below w.heap.size w W → W.cell? ⟨b, o + i * 2, none⟩ = some (.int .i64 x.w) ∧ W.cell? ⟨b, o + i * 2 + 1, none⟩ = some (.slice x.a x.h.length x.c) ∧ W.cell? ⟨b, o + q * 2, none⟩ = some (.int .i64 y.w) ∧ W.cell? ⟨b, o + q * 2 + 1, none⟩ = some (.slice y.a y.h.length y.c) :=
        fun W h => ⟨keep_cell ka0 h, keep_cell ka1 h, keep_cell kb0 h, keep_cell kb1 h⟩
      have F4 := Lib.hid F4
      have hx0 := hokx.w0
      have hx1 := hokx.w1
      have hy0 := hoky.w0
      have hy1 := hoky.w1
      have hxl := hokx.len
      have hyl := hoky.len
      have hxr := hokx.row
      have hyr := hoky.row
      have HPR := Lib.hid hpr
      have HOK := Lib.hid hok
      have hin : (i : Int) < l.length := by omega
      have hqn : (q : Int) < l.length := by omega
      have hws : IntKind.i64.wrap (x.w + y.w) = x.w + y.w := by rw [IntKind.wrap_i64]; omega
      clear ka0 ka1 kb0 kb1 hpr hok hokx hoky
      have hbw := hbl.size
      obtain ⟨W5, hW5⟩ : ∃ W, W = (wr.alloc (.cells #[.slice x.a x.h.length x.c, .slice y.a y.h.length y.c] 22)).drew := ⟨_, rfl⟩
      have s5 : Same (fun _ => False) wr W5 := by rw [hW5]; exact ((Same.refl wr).alloc _).drew
      have B5 : Below w.heap.size w W5 := s5.below_of hbl hbw (fun _ _ c => c)
      have b5 : Blk W5 wr.heap.size 22 #[.slice x.a x.h.length x.c, .slice y.a y.h.length y.c] := by rw [hW5]; exact (Blk.new wr _ _).drew
      have CC := Lib.hid (concat2 (hxr.belo B5) (hyr.belo B5) (by omega) (by omega) b5)
      have S5 := Lib.hid s5
      rw [hW5] at CC B5 S5
      clear hW5 b5 s5
      go_upto_region 5 with fail
      go_region_held_law (fun W : World => W.cell? ⟨b, o + i * 2, none⟩ = some (.int .i64 x.w) ∧ W.cell? ⟨b, o + i * 2 + 1, none⟩ = some (.slice x.a x.h.length x.c) ∧ W.cell? ⟨b, o + q * 2, none⟩ = some (.int .i64 y.w) ∧ W.cell? ⟨b, o + q * 2 + 1, none⟩ = some (.slice y.a y.h.length y.c))
        (first | exact F4.out _ hbl | exact F4.out _ hbl.drew | exact F4.out _ B5 | exact F4.out _ (hbl.alloc hbw _) | exact F4.out _ B6 | exact F4.out _ B9 | exact F4.out _ B7 | exact F4.out _ (B6.alloc B6.size _) | exact F4.out _ (B6.alloc B6.size _).drew)
        (first
          | (go_at_call 22; refine CC.out.mono ?_; rintro e w6 ⟨A6, c6, rfl, hr6, hB6, hge6⟩; have B6 := B5.trans (hB6.mono B5.size); have S6 := S5.out.then (Same.of_below (S := fun _ => False) hB6); have S7 := S6.alloc (.cells #[.int .i64 (x.w + y.w), .slice A6 (x.h.length + y.h.length) c6] 43); have o7 := ownsRow_kept2 ho S7; have n7 := World.news_of_block (Blk.new w6 43 #[.int .i64 (x.w + y.w), .slice A6 (x.h.length + y.h.length) c6]); have B7 := B6.alloc B6.size (.cells #[.int .i64 (x.w + y.w), .slice A6 (x.h.length + y.h.length) c6] 43); dsimp only)
          | (refine step_append_lies _ (by rfl) (.tmp 12) (.tmp 39) 41 (by rfl) w.heap.size 43 i0 (.agg #[.int .i64 0, .slice none 0 0]) 2 32 Try.underlying41 hi0 hz0 hz1 hz2 rfl (by decide) u3 acc.length (catB acc) (by rfl) (by exact o7) ⟨w6.heap.size, 0, none⟩ 1 1 [.int .i64 (x.w + y.w), .slice A6 (x.h.length + y.h.length) c6] (by rfl) rfl (by exact n7) (enc_one ⟨x.w + y.w, A6, c6, []⟩ |> fun _ => by simp [Value.oneCell']) (by decide) (by simp only [maxLen]; omega) (by omega) (by exact B7.size) _ rfl ?_; intro g9 cap9 w9 ho9 hg9 hat9 hlt9; have B9 : Below w.heap.size w w9 := B7.trans ⟨hg9.os, hg9.tape, hg9.output, hg9.size, fun k hk => hg9.block k (Nat.lt_of_lt_of_le hk B7.size) (fun e => by have := ownsRow_ge2 ho k e.symm; omega)⟩)
          | fail)
      have S9 : Same (fun k => u3.ownBlock = some k) wr w9 := S7.any.trans (T := fun k => u3.ownBlock = some k) ⟨hg9.os, hg9.tape, hg9.output, hg9.size, fun k hk hS => hg9.block k hk (fun e => hS e.symm)⟩ (fun _ _ c => c)
      have hlo : ∀ k, u3.ownBlock = some k → k < wr.heap.size := fun k e => ownsRow_lt2 ho k e
      have hg9' : ∀ k, (Value.slice (some ⟨g9, 0, none⟩) (acc.length + 1) cap9).ownBlock = some k → u3.ownBlock = some k ∨ w6.heap.size < k := fun k e => by
        have e : g9 = k := by simpa [Value.ownBlock] using e
        subst e
        rcases hat9 with h | h
        · exact .inl h
        · right; simp at h; omega
      have s6 := S6.size
      have hr9 : RowOf w9 .i64 A6 c6 (x.h ++ y.h) := by
        by_cases h0 : x.h ++ y.h = []
        · rw [h0] at hr6 ⊢; exact hr6.empty
        · have hs : Same (fun k => u3.ownBlock = some k) w6 w9 := ((Same.refl (S := fun k => u3.ownBlock = some k) w6).alloc _).then (show Same (fun k => u3.ownBlock = some k) (w6.alloc _) w9 from ⟨hg9.os, hg9.tape, hg9.output, hg9.size, fun k hk hS => hg9.block k hk (fun e => hS e.symm)⟩)
          exact hr6.same hs (fun ad e c => by have := hlo _ c; have := hge6 ad e; simp at this; omega)
      have hnew : Bv.ok (2 * M) G w9 ⟨x.w + y.w, A6, c6, x.h ++ y.h⟩ := ⟨hr9, fun _ ad e => by have := hge6 ad e; simp at this; omega, by simp only [List.length_append]; omega, by simp only; omega, by simp only; omega⟩
      have hnl : (⟨x.w + y.w, A6, c6, x.h ++ y.h⟩ : Bv).enc = [.int .i64 (x.w + y.w), .slice A6 (x.h.length + y.h.length) c6] := by unfold Bv.enc; simp only [List.length_append]
      have ho10 : w9.ownsRow w.heap.size 43 2 (.slice (some ⟨g9, 0, none⟩) (acc.length + 1) cap9) (acc ++ [(⟨x.w + y.w, A6, c6, x.h ++ y.h⟩ : Bv)]).length (catB (acc ++ [(⟨x.w + y.w, A6, c6, x.h ++ y.h⟩ : Bv)])) := by rw [catB_snoc, List.length_append, hnl]; exact ho9
      have hok10 : ∀ z ∈ acc ++ [(⟨x.w + y.w, A6, c6, x.h ++ y.h⟩ : Bv)], Bv.ok (2 * M) G w9 z ∧ apartB (.slice (some ⟨g9, 0, none⟩) (acc.length + 1) cap9) z := fun z hz => by
        rcases List.mem_append.1 hz with hz | hz
        · obtain ⟨q1, q2⟩ := HOK.out z hz
          refine ⟨⟨?_, q1.lo, q1.len, q1.w0, q1.w1⟩, fun hn ad e c => ?_⟩
          · by_cases h0 : z.h = []
            · have := q1.row; rw [h0] at this ⊢; exact this.empty
            · exact q1.row.same S9 (fun ad e => q2 h0 ad e)
          · rcases hg9' _ c with c | c
            · exact q2 hn ad e c
            · have := q1.row.lt hn ad e
              omega
        · rw [List.mem_singleton] at hz
          subst hz
          refine ⟨hnew, fun hn ad e c => ?_⟩
          rcases hg9' _ c with c | c
          · have := hlo _ c; have := hge6 ad e; simp at this; omega
          · have := hr6.lt hn ad e; omega
      go_wp2_with fail
      go_roundg (gk - 2)
      case measure => omega
      case rel =>
        refine ⟨⟨i + 2, _, by omega, by omega, by go_num, ?_, ho10, hok10, ?_, B9⟩⟩
        · rw [List.length_append]; simp; omega
        · rw [List.map_append, List.append_assoc, ← HPR.out, prs]; rfl
    · have d1 : decide ((i : Int) + 1 < l.length) = false := by simp; omega
      have hdr : prs ((l.map Bv.bn).drop i) = [] := by
        have : ((l.map Bv.bn).drop i).length ≤ 1 := by rw [List.length_drop, List.length_map]; omega
        match h : (l.map Bv.bn).drop i, this with
        | [], _ => rfl
        | [z], _ => rfl
        | a :: b :: r, h2 => simp at h2
      rw [hdr, List.append_nil] at hpr
      obtain ⟨A9, c9, rfl, hB, hfr⟩ := own_BLM ho (fun x hx => (hok x hx).1)
      have HPR := Lib.hid hpr
      clear hpr hdr hok
      go_wp2_with fail
      go_ret
      exact ⟨A9, c9, acc, rfl, hB, HPR.out, hbl, hfr⟩
end Go.Proofs.Ytfmglcgdcdcpaaa
