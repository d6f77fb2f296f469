import Derived.Test.YteknaaijlkenkaaInfH
import Derived.Test.YteknaaijlkenkaaWin
namespace Go.Proofs.Yteknaaijlkenkaa
set_option linter.unusedVariables false
set_option linter.unusedSimpArgs false
open Go.RowKit
attribute [local go_sem] max2i min2i max2t min2t

/-! ### the machine in memory -/
def infC (x : I) (pw : Nat) (A : Option Addr) (c : Nat) (vo v9 v10 : Value) (used err : Int) : Array Value :=
  #[.bool x.wide, .int .i64 x.most, .pointer (some ⟨pw, 0, none⟩), .slice A x.bs.length c, .int .i64 x.at_, .int .i64 used, .int .i64 x.st, .bool x.last, .int .i64 x.raw, v9, v10, vo, .int .i64 x.all.length, .int .i64 err]
/-- The tables that a block of tokens is read by. -/
def Tabs (w : World) (x : I) (v9 v10 : Value) : Prop :=
  x.st = 2 → ∃ p1 p2 b1 b2 F1 F2 : Nat, v9 = .pointer (some ⟨p1, 0, none⟩) ∧ v10 = .pointer (some ⟨p2, 0, none⟩) ∧ TOk w b1 x.lit p1 F1 ∧ TOk w b2 x.dist p2 F2 ∧ x.lit.length ≤ 300 ∧ x.dist.length ≤ 32
structure InfAt (w : World) (B p pw r : Nat) (A : Option Addr) (c : Nat) (vo v9 v10 : Value) (used err : Int) (x : I) : Prop where
  cur : CurAt w p (infC x pw A c vo v9 v10 used err) A c x.bs x.at_
  win : Win w pw r x.size x.all
  out : Own w B 5 vo (ints .u8 x.out)
  tabs : Tabs w x v9 v10
  bp : B ≤ p
  bw : B ≤ pw
  br : B ≤ r
  bB : B ≤ w.heap.size
  voR : vo.ownBlock ≠ some r
  apart : ∀ ad, A = some ad → ad.block ≠ pw ∧ ad.block ≠ r ∧ vo.ownBlock ≠ some ad.block
  most : x.most ≤ 1073741824
  total : x.all.length ≤ x.most
  outl : x.out.length ≤ x.all.length
section
variable {w w' : World} {B p pw r : Nat} {A : Option Addr} {c : Nat} {vo v9 v10 : Value} {used err : Int} {x y : I}
theorem Win.pblk {w : World} {p r size : Nat} {all : List Int} (h : Win w p r size all) : Blk w p 105 #[.slice (some ⟨r, 0, none⟩) size size, .int .i64 all.length] := let ⟨_, x⟩ := h; x.pb
theorem Win.rblk {w : World} {p r size : Nat} {all : List Int} (h : Win w p r size all) : ∃ cs, Blk w r 5 cs := let ⟨_, x⟩ := h; ⟨_, x.rb⟩
theorem InfAt.pw_ne (h : InfAt w B p pw r A c vo v9 v10 used err x) : p ≠ pw ∧ p ≠ r ∧ vo.ownBlock ≠ some p ∧ vo.ownBlock ≠ some pw := by
  obtain ⟨cs, hr⟩ := h.win.rblk
  exact ⟨Blk.ne_ h.cur.pb h.win.pblk (by decide), Blk.ne_ h.cur.pb hr (by decide), h.out.blk_ne h.cur.pb (by decide), h.out.blk_ne h.win.pblk (by decide)⟩
theorem Tabs.keep {S : Nat → Prop} (h : Tabs w x v9 v10) (hs : Same S w w') (hS : ∀ k, S k → k < w.heap.size → ∃ t cs, Blk w k t cs ∧ t ≠ 130 ∧ t ≠ 134) : Tabs w' x v9 v10 := fun e => by
  obtain ⟨p1, p2, b1, b2, F1, F2, h1, h2, h3, h4, h5, h6⟩ := h e
  exact ⟨p1, p2, b1, b2, F1, F2, h1, h2, h3.keep hs hS, h4.keep hs hS, h5, h6⟩
/-- The machine's own cells alone are written. -/
theorem InfAt.onP (h : InfAt w B p pw r A c vo v9 v10 used err x) (hs : Same (fun g => g = p) w w') {v9' v10' : Value} {used' err' : Int} (hb : CurAt w' p (infC y pw A c vo v9' v10' used' err') A c y.bs y.at_)
    (h1 : y.size = x.size) (h2 : y.all = x.all) (h3 : y.out = x.out) (h4 : y.most = x.most) (ht : Tabs w' y v9' v10') : InfAt w' B p pw r A c vo v9' v10' used' err' y := by
  obtain ⟨n1, n2, n3, n4⟩ := h.pw_ne
  exact ⟨hb, by rw [h1, h2]; exact h.win.kept hs (fun e => n1 e.symm) (fun e => n2 e.symm), by rw [h3]; exact h.out.kept hs (fun g hg e => by have e : g = p := e; rw [e] at hg; exact n3 hg), ht, h.bp, h.bw, h.br, Nat.le_trans h.bB hs.size, h.voR, h.apart, by rw [h4]; exact h.most, by rw [h2, h4]; exact h.total, by rw [h2, h3]; exact h.outl⟩
theorem InfAt.belowP (h : InfAt w B p pw r A c vo v9 v10 used err x) (hs : Same (fun g => g = p) w w') : Below B w w' :=
  ⟨hs.os, hs.tape, hs.output, hs.size, fun k hk => hs.block k (Nat.lt_of_lt_of_le hk h.bB) (fun e => by have := h.bp; have e : k = p := e; omega)⟩
/-- The machine's own blocks. -/
def Mine (p pw r : Nat) (vo : Value) (k : Nat) : Prop := k = p ∨ k = pw ∨ k = r ∨ vo.ownBlock = some k
theorem InfAt.mineP (h : InfAt w B p pw r A c vo v9 v10 used err x) (hs : Same (fun g => g = p) w w') : Same (Mine p pw r vo) w w' := hs.mono (fun _ _ e => .inl e)
theorem Mine.trans {w w1 w2 : World} {p pw r : Nat} {vo vi : Value} (h1 : Same (Mine p pw r vo) w w1) (hg : ∀ g, vi.ownBlock = some g → vo.ownBlock = some g ∨ w.heap.size ≤ g) (h2 : Same (Mine p pw r vi) w1 w2) : Same (Mine p pw r vo) w w2 :=
  Same.trans h1 h2 (fun i hi e => by
    rcases e with e | e | e | e
    · exact .inl e
    · exact .inr (.inl e)
    · exact .inr (.inr (.inl e))
    · rcases hg i e with e | e
      · exact .inr (.inr (.inr e))
      · omega)
theorem InfAt.below (h : InfAt w B p pw r A c vo v9 v10 used err x) (hs : Same (Mine p pw r vo) w w') : Below B w w' :=
  ⟨hs.os, hs.tape, hs.output, hs.size, fun k hk => hs.block k (Nat.lt_of_lt_of_le hk h.bB) (fun e => by
    have h1 := h.bp
    have h2 := h.bw
    have h3 := h.br
    rcases e with e | e | e | e
    · omega
    · omega
    · omega
    · have := h.out.base_le k e; omega)⟩
theorem InfAt.same (h : InfAt w B p pw r A c vo v9 v10 used err x) (hs : Same (fun _ => False) w w') : InfAt w' B p pw r A c vo v9 v10 used err x :=
  h.onP hs.any (h.cur.same hs) rfl rfl rfl rfl (h.tabs.keep hs (fun _ c => c.elim))
theorem InfAt.tabsP (h : InfAt w B p pw r A c vo v9 v10 used err x) (hs : Same (fun g => g = p) w w') : Tabs w' x v9 v10 := h.tabs.keep hs (fun k e _ => ⟨_, _, (show k = p from e) ▸ h.cur.pb, by decide, by decide⟩)
end
set_option maxHeartbeats 1600000 in
set_option maxRecDepth 100000 in
theorem inf_next {w : World} {B p pw r : Nat} {A : Option Addr} {c : Nat} {vo v9 v10 : Value} {used err : Int} {x : I} (h : InfAt w B p pw r A c vo v9 v10 used err x) :
    Calls Try.prog 68 #[.pointer (some ⟨p, 0, none⟩)] w fun e w' => e = .returned (.tuple #[]) ∧ InfAt w' B p pw r A c vo v9 v10 used err (nextP x) ∧ Same (fun g => g = p) w w' := by
  have hb := h.cur
  have c6 : w.cell? ⟨p, 6, none⟩ = some (.int .i64 x.st) := hb.pb.cell 6
  have c7 : w.cell? ⟨p, 7, none⟩ = some (.bool x.last) := hb.pb.cell 7
  have f6 := hb.pb.frozen 6
  have hs1 : Same (fun g => g = p) w (w.setCell ⟨p, 6, none⟩ (.int .i64 0)) := Same.set_ (S := fun g => g = p) (p := ⟨p, 6, none⟩) (Same.refl w) (fun _ => rfl) _
  have b1 : Blk (w.setCell ⟨p, 6, none⟩ (.int .i64 0)) p 91 (infC { x with st := 0 } pw A c vo v9 v10 used err) := hb.pb.set_ 6 (.int .i64 0)
  have K1 : CurAt (w.setCell ⟨p, 6, none⟩ (.int .i64 0)) p (infC { x with st := 0 } pw A c vo v9 v10 used err) A c x.bs x.at_ := ⟨b1, rfl, rfl, hb.row.same hs1 (fun ad e => hb.ne ad e), hb.ne, hb.le, hb.hi, fun ad e => Nat.lt_of_lt_of_le (hb.lt ad e) hs1.size⟩
  have I1 := Lib.hid (h.onP (y := { x with st := 0 }) hs1 K1 rfl rfl rfl rfl (fun e => by cases e))
  obtain ⟨last, hlast⟩ : ∃ b, x.last = b := ⟨_, rfl⟩
  rw [hlast] at c7
  have HL := Lib.hid hlast
  clear hlast
  cases last
  · have c7' : (w.setCell ⟨p, 6, none⟩ (.int .i64 0)).cell? ⟨p, 7, none⟩ = some (.bool false) := by rw [← HL.out]; exact b1.cell 7
    clear c7
    go_enter Try.func68, Try.ntmps68
    go_wp2_with fail
    ((try simp only [Exit.inBlock, Exit.then]); first | refine bodyPost_end (results_none rfl _ _ _) rfl ?_ | refine bodyPost_ret (results_none rfl _ _ _) rfl ?_)
    refine ⟨rfl, ?_, hs1⟩
    rw [show nextP x = { x with st := 0 } from by simp [nextP, HL.out]]
    exact I1.out
  · have b2 : Blk ((w.setCell ⟨p, 6, none⟩ (.int .i64 0)).setCell ⟨p, 6, none⟩ (.int .i64 3)) p 91 (infC { x with st := 3 } pw A c vo v9 v10 used err) := b1.set_ 6 (.int .i64 3)
    have hs2 : Same (fun g => g = p) w ((w.setCell ⟨p, 6, none⟩ (.int .i64 0)).setCell ⟨p, 6, none⟩ (.int .i64 3)) := hs1.set_ (fun _ => rfl) _
    have K2 : CurAt ((w.setCell ⟨p, 6, none⟩ (.int .i64 0)).setCell ⟨p, 6, none⟩ (.int .i64 3)) p (infC { x with st := 3 } pw A c vo v9 v10 used err) A c x.bs x.at_ := ⟨b2, rfl, rfl, hb.row.same hs2 (fun ad e => hb.ne ad e), hb.ne, hb.le, hb.hi, fun ad e => Nat.lt_of_lt_of_le (hb.lt ad e) hs2.size⟩
    have I2 := Lib.hid (h.onP (y := { x with st := 3 }) hs2 K2 rfl rfl rfl rfl (fun e => by cases e))
    have c7' : (w.setCell ⟨p, 6, none⟩ (.int .i64 0)).cell? ⟨p, 7, none⟩ = some (.bool true) := by rw [← HL.out]; exact b1.cell 7
    have c6' : (w.setCell ⟨p, 6, none⟩ (.int .i64 0)).cell? ⟨p, 6, none⟩ = some (.int .i64 0) := b1.cell 6
    have f6' := b1.frozen 6
    clear c7
    go_enter Try.func68, Try.ntmps68
    go_wp2_with fail
    ((try simp only [Exit.inBlock, Exit.then]); first | refine bodyPost_end (results_none rfl _ _ _) rfl ?_ | refine bodyPost_ret (results_none rfl _ _ _) rfl ?_)
    refine ⟨rfl, ?_, hs2⟩
    rw [show nextP x = { x with st := 3 } from by simp [nextP, HL.out]]
    exact I2.out
theorem Try.u8infI : (Try.prog.info? 5).map (fun i => (i.zero, i.size, i.bytes)) = some (some (.int .u8 0), 1, 1) := by kernel_rfl
theorem Win.lts {w : World} {p r size : Nat} {all : List Int} (h : Win w p r size all) : p < w.heap.size ∧ r < w.heap.size := let ⟨_, hr⟩ := h.rblk; ⟨h.pblk.lt, hr.lt⟩
/-- Behind the window's own blocks. -/
theorem two_kept {w w' : World} {pw r : Nat} {p : Nat} {cs : Array Value} {A : Option Addr} {c : Nat} {bs : List Int} {n : Nat} (h : CurAt w p cs A c bs n) (hs : Same (two pw r) w w') (h1 : p ≠ pw) (h2 : p ≠ r) (hA : ∀ ad, A = some ad → ad.block ≠ pw ∧ ad.block ≠ r) : CurAt w' p cs A c bs n :=
  h.kept hs (fun e => e.elim h1 h2) (fun ad ea e => e.elim (hA ad ea).1 (hA ad ea).2)
/-- Behind bytes that came out: the window's blocks, then the row of bytes, then the machine's own cells are written. -/
theorem InfAt.grown {w w1 w7 w9 : World} {B p pw r : Nat} {A : Option Addr} {c : Nat} {vo vo' v9 v10 : Value} {used err : Int} {x y : I} (h : InfAt w B p pw r A c vo v9 v10 used err x)
    (hs1 : Same (two pw r) w w1) (hw1 : Win w1 pw r y.size y.all) (hs7 : Same (fun k => vo.ownBlock = some k) w1 w7) (ho7 : Own w7 B 5 vo' (ints .u8 y.out))
    (hat : ∀ g, vo'.ownBlock = some g → vo.ownBlock = some g ∨ w1.heap.size ≤ g) (hs9 : Same (fun g => g = p) w7 w9) (hb9 : CurAt w9 p (infC y pw A c vo' v9 v10 used err) A c y.bs y.at_)
    (hst : y.st = x.st) (hli : y.lit = x.lit) (hdi : y.dist = x.dist) (hm : y.most = x.most) (hto : y.all.length ≤ y.most) (hou : y.out.length ≤ y.all.length) : InfAt w9 B p pw r A c vo' v9 v10 used err y ∧ Same (Mine p pw r vo) w w9 := by
  obtain ⟨n1, n2, n3, n4⟩ := h.pw_ne
  obtain ⟨hpl, hrl⟩ := h.win.lts
  have hpp := Blk.lt h.cur.pb
  have z1 := hs1.size
  have z7 := hs7.size
  have z9 := hs9.size
  have hB := h.bB
  obtain ⟨cr, hrb⟩ := h.win.rblk
  have ht1 : Tabs w1 x v9 v10 := h.tabs.keep hs1 (fun k e _ => by
    rcases e with e | e
    · exact ⟨_, _, e ▸ h.win.pblk, by decide, by decide⟩
    · exact ⟨_, _, e ▸ hrb, by decide, by decide⟩)
  have ho1 := h.out.kept hs1 (fun g hg e => by
    rcases e with e | e
    · rw [e] at hg; exact n4 hg
    · rw [e] at hg; exact h.voR hg)
  have ht7 : Tabs w7 x v9 v10 := ht1.keep hs7 (fun k e _ => by
    rcases ho1.2 with ⟨rfl, _⟩ | ⟨g', cap, cur, rfl, _, hh, _⟩
    · simp [Value.ownBlock] at e
    · have : g' = k := by simpa [Value.ownBlock] using e
      subst this
      exact ⟨_, _, hh, by decide, by decide⟩)
  have hp7 : Blk w7 p 91 (infC x pw A c vo v9 v10 used err) := (Blk.same h.cur.pb hs1 (fun e => e.elim n1 n2)).same hs7 (fun e => n3 e)
  have ht9 : Tabs w9 x v9 v10 := ht7.keep hs9 (fun k e _ => ⟨_, _, (show k = p from e) ▸ hp7, by decide, by decide⟩)
  have hne : ∀ g, vo'.ownBlock = some g → g ≠ p ∧ g ≠ pw ∧ g ≠ r ∧ ∀ ad, A = some ad → g ≠ ad.block := fun g hg => by
    rcases hat g hg with e | e
    · exact ⟨fun c => n3 (by rw [e, c]), fun c => n4 (by rw [e, c]), fun c => h.voR (by rw [e, c]), fun ad ea c => (h.apart ad ea).2.2 (by rw [e, c])⟩
    · exact ⟨by omega, by omega, by omega, fun ad ea => by have := h.cur.lt ad ea; omega⟩
  refine ⟨⟨hb9, (hw1.kept hs7 (fun e => n4 e) (fun e => h.voR e)).kept hs9 (fun e => n1 e.symm) (fun e => n2 e.symm), ho7.kept hs9 (fun g hg e => (hne g hg).1 e), fun e => ?_, h.bp, h.bw, h.br, by omega, fun e => (hne r e).2.2.1 rfl, fun ad ea => ⟨(h.apart ad ea).1, (h.apart ad ea).2.1, fun e => (hne _ e).2.2.2 ad ea rfl⟩, by rw [hm]; exact h.most, hto, hou⟩, ?_⟩
  · rw [hli, hdi]; exact ht9 (by rw [← hst]; exact e)
  · refine ⟨(hs9.os.trans hs7.os).trans hs1.os, (hs9.tape.trans hs7.tape).trans hs1.tape, (hs9.output.trans hs7.output).trans hs1.output, by omega, fun k hk hS => ?_⟩
    exact ((hs9.block k (by omega) (fun e => hS (.inl e))).trans (hs7.block k (by omega) (fun e => hS (.inr (.inr (.inr e)))))).trans (hs1.block k (by omega) (fun e => e.elim (fun e => hS (.inr (.inl e))) (fun e => hS (.inr (.inr (.inl e))))))
set_option maxHeartbeats 1600000 in
set_option maxRecDepth 100000 in
theorem inf_put {w : World} {B p pw r : Nat} {A : Option Addr} {c : Nat} {vo v9 v10 : Value} {used err : Int} {x : I} (h : InfAt w B p pw r A c vo v9 v10 used err x) (b : Int) (hl : x.all.length < x.most) :
    Calls Try.prog 70 #[.pointer (some ⟨p, 0, none⟩), .int .u8 b] w fun e w' => e = .returned (.tuple #[]) ∧ ∃ vo', InfAt w' B p pw r A c vo' v9 v10 used err { x with out := x.out ++ [b], all := x.all ++ [b] } ∧ Same (Mine p pw r vo) w w' ∧ (∀ g, vo'.ownBlock = some g → vo.ownBlock = some g ∨ w.heap.size ≤ g) := by
  obtain ⟨n1, n2, n3, n4⟩ := h.pw_ne
  have hm := h.most
  have hbB := h.bB
  have hbp := h.bp
  have hbw := h.bw
  have hbr := h.br
  have hol := h.outl
  obtain ⟨hpl, hrl⟩ := h.win.lts
  have c2 : w.cell? ⟨p, 2, none⟩ = some (.pointer (some ⟨pw, 0, none⟩)) := h.cur.pb.cell 2
  have CW := Lib.hid (win_put b h.win (by omega))
  go_enter Try.func70, Try.ntmps70
  go_wp2_with fail
  refine CW.out.mono ?_
  rintro e w1 ⟨rfl, hw1, hs1⟩
  have hcur1 := two_kept h.cur hs1 n1 n2 (fun ad e => ⟨(h.apart ad e).1, (h.apart ad e).2.1⟩)
  have ho1 := h.out.kept hs1 (fun g hg e => by
    rcases e with e | e
    · rw [e] at hg; exact n4 hg
    · rw [e] at hg; exact h.voR hg)
  have hb1 := hcur1.pb
  have ht1 : Tabs w1 x v9 v10 := h.tabs.keep hs1 (fun k e _ => by
    rcases e with e | e
    · exact ⟨_, _, e ▸ h.win.pblk, by decide, by decide⟩
    · obtain ⟨cs, hr⟩ := h.win.rblk
      exact ⟨_, _, e ▸ hr, by decide, by decide⟩)
  have c11 : w1.cell? ⟨p, 11, none⟩ = some vo := hb1.cell 11
  obtain ⟨Ao, co, rfl, hoc1, hoc2, _, _⟩ := ho1.rdb
  have hol2 := h.total
  have hz1 := hs1.size
  have f11 := hb1.frozen 11
  have HO := Lib.hid ho1
  have hlen : (ints .u8 x.out).length + 1 = x.out.length + 1 := by simp [ints]
  clear c2 CW ho1
  have hvp : ∀ k, (Value.slice Ao x.out.length co).ownBlock = some k → k ≠ p := fun k e c => n3 (by rw [e, c])
  have hvA : ∀ ad, A = some ad → (Value.slice Ao x.out.length co).ownBlock ≠ some ad.block := fun ad e => (h.apart ad e).2.2
  have hcurA := hcur1.same ((Same.refl (S := fun _ => False) w1).alloc (.cells #[.int .u8 b] 5))
  go_wp2_with (at_builtin; refine wpList_push B rfl (.tmp 14) (.tmp 16) 22 5 (.int .u8 0) 1 rfl Try.underlying22 Try.u8infI rfl _ _ (.int .u8 b) ⟨w1.heap.size, 0, none⟩ 1 (x.out.length + 1) hlen rfl rfl (by simp) rfl (HO.out.alloc _) (by simp; omega) (by omega) (by omega) ?_; intro g7 cap7 w7 ho7 hs7 hgb7 hgl7 hat7; have hcur7 := hcurA.kept hs7 (fun e => hvp _ e rfl) (fun ad e c => hvA ad e c); have d11 : w7.cell? ⟨p, 11, none⟩ = some (.slice Ao x.out.length co) := hcur7.pb.cell 11; have e11 := hcur7.pb.frozen 11; have b8 : Blk (w7.setCell ⟨p, 11, none⟩ (.slice (some ⟨g7, 0, none⟩) (x.out.length + 1) cap7)) p 91 (infC x pw A c (.slice (some ⟨g7, 0, none⟩) (x.out.length + 1) cap7) v9 v10 used err) := hcur7.pb.set_ 11 (.slice (some ⟨g7, 0, none⟩) (x.out.length + 1) cap7); have d12 : (w7.setCell ⟨p, 11, none⟩ (.slice (some ⟨g7, 0, none⟩) (x.out.length + 1) cap7)).cell? ⟨p, 12, none⟩ = some (.int .i64 x.all.length) := b8.cell 12; have e12 := b8.frozen 12)
  ((try simp only [Exit.inBlock, Exit.then]); first | refine bodyPost_end (results_none rfl _ _ _) rfl ?_ | refine bodyPost_ret (results_none rfl _ _ _) rfl ?_)
  refine ⟨rfl, .slice (some ⟨g7, 0, none⟩) (x.out.length + 1) cap7, ?_⟩
  have e9 : ((x.all ++ [b]).length : Int) = (x.all.length : Int) + 1 := by simp
  have hs9 : Same (fun g => g = p) w7 ((w7.setCell ⟨p, 11, none⟩ (.slice (some ⟨g7, 0, none⟩) (x.out.length + 1) cap7)).setCell ⟨p, 12, none⟩ (.int .i64 ((x.all.length : Int) + 1))) := (Same.set_ (S := fun g => g = p) (p := ⟨p, 11, none⟩) (Same.refl w7) (fun _ => rfl) _).set_ (p := ⟨p, 12, none⟩) (fun _ => rfl) _
  have b9 := b8.set_ 12 (.int .i64 ((x.all.length : Int) + 1))
  have hat : ∀ g, (Value.slice (some ⟨g7, 0, none⟩) (x.out.length + 1) cap7).ownBlock = some g → (Value.slice Ao x.out.length co).ownBlock = some g ∨ w1.heap.size ≤ g := fun g hg => by
    have hg7 : g = g7 := by simpa [Value.ownBlock] using hg.symm
    rw [hg7]
    rcases hat7 with e | e
    · exact .inl e
    · right; rw [e]; simp
  have hG := h.grown (y := { x with out := x.out ++ [b], all := x.all ++ [b] }) hs1 hw1 hs7.alloc_left (by rw [ints_append]; exact ho7) hat hs9 ⟨by
    have hinf : infC { x with out := x.out ++ [b], all := x.all ++ [b] } pw A c (.slice (some ⟨g7, 0, none⟩) (x.out.length + 1) cap7) v9 v10 used err = (infC x pw A c (.slice (some ⟨g7, 0, none⟩) (x.out.length + 1) cap7) v9 v10 used err).setIfInBounds 12 (.int .i64 ((x.all ++ [b]).length : Nat)) := rfl
    rw [hinf, e9]
    exact b9, rfl, rfl, hcur7.row.same hs9 (fun ad e => hcur7.ne ad e), hcur7.ne, hcur7.le, hcur7.hi, fun ad e => Nat.lt_of_lt_of_le (hcur7.lt ad e) hs9.size⟩ rfl rfl rfl rfl (by simp; omega) (by simp; omega)
  exact ⟨hG.1, hG.2, fun g hg => (hat g hg).imp id (fun e => by omega)⟩
end Go.Proofs.Yteknaaijlkenkaa
