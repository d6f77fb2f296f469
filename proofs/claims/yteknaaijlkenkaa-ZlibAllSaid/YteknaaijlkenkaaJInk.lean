import Derived.Test.YteknaaijlkenkaaInfH
import Derived.Test.YteknaaijlkenkaaJWin
namespace Go.Proofs.Yteknaaijlkenkaa
set_option linter.unusedVariables false
set_option linter.unusedSimpArgs false
open Go.RowKit
attribute [local go_sem] max2i min2i max2t min2t

/-! ### the machine in memory -/
def infC (x : I) (pw : Nat) (A : Option Addr) (c : Nat) (vo v9 v10 : Value) (used err : Int) : Array Value :=
  #[.bool x.wide, .int .i64 x.most, .pointer (some ⟨pw, 0, none⟩), .slice A x.bs.length c, .int .i64 x.at_, .int .i64 used, .int .i64 x.st, .bool x.last, .int .i64 x.raw, v9, v10, vo, .int .i64 x.all.length, .int .i64 err]
/-- The tables that a block of tokens is read by. -/
def Tabs (w : World) (x : I) (v9 v10 : Value) : Prop :=
  x.st = 2 → ∃ p1 p2 b1 b2 F1 F2 : Nat, v9 = .pointer (some ⟨p1, 0, none⟩) ∧ v10 = .pointer (some ⟨p2, 0, none⟩) ∧ TOk w b1 x.lit p1 F1 ∧ TOk w b2 x.dist p2 F2 ∧ x.lit.length ≤ 300 ∧ x.dist.length ≤ 32
structure InfAt (w : World) (B p pw r : Nat) (A : Option Addr) (c : Nat) (vo v9 v10 : Value) (used err : Int) (x : I) : Prop where
  cur : CurAt w p (infC x pw A c vo v9 v10 used err) A c x.bs x.at_
  win : Win w pw r x.size x.all
  out : Own w B 5 vo (ints .u8 x.out)
  tabs : Tabs w x v9 v10
  bp : B ≤ p
  bw : B ≤ pw
  br : B ≤ r
  bB : B ≤ w.heap.size
  voR : vo.ownBlock ≠ some r
  apart : ∀ ad, A = some ad → ad.block ≠ pw ∧ ad.block ≠ r ∧ vo.ownBlock ≠ some ad.block
  most : x.most ≤ 1073741824
  total : x.all.length ≤ x.most
  outl : x.out.length ≤ x.all.length
section
variable {w w' : World} {B p pw r : Nat} {A : Option Addr} {c : Nat} {vo v9 v10 : Value} {used err : Int} {x y : I}
theorem Win.pblk {w : World} {p r size : Nat} {all : List Int} (h : Win w p r size all) : Blk w p 105 #[.slice (some ⟨r, 0, none⟩) size size, .int .i64 all.length] := let ⟨_, x⟩ := h; x.pb
theorem Win.rblk {w : World} {p r size : Nat} {all : List Int} (h : Win w p r size all) : ∃ cs, Blk w r 5 cs := let ⟨_, x⟩ := h; ⟨_, x.rb⟩
theorem InfAt.pw_ne (h : InfAt w B p pw r A c vo v9 v10 used err x) : p ≠ pw ∧ p ≠ r ∧ vo.ownBlock ≠ some p ∧ vo.ownBlock ≠ some pw := by
  obtain ⟨cs, hr⟩ := h.win.rblk
  exact ⟨Blk.ne_ h.cur.pb h.win.pblk (by decide), Blk.ne_ h.cur.pb hr (by decide), h.out.blk_ne h.cur.pb (by decide), h.out.blk_ne h.win.pblk (by decide)⟩
theorem Tabs.keep {S : Nat → Prop} (h : Tabs w x v9 v10) (hs : Same S w w') (hS : ∀ k, S k → k < w.heap.size → ∃ t cs, Blk w k t cs ∧ t ≠ 130 ∧ t ≠ 134) : Tabs w' x v9 v10 := fun e => by
  obtain ⟨p1, p2, b1, b2, F1, F2, h1, h2, h3, h4, h5, h6⟩ := h e
  exact ⟨p1, p2, b1, b2, F1, F2, h1, h2, h3.keep hs hS, h4.keep hs hS, h5, h6⟩
/-- The machine's own cells alone are written. -/
theorem InfAt.onP (h : InfAt w B p pw r A c vo v9 v10 used err x) (hs : Same (fun g => g = p) w w') {v9' v10' : Value} {used' err' : Int} (hb : CurAt w' p (infC y pw A c vo v9' v10' used' err') A c y.bs y.at_)
    (h1 : y.size = x.size) (h2 : y.all = x.all) (h3 : y.out = x.out) (h4 : y.most = x.most) (ht : Tabs w' y v9' v10') : InfAt w' B p pw r A c vo v9' v10' used' err' y := by
  obtain ⟨n1, n2, n3, n4⟩ := h.pw_ne
  exact ⟨hb, by rw [h1, h2]; exact h.win.kept hs (fun e => n1 e.symm) (fun e => n2 e.symm), by rw [h3]; exact h.out.kept hs (fun g hg e => by have e : g = p := e; rw [e] at hg; exact n3 hg), ht, h.bp, h.bw, h.br, Nat.le_trans h.bB hs.size, h.voR, h.apart, by rw [h4]; exact h.most, by rw [h2, h4]; exact h.total, by rw [h2, h3]; exact h.outl⟩
theorem InfAt.belowP (h : InfAt w B p pw r A c vo v9 v10 used err x) (hs : Same (fun g => g = p) w w') : Below B w w' :=
  ⟨hs.os, hs.tape, hs.output, hs.size, fun k hk => hs.block k (Nat.lt_of_lt_of_le hk h.bB) (fun e => by have := h.bp; have e : k = p := e; omega)⟩
/-- The machine's own blocks. -/
def Mine (p pw r : Nat) (vo : Value) (k : Nat) : Prop := k = p ∨ k = pw ∨ k = r ∨ vo.ownBlock = some k
theorem InfAt.mineP (h : InfAt w B p pw r A c vo v9 v10 used err x) (hs : Same (fun g => g = p) w w') : Same (Mine p pw r vo) w w' := hs.mono (fun _ _ e => .inl e)
theorem Mine.trans {w w1 w2 : World} {p pw r : Nat} {vo vi : Value} (h1 : Same (Mine p pw r vo) w w1) (hg : ∀ g, vi.ownBlock = some g → vo.ownBlock = some g ∨ w.heap.size ≤ g) (h2 : Same (Mine p pw r vi) w1 w2) : Same (Mine p pw r vo) w w2 :=
  Same.trans h1 h2 (fun i hi e => by
    rcases e with e | e | e | e
    · exact .inl e
    · exact .inr (.inl e)
    · exact .inr (.inr (.inl e))
    · rcases hg i e with e | e
      · exact .inr (.inr (.inr e))
      · omega)
theorem InfAt.below (h : InfAt w B p pw r A c vo v9 v10 used err x) (hs : Same (Mine p pw r vo) w w') : Below B w w' :=
  ⟨hs.os, hs.tape, hs.output, hs.size, fun k hk => hs.block k (Nat.lt_of_lt_of_le hk h.bB) (fun e => by
    have h1 := h.bp
    have h2 := h.bw
    have h3 := h.br
    rcases e with e | e | e | e
    · omega
    · omega
    · omega
    · have := h.out.base_le k e; omega)⟩
theorem InfAt.same (h : InfAt w B p pw r A c vo v9 v10 used err x) (hs : Same (fun _ => False) w w') : InfAt w' B p pw r A c vo v9 v10 used err x :=
  h.onP hs.any (h.cur.same hs) rfl rfl rfl rfl (h.tabs.keep hs (fun _ c => c.elim))
theorem InfAt.tabsP (h : InfAt w B p pw r A c vo v9 v10 used err x) (hs : Same (fun g => g = p) w w') : Tabs w' x v9 v10 := h.tabs.keep hs (fun k e _ => ⟨_, _, (show k = p from e) ▸ h.cur.pb, by decide, by decide⟩)
end
set_option maxHeartbeats 1600000 in
set_option maxRecDepth 100000 in
theorem inf_next {w : World} {B p pw r : Nat} {A : Option Addr} {c : Nat} {vo v9 v10 : Value} {used err : Int} {x : I} (h : InfAt w B p pw r A c vo v9 v10 used err x) :
    Calls Try.prog 68 #[.pointer (some ⟨p, 0, none⟩)] w fun e w' => e = .returned (.tuple #[]) ∧ InfAt w' B p pw r A c vo v9 v10 used err (nextP x) ∧ Same (fun g => g = p) w w' := by
  have hb := h.cur
  have c6 : w.cell? ⟨p, 6, none⟩ = some (.int .i64 x.st) := hb.pb.cell 6
  have c7 : w.cell? ⟨p, 7, none⟩ = some (.bool x.last) := hb.pb.cell 7
  have f6 := hb.pb.frozen 6
  have hs1 : Same (fun g => g = p) w (w.setCell ⟨p, 6, none⟩ (.int .i64 0)) := Same.set_ (S := fun g => g = p) (p := ⟨p, 6, none⟩) (Same.refl w) (fun _ => rfl) _
  have b1 : Blk (w.setCell ⟨p, 6, none⟩ (.int .i64 0)) p 91 (infC { x with st := 0 } pw A c vo v9 v10 used err) := hb.pb.set_ 6 (.int .i64 0)
  have K1 : CurAt (w.setCell ⟨p, 6, none⟩ (.int .i64 0)) p (infC { x with st := 0 } pw A c vo v9 v10 used err) A c x.bs x.at_ := ⟨b1, rfl, rfl, hb.row.same hs1 (fun ad e => hb.ne ad e), hb.ne, hb.le, hb.hi, fun ad e => Nat.lt_of_lt_of_le (hb.lt ad e) hs1.size⟩
  have I1 := Lib.hid (h.onP (y := { x with st := 0 }) hs1 K1 rfl rfl rfl rfl (fun e => by cases e))
  obtain ⟨last, hlast⟩ : ∃ b, x.last = b := ⟨_, rfl⟩
  rw [hlast] at c7
  have HL := Lib.hid hlast
  clear hlast
  cases last
  · have c7' : (w.setCell ⟨p, 6, none⟩ (.int .i64 0)).cell? ⟨p, 7, none⟩ = some (.bool false) := by rw [← HL.out]; exact b1.cell 7
    clear c7
    go_enter Try.func68, Try.ntmps68
    go_wp2_with fail
    ((try simp only [Exit.inBlock, Exit.then]); first | refine bodyPost_end (results_none rfl _ _ _) rfl ?_ | refine bodyPost_ret (results_none rfl _ _ _) rfl ?_)
    refine ⟨rfl, ?_, hs1⟩
    rw [show nextP x = { x with st := 0 } from by simp [nextP, HL.out]]
    exact I1.out
  · have b2 : Blk ((w.setCell ⟨p, 6, none⟩ (.int .i64 0)).setCell ⟨p, 6, none⟩ (.int .i64 3)) p 91 (infC { x with st := 3 } pw A c vo v9 v10 used err) := b1.set_ 6 (.int .i64 3)
    have hs2 : Same (fun g => g = p) w ((w.setCell ⟨p, 6, none⟩ (.int .i64 0)).setCell ⟨p, 6, none⟩ (.int .i64 3)) := hs1.set_ (fun _ => rfl) _
    have K2 : CurAt ((w.setCell ⟨p, 6, none⟩ (.int .i64 0)).setCell ⟨p, 6, none⟩ (.int .i64 3)) p (infC { x with st := 3 } pw A c vo v9 v10 used err) A c x.bs x.at_ := ⟨b2, rfl, rfl, hb.row.same hs2 (fun ad e => hb.ne ad e), hb.ne, hb.le, hb.hi, fun ad e => Nat.lt_of_lt_of_le (hb.lt ad e) hs2.size⟩
    have I2 := Lib.hid (h.onP (y := { x with st := 3 }) hs2 K2 rfl rfl rfl rfl (fun e => by cases e))
    have c7' : (w.setCell ⟨p, 6, none⟩ (.int .i64 0)).cell? ⟨p, 7, none⟩ = some (.bool true) := by rw [← HL.out]; exact b1.cell 7
    have c6' : (w.setCell ⟨p, 6, none⟩ (.int .i64 0)).cell? ⟨p, 6, none⟩ = some (.int .i64 0) := b1.cell 6
    have f6' := b1.frozen 6
    clear c7
    go_enter Try.func68, Try.ntmps68
    go_wp2_with fail
    ((try simp only [Exit.inBlock, Exit.then]); first | refine bodyPost_end (results_none rfl _ _ _) rfl ?_ | refine bodyPost_ret (results_none rfl _ _ _) rfl ?_)
    refine ⟨rfl, ?_, hs2⟩
    rw [show nextP x = { x with st := 3 } from by simp [nextP, HL.out]]
    exact I2.out
theorem Try.u8infI : (Try.prog.info? 5).map (fun i => (i.zero, i.size, i.bytes)) = some (some (.int .u8 0), 1, 1) := by kernel_rfl
theorem Win.lts {w : World} {p r size : Nat} {all : List Int} (h : Win w p r size all) : p < w.heap.size ∧ r < w.heap.size := let ⟨_, hr⟩ := h.rblk; ⟨h.pblk.lt, hr.lt⟩
/-- Behind the window's own blocks. -/
theorem two_kept {w w' : World} {pw r : Nat} {p : Nat} {cs : Array Value} {A : Option Addr} {c : Nat} {bs : List Int} {n : Nat} (h : CurAt w p cs A c bs n) (hs : Same (two pw r) w w') (h1 : p ≠ pw) (h2 : p ≠ r) (hA : ∀ ad, A = some ad → ad.block ≠ pw ∧ ad.block ≠ r) : CurAt w' p cs A c bs n :=
  h.kept hs (fun e => e.elim h1 h2) (fun ad ea e => e.elim (hA ad ea).1 (hA ad ea).2)
/-- Behind bytes that came out: the window's blocks, then the row of bytes, then the machine's own cells are written. -/
theorem InfAt.grown {w w1 w7 w9 : World} {B p pw r : Nat} {A : Option Addr} {c : Nat} {vo vo' v9 v10 : Value} {used err : Int} {x y : I} (h : InfAt w B p pw r A c vo v9 v10 used err x)
    (hs1 : Same (two pw r) w w1) (hw1 : Win w1 pw r y.size y.all) (hs7 : Same (fun k => vo.ownBlock = some k) w1 w7) (ho7 : Own w7 B 5 vo' (ints .u8 y.out))
    (hat : ∀ g, vo'.ownBlock = some g → vo.ownBlock = some g ∨ w1.heap.size ≤ g) (hs9 : Same (fun g => g = p) w7 w9) (hb9 : CurAt w9 p (infC y pw A c vo' v9 v10 used err) A c y.bs y.at_)
    (hst : y.st = x.st) (hli : y.lit = x.lit) (hdi : y.dist = x.dist) (hm : y.most = x.most) (hto : y.all.length ≤ y.most) (hou : y.out.length ≤ y.all.length) : InfAt w9 B p pw r A c vo' v9 v10 used err y ∧ Same (Mine p pw r vo) w w9 := by
  obtain ⟨n1, n2, n3, n4⟩ := h.pw_ne
  obtain ⟨hpl, hrl⟩ := h.win.lts
  have hpp := Blk.lt h.cur.pb
  have z1 := hs1.size
  have z7 := hs7.size
  have z9 := hs9.size
  have hB := h.bB
  obtain ⟨cr, hrb⟩ := h.win.rblk
  have ht1 : Tabs w1 x v9 v10 := h.tabs.keep hs1 (fun k e _ => by
    rcases e with e | e
    · exact ⟨_, _, e ▸ h.win.pblk, by decide, by decide⟩
    · exact ⟨_, _, e ▸ hrb, by decide, by decide⟩)
  have ho1 := h.out.kept hs1 (fun g hg e => by
    rcases e with e | e
    · rw [e] at hg; exact n4 hg
    · rw [e] at hg; exact h.voR hg)
  have ht7 : Tabs w7 x v9 v10 := ht1.keep hs7 (fun k e _ => by
    rcases ho1.2 with ⟨rfl, _⟩ | ⟨g', cap, cur, rfl, _, hh, _⟩
    · simp [Value.ownBlock] at e
    · have : g' = k := by simpa [Value.ownBlock] using e
      subst this
      exact ⟨_, _, hh, by decide, by decide⟩)
  have hp7 : Blk w7 p 91 (infC x pw A c vo v9 v10 used err) := (Blk.same h.cur.pb hs1 (fun e => e.elim n1 n2)).same hs7 (fun e => n3 e)
  have ht9 : Tabs w9 x v9 v10 := ht7.keep hs9 (fun k e _ => ⟨_, _, (show k = p from e) ▸ hp7, by decide, by decide⟩)
  have hne : ∀ g, vo'.ownBlock = some g → g ≠ p ∧ g ≠ pw ∧ g ≠ r ∧ ∀ ad, A = some ad → g ≠ ad.block := fun g hg => by
    rcases hat g hg with e | e
    · exact ⟨fun c => n3 (by rw [e, c]), fun c => n4 (by rw [e, c]), fun c => h.voR (by rw [e, c]), fun ad ea c => (h.apart ad ea).2.2 (by rw [e, c])⟩
    · exact ⟨by omega, by omega, by omega, fun ad ea => by have := h.cur.lt ad ea; omega⟩
  refine ⟨⟨hb9, (hw1.kept hs7 (fun e => n4 e) (fun e => h.voR e)).kept hs9 (fun e => n1 e.symm) (fun e => n2 e.symm), ho7.kept hs9 (fun g hg e => (hne g hg).1 e), fun e => ?_, h.bp, h.bw, h.br, by omega, fun e => (hne r e).2.2.1 rfl, fun ad ea => ⟨(h.apart ad ea).1, (h.apart ad ea).2.1, fun e => (hne _ e).2.2.2 ad ea rfl⟩, by rw [hm]; exact h.most, hto, hou⟩, ?_⟩
  · rw [hli, hdi]; exact ht9 (by rw [← hst]; exact e)
  · refine ⟨(hs9.os.trans hs7.os).trans hs1.os, (hs9.tape.trans hs7.tape).trans hs1.tape, (hs9.output.trans hs7.output).trans hs1.output, by omega, fun k hk hS => ?_⟩
    exact ((hs9.block k (by omega) (fun e => hS (.inl e))).trans (hs7.block k (by omega) (fun e => hS (.inr (.inr (.inr e)))))).trans (hs1.block k (by omega) (fun e => e.elim (fun e => hS (.inr (.inl e))) (fun e => hS (.inr (.inr (.inl e))))))
set_option maxHeartbeats 1600000 in
set_option maxRecDepth 100000 in
theorem inf_put {w : World} {B p pw r : Nat} {A : Option Addr} {c : Nat} {vo v9 v10 : Value} {used err : Int} {x : I} (h : InfAt w B p pw r A c vo v9 v10 used err x) (b : Int) (hl : x.all.length < x.most) :
    Calls Try.prog 70 #[.pointer (some ⟨p, 0, none⟩), .int .u8 b] w fun e w' => e = .returned (.tuple #[]) ∧ ∃ vo', InfAt w' B p pw r A c vo' v9 v10 used err { x with out := x.out ++ [b], all := x.all ++ [b] } ∧ Same (Mine p pw r vo) w w' ∧ (∀ g, vo'.ownBlock = some g → vo.ownBlock = some g ∨ w.heap.size ≤ g) := by
  obtain ⟨n1, n2, n3, n4⟩ := h.pw_ne
  have hm := h.most
  have hbB := h.bB
  have hbp := h.bp
  have hbw := h.bw
  have hbr := h.br
  have hol := h.outl
  obtain ⟨hpl, hrl⟩ := h.win.lts
  have c2 : w.cell? ⟨p, 2, none⟩ = some (.pointer (some ⟨pw, 0, none⟩)) := h.cur.pb.cell 2
  have CW := Lib.hid (win_put b h.win (by omega))
  go_enter Try.func70, Try.ntmps70
  go_wp2_with fail
  refine CW.out.mono ?_
  rintro e w1 ⟨rfl, hw1, hs1⟩
  have hcur1 := two_kept h.cur hs1 n1 n2 (fun ad e => ⟨(h.apart ad e).1, (h.apart ad e).2.1⟩)
  have ho1 := h.out.kept hs1 (fun g hg e => by
    rcases e with e | e
    · rw [e] at hg; exact n4 hg
    · rw [e] at hg; exact h.voR hg)
  have hb1 := hcur1.pb
  have ht1 : Tabs w1 x v9 v10 := h.tabs.keep hs1 (fun k e _ => by
    rcases e with e | e
    · exact ⟨_, _, e ▸ h.win.pblk, by decide, by decide⟩
    · obtain ⟨cs, hr⟩ := h.win.rblk
      exact ⟨_, _, e ▸ hr, by decide, by decide⟩)
  have c11 : w1.cell? ⟨p, 11, none⟩ = some vo := hb1.cell 11
  obtain ⟨Ao, co, rfl, hoc1, hoc2, _, _⟩ := ho1.rdb
  have hol2 := h.total
  have hz1 := hs1.size
  have f11 := hb1.frozen 11
  have HO := Lib.hid ho1
  have hlen : (ints .u8 x.out).length + 1 = x.out.length + 1 := by simp [ints]
  clear c2 CW ho1
  have hvp : ∀ k, (Value.slice Ao x.out.length co).ownBlock = some k → k ≠ p := fun k e c => n3 (by rw [e, c])
  have hvA : ∀ ad, A = some ad → (Value.slice Ao x.out.length co).ownBlock ≠ some ad.block := fun ad e => (h.apart ad e).2.2
  have hcurA := hcur1.same ((Same.refl (S := fun _ => False) w1).alloc (.cells #[.int .u8 b] 5))
  go_wp2_with (at_builtin; refine wpList_push B rfl (.tmp 14) (.tmp 16) 22 5 (.int .u8 0) 1 rfl Try.underlying22 Try.u8infI rfl _ _ (.int .u8 b) ⟨w1.heap.size, 0, none⟩ 1 (x.out.length + 1) hlen rfl rfl (by simp) rfl (HO.out.alloc _) (by simp; omega) (by omega) (by omega) ?_; intro g7 cap7 w7 ho7 hs7 hgb7 hgl7 hat7; have hcur7 := hcurA.kept hs7 (fun e => hvp _ e rfl) (fun ad e c => hvA ad e c); have d11 : w7.cell? ⟨p, 11, none⟩ = some (.slice Ao x.out.length co) := hcur7.pb.cell 11; have e11 := hcur7.pb.frozen 11; have b8 : Blk (w7.setCell ⟨p, 11, none⟩ (.slice (some ⟨g7, 0, none⟩) (x.out.length + 1) cap7)) p 91 (infC x pw A c (.slice (some ⟨g7, 0, none⟩) (x.out.length + 1) cap7) v9 v10 used err) := hcur7.pb.set_ 11 (.slice (some ⟨g7, 0, none⟩) (x.out.length + 1) cap7); have d12 : (w7.setCell ⟨p, 11, none⟩ (.slice (some ⟨g7, 0, none⟩) (x.out.length + 1) cap7)).cell? ⟨p, 12, none⟩ = some (.int .i64 x.all.length) := b8.cell 12; have e12 := b8.frozen 12)
  ((try simp only [Exit.inBlock, Exit.then]); first | refine bodyPost_end (results_none rfl _ _ _) rfl ?_ | refine bodyPost_ret (results_none rfl _ _ _) rfl ?_)
  refine ⟨rfl, .slice (some ⟨g7, 0, none⟩) (x.out.length + 1) cap7, ?_⟩
  have e9 : ((x.all ++ [b]).length : Int) = (x.all.length : Int) + 1 := by simp
  have hs9 : Same (fun g => g = p) w7 ((w7.setCell ⟨p, 11, none⟩ (.slice (some ⟨g7, 0, none⟩) (x.out.length + 1) cap7)).setCell ⟨p, 12, none⟩ (.int .i64 ((x.all.length : Int) + 1))) := (Same.set_ (S := fun g => g = p) (p := ⟨p, 11, none⟩) (Same.refl w7) (fun _ => rfl) _).set_ (p := ⟨p, 12, none⟩) (fun _ => rfl) _
  have b9 := b8.set_ 12 (.int .i64 ((x.all.length : Int) + 1))
  have hat : ∀ g, (Value.slice (some ⟨g7, 0, none⟩) (x.out.length + 1) cap7).ownBlock = some g → (Value.slice Ao x.out.length co).ownBlock = some g ∨ w1.heap.size ≤ g := fun g hg => by
    have hg7 : g = g7 := by simpa [Value.ownBlock] using hg.symm
    rw [hg7]
    rcases hat7 with e | e
    · exact .inl e
    · right; rw [e]; simp
  have hG := h.grown (y := { x with out := x.out ++ [b], all := x.all ++ [b] }) hs1 hw1 hs7.alloc_left (by rw [ints_append]; exact ho7) hat hs9 ⟨by
    have hinf : infC { x with out := x.out ++ [b], all := x.all ++ [b] } pw A c (.slice (some ⟨g7, 0, none⟩) (x.out.length + 1) cap7) v9 v10 used err = (infC x pw A c (.slice (some ⟨g7, 0, none⟩) (x.out.length + 1) cap7) v9 v10 used err).setIfInBounds 12 (.int .i64 ((x.all ++ [b]).length : Nat)) := rfl
    rw [hinf, e9]
    exact b9, rfl, rfl, hcur7.row.same hs9 (fun ad e => hcur7.ne ad e), hcur7.ne, hcur7.le, hcur7.hi, fun ad e => Nat.lt_of_lt_of_le (hcur7.lt ad e) hs9.size⟩ rfl rfl rfl rfl (by simp; omega) (by simp; omega)
  exact ⟨hG.1, hG.2, fun g hg => (hat g hg).imp id (fun e => by omega)⟩
end Go.Proofs.Yteknaaijlkenkaa
namespace Go.Proofs.Yteknaaijlkenkaa
open Go.RowKit
attribute [local go_sem] max2i min2i max2t min2t

/-- What a step leaves. -/
def StepPost (w : World) (B p pw r : Nat) (A : Option Addr) (c : Nat) (vo v9 v10 : Value) (used err : Int) (x : I) (res : G I) (e : Ending) (w' : World) : Prop :=
  match res with
  | .ok y => e = .returned (.tuple #[]) ∧ ∃ vo' v9' v10', InfAt w' B p pw r A c vo' v9' v10' used err y ∧ Same (Mine p pw r vo) w w'
  | .bad k => e = .panicked [faultI k] ∧ ∃ a, InfAt w' B p pw r A c vo v9 v10 used err { x with at_ := a } ∧ Same (Mine p pw r vo) w w'
theorem InfAt.move {w w' : World} {B p pw r : Nat} {A : Option Addr} {c : Nat} {vo v9 v10 : Value} {used err : Int} {x : I} (h : InfAt w B p pw r A c vo v9 v10 used err x) (hs : Same (fun g => g = p) w w') {n : Nat}
    (hc : CurAt w' p ((infC x pw A c vo v9 v10 used err).setIfInBounds 4 (.int .i64 n)) A c x.bs n) : InfAt w' B p pw r A c vo v9 v10 used err { x with at_ := n } := h.onP hs hc rfl rfl rfl rfl (h.tabsP hs)
theorem headG_len {wide : Bool} {bs : List Int} {n : Nat} {la ld : List Int} {a : Nat} (h : headG wide bs n = .ok (la, ld, a)) : la.length ≤ 286 ∧ ld.length ≤ 32 := by
  unfold headG at h
  split at h
  · cases h
  · rename_i a1 h1
    split at h
    · cases h
    · rename_i hl1
      split at h
      · cases h
      · rename_i b1 h2
        split at h
        · cases h
        · split at h
          · cases h
          · have hb : b1 < 32 := by
              unfold getG at h2
              split at h2
              · cases h2
              · injection h2 with h2; rw [← h2]; exact pk_lt bs (n + 5) 5
            rename_i c1 h3
            generalize smallG bs (ordL.take (c1 + 4)) (List.replicate 19 0) (n + 5 + 5 + 4) = sg at h
            cases sg with
            | bad e => rw [headK] at h; cases h
            | ok q =>
              obtain ⟨l, a3⟩ := q
              rw [headK] at h
              split at h
              · cases h
              · split at h
                · cases h
                · rename_i row a4 hrow
                  obtain ⟨h5, _⟩ := rowG_fine _ _ _ hrow (by simp) (by simp) (by simp)
                  split at h
                  · cases h
                  · injection h with h
                    simp only [Prod.mk.injEq] at h
                    rw [← h.1, ← h.2.1, List.length_take, List.length_drop]
                    omega
theorem xor_mask {n : Nat} (h : n < 65536) : bits .xor .i64 (n : Int) 65535 = ((65535 - n : Nat) : Int) := by
  have e1 : n ^^^ 65535 = 65535 - n := by
    have h1 : (BitVec.ofNat 16 n ^^^ BitVec.allOnes 16).toNat = n ^^^ 65535 := by
      rw [BitVec.toNat_xor, BitVec.toNat_ofNat, BitVec.toNat_allOnes, Nat.mod_eq_of_lt (by omega)]
    rw [← h1, BitVec.xor_allOnes, BitVec.toNat_not, BitVec.toNat_ofNat, Nat.mod_eq_of_lt (by omega)]
  have e2 : (BitVec.ofInt 64 (n : Int)).toNat = n := by rw [BitVec.ofInt_natCast, BitVec.toNat_ofNat]; exact Nat.mod_eq_of_lt (by omega)
  have e3 : (BitVec.ofInt 64 (65535 : Int)).toNat = 65535 := by decide
  show IntKind.i64.wrap ((BitVec.ofInt 64 (n : Int) ^^^ BitVec.ofInt 64 (65535 : Int)).toNat : Int) = _
  rw [BitVec.toNat_xor, e2, e3, e1]
  exact IntWalk.i64_in _ (by omega)
set_option maxHeartbeats 4000000 in
set_option maxRecDepth 100000 in
theorem inf_block {w : World} {B p pw r : Nat} {A : Option Addr} {c : Nat} {vo v9 v10 : Value} {used err : Int} {x : I} (h : InfAt w B p pw r A c vo v9 v10 used err x) :
    Calls Try.prog 61 #[.pointer (some ⟨p, 0, none⟩)] w fun e w' => StepPost w B p pw r A c vo v9 v10 used err x (blockG x) e w' := by
  obtain ⟨res, hres⟩ : ∃ r, blockG x = r := ⟨_, rfl⟩
  rw [hres]
  rw [blockG] at hres
  by_cases hg1 : lf x.bs x.at_ < 1
  · rw [getG, if_pos hg1] at hres
    have HR := Lib.hid hres
    have C1 := cur_get_bad h.cur 1 (by omega) hg1
    clear hres
    go_enter Try.func61, Try.ntmps61
    go_wp2_with fail
    refine C1.mono ?_
    rintro e w1 ⟨rfl, hs1⟩
    go_wp2_with fail
    refine ⟨rfl, ?_⟩
    show StepPost _ _ _ _ _ _ _ _ _ _ _ _ _ _ _ _
    rw [← HR.out]
    exact ⟨rfl, _, h.same hs1, h.mineP hs1.any⟩
  rw [getG, if_neg hg1] at hres
  simp only at hres
  have C1 := cur_get_ok h.cur 1 (by omega) (by omega)
  have hv1 : pk x.bs x.at_ 1 < 2 := pk_lt x.bs x.at_ 1
  generalize pk x.bs x.at_ 1 = l1 at *
  by_cases hg2 : lf x.bs (x.at_ + 1) < 2
  · rw [getG, if_pos hg2] at hres
    have HR := Lib.hid hres
    clear hres
    go_enter Try.func61, Try.ntmps61
    go_wp2_with fail
    refine C1.mono ?_
    rintro e w1 ⟨rfl, h1, hs1⟩
    have I1 := h.move hs1 h1
    go_wp2_with fail
    refine (cur_get_bad h1 2 (by omega) hg2).mono ?_
    rintro e w2 ⟨rfl, hs2⟩
    go_wp2_with fail
    refine ⟨rfl, ?_⟩
    show StepPost _ _ _ _ _ _ _ _ _ _ _ _ _ _ _ _
    rw [← HR.out]
    exact ⟨rfl, _, I1.same hs2, h.mineP (hs1.then hs2.any)⟩
  rw [getG, if_neg hg2] at hres
  simp only at hres
  have hv2 : pk x.bs (x.at_ + 1) 2 < 4 := pk_lt x.bs (x.at_ + 1) 2
  have C2 := fun (w1 : World) (h1 : CurAt w1 p ((infC x pw A c vo v9 v10 used err).setIfInBounds 4 (.int .i64 ((x.at_ + 1 : Nat) : Int))) A c x.bs (x.at_ + 1)) => cur_get_ok h1 2 (by omega) (by omega)
  generalize pk x.bs (x.at_ + 1) 2 = k2 at *
  go_enter Try.func61, Try.ntmps61
  go_wp2_with fail
  refine C1.mono ?_
  rintro e w1 ⟨rfl, h1, hs1⟩
  go_wp2_with fail
  refine (C2 w1 h1).mono ?_
  rintro e w2 ⟨rfl, h2, hs2⟩
  rw [set44] at h2
  have hs2 := hs1.then hs2
  obtain ⟨lb, hlb⟩ : ∃ lb, decide (l1 = 1) = lb := ⟨_, rfl⟩
  have el1 : ((l1 : Int) == 1) = lb := by
    rw [← hlb]
    by_cases e : l1 = 1
    · simp [e]
    · rw [decide_eq_false e, beq_eq_false_iff_ne]; omega
  have el2 : (l1 == 1) = lb := by
    rw [← hlb]
    by_cases e : l1 = 1
    · simp [e]
    · rw [decide_eq_false e, beq_eq_false_iff_ne]; exact e
  rw [hlb] at hres
  clear hlb C1 C2 h1 hs1
  obtain ⟨a2, ha2⟩ : ∃ a2, x.at_ + 1 + 2 = a2 := ⟨_, rfl⟩
  rw [ha2] at h2
  rw [show x.at_ + 3 = a2 from by omega] at hres
  by_cases hk0 : k2 = 0
  · subst hk0
    rw [if_pos rfl] at hres
    have hz : (((a2 + 7) / 8 * 8 : Nat) : Int) = ((a2 : Int) + 7) / 8 * 8 := by omega
    have hle2 := h2.le
    have hhi2 := h2.hi
    have h3 : CurAt (w2.setCell ⟨p, 4, none⟩ (.int .i64 (((a2 : Int) + 7) / 8 * 8))) p ((infC x pw A c vo v9 v10 used err).setIfInBounds 4 (.int .i64 (((a2 + 7) / 8 * 8 : Nat) : Int))) A c x.bs ((a2 + 7) / 8 * 8) := by
      have := h2.move (m := (a2 + 7) / 8 * 8) (by omega)
      rw [set44, hz] at this
      rw [hz]
      exact this
    have hs3 := hs2.then (Same.set_ (S := fun g => g = p) (p := ⟨p, 4, none⟩) (Same.refl w2) (fun _ => rfl) (.int .i64 (((a2 : Int) + 7) / 8 * 8)))
    have c4 := h2.c4
    have f4 := h2.pb.frozen 4
    clear h2 hs2 hz
    have HRES := Lib.hid hres
    clear hres
    go_wp2_with fail
    generalize w2.setCell ⟨p, 4, none⟩ (.int .i64 (((a2 : Int) + 7) / 8 * 8)) = w3 at *
    have hres := HRES.out
    generalize (a2 + 7) / 8 * 8 = z at *
    have I3 := h.move hs3 h3
    clear HRES c4 f4
    by_cases hg3 : lf x.bs z < 16
    · rw [getG, if_pos hg3] at hres
      have HR := Lib.hid hres
      clear hres
      refine (cur_get_bad h3 16 (by omega) hg3).mono ?_
      rintro e w4 ⟨rfl, hs4⟩
      go_wp2_with fail
      refine ⟨rfl, ?_⟩
      show StepPost _ _ _ _ _ _ _ _ _ _ _ _ _ _ _ _
      rw [← HR.out]
      exact ⟨rfl, _, I3.same hs4, h.mineP (hs3.then hs4.any)⟩
    rw [getG, if_neg hg3] at hres
    simp only at hres
    have hv3 : pk x.bs z 16 < 65536 := pk_lt x.bs z 16
    have C3 := cur_get_ok h3 16 (by omega) (by omega)
    generalize pk x.bs z 16 = n at *
    refine C3.mono ?_
    rintro e w4 ⟨rfl, h4, hs4⟩
    rw [set44] at h4
    have hs4 := hs3.then hs4
    clear C3 h3 hs3
    by_cases hg4 : lf x.bs (z + 16) < 16
    · rw [getG, if_pos hg4] at hres
      have HR := Lib.hid hres
      clear hres
      have I4 := h.move hs4 h4
      go_wp2_with fail
      refine (cur_get_bad h4 16 (by omega) hg4).mono ?_
      rintro e w5 ⟨rfl, hs5⟩
      go_wp2_with fail
      refine ⟨rfl, ?_⟩
      show StepPost _ _ _ _ _ _ _ _ _ _ _ _ _ _ _ _
      rw [← HR.out]
      exact ⟨rfl, _, I4.same hs5, h.mineP (hs4.then hs5.any)⟩
    rw [getG, if_neg hg4] at hres
    simp only at hres
    have hv4 : pk x.bs (z + 16) 16 < 65536 := pk_lt x.bs (z + 16) 16
    have C4 := cur_get_ok h4 16 (by omega) (by omega)
    generalize pk x.bs (z + 16) 16 = m at *
    have hx := xor_mask hv3
    go_wp2_with fail
    refine C4.mono ?_
    rintro e w5 ⟨rfl, h5, hs5⟩
    rw [set44] at h5
    have hs5 := hs4.then hs5
    have I5 := h.move hs5 h5
    clear C4 h4 hs4 I3
    by_cases hmn : m = 65535 - n
    · have e5 : ((m : Int) == ((65535 - n : Nat) : Int)) = true := by rw [hmn]; simp
      have e6 : (m == 65535 - n) = true := by simpa using hmn
      rw [if_neg (fun c => c hmn)] at hres
      have HR := Lib.hid hres
      clear hres hmn
      have b6 : Blk (w5.setCell ⟨p, 6, none⟩ (.int .i64 1)) p 91 (infC { x with at_ := z + 16 + 16, st := 1 } pw A c vo v9 v10 used err) := h5.pb.set_ 6 (.int .i64 1)
      have b8 : Blk ((w5.setCell ⟨p, 6, none⟩ (.int .i64 1)).setCell ⟨p, 8, none⟩ (.int .i64 n)) p 91 (infC { x with at_ := z + 16 + 16, st := 1, raw := n } pw A c vo v9 v10 used err) := b6.set_ 8 (.int .i64 n)
      have b7 : Blk (((w5.setCell ⟨p, 6, none⟩ (.int .i64 1)).setCell ⟨p, 8, none⟩ (.int .i64 n)).setCell ⟨p, 7, none⟩ (.bool lb)) p 91 (infC { x with at_ := z + 16 + 16, st := 1, raw := n, last := lb } pw A c vo v9 v10 used err) := b8.set_ 7 (.bool lb)
      have hs9 : Same (fun g => g = p) w5 (((w5.setCell ⟨p, 6, none⟩ (.int .i64 1)).setCell ⟨p, 8, none⟩ (.int .i64 n)).setCell ⟨p, 7, none⟩ (.bool lb)) := ((Same.set_ (S := fun g => g = p) (p := ⟨p, 6, none⟩) (Same.refl w5) (fun _ => rfl) _).set_ (p := ⟨p, 8, none⟩) (fun _ => rfl) _).set_ (p := ⟨p, 7, none⟩) (fun _ => rfl) _
      have K9 : CurAt (((w5.setCell ⟨p, 6, none⟩ (.int .i64 1)).setCell ⟨p, 8, none⟩ (.int .i64 n)).setCell ⟨p, 7, none⟩ (.bool lb)) p (infC { x with at_ := z + 16 + 16, st := 1, raw := n, last := lb } pw A c vo v9 v10 used err) A c x.bs (z + 16 + 16) := ⟨b7, rfl, rfl, h5.row.same hs9 (fun ad e => h5.ne ad e), h5.ne, h5.le, h5.hi, fun ad e => Nat.lt_of_lt_of_le (h5.lt ad e) hs9.size⟩
      have I9 := Lib.hid (I5.onP (y := { x with at_ := z + 16 + 16, st := 1, raw := n, last := lb }) hs9 K9 rfl rfl rfl rfl (fun e => by cases e))
      have HB9 := Lib.hid (h.mineP (hs5.then hs9))
      have c6 : w5.cell? ⟨p, 6, none⟩ = some (.int .i64 x.st) := h5.pb.cell 6
      have f6 := h5.pb.frozen 6
      have c8 : (w5.setCell ⟨p, 6, none⟩ (.int .i64 1)).cell? ⟨p, 8, none⟩ = some (.int .i64 x.raw) := b6.cell 8
      have f8 := b6.frozen 8
      have c7 : ((w5.setCell ⟨p, 6, none⟩ (.int .i64 1)).setCell ⟨p, 8, none⟩ (.int .i64 n)).cell? ⟨p, 7, none⟩ = some (.bool x.last) := b8.cell 7
      have f7 := b8.frozen 7
      clear b6 b8 b7 hs9 K9 h5 hs5 I5
      go_wp2_with fail
      ((try simp only [Exit.inBlock, Exit.then]); first | refine bodyPost_end (results_none rfl _ _ _) rfl ?_ | refine bodyPost_ret (results_none rfl _ _ _) rfl ?_)
      show StepPost _ _ _ _ _ _ _ _ _ _ _ _ _ _ _ _
      rw [← HR.out]
      exact ⟨rfl, vo, v9, v10, I9.out, HB9.out⟩
    · have e5 : ((m : Int) == ((65535 - n : Nat) : Int)) = false := by rw [beq_eq_false_iff_ne]; omega
      have e6 : (m == 65535 - n) = false := by rw [beq_eq_false_iff_ne]; exact hmn
      rw [if_pos hmn] at hres
      have HR := Lib.hid hres
      clear hres hmn
      go_wp2_with fail
      refine (cur_fail _ _ 2).mono ?_
      rintro e w6 ⟨rfl, rfl⟩
      go_wp2_with fail
      refine ⟨rfl, ?_⟩
      show StepPost _ _ _ _ _ _ _ _ _ _ _ _ _ _ _ _
      rw [← HR.out]
      exact ⟨rfl, _, I5, h.mineP hs5⟩
  rw [if_neg hk0] at hres
  have ek0 : ((k2 : Int) == 0) = false := by rw [beq_eq_false_iff_ne]; omega
  have ek0' : (k2 == 0) = false := by rw [beq_eq_false_iff_ne]; exact hk0
  by_cases hk1 : k2 = 1
  · subst hk1
    rw [if_pos rfl] at hres
    have HR := Lib.hid hres
    clear hres hk0 ek0 ek0'
    go_wp2_with fail
    refine (inf_fixed w2).mono ?_
    rintro e w5 ⟨p1, p2, t1, t2, rfl, T1, T2, _, _, _, _, hb5⟩
    have hsB := Same.of_below (S := fun _ => False) hb5
    have h5 := h2.same hsB
    have hs5 := hs2.then hsB.any
    have hla : fixL.length ≤ 300 := by rw [fixL_len]; decide
    have hld : fixD.length ≤ 32 := by rw [fixD_len]; decide
    clear h2 hs2 hb5 hsB
    have hlp := Blk.lt h5.pb
    have I5 := h.move hs5 h5
    have b9 : Blk (w5.setCell ⟨p, 9, none⟩ (.pointer (some ⟨p1, 0, none⟩))) p 91 (infC { x with at_ := a2 } pw A c vo (.pointer (some ⟨p1, 0, none⟩)) v10 used err) := h5.pb.set_ 9 (.pointer (some ⟨p1, 0, none⟩))
    have b10 : Blk ((w5.setCell ⟨p, 9, none⟩ (.pointer (some ⟨p1, 0, none⟩))).setCell ⟨p, 10, none⟩ (.pointer (some ⟨p2, 0, none⟩))) p 91 (infC { x with at_ := a2 } pw A c vo (.pointer (some ⟨p1, 0, none⟩)) (.pointer (some ⟨p2, 0, none⟩)) used err) := b9.set_ 10 (.pointer (some ⟨p2, 0, none⟩))
    have b6 : Blk (((w5.setCell ⟨p, 9, none⟩ (.pointer (some ⟨p1, 0, none⟩))).setCell ⟨p, 10, none⟩ (.pointer (some ⟨p2, 0, none⟩))).setCell ⟨p, 6, none⟩ (.int .i64 2)) p 91 (infC { x with at_ := a2, st := 2 } pw A c vo (.pointer (some ⟨p1, 0, none⟩)) (.pointer (some ⟨p2, 0, none⟩)) used err) := b10.set_ 6 (.int .i64 2)
    have b7 : Blk ((((w5.setCell ⟨p, 9, none⟩ (.pointer (some ⟨p1, 0, none⟩))).setCell ⟨p, 10, none⟩ (.pointer (some ⟨p2, 0, none⟩))).setCell ⟨p, 6, none⟩ (.int .i64 2)).setCell ⟨p, 7, none⟩ (.bool lb)) p 91 (infC { x with at_ := a2, st := 2, last := lb, lit := fixL, dist := fixD } pw A c vo (.pointer (some ⟨p1, 0, none⟩)) (.pointer (some ⟨p2, 0, none⟩)) used err) := b6.set_ 7 (.bool lb)
    have hs9 : Same (fun g => g = p) w5 ((((w5.setCell ⟨p, 9, none⟩ (.pointer (some ⟨p1, 0, none⟩))).setCell ⟨p, 10, none⟩ (.pointer (some ⟨p2, 0, none⟩))).setCell ⟨p, 6, none⟩ (.int .i64 2)).setCell ⟨p, 7, none⟩ (.bool lb)) := (((Same.set_ (S := fun g => g = p) (p := ⟨p, 9, none⟩) (Same.refl w5) (fun _ => rfl) _).set_ (p := ⟨p, 10, none⟩) (fun _ => rfl) _).set_ (p := ⟨p, 6, none⟩) (fun _ => rfl) _).set_ (p := ⟨p, 7, none⟩) (fun _ => rfl) _
    have K9 : CurAt ((((w5.setCell ⟨p, 9, none⟩ (.pointer (some ⟨p1, 0, none⟩))).setCell ⟨p, 10, none⟩ (.pointer (some ⟨p2, 0, none⟩))).setCell ⟨p, 6, none⟩ (.int .i64 2)).setCell ⟨p, 7, none⟩ (.bool lb)) p (infC { x with at_ := a2, st := 2, last := lb, lit := fixL, dist := fixD } pw A c vo (.pointer (some ⟨p1, 0, none⟩)) (.pointer (some ⟨p2, 0, none⟩)) used err) A c x.bs (a2) := ⟨b7, rfl, rfl, h5.row.same hs9 (fun ad e => h5.ne ad e), h5.ne, h5.le, h5.hi, fun ad e => Nat.lt_of_lt_of_le (h5.lt ad e) hs9.size⟩
    have hTS : ∀ k, (fun g => g = p) k → k < w5.heap.size → ∃ t cs, Blk w5 k t cs ∧ t ≠ 130 ∧ t ≠ 134 := fun k e _ => ⟨_, _, (show k = p from e) ▸ h5.pb, by decide, by decide⟩
    have I9 := Lib.hid (I5.onP (y := { x with at_ := a2, st := 2, last := lb, lit := fixL, dist := fixD }) hs9 K9 rfl rfl rfl rfl (fun _ => ⟨p1, p2, _, _, _, _, rfl, rfl, T1.keep hs9 hTS, T2.keep hs9 hTS, hla, hld⟩))
    have HB9 := Lib.hid (h.mineP (hs5.then hs9))
    have c9 : w5.cell? ⟨p, 9, none⟩ = some v9 := h5.pb.cell 9
    have f9 := h5.pb.frozen 9
    have c10 : (w5.setCell ⟨p, 9, none⟩ (.pointer (some ⟨p1, 0, none⟩))).cell? ⟨p, 10, none⟩ = some v10 := b9.cell 10
    have f10 := b9.frozen 10
    have c6 : ((w5.setCell ⟨p, 9, none⟩ (.pointer (some ⟨p1, 0, none⟩))).setCell ⟨p, 10, none⟩ (.pointer (some ⟨p2, 0, none⟩))).cell? ⟨p, 6, none⟩ = some (.int .i64 x.st) := b10.cell 6
    have f6 := b10.frozen 6
    have c7 : (((w5.setCell ⟨p, 9, none⟩ (.pointer (some ⟨p1, 0, none⟩))).setCell ⟨p, 10, none⟩ (.pointer (some ⟨p2, 0, none⟩))).setCell ⟨p, 6, none⟩ (.int .i64 2)).cell? ⟨p, 7, none⟩ = some (.bool x.last) := b6.cell 7
    have f7 := b6.frozen 7
    clear b9 b10 b6 b7 hs9 K9 h5 hs5 I5 hTS T1 T2
    go_wp2_with fail
    ((try simp only [Exit.inBlock, Exit.then]); first | refine bodyPost_end (results_none rfl _ _ _) rfl ?_ | refine bodyPost_ret (results_none rfl _ _ _) rfl ?_)
    show StepPost _ _ _ _ _ _ _ _ _ _ _ _ _ _ _ _
    rw [← HR.out]
    exact ⟨rfl, vo, _, _, I9.out, HB9.out⟩
  rw [if_neg hk1] at hres
  have ek1 : ((k2 : Int) == 1) = false := by rw [beq_eq_false_iff_ne]; omega
  have ek1' : (k2 == 1) = false := by rw [beq_eq_false_iff_ne]; exact hk1
  by_cases hk2 : k2 = 2
  · subst hk2
    rw [if_pos rfl] at hres
    have c0 : w2.cell? ⟨p, 0, none⟩ = some (.bool x.wide) := h2.pb.cell 0
    have CH := cur_head h2 x.wide
    obtain ⟨hd, hhd⟩ : ∃ r, headG x.wide x.bs a2 = r := ⟨_, rfl⟩
    rw [hhd] at CH hres
    clear hk0 ek0 ek0' hk1 ek1 ek1'
    cases hd with
    | bad k =>
      have HR := Lib.hid hres
      clear hres
      go_wp2_with fail
      refine CH.mono ?_
      rintro e w5 hp5
      obtain ⟨rfl, ⟨a5, h5⟩, hs5⟩ : e = .panicked [faultI k] ∧ (∃ a : Nat, CurAt w5 p (((infC x pw A c vo v9 v10 used err).setIfInBounds 4 (.int .i64 (a2 : Nat))).setIfInBounds 4 (.int .i64 (a : Nat))) A c x.bs a) ∧ Same (fun g => g = p) w2 w5 := hp5
      rw [set44] at h5
      have hs5 := hs2.then hs5
      have I5 := h.move hs5 h5
      go_wp2_with fail
      refine ⟨rfl, ?_⟩
      show StepPost _ _ _ _ _ _ _ _ _ _ _ _ _ _ _ _
      rw [← HR.out]
      exact ⟨rfl, _, I5, h.mineP hs5⟩
    | ok r =>
      obtain ⟨la, ld, q⟩ := r
      simp only at hres
      obtain ⟨hla, hld⟩ := headG_len hhd
      have HR := Lib.hid hres
      clear hres hhd
      go_wp2_with fail
      refine CH.mono ?_
      rintro e w5 hp5
      obtain ⟨⟨p1, p2, t1, t2, rfl, T1, T2, _, _⟩, h5, hs5⟩ : (∃ p1 p2 b1 b2 : Nat, e = .returned (.tuple #[.pointer (some ⟨p1, 0, none⟩), .pointer (some ⟨p2, 0, none⟩)]) ∧ TOk w5 b1 la p1 9 ∧ TOk w5 b2 ld p2 6 ∧ w2.heap.size ≤ p1 ∧ w2.heap.size ≤ p2) ∧ CurAt w5 p (((infC x pw A c vo v9 v10 used err).setIfInBounds 4 (.int .i64 (a2 : Nat))).setIfInBounds 4 (.int .i64 (q : Nat))) A c x.bs q ∧ Same (fun g => g = p) w2 w5 := hp5
      rw [set44] at h5
      have hs5 := hs2.then hs5
      have hla : la.length ≤ 300 := by omega
      clear h2 hs2 CH c0
      have hlp := Blk.lt h5.pb
      have I5 := h.move hs5 h5
      have b9 : Blk (w5.setCell ⟨p, 9, none⟩ (.pointer (some ⟨p1, 0, none⟩))) p 91 (infC { x with at_ := q } pw A c vo (.pointer (some ⟨p1, 0, none⟩)) v10 used err) := h5.pb.set_ 9 (.pointer (some ⟨p1, 0, none⟩))
      have b10 : Blk ((w5.setCell ⟨p, 9, none⟩ (.pointer (some ⟨p1, 0, none⟩))).setCell ⟨p, 10, none⟩ (.pointer (some ⟨p2, 0, none⟩))) p 91 (infC { x with at_ := q } pw A c vo (.pointer (some ⟨p1, 0, none⟩)) (.pointer (some ⟨p2, 0, none⟩)) used err) := b9.set_ 10 (.pointer (some ⟨p2, 0, none⟩))
      have b6 : Blk (((w5.setCell ⟨p, 9, none⟩ (.pointer (some ⟨p1, 0, none⟩))).setCell ⟨p, 10, none⟩ (.pointer (some ⟨p2, 0, none⟩))).setCell ⟨p, 6, none⟩ (.int .i64 2)) p 91 (infC { x with at_ := q, st := 2 } pw A c vo (.pointer (some ⟨p1, 0, none⟩)) (.pointer (some ⟨p2, 0, none⟩)) used err) := b10.set_ 6 (.int .i64 2)
      have b7 : Blk ((((w5.setCell ⟨p, 9, none⟩ (.pointer (some ⟨p1, 0, none⟩))).setCell ⟨p, 10, none⟩ (.pointer (some ⟨p2, 0, none⟩))).setCell ⟨p, 6, none⟩ (.int .i64 2)).setCell ⟨p, 7, none⟩ (.bool lb)) p 91 (infC { x with at_ := q, st := 2, last := lb, lit := la, dist := ld } pw A c vo (.pointer (some ⟨p1, 0, none⟩)) (.pointer (some ⟨p2, 0, none⟩)) used err) := b6.set_ 7 (.bool lb)
      have hs9 : Same (fun g => g = p) w5 ((((w5.setCell ⟨p, 9, none⟩ (.pointer (some ⟨p1, 0, none⟩))).setCell ⟨p, 10, none⟩ (.pointer (some ⟨p2, 0, none⟩))).setCell ⟨p, 6, none⟩ (.int .i64 2)).setCell ⟨p, 7, none⟩ (.bool lb)) := (((Same.set_ (S := fun g => g = p) (p := ⟨p, 9, none⟩) (Same.refl w5) (fun _ => rfl) _).set_ (p := ⟨p, 10, none⟩) (fun _ => rfl) _).set_ (p := ⟨p, 6, none⟩) (fun _ => rfl) _).set_ (p := ⟨p, 7, none⟩) (fun _ => rfl) _
      have K9 : CurAt ((((w5.setCell ⟨p, 9, none⟩ (.pointer (some ⟨p1, 0, none⟩))).setCell ⟨p, 10, none⟩ (.pointer (some ⟨p2, 0, none⟩))).setCell ⟨p, 6, none⟩ (.int .i64 2)).setCell ⟨p, 7, none⟩ (.bool lb)) p (infC { x with at_ := q, st := 2, last := lb, lit := la, dist := ld } pw A c vo (.pointer (some ⟨p1, 0, none⟩)) (.pointer (some ⟨p2, 0, none⟩)) used err) A c x.bs (q) := ⟨b7, rfl, rfl, h5.row.same hs9 (fun ad e => h5.ne ad e), h5.ne, h5.le, h5.hi, fun ad e => Nat.lt_of_lt_of_le (h5.lt ad e) hs9.size⟩
      have hTS : ∀ k, (fun g => g = p) k → k < w5.heap.size → ∃ t cs, Blk w5 k t cs ∧ t ≠ 130 ∧ t ≠ 134 := fun k e _ => ⟨_, _, (show k = p from e) ▸ h5.pb, by decide, by decide⟩
      have I9 := Lib.hid (I5.onP (y := { x with at_ := q, st := 2, last := lb, lit := la, dist := ld }) hs9 K9 rfl rfl rfl rfl (fun _ => ⟨p1, p2, _, _, _, _, rfl, rfl, T1.keep hs9 hTS, T2.keep hs9 hTS, hla, hld⟩))
      have HB9 := Lib.hid (h.mineP (hs5.then hs9))
      have c9 : w5.cell? ⟨p, 9, none⟩ = some v9 := h5.pb.cell 9
      have f9 := h5.pb.frozen 9
      have c10 : (w5.setCell ⟨p, 9, none⟩ (.pointer (some ⟨p1, 0, none⟩))).cell? ⟨p, 10, none⟩ = some v10 := b9.cell 10
      have f10 := b9.frozen 10
      have c6 : ((w5.setCell ⟨p, 9, none⟩ (.pointer (some ⟨p1, 0, none⟩))).setCell ⟨p, 10, none⟩ (.pointer (some ⟨p2, 0, none⟩))).cell? ⟨p, 6, none⟩ = some (.int .i64 x.st) := b10.cell 6
      have f6 := b10.frozen 6
      have c7 : (((w5.setCell ⟨p, 9, none⟩ (.pointer (some ⟨p1, 0, none⟩))).setCell ⟨p, 10, none⟩ (.pointer (some ⟨p2, 0, none⟩))).setCell ⟨p, 6, none⟩ (.int .i64 2)).cell? ⟨p, 7, none⟩ = some (.bool x.last) := b6.cell 7
      have f7 := b6.frozen 7
      clear b9 b10 b6 b7 hs9 K9 h5 hs5 I5 hTS T1 T2
      go_wp2_with fail
      ((try simp only [Exit.inBlock, Exit.then]); first | refine bodyPost_end (results_none rfl _ _ _) rfl ?_ | refine bodyPost_ret (results_none rfl _ _ _) rfl ?_)
      show StepPost _ _ _ _ _ _ _ _ _ _ _ _ _ _ _ _
      rw [← HR.out]
      exact ⟨rfl, vo, _, _, I9.out, HB9.out⟩
  rw [if_neg hk2] at hres
  have ek2 : ((k2 : Int) == 2) = false := by rw [beq_eq_false_iff_ne]; omega
  have ek2' : (k2 == 2) = false := by rw [beq_eq_false_iff_ne]; exact hk2
  have HR := Lib.hid hres
  clear hres
  have I2 := h.move hs2 h2
  go_wp2_with fail
  refine (cur_fail _ _ 2).mono ?_
  rintro e w6 ⟨rfl, rfl⟩
  go_wp2_with fail
  refine ⟨rfl, ?_⟩
  show StepPost _ _ _ _ _ _ _ _ _ _ _ _ _ _ _ _
  rw [← HR.out]
  exact ⟨rfl, _, I2, h.mineP hs2⟩
end Go.Proofs.Yteknaaijlkenkaa
namespace Go.Proofs.Yteknaaijlkenkaa
open Go.RowKit
attribute [local go_sem] max2i min2i max2t min2t

structure RwRel (w : World) (B p pw r : Nat) (A : Option Addr) (c : Nat) (v0 v9 v10 : Value) (used err : Int) (x : I) (q n : Nat) (g : Nat) (s61 : Value) (wr : World) : Prop where mk ::
  out_ : ∃ (i : Nat) (vo : Value), i ≤ n ∧ g = n - i ∧ s61 = .int .i64 i ∧ InfAt wr B p pw r A c vo v9 v10 used err { x with out := x.out ++ (x.bs.drop q).take i, all := x.all ++ (x.bs.drop q).take i } ∧ Same (Mine p pw r v0) w wr ∧ (∀ g, vo.ownBlock = some g → v0.ownBlock = some g ∨ w.heap.size ≤ g)
theorem u8b {x : I} {w : World} {p : Nat} {cs : Array Value} {A : Option Addr} {c n : Nat} (h : CurAt w p cs A c x.bs n) {i : Nat} {b : Int} (hb : x.bs[i]? = some b) : 0 ≤ b ∧ b < 256 := u8_ofI (h.row.wf b (List.mem_of_getElem? hb))
set_option maxHeartbeats 4000000 in
set_option maxRecDepth 100000 in
theorem inf_bytes {w : World} {B p pw r : Nat} {A : Option Addr} {c : Nat} {vo v9 v10 : Value} {used err : Int} {x : I} (h : InfAt w B p pw r A c vo v9 v10 used err x) (hst : x.st = 1) (hraw : x.raw ≤ 65535) :
    Calls Try.prog 62 #[.pointer (some ⟨p, 0, none⟩)] w fun e w' => StepPost w B p pw r A c vo v9 v10 used err x (rawG x) e w' := by
  obtain ⟨res, hres⟩ : ∃ r, rawG x = r := ⟨_, rfl⟩
  rw [hres]
  rw [rawG] at hres
  have c8 : w.cell? ⟨p, 8, none⟩ = some (.int .i64 x.raw) := h.cur.pb.cell 8
  by_cases h0 : x.raw = 0
  · rw [if_pos h0] at hres
    have HR := Lib.hid hres
    have e0 : ((x.raw : Int) == 0) = true := by simp [h0]
    have e0' : (x.raw == 0) = true := by simp [h0]
    clear hres h0
    go_enter Try.func62, Try.ntmps62
    go_wp2_with fail
    refine (inf_next h).mono ?_
    rintro e w1 ⟨rfl, h1, hs1⟩
    go_wp2_with fail
    ((try simp only [Exit.inBlock, Exit.then]); first | refine bodyPost_end (results_none rfl _ _ _) rfl ?_ | refine bodyPost_ret (results_none rfl _ _ _) rfl ?_)
    show StepPost _ _ _ _ _ _ _ _ _ _ _ _ _ _ _ _
    rw [← HR.out]
    exact ⟨rfl, vo, v9, v10, h1, h.mineP hs1⟩
  rw [if_neg h0] at hres
  have e0 : ((x.raw : Int) == 0) = false := by rw [beq_eq_false_iff_ne]; omega
  have e0' : (x.raw == 0) = false := by rw [beq_eq_false_iff_ne]; exact h0
  have hle := h.cur.le
  have hhi := h.cur.hi
  have hlf : 8 * x.bs.length = x.at_ + lf x.bs x.at_ := by unfold lf; omega
  obtain ⟨L, hL⟩ : ∃ L, lf x.bs x.at_ = L := ⟨_, rfl⟩
  rw [hL] at hres hlf
  obtain ⟨l8, hl8⟩ : ∃ l8, L / 8 = l8 := ⟨_, rfl⟩
  rw [hl8] at hres
  have hLd : ((L : Nat) : Int) / 8 = (l8 : Int) := by omega
  obtain ⟨n1, hn1⟩ : ∃ n1, min x.raw l8 = n1 := ⟨_, rfl⟩
  rw [hn1] at hres
  have hn1i : min ((x.raw : Nat) : Int) ((l8 : Nat) : Int) = (n1 : Int) := by omega
  have HL8 := Lib.hid hl8
  have h8b : l8 * 8 ≤ L := by omega
  clear hl8
  have hLb : L ≤ 8796093022208 := by omega
  have C0 := fun (W : World) (hs : Same (fun _ => False) w W) => cur_left (h.cur.same hs)
  rw [hL] at C0
  have m1 := fun d : Ext (fun _ => False) w => Lib.hid (ext_call (d := d) (C0 d.world d.same))
  have c8d := fun d : Ext (fun _ => False) w => d.same.cell c8 (fun c => c)
  have HRES := Lib.hid hres
  clear hres C0 hL
  go_enter Try.func62, Try.ntmps62
  go_wp2_with fail
  refine wp_region_ext (fun _ => False) (by kernel_rfl) (by kernel_rfl) ?_
  repeat (go_big_quiet_step (exact (m1 _).out))
  refine wpQuiet_nil ?_
  rintro _ ⟨d, rfl⟩
  have hsd := d.same
  have h1 := h.same hsd
  have hres := HRES.out
  generalize d.world = w1 at *
  clear d m1 c8d c8 HRES
  by_cases hn0 : n1 = 0
  · rw [if_pos hn0] at hres
    have HR := Lib.hid hres
    have e1 : ((n1 : Int) == 0) = true := by simp [hn0]
    have e1' : (n1 == 0) = true := by simp [hn0]
    clear hres
    go_wp2_with fail
    refine (cur_fail _ _ 5).mono ?_
    rintro e w2 ⟨rfl, rfl⟩
    go_wp2_with fail
    refine ⟨rfl, ?_⟩
    show StepPost _ _ _ _ _ _ _ _ _ _ _ _ _ _ _ _
    rw [← HR.out]
    exact ⟨rfl, _, h1, h.mineP hsd.any⟩
  rw [if_neg hn0] at hres
  have e1 : ((n1 : Int) == 0) = false := by rw [beq_eq_false_iff_ne]; omega
  have e1' : (n1 == 0) = false := by rw [beq_eq_false_iff_ne]; exact hn0
  have htot := h.total
  have hmost := h.most
  obtain ⟨n, hn⟩ : ∃ n, min n1 (x.most - x.all.length) = n := ⟨_, rfl⟩
  rw [hn] at hres
  have hni : min ((n1 : Nat) : Int) ((x.most : Int) - (x.all.length : Int)) = (n : Int) := by omega
  have d1 := fun d : Ext (fun _ => False) w1 => d.same.cell (show w1.cell? ⟨p, 1, none⟩ = some (.int .i64 x.most) from h1.cur.pb.cell 1) (fun c => c)
  have d12 := fun d : Ext (fun _ => False) w1 => d.same.cell (show w1.cell? ⟨p, 12, none⟩ = some (.int .i64 x.all.length) from h1.cur.pb.cell 12) (fun c => c)
  have HRES := Lib.hid hres
  clear hres
  go_wp2_with fail
  refine wp_region_ext (fun _ => False) (by kernel_rfl) (by kernel_rfl) ?_
  repeat (go_big_quiet_step (fail))
  refine wpQuiet_nil ?_
  rintro _ ⟨d, rfl⟩
  have hs2 := hsd.then d.same
  have h2 := h1.same d.same
  have hres := HRES.out
  generalize d.world = w2 at *
  clear d d1 d12 HRES h1 hsd
  by_cases hnn : n = 0
  · rw [if_pos hnn] at hres
    have HR := Lib.hid hres
    have e2 : ((n : Int) == 0) = true := by simp [hnn]
    have e2' : (n == 0) = true := by simp [hnn]
    clear hres
    go_wp2_with fail
    refine (cur_fail _ _ 3).mono ?_
    rintro e w3 ⟨rfl, rfl⟩
    go_wp2_with fail
    refine ⟨rfl, ?_⟩
    show StepPost _ _ _ _ _ _ _ _ _ _ _ _ _ _ _ _
    rw [← HR.out]
    exact ⟨rfl, _, h2, h.mineP hs2.any⟩
  rw [if_neg hnn] at hres
  have e2 : ((n : Int) == 0) = false := by rw [beq_eq_false_iff_ne]; omega
  have e2' : (n == 0) = false := by rw [beq_eq_false_iff_ne]; exact hnn
  obtain ⟨q, hq⟩ : ∃ q, x.at_ / 8 = q := ⟨_, rfl⟩
  rw [hq] at hres
  have hqi : ((x.at_ : Nat) : Int) / 8 = (q : Int) := by omega
  have hqn : q + n ≤ x.bs.length := by omega
  obtain ⟨ba, bo, hA⟩ := h2.cur.row.addr_ (fun e => by rw [e] at hqn; simp at hqn; omega)
  subst hA
  have hcap := h2.cur.row.cap
  have hcm := h2.cur.row.most
  have d3 := fun d : Ext (fun _ => False) w2 => d.same.cell h2.cur.c3 (fun c => c)
  have d4 := fun d : Ext (fun _ => False) w2 => d.same.cell h2.cur.c4 (fun c => c)
  have k1 : q ≤ q + n := by omega
  have k2 : q + n ≤ c := by omega
  have k3 : q + n - q = n := by omega
  have k4 : ((q : Int) + n).toNat = q + n := by omega
  have k5 : ¬ c = q := by omega
  have hnm : x.all.length + n ≤ x.most := by omega
  have hnr : n ≤ x.raw := by omega
  have hnl : n ≤ l8 := by omega
  have HRES := Lib.hid hres
  clear hres hn hn1 hni hn1i hLd
  go_wp2_with fail
  refine wp_region_ext (fun _ => False) (by kernel_rfl) (by kernel_rfl) ?_
  repeat (go_big_quiet_step (fail))
  refine wpQuiet_nil ?_
  rintro _ ⟨d, rfl⟩
  have hs3 := hs2.then d.same
  have h3 := h2.same d.same
  generalize d.world = w3 at *
  clear d d3 d4 h2 hs2
  have hres := HRES.out
  have HRES := Lib.hid hres
  have hB3 := h.mineP hs3.any
  clear hres
  go_wp2_with fail
  go_loopg [61] n (RwRel w B p pw r (some ⟨ba, bo, none⟩) c vo v9 v10 used err x q n)
  case atStart => exact ⟨⟨0, vo, by omega, by omega, rfl, by simpa using h3, hB3, fun g hg => .inl hg⟩⟩
  case round =>
    obtain ⟨i, vi, hi, hg, rfl, hI, hBi, hVi⟩ := hrel.out_
    clear hrel h3 hs3
    by_cases hlt : i < n
    · have e3 : decide (i < n) = true := by simpa using hlt
      obtain ⟨b, hb⟩ : ∃ b, x.bs[q + i]? = some b := ⟨_, List.getElem?_eq_getElem (by omega)⟩
      have hIc : CurAt wr p _ (some ⟨ba, bo, none⟩) c x.bs x.at_ := hI.cur
      obtain ⟨ad, had, hcb⟩ := hIc.row.rd _ b hb
      injection had with had
      subst had
      rw [Addr.add_lit, ← Nat.add_assoc] at hcb
      have hlen : ((x.bs.drop q).take i).length = i := by rw [List.length_take, List.length_drop]; omega
      have CP := inf_put hI b (by simp only [List.length_append, hlen]; omega)
      have hstep : (x.bs.drop q).take (i + 1) = (x.bs.drop q).take i ++ [b] := by
        rw [List.take_add_one, List.getElem?_drop, hb]
        rfl
      have HS := Lib.hid hstep
      clear hstep hb
      go_wp2_with fail
      refine CP.mono ?_
      rintro e w5 ⟨rfl, vo5, h5, hB5, hV5⟩
      go_wp2_with fail
      go_roundg (gk - 1)
      case measure => omega
      case rel => exact ⟨⟨i + 1, vo5, by omega, by omega, by go_num, by rw [HS.out, ← List.append_assoc, ← List.append_assoc]; exact h5, Mine.trans hBi hVi hB5, fun g hg => (hV5 g hg).elim (hVi g) (fun e => .inr (Nat.le_trans hBi.size e))⟩⟩
    · have e3 : decide (i < n) = false := by simpa using hlt
      have hin : i = n := by omega
      subst hin
      have hId := hI.same (Same.refl (S := fun _ => False) wr).drew
      have c4 : wr.drew.cell? ⟨p, 4, none⟩ = some (.int .i64 x.at_) := hId.cur.pb.cell 4
      have c8 : wr.drew.cell? ⟨p, 8, none⟩ = some (.int .i64 x.raw) := hId.cur.pb.cell 8
      have f4 := hId.cur.pb.frozen 4
      have f8 := hId.cur.pb.frozen 8
      have c8' : wr.cell? ⟨p, 8, none⟩ = some (.int .i64 x.raw) := hI.cur.pb.cell 8
      have f8' := hI.cur.pb.frozen 8
      have hatb : (x.at_ : Int) ≤ 8796093022208 := by omega
      have hnb : (i : Int) ≤ 65535 := by omega
      go_wp2_with fail
      go_region
      have e4 : ((x.at_ + 8 * i : Nat) : Int) = (x.at_ : Int) + 8 * i := by omega
      have e8 : ((x.raw - i : Nat) : Int) = (x.raw : Int) - i := by omega
      have b8 := (hI.cur.pb.set_ 4 (.int .i64 ((x.at_ : Int) + 8 * i))).set_ 8 (.int .i64 ((x.raw : Int) - i))
      rw [← e4, ← e8] at b8
      have hs8 : Same (fun g => g = p) wr ((wr.setCell ⟨p, 4, none⟩ (.int .i64 ((x.at_ + 8 * i : Nat) : Int))).setCell ⟨p, 8, none⟩ (.int .i64 ((x.raw - i : Nat) : Int))) := (Same.set_ (S := fun g => g = p) (p := ⟨p, 4, none⟩) (Same.refl wr) (fun _ => rfl) _).set_ (p := ⟨p, 8, none⟩) (fun _ => rfl) _
      have hIc : CurAt wr p _ (some ⟨ba, bo, none⟩) c x.bs x.at_ := hI.cur
      have K8 : CurAt ((wr.setCell ⟨p, 4, none⟩ (.int .i64 ((x.at_ + 8 * i : Nat) : Int))).setCell ⟨p, 8, none⟩ (.int .i64 ((x.raw - i : Nat) : Int))) p (infC { x with at_ := x.at_ + 8 * i, raw := x.raw - i, out := x.out ++ (x.bs.drop q).take i, all := x.all ++ (x.bs.drop q).take i } pw (some ⟨ba, bo, none⟩) c vi v9 v10 used err) (some ⟨ba, bo, none⟩) c x.bs (x.at_ + 8 * i) :=
        ⟨b8, rfl, rfl, hIc.row.same hs8 (fun ad e => hIc.ne ad e), hIc.ne, by omega, hIc.hi, fun ad e => Nat.lt_of_lt_of_le (hIc.lt ad e) hs8.size⟩
      have I8 := hI.onP (y := { x with at_ := x.at_ + 8 * i, raw := x.raw - i, out := x.out ++ (x.bs.drop q).take i, all := x.all ++ (x.bs.drop q).take i }) hs8 K8 rfl rfl rfl rfl (hI.tabsP hs8)
      have B8 := hI.mineP hs8
      rw [e4, e8] at I8 B8
      ((try simp only [Exit.inBlock, Exit.then]); first | refine bodyPost_end (results_none rfl _ _ _) rfl ?_ | refine bodyPost_ret (results_none rfl _ _ _) rfl ?_)
      show StepPost _ _ _ _ _ _ _ _ _ _ _ _ _ _ _ _
      rw [← HRES.out]
      exact ⟨rfl, vi, v9, v10, I8.same (Same.refl (S := fun _ => False) _).drew, (Mine.trans hBi hVi B8).drew⟩
end Go.Proofs.Yteknaaijlkenkaa
