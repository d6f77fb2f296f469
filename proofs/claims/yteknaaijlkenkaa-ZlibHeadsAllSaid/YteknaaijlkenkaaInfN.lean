import Derived.Test.YteknaaijlkenkaaInfM
namespace Go.Proofs.Yteknaaijlkenkaa
set_option linter.unusedVariables false
set_option linter.unusedSimpArgs false
open Go.RowKit
attribute [local go_sem] max2i min2i max2t min2t

theorem InfAt.far {S : Nat → Prop} {w w' : World} {B p pw r : Nat} {A : Option Addr} {c : Nat} {vo v9 v10 : Value} {used err : Int} {x : I} (h : InfAt w B p pw r A c vo v9 v10 used err x) (hs : Same S w w')
    (hS : ∀ k, S k → k < w.heap.size → ∃ t cs, Blk w k t cs ∧ t ≠ 91 ∧ t ≠ 105 ∧ t ≠ 5 ∧ t ≠ 130 ∧ t ≠ 134) (hA : ∀ ad, A = some ad → ¬ S ad.block) : InfAt w' B p pw r A c vo v9 v10 used err x := by
  obtain ⟨cr, hrb⟩ := h.win.rblk
  obtain ⟨hpl, hrl⟩ := h.win.lts
  have e1 : ¬ S p := fun e => by
    obtain ⟨t, cs, hb, n1, _⟩ := hS p e (Blk.lt h.cur.pb)
    exact Blk.ne_ hb h.cur.pb n1 rfl
  have e2 : ¬ S pw := fun e => by
    obtain ⟨t, cs, hb, _, n1, _⟩ := hS pw e hpl
    exact Blk.ne_ hb h.win.pblk n1 rfl
  have e3 : ¬ S r := fun e => by
    obtain ⟨t, cs, hb, _, _, n1, _⟩ := hS r e hrl
    exact Blk.ne_ hb hrb n1 rfl
  have e4 : ∀ g, vo.ownBlock = some g → ¬ S g := fun g hg e => by
    obtain ⟨t, cs, hb, _, _, n1, _⟩ := hS g e (h.out.lt g hg)
    exact h.out.blk_ne hb (fun c => n1 c.symm) hg
  exact ⟨h.cur.kept hs e1 hA, h.win.kept hs e2 e3, h.out.kept hs e4, h.tabs.keep hs (fun k e hk => by
    obtain ⟨t, cs, hb, _, _, _, n1, n2⟩ := hS k e hk
    exact ⟨t, cs, hb, n1, n2⟩), h.bp, h.bw, h.br, Nat.le_trans h.bB hs.size, h.voR, h.apart, h.most, h.total, h.outl⟩
/-- Behind the deferred function that has caught a fault. -/
theorem InfAt.caught {w : World} {B p pw r : Nat} {A : Option Addr} {c : Nat} {vo v9 v10 : Value} {used err : Int} {x : I} (h : InfAt w B p pw r A c vo v9 v10 used err x) {bm : Nat} {m0 : Bool} (hm : Blk w bm 4 #[.bool m0]) (hbm : B ≤ bm) (hA : ∀ ad, A = some ad → ad.block ≠ bm) (k : Int) :
    InfAt ((((w.alloc (.cells #[.int .i64 k, .int .i64 0] 93)).setCell ⟨bm, 0, none⟩ (.bool false)).setCell ⟨p, 13, none⟩ (.int .i64 k)).drew) B p pw r A c vo v9 v10 used k x ∧
      Blk ((((w.alloc (.cells #[.int .i64 k, .int .i64 0] 93)).setCell ⟨bm, 0, none⟩ (.bool false)).setCell ⟨p, 13, none⟩ (.int .i64 k)).drew) bm 4 #[.bool false] ∧
      Below B w ((((w.alloc (.cells #[.int .i64 k, .int .i64 0] 93)).setCell ⟨bm, 0, none⟩ (.bool false)).setCell ⟨p, 13, none⟩ (.int .i64 k)).drew) := by
  have hp := h.cur.pb
  have nmp : bm ≠ p := hm.ne_ hp (by decide)
  have hm1 : Blk (w.alloc (.cells #[.int .i64 k, .int .i64 0] 93)) bm 4 #[.bool m0] := hm.alloc _
  have h1 := h.same ((Same.refl (S := fun _ => False) w).alloc (.cells #[.int .i64 k, .int .i64 0] 93))
  have hs2 : Same (fun g => g = bm) (w.alloc (.cells #[.int .i64 k, .int .i64 0] 93)) ((w.alloc (.cells #[.int .i64 k, .int .i64 0] 93)).setCell ⟨bm, 0, none⟩ (.bool false)) := Same.set_ (S := fun g => g = bm) (p := ⟨bm, 0, none⟩) (Same.refl _) (fun _ => rfl) _
  have h2 := h1.far hs2 (fun q e _ => ⟨_, _, (show q = bm from e) ▸ hm1, by decide, by decide, by decide, by decide, by decide⟩) (fun ad e => hA ad e)
  have hs3 : Same (fun g => g = p) ((w.alloc (.cells #[.int .i64 k, .int .i64 0] 93)).setCell ⟨bm, 0, none⟩ (.bool false)) (((w.alloc (.cells #[.int .i64 k, .int .i64 0] 93)).setCell ⟨bm, 0, none⟩ (.bool false)).setCell ⟨p, 13, none⟩ (.int .i64 k)) := Same.set_ (S := fun g => g = p) (p := ⟨p, 13, none⟩) (Same.refl _) (fun _ => rfl) _
  have b3 : Blk (((w.alloc (.cells #[.int .i64 k, .int .i64 0] 93)).setCell ⟨bm, 0, none⟩ (.bool false)).setCell ⟨p, 13, none⟩ (.int .i64 k)) p 91 (infC x pw A c vo v9 v10 used k) := h2.cur.pb.set_ 13 (.int .i64 k)
  have h3 := h2.onP (y := x) hs3 ⟨b3, rfl, rfl, h2.cur.row.same hs3 (fun ad e => h2.cur.ne ad e), h2.cur.ne, h2.cur.le, h2.cur.hi, fun ad e => Nat.lt_of_lt_of_le (h2.cur.lt ad e) hs3.size⟩ rfl rfl rfl rfl (h2.tabsP hs3)
  have m2 : Blk ((w.alloc (.cells #[.int .i64 k, .int .i64 0] 93)).setCell ⟨bm, 0, none⟩ (.bool false)) bm 4 #[.bool false] := by have := hm1.set_ 0 (.bool false); simpa using this
  have m3 : Blk (((w.alloc (.cells #[.int .i64 k, .int .i64 0] 93)).setCell ⟨bm, 0, none⟩ (.bool false)).setCell ⟨p, 13, none⟩ (.int .i64 k)) bm 4 #[.bool false] := m2.far nmp _
  refine ⟨h3.same (Same.refl (S := fun _ => False) _).drew, m3, ?_⟩
  exact (below_set (below_set ((Below.refl B w).alloc h.bB (.cells #[.int .i64 k, .int .i64 0] 93)) (p := ⟨bm, 0, none⟩) hbm (.bool false)) (p := ⟨p, 13, none⟩) h.bp (.int .i64 k)).drew
/-- What one step leaves of the machine. -/
def StepDone (w : World) (B p pw r : Nat) (A : Option Addr) (c : Nat) (used err : Int) (x : I) (res : G I) (e : Ending) (w' : World) : Prop :=
  match res with
    | .ok y => e = .returned (.bool true) ∧ ∃ vo v9 v10, InfAt w' B p pw r A c vo v9 v10 used err y ∧ Below B w w'
    | .bad k => e = .returned (.bool false) ∧ ∃ (vo v9 v10 : Value) (a : Nat), InfAt w' B p pw r A c vo v9 v10 used k { x with at_ := a } ∧ (k = 5 → a = x.at_) ∧ Below B w w'
set_option maxHeartbeats 4000000 in
set_option maxRecDepth 100000 in
theorem inf_step0 {w : World} {B p pw r : Nat} {A : Option Addr} {c : Nat} {vo v9 v10 : Value} {used err : Int} {x : I} (h : InfAt w B p pw r A c vo v9 v10 used err x) (hst : x.st = 0) :
    Calls Try.prog 58 #[.pointer (some ⟨p, 0, none⟩)] w fun e w' => StepDone w B p pw r A c used err x (blockG x) e w' := by
  have hmf : ∀ (fn : Fn) (first cap : Array Value) (w : World), (Instr.makeFunc fn first cap).run Try.prog w = .ok (.func fn first cap) w := fun _ _ _ _ => rfl
  have C0 := fun (W : World) (hI : InfAt W B p pw r A c vo v9 v10 used err x) => inf_block hI
  generalize blockG x = res at *
  have hs3 := (((Same.refl (S := fun _ => False) w).alloc (.cells #[.pointer (some ⟨p, 0, none⟩)] 64)).alloc (.cells #[.bool false] 4)).alloc (.cells #[.int .i64 x.at_] 3)
  have I2 := h.same (((Same.refl (S := fun _ => False) w).alloc (.cells #[.pointer (some ⟨p, 0, none⟩)] 64)).alloc (.cells #[.bool false] 4))
  have I3 := h.same hs3
  have hB3 := (((Below.refl B w).alloc h.bB (.cells #[.pointer (some ⟨p, 0, none⟩)] 64)).alloc (by have := h.bB; simp; omega) (.cells #[.bool false] 4)).alloc (by have := h.bB; simp; omega) (.cells #[.int .i64 x.at_] 3)
  have hBx := ((Blk.new w 64 #[.pointer (some ⟨p, 0, none⟩)]).alloc (.cells #[.bool false] 4)).alloc (.cells #[.int .i64 x.at_] 3)
  have hBm := (Blk.new (w.alloc (.cells #[.pointer (some ⟨p, 0, none⟩)] 64)) 4 #[.bool false]).alloc (.cells #[.int .i64 x.at_] 3)
  have hBa := Blk.new ((w.alloc (.cells #[.pointer (some ⟨p, 0, none⟩)] 64)).alloc (.cells #[.bool false] 4)) 3 #[.int .i64 x.at_]
  rw [World.size_alloc] at hBm
  rw [World.size_alloc, World.size_alloc] at hBa
  have c4 := I2.cur.c4
  have c6 : (((w.alloc (.cells #[.pointer (some ⟨p, 0, none⟩)] 64)).alloc (.cells #[.bool false] 4)).alloc (.cells #[.int .i64 x.at_] 3)).cell? ⟨p, 6, none⟩ = some (.int .i64 x.st) := I3.cur.pb.cell 6
  rw [hst] at c6
  have x0 := hBx.cell 0
  have CC := (C0 _ I3)
  go_enter_defers Try.func58, Try.ntmps58
  go_wp2_with fail
  refine CC.mono ?_
  rintro e w4 hp4
  have hAl : ∀ ad, A = some ad → ad.block < w.heap.size := h.cur.lt
  have hpl := Blk.lt h.cur.pb
  obtain ⟨hwl, hrl⟩ := h.win.lts
  have hol := h.out.lt
  have hB0 := h.bB
  have hMn : ∀ k, w.heap.size ≤ k → ¬ Mine p pw r vo k := fun k hk e => by
    rcases e with e | e | e | e
    · omega
    · omega
    · omega
    · have := hol k e; omega
  clear CC c4 c6 x0 I2 hs3
  generalize (((w.alloc (.cells #[.pointer (some ⟨p, 0, none⟩)] 64)).alloc (.cells #[.bool false] 4)).alloc (.cells #[.int .i64 x.at_] 3)) = W3 at *
  cases res with
  | ok y =>
    obtain ⟨rfl, vo4, v94, v104, I4, hs4⟩ : e = .returned (.tuple #[]) ∧ ∃ vo' v9' v10', InfAt w4 B p pw r A c vo' v9' v10' used err y ∧ Same (Mine p pw r vo) W3 w4 := hp4
    have hBm4 := hBm.same hs4 (hMn _ (by omega))
    have cm := hBm4.cell 0
    have fm := hBm4.frozen 0
    have hB4 := hB3.trans (I3.below hs4)
    have hs5 : Same (fun g => g = w.heap.size + 1) w4 (w4.setCell ⟨w.heap.size + 1, 0, none⟩ (.bool true)) := Same.set_ (S := fun g => g = w.heap.size + 1) (p := ⟨w.heap.size + 1, 0, none⟩) (Same.refl w4) (fun _ => rfl) _
    have I5 := I4.far hs5 (fun q e _ => ⟨_, _, (show q = w.heap.size + 1 from e) ▸ hBm4, by decide, by decide, by decide, by decide, by decide⟩) (fun ad e c => by have := hAl ad e; have c : ad.block = w.heap.size + 1 := c; omega)
    have hBm5 : Blk (w4.setCell ⟨w.heap.size + 1, 0, none⟩ (.bool true)) (w.heap.size + 1) 4 #[.bool true] := by have := hBm4.set_ 0 (.bool true); simpa using this
    have hB5 := below_set hB4 (p := ⟨w.heap.size + 1, 0, none⟩) (by simp only; omega) (.bool true)
    have I6 := Lib.hid (I5.same ((Same.refl (S := fun _ => False) _).alloc (.cells #[.int .i64 0, .int .i64 0] 93)))
    have hB6 := Lib.hid (hB5.alloc (by have := hB5.size; have := h.bB; omega) (.cells #[.int .i64 0, .int .i64 0] 93))
    have r0 := (hBm5.alloc (.cells #[.int .i64 0, .int .i64 0] 93)).cell 0
    clear I4 I5 I3 hs4 hs5 hB3 hB4 hB5 hBx hBa hBm hBm4 hBm5
    go_wp2_with fail
    refine leaves_cons (f := 60) (args := #[.pointer (some ⟨w.heap.size + 1, 0, none⟩), .pointer (some ⟨w.heap.size, 0, none⟩), .pointer (some ⟨w.heap.size + 1 + 1, 0, none⟩)]) (by simp) (by simp [go_sem]) ?_
    refine (step_idle _ _ _ _).mono ?_
    rintro e u' w7 ⟨rfl, rfl, rfl⟩
    simp only [settle]
    refine ⟨.bool true, ?_, rfl, _, _, _, I6.out, hB6.out⟩
    simp [results, Try.results58, go_sem, r0]
  | bad k =>
    obtain ⟨rfl, a, I4, hs4⟩ : e = .panicked [faultI k] ∧ ∃ a, InfAt w4 B p pw r A c vo v9 v10 used err { x with at_ := a } ∧ Same (Mine p pw r vo) W3 w4 := hp4
    have hBm4 := hBm.same hs4 (hMn _ (by omega))
    have hBx4 := hBx.same hs4 (hMn _ (by omega))
    have hBa4 := hBa.same hs4 (hMn _ (by omega))
    have hB4 := hB3.trans (I3.below hs4)
    have m2 : Blk ((w4.alloc (.cells #[.int .i64 (k : Int), .int .i64 0] 93)).setCell ⟨w.heap.size + 1, 0, none⟩ (.bool false)) (w.heap.size + 1) 4 #[.bool false] := by have := (hBm4.alloc (.cells #[.int .i64 (k : Int), .int .i64 0] 93)).set_ 0 (.bool false); simpa using this
    have r1 := m2.cell 0
    obtain ⟨I5, m5, hB5⟩ := I4.caught hBm4 (by omega) (fun ad e => by have := hAl ad e; omega) k
    have hB45 := hB4.trans hB5
    by_cases hk5 : k = 5
    · have hcb := h.cur.le
      have hs6 := Same.set_ (S := fun g => g = p) (p := ⟨p, 4, none⟩) (Same.refl ((((w4.alloc (.cells #[.int .i64 (k : Int), .int .i64 0] 93)).setCell ⟨w.heap.size + 1, 0, none⟩ (.bool false)).setCell ⟨p, 13, none⟩ (.int .i64 (k : Int))).drew)) (fun _ => rfl) (.int .i64 x.at_)
      have I6 := Lib.hid (I5.move hs6 (I5.cur.move (m := x.at_) hcb))
      have nmp : w.heap.size + 1 ≠ p := by omega
      have m6 := m5.far (p := ⟨p, 4, none⟩) nmp (.int .i64 x.at_)
      have r0 := m6.cell 0
      have hB6 := Lib.hid (below_set hB45 (p := ⟨p, 4, none⟩) h.bp (.int .i64 x.at_))
      have CT := Lib.hid (step_catch5 (w.heap.size + 1) w.heap.size (w.heap.size + 1 + 1) p false x.at_ a err _ [] w4 hBm4 hBx4 hBa4 I4.cur.pb rfl rfl k (by omega))
      clear I4 I5 I3 hs4 hs6 hB3 hB4 hB5 hB45 hBx hBa hBm hBm4 hBx4 hBa4 m5 m6 hk5
      go_wp2_with fail
      refine leaves_cons (f := 60) (args := #[.pointer (some ⟨w.heap.size + 1, 0, none⟩), .pointer (some ⟨w.heap.size, 0, none⟩), .pointer (some ⟨w.heap.size + 1 + 1, 0, none⟩)]) (by simp) (by simp [go_sem]) ?_
      refine CT.out.mono ?_
      rintro e u' w7 ⟨rfl, rfl, rfl⟩
      simp only [settle, List.dropWhile_nil]
      refine ⟨.bool false, ?_, rfl, _, _, _, x.at_, I6.out, fun _ => rfl, hB6.out⟩
      simp [results, Try.results58, go_sem, r0, r1]
    · have r0 := m5.cell 0
      have I6 := Lib.hid I5
      have hB6 := Lib.hid hB45
      have CT := Lib.hid (step_catch (w.heap.size + 1) w.heap.size (w.heap.size + 1 + 1) p false x.at_ a err _ [] w4 hBm4 hBx4 hBa4 I4.cur.pb rfl rfl k (by omega))
      clear I4 I5 I3 hs4 hB3 hB4 hB5 hB45 hBx hBa hBm hBm4 hBx4 hBa4 m5
      go_wp2_with fail
      refine leaves_cons (f := 60) (args := #[.pointer (some ⟨w.heap.size + 1, 0, none⟩), .pointer (some ⟨w.heap.size, 0, none⟩), .pointer (some ⟨w.heap.size + 1 + 1, 0, none⟩)]) (by simp) (by simp [go_sem]) ?_
      refine CT.out.mono ?_
      rintro e u' w7 ⟨rfl, rfl, rfl⟩
      simp only [settle, List.dropWhile_nil]
      refine ⟨.bool false, ?_, rfl, _, _, _, a, I6.out, fun c => absurd c hk5, hB6.out⟩
      simp [results, Try.results58, go_sem, r0, r1]
set_option maxHeartbeats 4000000 in
set_option maxRecDepth 100000 in
theorem inf_step1 {w : World} {B p pw r : Nat} {A : Option Addr} {c : Nat} {vo v9 v10 : Value} {used err : Int} {x : I} (h : InfAt w B p pw r A c vo v9 v10 used err x) (hst : x.st = 1) (hraw : x.raw ≤ 65535) :
    Calls Try.prog 58 #[.pointer (some ⟨p, 0, none⟩)] w fun e w' => StepDone w B p pw r A c used err x (rawG x) e w' := by
  have hmf : ∀ (fn : Fn) (first cap : Array Value) (w : World), (Instr.makeFunc fn first cap).run Try.prog w = .ok (.func fn first cap) w := fun _ _ _ _ => rfl
  have C0 := fun (W : World) (hI : InfAt W B p pw r A c vo v9 v10 used err x) => inf_bytes hI hst hraw
  generalize rawG x = res at *
  have hs3 := (((Same.refl (S := fun _ => False) w).alloc (.cells #[.pointer (some ⟨p, 0, none⟩)] 64)).alloc (.cells #[.bool false] 4)).alloc (.cells #[.int .i64 x.at_] 3)
  have I2 := h.same (((Same.refl (S := fun _ => False) w).alloc (.cells #[.pointer (some ⟨p, 0, none⟩)] 64)).alloc (.cells #[.bool false] 4))
  have I3 := h.same hs3
  have hB3 := (((Below.refl B w).alloc h.bB (.cells #[.pointer (some ⟨p, 0, none⟩)] 64)).alloc (by have := h.bB; simp; omega) (.cells #[.bool false] 4)).alloc (by have := h.bB; simp; omega) (.cells #[.int .i64 x.at_] 3)
  have hBx := ((Blk.new w 64 #[.pointer (some ⟨p, 0, none⟩)]).alloc (.cells #[.bool false] 4)).alloc (.cells #[.int .i64 x.at_] 3)
  have hBm := (Blk.new (w.alloc (.cells #[.pointer (some ⟨p, 0, none⟩)] 64)) 4 #[.bool false]).alloc (.cells #[.int .i64 x.at_] 3)
  have hBa := Blk.new ((w.alloc (.cells #[.pointer (some ⟨p, 0, none⟩)] 64)).alloc (.cells #[.bool false] 4)) 3 #[.int .i64 x.at_]
  rw [World.size_alloc] at hBm
  rw [World.size_alloc, World.size_alloc] at hBa
  have c4 := I2.cur.c4
  have c6 : (((w.alloc (.cells #[.pointer (some ⟨p, 0, none⟩)] 64)).alloc (.cells #[.bool false] 4)).alloc (.cells #[.int .i64 x.at_] 3)).cell? ⟨p, 6, none⟩ = some (.int .i64 x.st) := I3.cur.pb.cell 6
  rw [hst] at c6
  have x0 := hBx.cell 0
  have CC := (C0 _ I3)
  go_enter_defers Try.func58, Try.ntmps58
  go_wp2_with fail
  refine CC.mono ?_
  rintro e w4 hp4
  have hAl : ∀ ad, A = some ad → ad.block < w.heap.size := h.cur.lt
  have hpl := Blk.lt h.cur.pb
  obtain ⟨hwl, hrl⟩ := h.win.lts
  have hol := h.out.lt
  have hB0 := h.bB
  have hMn : ∀ k, w.heap.size ≤ k → ¬ Mine p pw r vo k := fun k hk e => by
    rcases e with e | e | e | e
    · omega
    · omega
    · omega
    · have := hol k e; omega
  clear CC c4 c6 x0 I2 hs3
  generalize (((w.alloc (.cells #[.pointer (some ⟨p, 0, none⟩)] 64)).alloc (.cells #[.bool false] 4)).alloc (.cells #[.int .i64 x.at_] 3)) = W3 at *
  cases res with
  | ok y =>
    obtain ⟨rfl, vo4, v94, v104, I4, hs4⟩ : e = .returned (.tuple #[]) ∧ ∃ vo' v9' v10', InfAt w4 B p pw r A c vo' v9' v10' used err y ∧ Same (Mine p pw r vo) W3 w4 := hp4
    have hBm4 := hBm.same hs4 (hMn _ (by omega))
    have cm := hBm4.cell 0
    have fm := hBm4.frozen 0
    have hB4 := hB3.trans (I3.below hs4)
    have hs5 : Same (fun g => g = w.heap.size + 1) w4 (w4.setCell ⟨w.heap.size + 1, 0, none⟩ (.bool true)) := Same.set_ (S := fun g => g = w.heap.size + 1) (p := ⟨w.heap.size + 1, 0, none⟩) (Same.refl w4) (fun _ => rfl) _
    have I5 := I4.far hs5 (fun q e _ => ⟨_, _, (show q = w.heap.size + 1 from e) ▸ hBm4, by decide, by decide, by decide, by decide, by decide⟩) (fun ad e c => by have := hAl ad e; have c : ad.block = w.heap.size + 1 := c; omega)
    have hBm5 : Blk (w4.setCell ⟨w.heap.size + 1, 0, none⟩ (.bool true)) (w.heap.size + 1) 4 #[.bool true] := by have := hBm4.set_ 0 (.bool true); simpa using this
    have hB5 := below_set hB4 (p := ⟨w.heap.size + 1, 0, none⟩) (by simp only; omega) (.bool true)
    have I6 := Lib.hid (I5.same ((Same.refl (S := fun _ => False) _).alloc (.cells #[.int .i64 0, .int .i64 0] 93)))
    have hB6 := Lib.hid (hB5.alloc (by have := hB5.size; have := h.bB; omega) (.cells #[.int .i64 0, .int .i64 0] 93))
    have r0 := (hBm5.alloc (.cells #[.int .i64 0, .int .i64 0] 93)).cell 0
    clear I4 I5 I3 hs4 hs5 hB3 hB4 hB5 hBx hBa hBm hBm4 hBm5
    go_wp2_with fail
    refine leaves_cons (f := 60) (args := #[.pointer (some ⟨w.heap.size + 1, 0, none⟩), .pointer (some ⟨w.heap.size, 0, none⟩), .pointer (some ⟨w.heap.size + 1 + 1, 0, none⟩)]) (by simp) (by simp [go_sem]) ?_
    refine (step_idle _ _ _ _).mono ?_
    rintro e u' w7 ⟨rfl, rfl, rfl⟩
    simp only [settle]
    refine ⟨.bool true, ?_, rfl, _, _, _, I6.out, hB6.out⟩
    simp [results, Try.results58, go_sem, r0]
  | bad k =>
    obtain ⟨rfl, a, I4, hs4⟩ : e = .panicked [faultI k] ∧ ∃ a, InfAt w4 B p pw r A c vo v9 v10 used err { x with at_ := a } ∧ Same (Mine p pw r vo) W3 w4 := hp4
    have hBm4 := hBm.same hs4 (hMn _ (by omega))
    have hBx4 := hBx.same hs4 (hMn _ (by omega))
    have hBa4 := hBa.same hs4 (hMn _ (by omega))
    have hB4 := hB3.trans (I3.below hs4)
    have m2 : Blk ((w4.alloc (.cells #[.int .i64 (k : Int), .int .i64 0] 93)).setCell ⟨w.heap.size + 1, 0, none⟩ (.bool false)) (w.heap.size + 1) 4 #[.bool false] := by have := (hBm4.alloc (.cells #[.int .i64 (k : Int), .int .i64 0] 93)).set_ 0 (.bool false); simpa using this
    have r1 := m2.cell 0
    obtain ⟨I5, m5, hB5⟩ := I4.caught hBm4 (by omega) (fun ad e => by have := hAl ad e; omega) k
    have hB45 := hB4.trans hB5
    by_cases hk5 : k = 5
    · have hcb := h.cur.le
      have hs6 := Same.set_ (S := fun g => g = p) (p := ⟨p, 4, none⟩) (Same.refl ((((w4.alloc (.cells #[.int .i64 (k : Int), .int .i64 0] 93)).setCell ⟨w.heap.size + 1, 0, none⟩ (.bool false)).setCell ⟨p, 13, none⟩ (.int .i64 (k : Int))).drew)) (fun _ => rfl) (.int .i64 x.at_)
      have I6 := Lib.hid (I5.move hs6 (I5.cur.move (m := x.at_) hcb))
      have nmp : w.heap.size + 1 ≠ p := by omega
      have m6 := m5.far (p := ⟨p, 4, none⟩) nmp (.int .i64 x.at_)
      have r0 := m6.cell 0
      have hB6 := Lib.hid (below_set hB45 (p := ⟨p, 4, none⟩) h.bp (.int .i64 x.at_))
      have CT := Lib.hid (step_catch5 (w.heap.size + 1) w.heap.size (w.heap.size + 1 + 1) p false x.at_ a err _ [] w4 hBm4 hBx4 hBa4 I4.cur.pb rfl rfl k (by omega))
      clear I4 I5 I3 hs4 hs6 hB3 hB4 hB5 hB45 hBx hBa hBm hBm4 hBx4 hBa4 m5 m6 hk5
      go_wp2_with fail
      refine leaves_cons (f := 60) (args := #[.pointer (some ⟨w.heap.size + 1, 0, none⟩), .pointer (some ⟨w.heap.size, 0, none⟩), .pointer (some ⟨w.heap.size + 1 + 1, 0, none⟩)]) (by simp) (by simp [go_sem]) ?_
      refine CT.out.mono ?_
      rintro e u' w7 ⟨rfl, rfl, rfl⟩
      simp only [settle, List.dropWhile_nil]
      refine ⟨.bool false, ?_, rfl, _, _, _, x.at_, I6.out, fun _ => rfl, hB6.out⟩
      simp [results, Try.results58, go_sem, r0, r1]
    · have r0 := m5.cell 0
      have I6 := Lib.hid I5
      have hB6 := Lib.hid hB45
      have CT := Lib.hid (step_catch (w.heap.size + 1) w.heap.size (w.heap.size + 1 + 1) p false x.at_ a err _ [] w4 hBm4 hBx4 hBa4 I4.cur.pb rfl rfl k (by omega))
      clear I4 I5 I3 hs4 hB3 hB4 hB5 hB45 hBx hBa hBm hBm4 hBx4 hBa4 m5
      go_wp2_with fail
      refine leaves_cons (f := 60) (args := #[.pointer (some ⟨w.heap.size + 1, 0, none⟩), .pointer (some ⟨w.heap.size, 0, none⟩), .pointer (some ⟨w.heap.size + 1 + 1, 0, none⟩)]) (by simp) (by simp [go_sem]) ?_
      refine CT.out.mono ?_
      rintro e u' w7 ⟨rfl, rfl, rfl⟩
      simp only [settle, List.dropWhile_nil]
      refine ⟨.bool false, ?_, rfl, _, _, _, a, I6.out, fun c => absurd c hk5, hB6.out⟩
      simp [results, Try.results58, go_sem, r0, r1]
set_option maxHeartbeats 4000000 in
set_option maxRecDepth 100000 in
theorem inf_step2 {w : World} {B p pw r : Nat} {A : Option Addr} {c : Nat} {vo v9 v10 : Value} {used err : Int} {x : I} (h : InfAt w B p pw r A c vo v9 v10 used err x) (hst : x.st = 2) :
    Calls Try.prog 58 #[.pointer (some ⟨p, 0, none⟩)] w fun e w' => StepDone w B p pw r A c used err x (tokenG x) e w' := by
  have hmf : ∀ (fn : Fn) (first cap : Array Value) (w : World), (Instr.makeFunc fn first cap).run Try.prog w = .ok (.func fn first cap) w := fun _ _ _ _ => rfl
  have C0 := fun (W : World) (hI : InfAt W B p pw r A c vo v9 v10 used err x) => inf_token hI hst
  generalize tokenG x = res at *
  have hs3 := (((Same.refl (S := fun _ => False) w).alloc (.cells #[.pointer (some ⟨p, 0, none⟩)] 64)).alloc (.cells #[.bool false] 4)).alloc (.cells #[.int .i64 x.at_] 3)
  have I2 := h.same (((Same.refl (S := fun _ => False) w).alloc (.cells #[.pointer (some ⟨p, 0, none⟩)] 64)).alloc (.cells #[.bool false] 4))
  have I3 := h.same hs3
  have hB3 := (((Below.refl B w).alloc h.bB (.cells #[.pointer (some ⟨p, 0, none⟩)] 64)).alloc (by have := h.bB; simp; omega) (.cells #[.bool false] 4)).alloc (by have := h.bB; simp; omega) (.cells #[.int .i64 x.at_] 3)
  have hBx := ((Blk.new w 64 #[.pointer (some ⟨p, 0, none⟩)]).alloc (.cells #[.bool false] 4)).alloc (.cells #[.int .i64 x.at_] 3)
  have hBm := (Blk.new (w.alloc (.cells #[.pointer (some ⟨p, 0, none⟩)] 64)) 4 #[.bool false]).alloc (.cells #[.int .i64 x.at_] 3)
  have hBa := Blk.new ((w.alloc (.cells #[.pointer (some ⟨p, 0, none⟩)] 64)).alloc (.cells #[.bool false] 4)) 3 #[.int .i64 x.at_]
  rw [World.size_alloc] at hBm
  rw [World.size_alloc, World.size_alloc] at hBa
  have c4 := I2.cur.c4
  have c6 : (((w.alloc (.cells #[.pointer (some ⟨p, 0, none⟩)] 64)).alloc (.cells #[.bool false] 4)).alloc (.cells #[.int .i64 x.at_] 3)).cell? ⟨p, 6, none⟩ = some (.int .i64 x.st) := I3.cur.pb.cell 6
  rw [hst] at c6
  have x0 := hBx.cell 0
  have CC := (C0 _ I3)
  go_enter_defers Try.func58, Try.ntmps58
  go_wp2_with fail
  refine CC.mono ?_
  rintro e w4 hp4
  have hAl : ∀ ad, A = some ad → ad.block < w.heap.size := h.cur.lt
  have hpl := Blk.lt h.cur.pb
  obtain ⟨hwl, hrl⟩ := h.win.lts
  have hol := h.out.lt
  have hB0 := h.bB
  have hMn : ∀ k, w.heap.size ≤ k → ¬ Mine p pw r vo k := fun k hk e => by
    rcases e with e | e | e | e
    · omega
    · omega
    · omega
    · have := hol k e; omega
  clear CC c4 c6 x0 I2 hs3
  generalize (((w.alloc (.cells #[.pointer (some ⟨p, 0, none⟩)] 64)).alloc (.cells #[.bool false] 4)).alloc (.cells #[.int .i64 x.at_] 3)) = W3 at *
  cases res with
  | ok y =>
    obtain ⟨rfl, vo4, v94, v104, I4, hs4⟩ : e = .returned (.tuple #[]) ∧ ∃ vo' v9' v10', InfAt w4 B p pw r A c vo' v9' v10' used err y ∧ Same (Mine p pw r vo) W3 w4 := hp4
    have hBm4 := hBm.same hs4 (hMn _ (by omega))
    have cm := hBm4.cell 0
    have fm := hBm4.frozen 0
    have hB4 := hB3.trans (I3.below hs4)
    have hs5 : Same (fun g => g = w.heap.size + 1) w4 (w4.setCell ⟨w.heap.size + 1, 0, none⟩ (.bool true)) := Same.set_ (S := fun g => g = w.heap.size + 1) (p := ⟨w.heap.size + 1, 0, none⟩) (Same.refl w4) (fun _ => rfl) _
    have I5 := I4.far hs5 (fun q e _ => ⟨_, _, (show q = w.heap.size + 1 from e) ▸ hBm4, by decide, by decide, by decide, by decide, by decide⟩) (fun ad e c => by have := hAl ad e; have c : ad.block = w.heap.size + 1 := c; omega)
    have hBm5 : Blk (w4.setCell ⟨w.heap.size + 1, 0, none⟩ (.bool true)) (w.heap.size + 1) 4 #[.bool true] := by have := hBm4.set_ 0 (.bool true); simpa using this
    have hB5 := below_set hB4 (p := ⟨w.heap.size + 1, 0, none⟩) (by simp only; omega) (.bool true)
    have I6 := Lib.hid (I5.same ((Same.refl (S := fun _ => False) _).alloc (.cells #[.int .i64 0, .int .i64 0] 93)))
    have hB6 := Lib.hid (hB5.alloc (by have := hB5.size; have := h.bB; omega) (.cells #[.int .i64 0, .int .i64 0] 93))
    have r0 := (hBm5.alloc (.cells #[.int .i64 0, .int .i64 0] 93)).cell 0
    clear I4 I5 I3 hs4 hs5 hB3 hB4 hB5 hBx hBa hBm hBm4 hBm5
    go_wp2_with fail
    refine leaves_cons (f := 60) (args := #[.pointer (some ⟨w.heap.size + 1, 0, none⟩), .pointer (some ⟨w.heap.size, 0, none⟩), .pointer (some ⟨w.heap.size + 1 + 1, 0, none⟩)]) (by simp) (by simp [go_sem]) ?_
    refine (step_idle _ _ _ _).mono ?_
    rintro e u' w7 ⟨rfl, rfl, rfl⟩
    simp only [settle]
    refine ⟨.bool true, ?_, rfl, _, _, _, I6.out, hB6.out⟩
    simp [results, Try.results58, go_sem, r0]
  | bad k =>
    obtain ⟨rfl, a, I4, hs4⟩ : e = .panicked [faultI k] ∧ ∃ a, InfAt w4 B p pw r A c vo v9 v10 used err { x with at_ := a } ∧ Same (Mine p pw r vo) W3 w4 := hp4
    have hBm4 := hBm.same hs4 (hMn _ (by omega))
    have hBx4 := hBx.same hs4 (hMn _ (by omega))
    have hBa4 := hBa.same hs4 (hMn _ (by omega))
    have hB4 := hB3.trans (I3.below hs4)
    have m2 : Blk ((w4.alloc (.cells #[.int .i64 (k : Int), .int .i64 0] 93)).setCell ⟨w.heap.size + 1, 0, none⟩ (.bool false)) (w.heap.size + 1) 4 #[.bool false] := by have := (hBm4.alloc (.cells #[.int .i64 (k : Int), .int .i64 0] 93)).set_ 0 (.bool false); simpa using this
    have r1 := m2.cell 0
    obtain ⟨I5, m5, hB5⟩ := I4.caught hBm4 (by omega) (fun ad e => by have := hAl ad e; omega) k
    have hB45 := hB4.trans hB5
    by_cases hk5 : k = 5
    · have hcb := h.cur.le
      have hs6 := Same.set_ (S := fun g => g = p) (p := ⟨p, 4, none⟩) (Same.refl ((((w4.alloc (.cells #[.int .i64 (k : Int), .int .i64 0] 93)).setCell ⟨w.heap.size + 1, 0, none⟩ (.bool false)).setCell ⟨p, 13, none⟩ (.int .i64 (k : Int))).drew)) (fun _ => rfl) (.int .i64 x.at_)
      have I6 := Lib.hid (I5.move hs6 (I5.cur.move (m := x.at_) hcb))
      have nmp : w.heap.size + 1 ≠ p := by omega
      have m6 := m5.far (p := ⟨p, 4, none⟩) nmp (.int .i64 x.at_)
      have r0 := m6.cell 0
      have hB6 := Lib.hid (below_set hB45 (p := ⟨p, 4, none⟩) h.bp (.int .i64 x.at_))
      have CT := Lib.hid (step_catch5 (w.heap.size + 1) w.heap.size (w.heap.size + 1 + 1) p false x.at_ a err _ [] w4 hBm4 hBx4 hBa4 I4.cur.pb rfl rfl k (by omega))
      clear I4 I5 I3 hs4 hs6 hB3 hB4 hB5 hB45 hBx hBa hBm hBm4 hBx4 hBa4 m5 m6 hk5
      go_wp2_with fail
      refine leaves_cons (f := 60) (args := #[.pointer (some ⟨w.heap.size + 1, 0, none⟩), .pointer (some ⟨w.heap.size, 0, none⟩), .pointer (some ⟨w.heap.size + 1 + 1, 0, none⟩)]) (by simp) (by simp [go_sem]) ?_
      refine CT.out.mono ?_
      rintro e u' w7 ⟨rfl, rfl, rfl⟩
      simp only [settle, List.dropWhile_nil]
      refine ⟨.bool false, ?_, rfl, _, _, _, x.at_, I6.out, fun _ => rfl, hB6.out⟩
      simp [results, Try.results58, go_sem, r0, r1]
    · have r0 := m5.cell 0
      have I6 := Lib.hid I5
      have hB6 := Lib.hid hB45
      have CT := Lib.hid (step_catch (w.heap.size + 1) w.heap.size (w.heap.size + 1 + 1) p false x.at_ a err _ [] w4 hBm4 hBx4 hBa4 I4.cur.pb rfl rfl k (by omega))
      clear I4 I5 I3 hs4 hB3 hB4 hB5 hB45 hBx hBa hBm hBm4 hBx4 hBa4 m5
      go_wp2_with fail
      refine leaves_cons (f := 60) (args := #[.pointer (some ⟨w.heap.size + 1, 0, none⟩), .pointer (some ⟨w.heap.size, 0, none⟩), .pointer (some ⟨w.heap.size + 1 + 1, 0, none⟩)]) (by simp) (by simp [go_sem]) ?_
      refine CT.out.mono ?_
      rintro e u' w7 ⟨rfl, rfl, rfl⟩
      simp only [settle, List.dropWhile_nil]
      refine ⟨.bool false, ?_, rfl, _, _, _, a, I6.out, fun c => absurd c hk5, hB6.out⟩
      simp [results, Try.results58, go_sem, r0, r1]
set_option maxHeartbeats 4000000 in
set_option maxRecDepth 100000 in
theorem inf_step3 {w : World} {B p pw r : Nat} {A : Option Addr} {c : Nat} {vo v9 v10 : Value} {used err : Int} {x : I} (h : InfAt w B p pw r A c vo v9 v10 used err x) (hst : x.st = 3) :
    Calls Try.prog 58 #[.pointer (some ⟨p, 0, none⟩)] w fun e w' => e = .returned (.bool false) ∧ InfAt w' B p pw r A c vo v9 v10 used 0 x ∧ Below B w w' := by
  have hmf : ∀ (fn : Fn) (first cap : Array Value) (w : World), (Instr.makeFunc fn first cap).run Try.prog w = .ok (.func fn first cap) w := fun _ _ _ _ => rfl
  have hs3 := (((Same.refl (S := fun _ => False) w).alloc (.cells #[.pointer (some ⟨p, 0, none⟩)] 64)).alloc (.cells #[.bool false] 4)).alloc (.cells #[.int .i64 x.at_] 3)
  have I2 := h.same (((Same.refl (S := fun _ => False) w).alloc (.cells #[.pointer (some ⟨p, 0, none⟩)] 64)).alloc (.cells #[.bool false] 4))
  have I3 := h.same hs3
  have hB3 := (((Below.refl B w).alloc h.bB (.cells #[.pointer (some ⟨p, 0, none⟩)] 64)).alloc (by have := h.bB; simp; omega) (.cells #[.bool false] 4)).alloc (by have := h.bB; simp; omega) (.cells #[.int .i64 x.at_] 3)
  have hBx := ((Blk.new w 64 #[.pointer (some ⟨p, 0, none⟩)]).alloc (.cells #[.bool false] 4)).alloc (.cells #[.int .i64 x.at_] 3)
  have hBm := (Blk.new (w.alloc (.cells #[.pointer (some ⟨p, 0, none⟩)] 64)) 4 #[.bool false]).alloc (.cells #[.int .i64 x.at_] 3)
  rw [World.size_alloc] at hBm
  have c4 := I2.cur.c4
  have c6 : (((w.alloc (.cells #[.pointer (some ⟨p, 0, none⟩)] 64)).alloc (.cells #[.bool false] 4)).alloc (.cells #[.int .i64 x.at_] 3)).cell? ⟨p, 6, none⟩ = some (.int .i64 x.st) := I3.cur.pb.cell 6
  rw [hst] at c6
  have x0 := hBx.cell 0
  have c13 : (((w.alloc (.cells #[.pointer (some ⟨p, 0, none⟩)] 64)).alloc (.cells #[.bool false] 4)).alloc (.cells #[.int .i64 x.at_] 3)).cell? ⟨p, 13, none⟩ = some (.int .i64 err) := I3.cur.pb.cell 13
  have f13 := I3.cur.pb.frozen 13
  have cm := hBm.cell 0
  have fm := hBm.frozen 0
  have hpl := Blk.lt h.cur.pb
  have hAl : ∀ ad, A = some ad → ad.block < w.heap.size := h.cur.lt
  have nmp : w.heap.size + 1 ≠ p := by omega
  generalize hW3 : (((w.alloc (.cells #[.pointer (some ⟨p, 0, none⟩)] 64)).alloc (.cells #[.bool false] 4)).alloc (.cells #[.int .i64 x.at_] 3)) = W3 at *
  have hs4 : Same (fun g => g = p) W3 (W3.setCell ⟨p, 13, none⟩ (.int .i64 0)) := Same.set_ (S := fun g => g = p) (p := ⟨p, 13, none⟩) (Same.refl _) (fun _ => rfl) _
  have b4 : Blk (W3.setCell ⟨p, 13, none⟩ (.int .i64 0)) p 91 (infC x pw A c vo v9 v10 used 0) := I3.cur.pb.set_ 13 (.int .i64 0)
  have I4 := I3.onP (y := x) hs4 ⟨b4, rfl, rfl, I3.cur.row.same hs4 (fun ad e => I3.cur.ne ad e), I3.cur.ne, I3.cur.le, I3.cur.hi, fun ad e => Nat.lt_of_lt_of_le (I3.cur.lt ad e) hs4.size⟩ rfl rfl rfl rfl (I3.tabsP hs4)
  have m4 := hBm.far (p := ⟨p, 13, none⟩) nmp (.int .i64 0)
  have cm4 := m4.cell 0
  have fm4 := m4.frozen 0
  have hs5 : Same (fun g => g = w.heap.size + 1) (W3.setCell ⟨p, 13, none⟩ (.int .i64 0)) ((W3.setCell ⟨p, 13, none⟩ (.int .i64 0)).setCell ⟨w.heap.size + 1, 0, none⟩ (.bool false)) := Same.set_ (S := fun g => g = w.heap.size + 1) (p := ⟨w.heap.size + 1, 0, none⟩) (Same.refl _) (fun _ => rfl) _
  have I5 := I4.far hs5 (fun q e _ => ⟨_, _, (show q = w.heap.size + 1 from e) ▸ m4, by decide, by decide, by decide, by decide, by decide⟩) (fun ad e c => by have := hAl ad e; have c : ad.block = w.heap.size + 1 := c; omega)
  have m5 : Blk ((W3.setCell ⟨p, 13, none⟩ (.int .i64 0)).setCell ⟨w.heap.size + 1, 0, none⟩ (.bool false)) (w.heap.size + 1) 4 #[.bool false] := by have := m4.set_ 0 (.bool false); simpa using this
  have hB5 := below_set (below_set hB3 (p := ⟨p, 13, none⟩) h.bp (.int .i64 0)) (p := ⟨w.heap.size + 1, 0, none⟩) (by have := h.bB; simp only; omega) (.bool false)
  have I6 := Lib.hid (I5.same ((Same.refl (S := fun _ => False) _).alloc (.cells #[.int .i64 0, .int .i64 0] 93)))
  have hB6 := Lib.hid (hB5.alloc (by have := hB5.size; have := h.bB; omega) (.cells #[.int .i64 0, .int .i64 0] 93))
  have r0 := (m5.alloc (.cells #[.int .i64 0, .int .i64 0] 93)).cell 0
  clear I4 I5 I3 hs4 hs5 hB3 hB5 hBx hBm m4 m5 b4 I2 hs3
  subst hW3
  go_enter_defers Try.func58, Try.ntmps58
  go_wp2_with fail
  refine leaves_cons (f := 60) (args := #[.pointer (some ⟨w.heap.size + 1, 0, none⟩), .pointer (some ⟨w.heap.size, 0, none⟩), .pointer (some ⟨w.heap.size + 1 + 1, 0, none⟩)]) (by simp) (by simp [go_sem]) ?_
  refine (step_idle _ _ _ _).mono ?_
  rintro e u' w7 ⟨rfl, rfl, rfl⟩
  simp only [settle]
  refine ⟨.bool false, ?_, rfl, I6.out, hB6.out⟩
  simp [results, Try.results58, go_sem, r0]
end Go.Proofs.Yteknaaijlkenkaa
