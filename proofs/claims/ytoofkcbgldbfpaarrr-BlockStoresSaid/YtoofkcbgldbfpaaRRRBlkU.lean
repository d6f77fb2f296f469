import Derived.Test.YtoofkcbgldbfpaaRRRBlkT
import Derived.Lib.SlBytesConst
namespace Go.Proofs.YtoofkcbgldbfpaaRRR
set_option linter.unusedVariables false
set_option linter.unusedSimpArgs false
open Go.RowKit
attribute [local go_sem] max2i min2i max2t min2t

theorem RowS.belo {α : Type} {w w' : World} {m c : Nat} {A : Option Addr} {l : List α} {enc : α → List Value} {ok ok' : α → Prop} (h : RowS w m A c l enc ok) (hb : Below w.heap.size w w') (hk : ∀ x, ok x → ok' x) : RowS w' m A c l enc ok' :=
  ⟨fun i x hx => by
    obtain ⟨b, off, e, hc⟩ := h.rd i x hx
    exact ⟨b, off, e, fun j v hv => (hb.cell (World.block_lt_of_cell? w _ (hc j v hv))).trans (hc j v hv)⟩, h.cap, h.most, fun x hx => hk x (h.ok x hx), h.nil⟩
theorem row_mark (w : World) (e : TypeId) : RowOf (w.alloc (.cells #[.int .u8 97] e (1, 2))) .u8 (some ⟨w.heap.size, 0, none⟩) 1 [97] := by
  refine ⟨fun i x hx => ⟨_, rfl, ?_⟩, by simp, by simp, by simp [Lit.wf, IntKind.min, IntKind.max, IntKind.bits, IntKind.signed], by simp⟩
  have hi : i = 0 ∧ x = 97 := by
    cases i with
    | zero => simpa using hx.symm
    | succ n => simp at hx
  obtain ⟨rfl, rfl⟩ := hi
  rw [Addr.add_lit, World.cell?_alloc_mark]
  rfl
set_option maxHeartbeats 1600000 in
set_option maxRecDepth 100000 in
theorem told14 (w : World) : Calls Try.prog 6 #[] w fun e w' => e = .returned (.bool true) ∧ Below w.heap.size w w' := by
  have kc := fun (w : World) (C : Array Value) (n c : Nat) => Lib.run_convert_bytes_const (P := Try.prog) w 33 5 C n c Try.underlying33 Try.underlying5
  go_enter Try.func6, Try.ntmps6
  go_wp2_with fail
  refine (blk_symbol 11 false w (by decide)).mono ?_
  rintro e w1 ⟨rfl, hw⟩
  subst hw
  rw [show symS 11 false = 265 from by decide, show symM 11 false = 1 from by decide, show symV 11 false = 0 from by decide]
  go_wp2_with fail
  refine (blk_reach 6 false w1 (by decide)).mono ?_
  rintro e w2 ⟨rfl, hw⟩
  subst hw
  rw [show farS 6 false = 4 from by decide, show farM 6 false = 1 from by decide, show farV 6 false = 1 from by decide]
  go_wp2_with fail
  refine wr_new.mono ?_
  rintro e w3 ⟨rfl, h3, B3⟩
  have hr := row_mark w3 5
  have hpl := h3.pb.lt
  have h3' := h3.below (w' := w3.alloc (.cells #[.int .u8 97] 5 (1, 2))) ((Below.refl _ _).alloc (Nat.le_refl _) _)
  go_wp2_with fail
  refine (blk_store (A := some ⟨w3.heap.size, 0, none⟩) (c := 1) true h3' hr (fun ad e _ => ?_) (by simp; have := B3.size; omega) (by simp)).mono ?_
  · injection e with e
    subst e
    exact ⟨by simp; omega, by simp [Value.ownBlock]⟩
  rintro e w4 ⟨rfl, v4, h4⟩
  have B4 := h4.below (B3.alloc B3.size _) (by simp; have := B3.size; omega) (Nat.le_refl _) (fun g hg => by simp [Value.ownBlock] at hg)
  go_wp2_with fail
  refine (blk_fixed none 0 [] false w4 RowS.nil_ (by simp)).mono ?_
  rintro e w5 ⟨rfl, B5⟩
  rw [show fixG false [] 10 = 10 from rfl]
  have B6 := B4.trans (B5.mono B4.size)
  have h5 := h4.at_.below B5
  go_wp2_with fail
  refine (blk_stored 0 _).mono ?_
  rintro e w6 ⟨rfl, hw⟩
  rw [show storedN 0 = 5 from by decide]
  subst hw
  go_wp2_with fail
  refine (wr_bytes h5).mono ?_
  rintro e w7 ⟨A7, c7, rfl, ho7, _, B7, _⟩
  rw [show packB (storeT true ([97] : List Int).length [] [97]) = [1, 1, 0, 254, 255, 97] from by decide] at *
  have hstr := ho7.to_string (P := Try.prog) Try.underlying33 Try.underlying5 Try.underlying9
  rw [show strOfNums [1, 1, 0, 254, 255, 97] = ⟨#[1, 1, 0, 254, 255, 97]⟩ from by decide, show ([1, 1, 0, 254, 255, 97] : List Int).length = 6 from rfl] at hstr
  go_wp2_with fail
  go_ret
  exact ⟨rfl, B6.trans (B7.mono B6.size)⟩

set_option maxHeartbeats 1600000 in
set_option maxRecDepth 100000 in
theorem blockSymbols_walk (n dist : Int) (wide : Bool) (size : Int) (A : Option Addr) (c : Nat) (l : List TokS) (w : World) (h00 : (Lit.int .i64 n).wf = true) (h01 : (Lit.int .i64 dist).wf = true) (h03 : (Lit.int .i64 size).wf = true) (h04 : RowS w 3 A c l S43.enc (S43.ok w)) :
    Calls Try.prog 3 #[.int .i64 n, .int .i64 dist, .bool wide, .int .i64 size, .slice A l.length c] w fun e w' => e = .returned (.bool true) ∧ Below w.heap.size w w' := by
  have ht := fun W => Lib.hid (told14 W)
  have hm := h04.most
  have hcap := h04.cap
  by_cases h1 : 100 < l.length
  · have b1 : decide ((100 : Int) < l.length) = true := by simp; omega
    go_enter Try.func3, Try.ntmps3
    go_wp2_with (go_at_call 6; refine (ht _).out.mono ?_; rintro e w' ⟨rfl, hb⟩)
    go_ret
    exact ⟨rfl, hb⟩
  · have b1 : decide ((100 : Int) < l.length) = false := by simp; omega
    have hd : -9223372036854775808 ≤ dist ∧ dist ≤ 9223372036854775807 := by
      simp [Lit.wf, IntKind.min, IntKind.max, IntKind.bits, IntKind.signed] at h01; omega
    have HS := Lib.hid (fun W => blk_symbol n wide W h00)
    have HT := Lib.hid (fun W => ref_symbol n wide W h00)
    have HR := Lib.hid (fun W => blk_reach dist wide W h01)
    have HQ := Lib.hid (fun W => ref_reach dist wide W hd.1 hd.2)
    have HU := Lib.hid (fun W => blk_stored size W)
    have HV := Lib.hid (fun W => ref_stored size W)
    generalize symS n wide = x1 at *
    generalize symM n wide = x2 at *
    generalize symV n wide = x3 at *
    generalize farS dist wide = x4 at *
    generalize farM dist wide = x5 at *
    generalize farV dist wide = x6 at *
    generalize storedN size = x7 at *
    have e1 : (x1 == x1) = true := by simp
    have e2 : (x2 == x2) = true := by simp
    have e3 : (x3 == x3) = true := by simp
    have e4 : (x4 == x4) = true := by simp
    have e5 : (x5 == x5) = true := by simp
    have e6 : (x6 == x6) = true := by simp
    have e7 : (x7 == x7) = true := by simp
    go_enter Try.func3, Try.ntmps3
    go_wp2_with fail
    refine (HS.out _).mono ?_
    rintro e w1 ⟨rfl, hw⟩
    subst hw
    go_wp2_with fail
    refine (HT.out _).mono ?_
    rintro e w2 ⟨rfl, hw⟩
    subst hw
    go_wp2_with fail
    refine (HR.out _).mono ?_
    rintro e w3 ⟨rfl, hw⟩
    subst hw
    go_wp2_with fail
    refine (HQ.out _).mono ?_
    rintro e w4 ⟨rfl, hw⟩
    subst hw
    go_wp2_with fail
    refine (ht _).out.mono ?_
    rintro e w5 ⟨rfl, hb5⟩
    have h5 : RowS w5 3 A c l S43.enc (S43.ok w5) := h04.belo hb5 (fun x h => h)
    go_wp2_with fail
    refine (blk_fixed A c l wide w5 h5 (by omega)).mono ?_
    rintro e w6 ⟨rfl, hb6⟩
    have hb6' := hb5.trans (hb6.mono hb5.size)
    have h6 : RowS w6 3 A c l S43.enc (S43.ok w6) := h04.belo hb6' (fun x h => h)
    go_wp2_with fail
    refine (ref_fixed A c l wide w6 h6 (by omega)).mono ?_
    rintro e w7 ⟨rfl, hb7⟩
    have hb7' := hb6'.trans (hb7.mono hb6'.size)
    generalize fixG wide l 10 = x8 at *
    have e8 : (x8 == x8) = true := by simp
    go_wp2_with fail
    refine (HU.out _).mono ?_
    rintro e w8 ⟨rfl, hw⟩
    subst hw
    go_wp2_with fail
    refine (HV.out _).mono ?_
    rintro e w9 ⟨rfl, hw⟩
    subst hw
    go_wp2_with fail
    go_ret
    exact ⟨rfl, hb7'⟩
end Go.Proofs.YtoofkcbgldbfpaaRRR
