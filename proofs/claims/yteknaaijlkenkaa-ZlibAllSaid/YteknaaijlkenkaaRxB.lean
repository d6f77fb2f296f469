import Derived.Test.YteknaaijlkenkaaRxA
namespace Go.Proofs.Yteknaaijlkenkaa
set_option linter.unusedVariables false
set_option linter.unusedSimpArgs false
open Go.RowKit
attribute [local go_sem] max2i min2i max2t min2t

section
variable {w : World} {B p : Nat} {A : Option Addr} {c : Nat} {vo : Value} {bs : List Int} {a : Nat} {out : List Int} {wide : Bool} {size most : Nat} {code : Int}
set_option maxHeartbeats 1600000 in
set_option maxRecDepth 100000 in
theorem rx_left (h : XAt w B p A c vo bs a out wide size most code) :
    Calls Try.prog 53 #[.pointer (some ⟨p, 0, none⟩)] w fun e w' => e = .returned (.int .i64 (lf bs a)) ∧ Same (fun _ => False) w w' := by
  have m0 : ∀ d : Ext (fun _ => False) w, d.world.cell? ⟨p, 0, none⟩ = some (.slice A bs.length c) := fun d => ((h.same d.same).blk.cell 0)
  have m1 : ∀ d : Ext (fun _ => False) w, d.world.cell? ⟨p, 1, none⟩ = some (.int .i64 a) := fun d => ((h.same d.same).blk.cell 1)
  have hal := h.al
  have hhl := h.hl
  have e1 : ((lf bs a : Nat) : Int) = 8 * (bs.length : Int) - a := by unfold lf; omega
  rw [e1]
  clear e1
  go_enter Try.func53, Try.ntmps53
  go_upto_region 1 with fail
  refine wp_region_ext (fun _ => False) (by kernel_rfl) (by kernel_rfl) ?_
  repeat (go_big_quiet_step (fail))
  refine wpQuiet_nil ?_
  rintro _ ⟨d, rfl⟩
  go_wp2_with fail
  go_ret
  exact ⟨rfl, d.same⟩
set_option maxHeartbeats 1600000 in
set_option maxRecDepth 100000 in
theorem rx_end (h : XAt w B p A c vo bs a out wide size most code) (e : Int) :
    Calls Try.prog 56 #[.pointer (some ⟨p, 0, none⟩), .int .i64 e] w fun en w' => en = .returned (.int .i64 2) ∧ XAt w' B p A c vo bs a out wide size most e ∧ Same (fun k => k = p) w w' := by
  have c6 := h.blk.cell 6
  have f6 := h.blk.frozen 6
  have HX := Lib.hid (h.fail e)
  have HS := Lib.hid (Same.set_ (S := fun k => k = p) (p := ⟨p, 6, none⟩) (Same.refl w) (fun _ => rfl) (.int .i64 e))
  clear h
  go_enter Try.func56, Try.ntmps56
  go_wp2_with fail
  go_ret
  exact ⟨rfl, HX.out, HS.out⟩
theorem rx_T (bs : List Int) (a n : Nat) : bin (((ofB bs).drop a).take n) ∧ (((ofB bs).drop a).take n).length = min n (lf bs a) := by
  refine ⟨bin_take (bin_drop (bin_ofB bs) a) n, ?_⟩
  rw [List.length_take, List.length_drop, ofB_length]; rfl
set_option maxHeartbeats 1600000 in
set_option maxRecDepth 100000 in
theorem rx_get (h : XAt w B p A c vo bs a out wide size most code) (n : Nat) (hn : n ≤ 16) (hlf : n ≤ lf bs a) :
    Calls Try.prog 41 #[.pointer (some ⟨p, 0, none⟩), .int .i64 n] w fun e w' => e = .returned (.tuple #[.int .i64 (pk bs a n), .bool true]) ∧ XAt w' B p A c vo bs (a + n) out wide size most code ∧ Same (fun k => k = p) w w' := by
  have CL := rx_look h 0 n (by omega) (by omega)
  rw [Nat.add_zero] at CL
  obtain ⟨hb, hl⟩ := rx_T bs a n
  have hpn := pk_num bs a n
  have hpl := pk_lt bs a n
  have hp16 : 2 ^ n ≤ 2 ^ 16 := Nat.pow_le_pow_right (by decide) hn
  obtain ⟨T, hT⟩ : ∃ T, ((ofB bs).drop a).take n = T := ⟨_, rfl⟩
  rw [hT] at CL hb hl hpn
  have hln : T.length = n := by omega
  have hsz := txt_size T
  have hsn : (txt T).size = n := by omega
  have CN := fun W => Lib.hid (ref_number T W hb (by omega))
  rw [← hpn] at CN
  have hv : pk bs a n < 65536 := by omega
  have CL := Lib.hid CL
  have hal := h.al
  have hhl := h.hl
  have hann : a + n ≤ 8 * bs.length := by unfold lf at hlf; omega
  generalize pk bs a n = v at *
  generalize txt T = S at *
  clear hT hb hl hpn hpl hp16 hsz hln
  have e1 : decide ((n : Int) < n) = false := by simp
  go_enter Try.func41, Try.ntmps41
  go_wp2_with fail
  refine CL.out.mono ?_
  rintro e w1 ⟨rfl, hB1⟩
  have h1 := h.belo hB1
  have c1 : w1.cell? ⟨p, 1, none⟩ = some (.int .i64 a) := h1.blk.cell 1
  have f1 := h1.blk.frozen 1
  have hm := h1.move hann
  have hs1 := (Same.of_below (S := fun k => k = p) hB1).then (Same.set_ (S := fun k => k = p) (p := ⟨p, 1, none⟩) (Same.refl w1) (fun _ => rfl) (.int .i64 ((a + n : Nat) : Int)))
  rw [show ((a + n : Nat) : Int) = (a : Int) + n from by omega] at hm hs1
  have HM := Lib.hid hm
  have HS := Lib.hid hs1
  clear hm hs1 h1 h
  go_wp2_with fail
  refine (CN _).out.mono ?_
  rintro e w2 ⟨rfl, hw⟩
  subst hw
  go_wp2_with fail
  go_ret2
  exact ⟨rfl, HM.out, HS.out⟩
set_option maxHeartbeats 1600000 in
set_option maxRecDepth 100000 in
theorem rx_getno (h : XAt w B p A c vo bs a out wide size most code) (n : Nat) (hn : n ≤ 16) (hlf : lf bs a < n) :
    Calls Try.prog 41 #[.pointer (some ⟨p, 0, none⟩), .int .i64 n] w fun e w' => e = .returned (.tuple #[.int .i64 0, .bool false]) ∧ XAt w' B p A c vo bs a out wide size most code ∧ Below w.heap.size w w' := by
  have CL := rx_look h 0 n (by omega) (by omega)
  rw [Nat.add_zero] at CL
  obtain ⟨hb, hl⟩ := rx_T bs a n
  obtain ⟨T, hT⟩ : ∃ T, ((ofB bs).drop a).take n = T := ⟨_, rfl⟩
  rw [hT] at CL hb hl
  have hsz := txt_size T
  have hsn : ∃ k, (txt T).size = k ∧ k < n := ⟨_, rfl, by omega⟩
  obtain ⟨k, hk, hkn⟩ := hsn
  have CL := Lib.hid CL
  generalize txt T = S at *
  clear hT hb hl hsz
  have e1 : decide ((k : Int) < n) = true := by simp; omega
  have e1' : decide (k < n) = true := by simp; omega
  go_enter Try.func41, Try.ntmps41
  go_wp2_with fail
  refine CL.out.mono ?_
  rintro e w1 ⟨rfl, hB1⟩
  have HX := Lib.hid (h.belo hB1)
  clear h
  go_wp2_with fail
  go_ret2
  exact ⟨rfl, HX.out, hB1⟩
end
end Go.Proofs.Yteknaaijlkenkaa
