import Derived.Test.YteknaaijlkenkaaInfJ
namespace Go.Proofs.Yteknaaijlkenkaa
set_option linter.unusedVariables false
set_option linter.unusedSimpArgs false
open Go.RowKit
attribute [local go_sem] max2i min2i max2t min2t

structure RwRel (w : World) (B p pw r : Nat) (A : Option Addr) (c : Nat) (v0 v9 v10 : Value) (used err : Int) (x : I) (q n : Nat) (g : Nat) (s61 : Value) (wr : World) : Prop where mk ::
  out_ : ∃ (i : Nat) (vo : Value), i ≤ n ∧ g = n - i ∧ s61 = .int .i64 i ∧ InfAt wr B p pw r A c vo v9 v10 used err { x with out := x.out ++ (x.bs.drop q).take i, all := x.all ++ (x.bs.drop q).take i } ∧ Same (Mine p pw r v0) w wr ∧ (∀ g, vo.ownBlock = some g → v0.ownBlock = some g ∨ w.heap.size ≤ g)
theorem u8b {x : I} {w : World} {p : Nat} {cs : Array Value} {A : Option Addr} {c n : Nat} (h : CurAt w p cs A c x.bs n) {i : Nat} {b : Int} (hb : x.bs[i]? = some b) : 0 ≤ b ∧ b < 256 := u8_ofI (h.row.wf b (List.mem_of_getElem? hb))
set_option maxHeartbeats 4000000 in
set_option maxRecDepth 100000 in
theorem inf_bytes {w : World} {B p pw r : Nat} {A : Option Addr} {c : Nat} {vo v9 v10 : Value} {used err : Int} {x : I} (h : InfAt w B p pw r A c vo v9 v10 used err x) (hst : x.st = 1) (hraw : x.raw ≤ 65535) :
    Calls Try.prog 62 #[.pointer (some ⟨p, 0, none⟩)] w fun e w' => StepPost w B p pw r A c vo v9 v10 used err x (rawG x) e w' := by
  obtain ⟨res, hres⟩ : ∃ r, rawG x = r := ⟨_, rfl⟩
  rw [hres]
  rw [rawG] at hres
  have c8 : w.cell? ⟨p, 8, none⟩ = some (.int .i64 x.raw) := h.cur.pb.cell 8
  by_cases h0 : x.raw = 0
  · rw [if_pos h0] at hres
    have HR := Lib.hid hres
    have e0 : ((x.raw : Int) == 0) = true := by simp [h0]
    have e0' : (x.raw == 0) = true := by simp [h0]
    clear hres h0
    go_enter Try.func62, Try.ntmps62
    go_wp2_with fail
    refine (inf_next h).mono ?_
    rintro e w1 ⟨rfl, h1, hs1⟩
    go_wp2_with fail
    ((try simp only [Exit.inBlock, Exit.then]); first | refine bodyPost_end (results_none rfl _ _ _) rfl ?_ | refine bodyPost_ret (results_none rfl _ _ _) rfl ?_)
    show StepPost _ _ _ _ _ _ _ _ _ _ _ _ _ _ _ _
    rw [← HR.out]
    exact ⟨rfl, vo, v9, v10, h1, h.mineP hs1⟩
  rw [if_neg h0] at hres
  have e0 : ((x.raw : Int) == 0) = false := by rw [beq_eq_false_iff_ne]; omega
  have e0' : (x.raw == 0) = false := by rw [beq_eq_false_iff_ne]; exact h0
  have hle := h.cur.le
  have hhi := h.cur.hi
  have hlf : 8 * x.bs.length = x.at_ + lf x.bs x.at_ := by unfold lf; omega
  obtain ⟨L, hL⟩ : ∃ L, lf x.bs x.at_ = L := ⟨_, rfl⟩
  rw [hL] at hres hlf
  obtain ⟨l8, hl8⟩ : ∃ l8, L / 8 = l8 := ⟨_, rfl⟩
  rw [hl8] at hres
  have hLd : ((L : Nat) : Int) / 8 = (l8 : Int) := by omega
  obtain ⟨n1, hn1⟩ : ∃ n1, min x.raw l8 = n1 := ⟨_, rfl⟩
  rw [hn1] at hres
  have hn1i : min ((x.raw : Nat) : Int) ((l8 : Nat) : Int) = (n1 : Int) := by omega
  have HL8 := Lib.hid hl8
  have h8b : l8 * 8 ≤ L := by omega
  clear hl8
  have hLb : L ≤ 8796093022208 := by omega
  have C0 := fun (W : World) (hs : Same (fun _ => False) w W) => cur_left (h.cur.same hs)
  rw [hL] at C0
  have m1 := fun d : Ext (fun _ => False) w => Lib.hid (ext_call (d := d) (C0 d.world d.same))
  have c8d := fun d : Ext (fun _ => False) w => d.same.cell c8 (fun c => c)
  have HRES := Lib.hid hres
  clear hres C0 hL
  go_enter Try.func62, Try.ntmps62
  go_wp2_with fail
  refine wp_region_ext (fun _ => False) (by kernel_rfl) (by kernel_rfl) ?_
  repeat (go_big_quiet_step (exact (m1 _).out))
  refine wpQuiet_nil ?_
  rintro _ ⟨d, rfl⟩
  have hsd := d.same
  have h1 := h.same hsd
  have hres := HRES.out
  generalize d.world = w1 at *
  clear d m1 c8d c8 HRES
  by_cases hn0 : n1 = 0
  · rw [if_pos hn0] at hres
    have HR := Lib.hid hres
    have e1 : ((n1 : Int) == 0) = true := by simp [hn0]
    have e1' : (n1 == 0) = true := by simp [hn0]
    clear hres
    go_wp2_with fail
    refine (cur_fail _ _ 5).mono ?_
    rintro e w2 ⟨rfl, rfl⟩
    go_wp2_with fail
    refine ⟨rfl, ?_⟩
    show StepPost _ _ _ _ _ _ _ _ _ _ _ _ _ _ _ _
    rw [← HR.out]
    exact ⟨rfl, _, h1, h.mineP hsd.any⟩
  rw [if_neg hn0] at hres
  have e1 : ((n1 : Int) == 0) = false := by rw [beq_eq_false_iff_ne]; omega
  have e1' : (n1 == 0) = false := by rw [beq_eq_false_iff_ne]; exact hn0
  have htot := h.total
  have hmost := h.most
  obtain ⟨n, hn⟩ : ∃ n, min n1 (x.most - x.all.length) = n := ⟨_, rfl⟩
  rw [hn] at hres
  have hni : min ((n1 : Nat) : Int) ((x.most : Int) - (x.all.length : Int)) = (n : Int) := by omega
  have d1 := fun d : Ext (fun _ => False) w1 => d.same.cell (show w1.cell? ⟨p, 1, none⟩ = some (.int .i64 x.most) from h1.cur.pb.cell 1) (fun c => c)
  have d12 := fun d : Ext (fun _ => False) w1 => d.same.cell (show w1.cell? ⟨p, 12, none⟩ = some (.int .i64 x.all.length) from h1.cur.pb.cell 12) (fun c => c)
  have HRES := Lib.hid hres
  clear hres
  go_wp2_with fail
  refine wp_region_ext (fun _ => False) (by kernel_rfl) (by kernel_rfl) ?_
  repeat (go_big_quiet_step (fail))
  refine wpQuiet_nil ?_
  rintro _ ⟨d, rfl⟩
  have hs2 := hsd.then d.same
  have h2 := h1.same d.same
  have hres := HRES.out
  generalize d.world = w2 at *
  clear d d1 d12 HRES h1 hsd
  by_cases hnn : n = 0
  · rw [if_pos hnn] at hres
    have HR := Lib.hid hres
    have e2 : ((n : Int) == 0) = true := by simp [hnn]
    have e2' : (n == 0) = true := by simp [hnn]
    clear hres
    go_wp2_with fail
    refine (cur_fail _ _ 3).mono ?_
    rintro e w3 ⟨rfl, rfl⟩
    go_wp2_with fail
    refine ⟨rfl, ?_⟩
    show StepPost _ _ _ _ _ _ _ _ _ _ _ _ _ _ _ _
    rw [← HR.out]
    exact ⟨rfl, _, h2, h.mineP hs2.any⟩
  rw [if_neg hnn] at hres
  have e2 : ((n : Int) == 0) = false := by rw [beq_eq_false_iff_ne]; omega
  have e2' : (n == 0) = false := by rw [beq_eq_false_iff_ne]; exact hnn
  obtain ⟨q, hq⟩ : ∃ q, x.at_ / 8 = q := ⟨_, rfl⟩
  rw [hq] at hres
  have hqi : ((x.at_ : Nat) : Int) / 8 = (q : Int) := by omega
  have hqn : q + n ≤ x.bs.length := by omega
  obtain ⟨ba, bo, hA⟩ := h2.cur.row.addr_ (fun e => by rw [e] at hqn; simp at hqn; omega)
  subst hA
  have hcap := h2.cur.row.cap
  have hcm := h2.cur.row.most
  have d3 := fun d : Ext (fun _ => False) w2 => d.same.cell h2.cur.c3 (fun c => c)
  have d4 := fun d : Ext (fun _ => False) w2 => d.same.cell h2.cur.c4 (fun c => c)
  have k1 : q ≤ q + n := by omega
  have k2 : q + n ≤ c := by omega
  have k3 : q + n - q = n := by omega
  have k4 : ((q : Int) + n).toNat = q + n := by omega
  have k5 : ¬ c = q := by omega
  have hnm : x.all.length + n ≤ x.most := by omega
  have hnr : n ≤ x.raw := by omega
  have hnl : n ≤ l8 := by omega
  have HRES := Lib.hid hres
  clear hres hn hn1 hni hn1i hLd
  go_wp2_with fail
  refine wp_region_ext (fun _ => False) (by kernel_rfl) (by kernel_rfl) ?_
  repeat (go_big_quiet_step (fail))
  refine wpQuiet_nil ?_
  rintro _ ⟨d, rfl⟩
  have hs3 := hs2.then d.same
  have h3 := h2.same d.same
  generalize d.world = w3 at *
  clear d d3 d4 h2 hs2
  have hres := HRES.out
  have HRES := Lib.hid hres
  have hB3 := h.mineP hs3.any
  clear hres
  go_wp2_with fail
  go_loopg [61] n (RwRel w B p pw r (some ⟨ba, bo, none⟩) c vo v9 v10 used err x q n)
  case atStart => exact ⟨⟨0, vo, by omega, by omega, rfl, by simpa using h3, hB3, fun g hg => .inl hg⟩⟩
  case round =>
    obtain ⟨i, vi, hi, hg, rfl, hI, hBi, hVi⟩ := hrel.out_
    clear hrel h3 hs3
    by_cases hlt : i < n
    · have e3 : decide (i < n) = true := by simpa using hlt
      obtain ⟨b, hb⟩ : ∃ b, x.bs[q + i]? = some b := ⟨_, List.getElem?_eq_getElem (by omega)⟩
      have hIc : CurAt wr p _ (some ⟨ba, bo, none⟩) c x.bs x.at_ := hI.cur
      obtain ⟨ad, had, hcb⟩ := hIc.row.rd _ b hb
      injection had with had
      subst had
      rw [Addr.add_lit, ← Nat.add_assoc] at hcb
      have hlen : ((x.bs.drop q).take i).length = i := by rw [List.length_take, List.length_drop]; omega
      have CP := inf_put hI b (by simp only [List.length_append, hlen]; omega)
      have hstep : (x.bs.drop q).take (i + 1) = (x.bs.drop q).take i ++ [b] := by
        rw [List.take_add_one, List.getElem?_drop, hb]
        rfl
      have HS := Lib.hid hstep
      clear hstep hb
      go_wp2_with fail
      refine CP.mono ?_
      rintro e w5 ⟨rfl, vo5, h5, hB5, hV5⟩
      go_wp2_with fail
      go_roundg (gk - 1)
      case measure => omega
      case rel => exact ⟨⟨i + 1, vo5, by omega, by omega, by go_num, by rw [HS.out, ← List.append_assoc, ← List.append_assoc]; exact h5, Mine.trans hBi hVi hB5, fun g hg => (hV5 g hg).elim (hVi g) (fun e => .inr (Nat.le_trans hBi.size e))⟩⟩
    · have e3 : decide (i < n) = false := by simpa using hlt
      have hin : i = n := by omega
      subst hin
      have hId := hI.same (Same.refl (S := fun _ => False) wr).drew
      have c4 : wr.drew.cell? ⟨p, 4, none⟩ = some (.int .i64 x.at_) := hId.cur.pb.cell 4
      have c8 : wr.drew.cell? ⟨p, 8, none⟩ = some (.int .i64 x.raw) := hId.cur.pb.cell 8
      have f4 := hId.cur.pb.frozen 4
      have f8 := hId.cur.pb.frozen 8
      have c8' : wr.cell? ⟨p, 8, none⟩ = some (.int .i64 x.raw) := hI.cur.pb.cell 8
      have f8' := hI.cur.pb.frozen 8
      have hatb : (x.at_ : Int) ≤ 8796093022208 := by omega
      have hnb : (i : Int) ≤ 65535 := by omega
      go_wp2_with fail
      go_region
      have e4 : ((x.at_ + 8 * i : Nat) : Int) = (x.at_ : Int) + 8 * i := by omega
      have e8 : ((x.raw - i : Nat) : Int) = (x.raw : Int) - i := by omega
      have b8 := (hI.cur.pb.set_ 4 (.int .i64 ((x.at_ : Int) + 8 * i))).set_ 8 (.int .i64 ((x.raw : Int) - i))
      rw [← e4, ← e8] at b8
      have hs8 : Same (fun g => g = p) wr ((wr.setCell ⟨p, 4, none⟩ (.int .i64 ((x.at_ + 8 * i : Nat) : Int))).setCell ⟨p, 8, none⟩ (.int .i64 ((x.raw - i : Nat) : Int))) := (Same.set_ (S := fun g => g = p) (p := ⟨p, 4, none⟩) (Same.refl wr) (fun _ => rfl) _).set_ (p := ⟨p, 8, none⟩) (fun _ => rfl) _
      have hIc : CurAt wr p _ (some ⟨ba, bo, none⟩) c x.bs x.at_ := hI.cur
      have K8 : CurAt ((wr.setCell ⟨p, 4, none⟩ (.int .i64 ((x.at_ + 8 * i : Nat) : Int))).setCell ⟨p, 8, none⟩ (.int .i64 ((x.raw - i : Nat) : Int))) p (infC { x with at_ := x.at_ + 8 * i, raw := x.raw - i, out := x.out ++ (x.bs.drop q).take i, all := x.all ++ (x.bs.drop q).take i } pw (some ⟨ba, bo, none⟩) c vi v9 v10 used err) (some ⟨ba, bo, none⟩) c x.bs (x.at_ + 8 * i) :=
        ⟨b8, rfl, rfl, hIc.row.same hs8 (fun ad e => hIc.ne ad e), hIc.ne, by omega, hIc.hi, fun ad e => Nat.lt_of_lt_of_le (hIc.lt ad e) hs8.size⟩
      have I8 := hI.onP (y := { x with at_ := x.at_ + 8 * i, raw := x.raw - i, out := x.out ++ (x.bs.drop q).take i, all := x.all ++ (x.bs.drop q).take i }) hs8 K8 rfl rfl rfl rfl (hI.tabsP hs8)
      have B8 := hI.mineP hs8
      rw [e4, e8] at I8 B8
      ((try simp only [Exit.inBlock, Exit.then]); first | refine bodyPost_end (results_none rfl _ _ _) rfl ?_ | refine bodyPost_ret (results_none rfl _ _ _) rfl ?_)
      show StepPost _ _ _ _ _ _ _ _ _ _ _ _ _ _ _ _
      rw [← HRES.out]
      exact ⟨rfl, vi, v9, v10, I8.same (Same.refl (S := fun _ => False) _).drew, (Mine.trans hBi hVi B8).drew⟩
end Go.Proofs.Yteknaaijlkenkaa
