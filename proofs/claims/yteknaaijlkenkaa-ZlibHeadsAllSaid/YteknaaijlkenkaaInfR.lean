import Derived.Test.YteknaaijlkenkaaInfO
namespace Go.Proofs.Yteknaaijlkenkaa
set_option linter.unusedVariables false
set_option linter.unusedSimpArgs false
open Go.RowKit
attribute [local go_sem] max2i min2i max2t min2t

set_option maxHeartbeats 1600000 in
set_option maxRecDepth 100000 in
theorem inf_new (wide : Bool) (size most : Nat) (h1 : 1 ≤ size) (h2 : size ≤ 65536) (h3 : most ≤ 1073741824) (w : World) :
    Calls Try.prog 33 #[.bool wide, .int .i64 size, .int .i64 most] w fun e w' => ∃ p pw r : Nat, e = .returned (.tuple #[.pointer (some ⟨p, 0, none⟩), .int .i64 0]) ∧ InfAt w' w.heap.size p pw r none 0 (.slice none 0 0) (.pointer none) (.pointer none) ((0 : Nat) : Int) 5 (startI [] wide size most) ∧ Below w.heap.size w w' := by
  have e1 : decide ((most : Int) < 0) = false := by simp
  have e2 : decide ((1073741824 : Int) < most) = false := by simp; omega
  have CW := win_new (w := w) h1 h2
  go_enter Try.func33, Try.ntmps33
  go_wp2_with fail
  refine CW.mono ?_
  rintro e w1 ⟨pw, r, rfl, hw, hpw, hr, hs⟩
  go_wp2_with fail
  go_ret2
  have hB1 : Below w.heap.size w w1 := hs.below (fun _ _ c => c)
  have hbk : Blk (w1.alloc (.cells (infC (startI [] wide size most) pw none 0 (.slice none 0 0) (.pointer none) (.pointer none) ((0 : Nat) : Int) 5) 91)) w1.heap.size 91 (infC (startI [] wide size most) pw none 0 (.slice none 0 0) (.pointer none) (.pointer none) ((0 : Nat) : Int) 5) := Blk.new w1 91 _
  refine ⟨w1.heap.size, pw, r, rfl, ⟨⟨hbk, rfl, rfl, ⟨RdI.nil_, by simp [startI], by simp, by simp [startI], by simp⟩, by simp, Nat.zero_le _, by simp [startI], by simp⟩, hw.kept ((Same.refl (S := fun _ => False) w1).alloc _) (fun c => c) (fun c => c), Own.nil _ _ _, fun e => (by cases e), hB1.size, hpw, hr, by have := hB1.size; simp; omega, by simp [Value.ownBlock], by simp, h3, Nat.zero_le _, Nat.zero_le _⟩, ?_⟩
  exact hB1.alloc hB1.size _
set_option maxHeartbeats 4000000 in
set_option maxRecDepth 100000 in
theorem inf_push {w : World} {B p pw r : Nat} {A : Option Addr} {c : Nat} {vo v9 v10 : Value} {U : Nat} {x : I} (h : InfAt w B p pw r A c vo v9 v10 U 5 x) (hU : U ≤ 1099511627776) (h3 : x.st ≤ 3) (hraw : x.raw ≤ 65535) (Ab : Option Addr) (cb : Nat) (b : List Int) (hb : RowOf w .u8 Ab cb b) (hbl : x.bs.length + b.length ≤ 1000000000) (K : Nat) (hK : mu { x with bs := x.bs ++ b } < K) :
    Calls Try.prog 34 #[.pointer (some ⟨p, 0, none⟩), .slice Ab b.length cb] w fun e w' => RunPost w B p pw r U (runP K { x with bs := x.bs ++ b, out := [] }).1 (runP K { x with bs := x.bs ++ b, out := [] }).2 e w' := by
  obtain ⟨y, hy⟩ : ∃ y, (runP K { x with bs := x.bs ++ b, out := [] }).1 = y := ⟨_, rfl⟩
  obtain ⟨er, her⟩ : ∃ y, (runP K { x with bs := x.bs ++ b, out := [] }).2 = y := ⟨_, rfl⟩
  rw [hy, her]
  have HY := Lib.hid hy
  have HE := Lib.hid her
  clear hy her
  have hc := h.cur
  have c13 : w.cell? ⟨p, 13, none⟩ = some (.int .i64 5) := hc.pb.cell 13
  have hcA := h.same ((Same.refl (S := fun _ => False) w).alloc (.cells #[] 5))
  have c3 := hcA.cur.c3
  have hpl := Blk.lt hc.pb
  have hbB := h.bB
  have hrow : RowOf w .u8 A c x.bs := hc.row
  go_enter Try.func34, Try.ntmps34
  go_wp2_with (first
    | (at_builtin; refine wpList_freshG w.heap.size rfl .u8 rfl (.tmp 20) (.tmp 25) 22 5 1 rfl Try.underlying22 Try.u8infI A c x.bs rfl rfl hrow (by omega) (by omega) ?_; intro A2 c2 w2 ho2 hr2 hbb2 hat2; have hb2 := hb.belo hbb2)
    | (at_builtin; refine wpList_cat .u8 w.heap.size rfl (.tmp 26) (.tmp 27) 22 5 1 rfl Try.underlying22 Try.u8infI _ x.bs Ab cb b rfl rfl ho2 hb2 hbb2.size (x.bs.length + b.length) rfl (by omega) (by omega) hrow.wf ?_; intro A3 c3' w3 ho3 hr3 hs3 hat3; have hbb3 := hs3.below_of hbb2 hbb2.size (fun k hk e => by have := ho2.base_le k e; omega); have I3 := h.same (Same.of_below (S := fun _ => False) hbb3); have d3 := I3.cur.c3; have g3 := I3.cur.pb.frozen 3))
  have hAv := h.apart
  have n1234 := h.pw_ne
  obtain ⟨hwl, hrl⟩ := h.win.lts
  have hvl := h.out.lt
  have hz3 := hbb3.size
  have hlen : (x.bs ++ b).length = x.bs.length + b.length := List.length_append
  have hA3 : ∀ ad, A3 = some ad → w.heap.size ≤ ad.block ∧ ad.block < w3.heap.size := fun ad e => by
    subst e
    exact ⟨ho3.base_le _ rfl, ho3.lt _ rfl⟩
  have hs4 : Same (fun g => g = p) w3 (w3.setCell ⟨p, 3, none⟩ (.slice A3 (x.bs.length + b.length) c3')) := Same.set_ (S := fun g => g = p) (p := ⟨p, 3, none⟩) (Same.refl w3) (fun _ => rfl) _
  have b4 : Blk (w3.setCell ⟨p, 3, none⟩ (.slice A3 (x.bs.length + b.length) c3')) p 91 (infC { x with bs := x.bs ++ b } pw A3 c3' vo v9 v10 U 5) := by
    have := I3.cur.pb.set_ 3 (.slice A3 (x.bs.length + b.length) c3')
    rw [← hlen] at this ⊢
    exact this
  have K4 : CurAt (w3.setCell ⟨p, 3, none⟩ (.slice A3 (x.bs.length + b.length) c3')) p (infC { x with bs := x.bs ++ b } pw A3 c3' vo v9 v10 U 5) A3 c3' (x.bs ++ b) x.at_ :=
    ⟨b4, rfl, rfl, hr3.same hs4 (fun ad e c => by have := (hA3 ad e).1; have c : ad.block = p := c; omega), fun ad e => by have := (hA3 ad e).1; omega, by have := hc.le; rw [hlen]; omega, by rw [hlen]; omega, fun ad e => Nat.lt_of_lt_of_le (hA3 ad e).2 hs4.size⟩
  have I4 := I3.onPA (y := { x with bs := x.bs ++ b }) hs4 K4 rfl rfl rfl (I3.out.kept hs4 (fun g hg e => n1234.2.2.1 (by rw [hg, show g = p from e]))) h.voR (fun ad e => by
    have := (hA3 ad e).1
    exact ⟨by omega, by omega, fun e2 => by have := hvl _ e2; omega⟩) h.outl (I3.tabsP hs4)
  have hB4 := (h.below (Same.of_below (S := Mine p pw r vo) hbb3)).trans (I3.below (I3.mineP hs4))
  have CR := inf_run I4 hU h3 hraw K hK
  have e9 : (runP K { ({ x with bs := x.bs ++ b } : I) with out := [] }) = (y, er) := Prod.ext HY.out HE.out
  rw [e9] at CR
  refine CR.mono ?_
  rintro e w5 ⟨vo2, v92, v102, A9, c9, U2, rfl, hO, hI, hu, hB⟩
  have HO := Lib.hid hO
  have HI := Lib.hid hI
  have HU := Lib.hid hu
  have HB := Lib.hid (hB4.trans hB)
  clear hO hI hu hB
  go_wp2_with fail
  go_ret2
  exact ⟨⟨vo2, v92, v102, A9, c9, U2, rfl, HO.out, HI.out, HU.out, HB.out⟩⟩
set_option maxHeartbeats 1600000 in
set_option maxRecDepth 100000 in
theorem inf_end {w : World} {B p pw r : Nat} {A : Option Addr} {c : Nat} {vo v9 v10 : Value} {U : Int} {x : I} (h : InfAt w B p pw r A c vo v9 v10 U 5 x) :
    Calls Try.prog 35 #[.pointer (some ⟨p, 0, none⟩)] w fun e w' => e = .returned (.tuple #[.slice none 0 0, .int .i64 2]) ∧ InfAt w' B p pw r none 0 vo v9 v10 U 2 { x with bs := [], at_ := 0 } ∧ Below B w w' := by
  have hc := h.cur
  have c13 : w.cell? ⟨p, 13, none⟩ = some (.int .i64 5) := hc.pb.cell 13
  have f13 := hc.pb.frozen 13
  have b1 := hc.pb.set_ 13 (.int .i64 2)
  have d3 : (w.setCell ⟨p, 13, none⟩ (.int .i64 2)).cell? ⟨p, 3, none⟩ = some (.slice A x.bs.length c) := b1.cell 3
  have g3 := b1.frozen 3
  have b2 := b1.set_ 3 (.slice none 0 0)
  have d4 : ((w.setCell ⟨p, 13, none⟩ (.int .i64 2)).setCell ⟨p, 3, none⟩ (.slice none 0 0)).cell? ⟨p, 4, none⟩ = some (.int .i64 x.at_) := b2.cell 4
  have g4 := b2.frozen 4
  have b3 : Blk (((w.setCell ⟨p, 13, none⟩ (.int .i64 2)).setCell ⟨p, 3, none⟩ (.slice none 0 0)).setCell ⟨p, 4, none⟩ (.int .i64 0)) p 91 (infC { x with bs := [], at_ := 0 } pw none 0 vo v9 v10 U 2) := b2.set_ 4 (.int .i64 0)
  have hs3 : Same (fun g => g = p) w (((w.setCell ⟨p, 13, none⟩ (.int .i64 2)).setCell ⟨p, 3, none⟩ (.slice none 0 0)).setCell ⟨p, 4, none⟩ (.int .i64 0)) := ((Same.set_ (S := fun g => g = p) (p := ⟨p, 13, none⟩) (Same.refl w) (fun _ => rfl) _).set_ (p := ⟨p, 3, none⟩) (fun _ => rfl) _).set_ (p := ⟨p, 4, none⟩) (fun _ => rfl) _
  have d13 : (((w.setCell ⟨p, 13, none⟩ (.int .i64 2)).setCell ⟨p, 3, none⟩ (.slice none 0 0)).setCell ⟨p, 4, none⟩ (.int .i64 0)).drew.cell? ⟨p, 13, none⟩ = some (.int .i64 2) := b3.drew.cell 13
  have n1234 := h.pw_ne
  have I3 := Lib.hid ((h.onPA (y := { x with bs := [], at_ := 0 }) hs3 ⟨b3, rfl, rfl, ⟨RdI.nil_, by simp, by simp, by simp, by simp⟩, by simp, Nat.zero_le _, by simp, by simp⟩ rfl rfl rfl (h.out.kept hs3 (fun g hg e => n1234.2.2.1 (by rw [hg, show g = p from e]))) h.voR (fun ad e => by cases e) h.outl (h.tabsP hs3)).same (Same.refl (S := fun _ => False) _).drew)
  have HB := Lib.hid ((h.below (h.mineP hs3)).drew)
  clear b1 b2 b3 hs3
  go_enter Try.func35, Try.ntmps35
  go_wp2_with fail
  go_region
  go_wp2_with fail
  go_ret2
  exact ⟨rfl, I3.out, HB.out⟩
set_option maxHeartbeats 1600000 in
set_option maxRecDepth 100000 in
theorem inf_used0 {w : World} {B p pw r : Nat} {A : Option Addr} {c : Nat} {vo v9 v10 : Value} {U : Int} {x : I} (h : InfAt w B p pw r A c vo v9 v10 U 0 x) :
    Calls Try.prog 36 #[.pointer (some ⟨p, 0, none⟩)] w fun e w' => e = .returned (.int .i64 U) ∧ w' = w := by
  have c13 : w.cell? ⟨p, 13, none⟩ = some (.int .i64 0) := h.cur.pb.cell 13
  have c5 : w.cell? ⟨p, 5, none⟩ = some (.int .i64 U) := h.cur.pb.cell 5
  go_enter Try.func36, Try.ntmps36
  go_wp2_with fail
  go_ret
  exact ⟨rfl, rfl⟩
/-- What comes out of a stream that is there, how many bytes it has, the error. -/
def allQ (bs : List Int) (wide : Bool) (size most : Nat) : List Int × Nat × Nat :=
  let r := runP (16 * bs.length + 2) (startI bs wide size most)
  if r.2 = 0 then (r.1.out, (r.1.at_ + 7) / 8, 0) else ([], 0, if r.2 = 5 then 2 else r.2)
structure AllPost (w : World) (r : List Int × Nat × Nat) (en : Ending) (w' : World) : Prop where mk ::
  out_ : ∃ v : Value, en = .returned (.tuple #[v, .int .i64 (r.2.1 : Nat), .int .i64 (r.2.2 : Nat)]) ∧ Own w' w.heap.size 5 v (ints .u8 r.1) ∧ Below w.heap.size w w'
set_option maxHeartbeats 4000000 in
set_option maxRecDepth 100000 in
theorem inf_all (A : Option Addr) (c : Nat) (bs : List Int) (wide : Bool) (size most : Nat) (h1 : 1 ≤ size) (h2 : size ≤ 65536) (h3 : most ≤ 1073741824) (w : World) (hr : RowOf w .u8 A c bs) (hl : bs.length ≤ 1000000000) :
    Calls Try.prog 22 #[.slice A bs.length c, .bool wide, .int .i64 size, .int .i64 most] w fun e w' => AllPost w (allQ bs wide size most) e w' := by
  obtain ⟨res, hres⟩ : ∃ r, allQ bs wide size most = r := ⟨_, rfl⟩
  rw [hres]
  have hmu : mu (startI bs wide size most) < 16 * bs.length + 2 := by unfold mu startI lf; simp; omega
  have CN := inf_new wide size most h1 h2 h3 w
  go_enter Try.func22, Try.ntmps22
  go_wp2_with fail
  refine CN.mono ?_
  rintro e w1 ⟨p, pw, r, rfl, I1, hB1⟩
  have CP := inf_push I1 (by omega) (by simp [startI]) (by simp [startI]) A c bs (hr.belo hB1) (by simp [startI]; omega) (16 * bs.length + 2) hmu
  have e9 : runP (16 * bs.length + 2) { startI [] wide size most with bs := (startI [] wide size most).bs ++ bs, out := [] } = runP (16 * bs.length + 2) (startI bs wide size most) := rfl
  rw [e9] at CP
  obtain ⟨⟨y, er⟩, hyr⟩ : ∃ q, runP (16 * bs.length + 2) (startI bs wide size most) = q := ⟨_, rfl⟩
  rw [hyr] at CP
  simp only at CP
  have hres2 : res = if er = 0 then (y.out, (y.at_ + 7) / 8, 0) else ([], 0, if er = 5 then 2 else er) := by rw [← hres]; unfold allQ; rw [hyr]
  have HR := Lib.hid hres2
  clear hres hres2 hyr e9 CN
  go_wp2_with fail
  refine CP.mono ?_
  rintro e w2 ⟨vo2, v92, v102, A9, c9, U2, rfl, hO, hI, hu, hB2⟩
  have hB12 := hB1.trans hB2
  by_cases he0 : er = 0
  · subst he0
    have hU := hu (.inl rfl)
    rw [if_pos rfl] at HR
    have CU := inf_used0 hI
    rw [hU, usedN, if_pos rfl, Nat.zero_add] at CU
    have HO := Lib.hid hO
    clear hu hI hU CP
    go_wp2_with fail
    refine CU.mono ?_
    rintro e w3 ⟨rfl, rfl⟩
    go_wp2_with fail
    go_ret3
    rw [HR.out]
    exact ⟨⟨vo2, rfl, HO.out, hB12⟩⟩
  · rw [if_neg he0] at HR
    have e0 : ((er : Int) == 0) = false := by rw [beq_eq_false_iff_ne]; omega
    have e0' : (er == 0) = false := by rw [beq_eq_false_iff_ne]; exact he0
    by_cases he5 : er = 5
    · subst he5
      rw [if_pos rfl] at HR
      have CE := inf_end hI
      clear hu CP e0 e0' he0
      go_wp2_with fail
      refine CE.mono ?_
      rintro e w3 ⟨rfl, _, hB3⟩
      go_wp2_with fail
      go_ret3
      rw [HR.out]
      exact ⟨⟨.slice none 0 0, rfl, Own.nil _ _ _, hB12.trans hB3⟩⟩
    · rw [if_neg he5] at HR
      have e5 : ((er : Int) == 5) = false := by rw [beq_eq_false_iff_ne]; omega
      have e5' : (er == 5) = false := by rw [beq_eq_false_iff_ne]; exact he5
      clear hu CP hI
      go_wp2_with fail
      go_ret3
      rw [HR.out]
      exact ⟨⟨.slice none 0 0, rfl, Own.nil _ _ _, hB12⟩⟩
end Go.Proofs.Yteknaaijlkenkaa
