import Derived.Test.YtlmmbiabjpgilaaBitT
import Derived.Test.YtlmmbiabjpgilaaArgs
import Derived.Deep.Cut
import Derived.Deep.DeepCutAuto
import Derived.Deep.CutBlock
import Derived.Deep.RegionWith
namespace Go.Proofs.Ytlmmbiabjpgilaa
set_option linter.unusedVariables false
set_option linter.unusedSimpArgs false
open Go.RowKit
attribute [local go_sem] max2i min2i max2t min2t

structure BwMid (w : World) (i : Nat) (v4 : Value) (wr : World) : Prop where mk ::
  out_ : ∃ (t : List Int) (v' : Value), v4 = .string (txt t) ∧ WrAt wr w.heap.size w.heap.size v' t ∧ t.length ≤ 200 * i ∧ Below w.heap.size w wr
structure BwRel (w : World) (m : Nat) (g : Nat) (v4 v5 : Value) (wr : World) : Prop where mk ::
  out_ : ∃ (i : Nat), i ≤ m ∧ m ≤ g + i ∧ v5 = .int .i64 (i : Int) ∧ BwMid w i v4 wr
structure BkRel (w : World) (base2 n : Nat) (A : Option Addr) (c : Nat) (v2 : Value) (t2 : List Int) (g : Nat) (v8 : Value) (wr : World) : Prop where mk ::
  out_ : ∃ (k : Nat) (cur : List Int), k ≤ n ∧ n ≤ g + k ∧ v8 = .int .i64 (k : Int) ∧ Own wr base2 5 (.slice A n c) (ints .u8 cur) ∧ cur.length = n ∧ WrAt wr w.heap.size w.heap.size v2 t2 ∧ Below w.heap.size w wr
/-- The bytes as a text, in whatever world comes later. -/
def ConvOf (w' : World) (A : Option Addr) (n c : Nat) (S : ByteArray) : Prop := ∀ W', Below w'.heap.size w' W' → (convert 22 9 (.slice A n c)).run Try.prog W' = .ok (.string S) W'
theorem conv_of {w' : World} {A : Option Addr} {base c : Nat} {xs : List Int} (h : Own w' base 5 (.slice A xs.length c) (ints .u8 xs)) : ConvOf w' A xs.length c (strOfNums xs) := fun W' hb =>
  (h.kept (Same.of_below (S := fun _ => False) hb) (fun _ _ c => c)).to_string (P := Try.prog) Try.underlying22 Try.underlying5 Try.underlying9
set_option maxHeartbeats 1600000 in
set_option maxRecDepth 100000 in
theorem bitsWrites_walk (A1 : Option Addr) (c1 : Nat) (l : List S30) (w : World) (h01 : RowS w 4 A1 c1 l S30.enc (S30.ok w)) :
    Calls Try.prog 5 #[.slice A1 l.length c1] w fun e w' => e = .returned (.bool true) ∧ Below w.heap.size w w' := by
  have ht := fun W => Lib.hid (told5 W)
  have hm1 := h01.most
  have hcap1 := h01.cap
  obtain ⟨m, hmm⟩ : ∃ m, m = min l.length 40 := ⟨_, rfl⟩
  have HM := Lib.hid hmm
  clear hmm
  go_enter Try.func5, Try.ntmps5
  go_wp2_with fail
  refine wr_new.mono ?_
  rintro e w1 ⟨rfl, h1, B1⟩
  go_wp2_with fail
  go_loopg [4, 5] m (BwRel w m)
  case atStart => exact ⟨0, by omega, by omega, rfl, [], _, rfl, h1, by simp, B1⟩
  case round =>
    clear h1 B1
    obtain ⟨i, hi, hg, rfl, t, v', rfl, ha, htl, hb⟩ := hrel
    by_cases hlt : i < m
    · have hil : i < l.length := by have := HM.out; omega
      have hi40 : i < 40 := by have := HM.out; omega
      have e1 : decide ((i : Int) < l.length) = true := by simp; omega
      have e2 : decide (i < l.length) = true := by simp; omega
      have e3 : decide ((i : Int) < 40) = true := by simp; omega
      obtain ⟨x, hx⟩ : ∃ x, l[i]? = some x := ⟨_, List.getElem?_eq_getElem hil⟩
      obtain ⟨b, off, rfl, q0, q1, q2, q3⟩ := S30.at_ h01 hb hx
      obtain ⟨y0, y1, y2, y3⟩ := h01.ok x (List.mem_of_getElem? hx)
      clear hx
      obtain ⟨f0, f1, f2, a3, c3, f3⟩ := x
      simp only at q0 q1 q2 q3 y0 y1 y2 y3
      have hcap3 := y3.cap
      have hm3 := y3.most
      by_cases hbig : 20 < f3.length
      · have g1 : decide ((20 : Int) < f3.length) = true := by simp; omega
        go_wp2_with fail
        refine (ht _).out.mono ?_
        rintro e w6 ⟨rfl, hb6⟩
        go_wp2_with fail
        go_ret
        exact ⟨rfl, hb.trans ((((Below.refl _ _).alloc (Nat.le_refl _) _).trans (hb6.mono (by simp))).mono hb.size)⟩
      · have g1 : decide ((20 : Int) < f3.length) = false := by simp; omega
        obtain ⟨kd, hkd5, ekd, _⟩ := mod_twice f0 5 (by omega) (by omega)
        rw [show ((5 : Nat) : Int) = 5 from rfl] at ekd
        have ha' := ha.below (w' := wr.alloc (.cells #[.int .i64 f0, .int .i64 f1, .int .u32 f2, .slice a3 f3.length c3] 30)) ((Below.refl _ _).alloc (Nat.le_refl _) _)
        have hb' := hb.alloc hb.size (.cells #[.int .i64 f0, .int .i64 f1, .int .u32 f2, .slice a3 f3.length c3] 30)
        have hw3 := y3.belo hb'
        have hf2 : 0 ≤ f2 ∧ f2 < 4294967296 := by
          simp [Lit.wf, IntKind.min, IntKind.max, IntKind.bits, IntKind.signed] at y2; omega
        have hsz := hb'.size
        have hpl := ha.pb.lt
        have HP := Lib.hid (fun W => ref_put f2 f1 W hf2.1 hf2.2)
        have HC := Lib.hid (fun W => ref_code f2 f1 W hf2.1 hf2.2)
        have HW := Lib.hid (wr_put f2 f1 ha' hsz hf2.1 hf2.2 (by omega))
        have HX := Lib.hid (wr_code f2 f1 ha' hsz hf2.1 hf2.2 (by omega))
        go_upto_block 2 with fail
        go_cut [4] (fun s4 wx => BwMid w (i + 1) s4 wx)
        case first =>
          match kd, hkd5 with
          | 0, _ =>
            go_wp2_with fail
            refine HW.out.mono ?_
            rintro e w4 ⟨rfl, v2, h4⟩
            have nf : ¬ (wr.heap.size = w.heap.size ∨ v'.ownBlock = some wr.heap.size) := fun c => by
              rcases c with c | c
              · omega
              · have := ha.row.lt _ c; omega
            have r1 : w4.cell? ⟨wr.heap.size, 1, none⟩ = some (.int .i64 f1) := h4.same.cell (a := ⟨wr.heap.size, 1, none⟩) (by simp) nf
            have r2 : w4.cell? ⟨wr.heap.size, 2, none⟩ = some (.int .u32 f2) := h4.same.cell (a := ⟨wr.heap.size, 2, none⟩) (by simp) nf
            go_wp2_with fail
            refine (HP.out _).mono ?_
            rintro e w5 ⟨rfl, hw⟩
            subst hw
            have hb4 := h4.below hb' hsz (Nat.le_refl _) (fun g hg => ha'.row.base_le g hg)
            have hl2 := putT_length f2 f1
            have hs1 := txt_size t
            have hs2 := txt_size (putT f2 f1)
            have HE := Lib.hid (txt_append t (putT f2 f1))
            have hs1' : (txt t).size ≤ 8000 := by omega
            have hs2' : (txt (putT f2 f1)).size ≤ 32 := by omega
            clear hs1 hs2
            generalize txt t = S at *
            generalize txt (putT f2 f1) = S2 at *
            go_wp2_with fail
            go_meet
            exact ⟨_, v2, by rw [HE.out], h4.at_, by rw [List.length_append]; omega, hb4⟩
          | 1, _ =>
            go_wp2_with fail
            refine HW.out.mono ?_
            rintro e w4 ⟨rfl, v2, h4⟩
            have nf : ¬ (wr.heap.size = w.heap.size ∨ v'.ownBlock = some wr.heap.size) := fun c => by
              rcases c with c | c
              · omega
              · have := ha.row.lt _ c; omega
            have r1 : w4.cell? ⟨wr.heap.size, 1, none⟩ = some (.int .i64 f1) := h4.same.cell (a := ⟨wr.heap.size, 1, none⟩) (by simp) nf
            have r2 : w4.cell? ⟨wr.heap.size, 2, none⟩ = some (.int .u32 f2) := h4.same.cell (a := ⟨wr.heap.size, 2, none⟩) (by simp) nf
            go_wp2_with fail
            refine (HP.out _).mono ?_
            rintro e w5 ⟨rfl, hw⟩
            subst hw
            have hb4 := h4.below hb' hsz (Nat.le_refl _) (fun g hg => ha'.row.base_le g hg)
            have hl2 := putT_length f2 f1
            have hs1 := txt_size t
            have hs2 := txt_size (putT f2 f1)
            have HE := Lib.hid (txt_append t (putT f2 f1))
            have hs1' : (txt t).size ≤ 8000 := by omega
            have hs2' : (txt (putT f2 f1)).size ≤ 32 := by omega
            clear hs1 hs2
            generalize txt t = S at *
            generalize txt (putT f2 f1) = S2 at *
            go_wp2_with fail
            go_meet
            exact ⟨_, v2, by rw [HE.out], h4.at_, by rw [List.length_append]; omega, hb4⟩
          | 2, _ =>
            go_wp2_with fail
            refine HX.out.mono ?_
            rintro e w4 ⟨rfl, v2, h4⟩
            have nf : ¬ (wr.heap.size = w.heap.size ∨ v'.ownBlock = some wr.heap.size) := fun c => by
              rcases c with c | c
              · omega
              · have := ha.row.lt _ c; omega
            have r1 : w4.cell? ⟨wr.heap.size, 1, none⟩ = some (.int .i64 f1) := h4.same.cell (a := ⟨wr.heap.size, 1, none⟩) (by simp) nf
            have r2 : w4.cell? ⟨wr.heap.size, 2, none⟩ = some (.int .u32 f2) := h4.same.cell (a := ⟨wr.heap.size, 2, none⟩) (by simp) nf
            go_wp2_with fail
            refine (HC.out _).mono ?_
            rintro e w5 ⟨rfl, hw⟩
            subst hw
            have hb4 := h4.below hb' hsz (Nat.le_refl _) (fun g hg => ha'.row.base_le g hg)
            have hl2 := codeT_length f2 f1
            have hs1 := txt_size t
            have hs2 := txt_size (codeT f2 f1)
            have HE := Lib.hid (txt_append t (codeT f2 f1))
            have hs1' : (txt t).size ≤ 8000 := by omega
            have hs2' : (txt (codeT f2 f1)).size ≤ 32 := by omega
            clear hs1 hs2
            generalize txt t = S at *
            generalize txt (codeT f2 f1) = S2 at *
            go_wp2_with fail
            go_meet
            exact ⟨_, v2, by rw [HE.out], h4.at_, by rw [List.length_append]; omega, hb4⟩
          | 3, _ =>
            go_wp2_with fail
            refine (wr_align ha' (by omega)).mono ?_
            rintro e w4 ⟨rfl, h4⟩
            go_wp2_with fail
            refine (ref_align t w4 (by omega)).mono ?_
            rintro e w5 ⟨rfl, hw⟩
            subst hw
            have hb4 := h4.below hb' hsz (Nat.le_refl _) (fun g hg => ha'.row.base_le g hg)
            go_wp2_with fail
            go_meet
            exact ⟨_, v', rfl, h4.at_, by rw [alignT_length]; omega, hb4⟩
          | 4, _ =>
            go_wp2_with (at_builtin; refine wpList_freshG (wr.heap.size + 1) (by simp) .u8 rfl (.tmp 36) (.tmp 38) 22 5 1 rfl Try.underlying22 Try.u8inf a3 c3 f3 rfl rfl hw3 (by omega) (by omega) ?_; intro A' c' w3 ho hr' hb3 ha3)
            have ha4 := ha'.below hb3
            have hb5 := hb'.trans (hb3.mono hsz)
            have r3 : w3.cell? ⟨wr.heap.size, 3, none⟩ = some (.slice a3 f3.length c3) := (hb3.cell (p := ⟨wr.heap.size, 3, none⟩) (by simp)).trans (by simp)
            have hz3 := hb3.size
            have hx3 : (wr.alloc (.cells #[.int .i64 f0, .int .i64 f1, .int .u32 f2, .slice a3 f3.length c3] 30)).heap.size = wr.heap.size + 1 := by simp
            have hv' := fun g (hg : v'.ownBlock = some g) => ha.row.lt g hg
            go_wp2_with fail
            refine (wr_raw ha4 hr' (fun ad e => ?_) (by omega) (by omega)).mono ?_
            · have h1 := ha3 ad e
              exact ⟨by omega, fun e2 => by have := hv' _ e2; omega⟩
            rintro e w4 ⟨rfl, v2, h4⟩
            have hin : ∀ g, (Value.slice A' f3.length c').ownBlock = some g → w.heap.size < g ∧ wr.heap.size < g ∧ v'.ownBlock ≠ some g ∧ g < w3.heap.size := fun g hg => by
              have h1 := ho.base_le g hg
              have h2 := ho.lt g hg
              exact ⟨by omega, by omega, fun e2 => by have := hv' _ e2; omega, h2⟩
            have ho4 := ho.kept h4.same (fun g hg c => by
              have := hin g hg
              rcases c with c | c
              · omega
              · exact this.2.2.1 c)
            have nf : ¬ (wr.heap.size = w.heap.size ∨ v'.ownBlock = some wr.heap.size) := fun c => by
              rcases c with c | c
              · omega
              · have := hv' _ c; omega
            have r4 : w4.cell? ⟨wr.heap.size, 3, none⟩ = some (.slice a3 f3.length c3) := h4.same.cell (a := ⟨wr.heap.size, 3, none⟩) r3 nf
            have hb6 := h4.below hb5 hb5.size (Nat.le_refl _) (fun g hg => ha4.row.base_le g hg)
            have hrow := y3.belo hb6
            have k3 := fun d : Ext (fun _ => False) w4 => d.same.cell r4 (fun c => c)
            have m1 := fun d : Ext (fun _ => False) w4 => Lib.hid (ext_call (d := d) ((ref_align t d.world (by omega)).mono (fun e w' h => ⟨h.1, h.2 ▸ Same.refl _⟩)))
            have m2 := fun d : Ext (fun _ => False) w4 => Lib.hid (ext_call_below (d := d) (ref_of a3 c3 f3 d.world (hrow.same d.same (fun _ _ c => c)) (by omega)))
            have hs1 := txt_size (alignT t)
            have hs2 := txt_size (ofB f3)
            have hl1 := alignT_length t
            have hl2 := ofB_length f3
            have HE := Lib.hid (txt_append (alignT t) (ofB f3))
            have hs1' : (txt (alignT t)).size ≤ 8008 := by omega
            have hs2' : (txt (ofB f3)).size ≤ 160 := by omega
            have hlt2 : (alignT t ++ ofB f3).length ≤ 200 * (i + 1) := by rw [List.length_append]; omega
            have h4a := h4.at_
            have h4o : ∀ g, (Value.slice A' f3.length c').ownBlock = some g → v2.ownBlock ≠ some g := fun g hg e2 => by
              have := hin g hg
              rcases h4.own with e3 | ⟨g2, e3, hg2⟩
              · rw [e3] at e2; exact this.2.2.1 e2
              · rw [e3] at e2; injection e2 with e2; omega
            clear hs1 hs2 hl1 hl2 r4 r3 hb3 ha4 hb5 ho hr' h4 HP HC HW HX
            generalize alignT t ++ ofB f3 = t2 at *
            generalize txt (alignT t) = S at *
            generalize txt (ofB f3) = S2 at *
            go_wp2_with fail
            refine wp_region_ext (fun _ => False) (by kernel_rfl) (by kernel_rfl) ?_
            repeat (go_big_quiet_step (first | exact (m1 _).out | exact (m2 _).out))
            refine wpQuiet_nil ?_
            rintro _ ⟨d, rfl⟩
            have hb7 := d.same.below_of hb6 hb6.size (fun _ _ c => c)
            have h7 := h4a.kept d.same (fun c => c) (fun _ _ c => c)
            have ho7 := ho4.kept d.same (fun _ _ c => c)
            clear hb6 h4a ho4 k3 m1 m2 hrow
            generalize d.world = wx at *
            clear d
            go_wp2_with fail
            go_loopg [8] f3.length (BkRel w (wr.alloc (.cells #[.int .i64 f0, .int .i64 f1, .int .u32 f2, .slice a3 f3.length c3] 30)).heap.size f3.length A' c' v2 t2)
            case atStart => exact ⟨0, f3, by omega, by omega, rfl, ho7, rfl, h7, hb7⟩
            case round =>
              clear hb7 h7 ho7
              rename Nat => gq
              obtain ⟨k, cur, hk, hgk, rfl, ho, hcl, h7, hb7⟩ := hrel
              by_cases hk3 : k < f3.length
              · obtain ⟨g, cap, hv, hgb, hgl⟩ := World.ownsRow.form ho (by rw [ints_length]; omega)
                injection hv with e1 e2 e3
                subst e1
                subst e3
                have hg1 := (hin g rfl).1
                have hgf := (hin g rfl).2.1
                have hg2 := h4o g rfl
                have ci := ho.cellI (i := k) (by omega)
                have fi := ho.frozenI k
                have hset := fun u => ho.set_ k u
                have HS := Lib.hid hset
                have HCL := Lib.hid hcl
                clear hset hcl e2 ho
                generalize cur.getD k 0 = xk at *
                go_wp2_with fail
                go_roundg (gq - 1)
                case measure => omega
                case rel =>
                  refine ⟨k + 1, _, by omega, by omega, by go_num, HS.out _, by rw [List.length_set]; exact HCL.out, ?_, hb7.setCell (show w.heap.size ≤ g from by omega) _⟩
                  exact h7.kept (S := fun k => k = g) (Same.set_ (S := fun k => k = g) (p := ⟨g, k, none⟩) (Same.refl _) (fun _ => rfl) _) (fun e => by omega) (fun g2 e c => by rw [c] at e; exact hg2 e)
              · have hkl : k = f3.length := by omega
                subst hkl
                go_wp2_with fail
                go_meet
                exact ⟨t2, v2, by rw [HE.out], h7, hlt2, hb7⟩
          | kd + 5, h => omega
        case rest =>
          obtain ⟨t2, v2, rfl, h2, htl2, hb2⟩ := hcut
          clear ha ha' hb hb' HW HX HP HC hw3 q0 q1 q2 q3
          have hl2 := Lib.hid (fun W (hb : Below wc.heap.size wc W) => wr_len (h2.below hb))
          have HB1 := Lib.hid (fun W (hb : Below wc.heap.size wc W) => (wr_bytes (h2.below hb)).mono (R' := fun e w' => ∃ A c, e = .returned (.slice A (packB t2).length c) ∧ Hid (ConvOf w' A (packB t2).length c (strOfNums (packB t2))) ∧ Below W.heap.size W w' ∧ Below wc.heap.size wc w') (fun e w' ⟨A, c, he, ho, _, hb', _⟩ => ⟨A, c, he, Lib.hid (conv_of ho), hb', hb.trans (hb'.mono hb.size)⟩))
          have HB2 := Lib.hid (fun W (hb : Below wc.heap.size wc W) => (ref_bytes t2 W h2.bin (by omega)).mono (R' := fun e w' => ∃ A c, e = .returned (.slice A (packB t2).length c) ∧ Hid (ConvOf w' A (packB t2).length c (strOfNums (packB t2))) ∧ Below W.heap.size W w' ∧ Below wc.heap.size wc w') (fun e w' ⟨A, c, he, ho, hb'⟩ => ⟨A, c, he, Lib.hid (conv_of ho), hb', hb.trans (hb'.mono hb.size)⟩))
          have hs1 := txt_size t2
          have hbn : ((txt t2).size : Int) = t2.length := by omega
          have en : ((t2.length : Int) != (t2.length : Int)) = false := by simp
          have hz2 := hb2.size
          go_upto_region 29 with fail
          go_cut [113] (fun s113 wx => s113 = .bool false ∧ Below wc.heap.size wc wx)
          case first =>
            generalize strOfNums (packB t2) = ST at *
            generalize (packB t2).length = L at *
            go_region_with (first
              | (go_at_call 17; refine (hl2.out _ ?_).mono ?_; exact (Below.refl _ _).drew; rintro e w7 ⟨rfl, hw⟩; subst hw)
              | (go_at_call 18; refine (HB1.out _ ?_).mono ?_; (first | exact (Below.refl _ _).drew | assumption); rintro e wA ⟨A5, cA, rfl, hcA, hbA, hbA2⟩; have cA1 := hcA.out _ (Below.refl _ _); try (have cB2 := hcB.out _ hbA))
              | (go_at_call 24; refine (HB2.out _ ?_).mono ?_; (first | exact (Below.refl _ _).drew | assumption); rintro e wB ⟨B5, cB, rfl, hcB, hbB, hbB2⟩; have cB1 := hcB.out _ (Below.refl _ _); try (have cA2 := hcA.out _ hbB)))
            all_goals (go_wp2_with fail; go_meet; first | exact ⟨rfl, hbA2⟩ | exact ⟨rfl, hbB2⟩)
          case rest =>
            obtain ⟨rfl, hbx⟩ := hcut
            have hb3 := hb2.trans (hbx.mono hz2)
            have h3 := h2.below hbx
            go_wp2_with fail
            go_roundg (gk - 1)
            case measure => omega
            case rel => exact ⟨i + 1, by omega, by omega, by go_num, t2, v2, rfl, h3, htl2, hb3⟩
    · have him : i = m := by omega
      have hi40 : i ≤ 40 := by have := HM.out; omega
      by_cases h2 : i < l.length
      · obtain rfl : i = 40 := by have := HM.out; omega
        have e1 : decide ((40 : Int) < l.length) = true := by simp; omega
        clear him hi hlt h2 hi40
        go_wp2_with fail
        refine (ht _).out.mono ?_
        rintro e w6 ⟨rfl, hb6⟩
        go_wp2_with fail
        go_ret
        exact ⟨rfl, hb.trans (hb6.mono hb.size)⟩
      · have e1 : decide ((i : Int) < l.length) = false := by simp; omega
        have e2 : decide (i < l.length) = false := by simp; omega
        clear him hi hlt h2 hi40
        go_wp2_with fail
        refine (ht _).out.mono ?_
        rintro e w6 ⟨rfl, hb6⟩
        go_wp2_with fail
        go_ret
        exact ⟨rfl, hb.trans (hb6.mono hb.size)⟩
end Go.Proofs.Ytlmmbiabjpgilaa
