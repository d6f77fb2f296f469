import Derived.Test.YtepphflpeobkhaaCanAp
import Derived.Deep.Cut
import Derived.Deep.DeepCutAuto
import Derived.Deep.CutBlock
namespace Go.Proofs.Ytepphflpeobkhaa
open Go.RowKit
attribute [local go_sem] max2i min2i max2t min2t

structure ApRel (w2 : World) (l : List Int) (R : Nat) (g : Nat) (v7 v8 : Value) (wr : World) : Prop where mk ::
  out_ : ∃ (k : Nat), k ≤ l.length ∧ l.length ≤ g + k ∧ v7 = .int .i64 (fitsN l R k : Nat) ∧ v8 = .int .i64 (k : Int) ∧ Same (fun _ => False) w2 wr
structure ApRel2 (w2 : World) (n : Nat) (g : Nat) (v9 : Value) (wr : World) : Prop where mk ::
  out_ : ∃ (k : Nat), k ≤ n ∧ n ≤ g + k ∧ v9 = .int .i64 (k : Int) ∧ Same (fun _ => False) w2 wr

set_option maxHeartbeats 6000000 in
set_option maxRecDepth 100000 in
theorem canonApart_walk (A : Option Addr) (c : Nat) (l : List Int) (row : Int) (w : World) (h00 : RowOf w .i64 A c l) (h01 : (Lit.int .u32 row).wf = true) :
    Calls Try.prog 4 #[.slice A l.length c, .int .u32 row] w fun e w' => e = .returned (.bool true) ∧ Below w.heap.size w w' := by
  have ht := fun W => Lib.hid (told7 W)
  have hm := h00.most
  have hcap := h00.cap
  by_cases h1 : 60 < l.length
  · have h1' : decide ((60 : Int) < l.length) = true := by simp; omega
    go_enter Try.func4, Try.ntmps4
    go_wp2_with (go_at_call 10; refine (ht _).out.mono ?_; rintro e w' ⟨rfl, hb⟩)
    go_ret
    exact ⟨rfl, hb⟩
  · have h1' : decide ((60 : Int) < l.length) = false := by simp; omega
    by_cases hE : codesErr l = 0
    · have hgood : 0 ≤ kraft l := by
        unfold codesErr at hE
        split at hE
        · omega
        · omega
      have hok : okL l := (kraft_good hgood).2
      have hk4 : kind l ≠ 4 := by
        intro e
        unfold codesErr at hE
        rw [if_neg (by omega), if_pos e] at hE
        omega
      have hSk : (below15 l 16 : Int) = kraft l := by rw [below15_all hok, kraft_ok hok (by omega)]
      have hkk := kinds hok (by omega)
      have hS : below15 l 16 ≤ 32768 := by omega
      have hW : kind l = 1 → below15 l 16 = 32768 := fun e => by omega
      obtain ⟨R, hR, eR⟩ := nat_of_mod row 32768 (by omega)
      rw [show ((32768 : Nat) : Int) = 32768 from rfl] at eR
      have hand := and_mask_u32 row 15 (by omega)
      rw [show ((2 ^ 15 - 1 : Nat) : Int) = 32767 from rfl, show ((2 ^ 15 : Nat) : Int) = 32768 from rfl, eR] at hand
      have HW := Lib.hid (show kind l = 1 → fitsN l R l.length = 1 from fun e => fits_whole hok (hW e) hR)
      have HF := Lib.hid (fits_le hok hS (R := R) l.length (Nat.le_refl _))
      clear hkk hSk hgood hW eR hk4
      have HD := fun W => Lib.hid (fun (h : RowOf W .i64 A c l) => can_kind A c l W h)
      go_enter Try.func4, Try.ntmps4
      go_wp2_with fail
      refine (canon_codes A c l w h00).mono ?_
      rintro e w2 ⟨v2, rfl, ho2, B2⟩
      rw [hE]
      have hco : codesOut l = codes l := by rw [codesOut, if_pos hE]
      rw [hco] at ho2
      obtain ⟨A2, c2, rfl, hc2, hr2⟩ := ho2.rd
      rw [show (codes l).length = l.length from by simp [codes]] at hc2 ⊢
      clear hco ho2 hE
      have hr0 := h00.below B2
      have b3 : ((l.length : Int) != l.length) = false := by simp
      go_wp2_with fail
      go_loopg [7, 8] l.length (ApRel w2 l R)
      case atStart => exact ⟨0, by omega, by omega, rfl, rfl, Same.refl _⟩
      case round =>
        obtain ⟨i, hi, hg, rfl, rfl, hs⟩ := hrel
        by_cases hlt : i < l.length
        · obtain ⟨x, hx⟩ : ∃ x, l[i]? = some x := ⟨_, List.getElem?_eq_getElem hlt⟩
          have hx0 := hok x (List.mem_of_getElem? hx)
          have hgx : l.getD i 0 = x := by rw [List.getD_eq_getElem?_getD, hx]; rfl
          obtain ⟨n, rfl⟩ : ∃ n : Nat, x = n := ⟨x.toNat, by omega⟩
          obtain ⟨ad, rfl, q0⟩ := hr0.rd i n hx
          have c0r := hs.cell q0 (fun c => c)
          by_cases h0 : n = 0
          · subst h0
            have hh : hit l R i = false := by
              unfold hit; rw [hgx]; simp
            have HH := Lib.hid hh
            clear hh hgx hx
            go_wp2_with fail
            go_roundg (gk - 1)
            case measure => omega
            case rel => exact ⟨i + 1, by omega, by omega, by rw [fitsN, HH.out]; rfl, by go_num, hs⟩
          · have h0' : ((n : Int) == 0) = false := by simpa using h0
            obtain ⟨ad2, rfl, q1⟩ := hr2 i (code l i) (by simp [codes, hlt])
            obtain ⟨C, eC, _⟩ := code_true hS hx (by omega) (by omega)
            have hsm := code_small hS hx (by omega) (by omega) eC
            rw [eC] at q1
            have k0 : ∀ d : Ext (fun _ => False) wr, d.world.cell? (ad.add i) = some (.int .i64 n) := fun d => (hs.then d.same).cell q0 (fun c => c)
            have k1 : ∀ d : Ext (fun _ => False) wr, d.world.cell? (ad2.add i) = some (.int .u32 C) := fun d => (hs.then d.same).cell q1 (fun c => c)
            have s1 : ((C : Int) / 2 ^ n) = 0 := Int.ediv_eq_zero_of_lt (by omega) (by exact_mod_cast hsm)
            go_wp2_with fail
            refine wp_region_ext (fun _ => False) (by kernel_rfl) (by kernel_rfl) ?_
            repeat (go_big_quiet_step (fail))
            refine wpQuiet_nil ?_
            rintro _ ⟨d, rfl⟩
            go_wp2_with fail
            have hs := hs.then d.same
            clear k0 k1 s1 c0r
            generalize d.world = wr at *
            clear d
            obtain ⟨E, hnE⟩ : ∃ E, n + E = 15 := ⟨15 - n, by omega⟩
            have hw2 : ((15 : Int) - n) = (E : Int) := by omega
            have hw3 : wrap64 ((15 : Int) - n) = (E : Int) := by rw [hw2, IntWalk.wrap64_in _ (by omega)]
            have k0 : ∀ d : Ext (fun _ => False) wr, d.world.cell? (ad.add i) = some (.int .i64 n) := fun d => (hs.then d.same).cell q0 (fun c => c)
            have k1 : ∀ d : Ext (fun _ => False) wr, d.world.cell? (ad2.add i) = some (.int .u32 C) := fun d => (hs.then d.same).cell q1 (fun c => c)
            have hdiv : (R : Int) / 2 ^ E = ((R / 2 ^ E : Nat) : Int) := by rw [Int.natCast_ediv, Int.natCast_pow]; rfl
            have hhit : hit l R i = (((R : Int) / 2 ^ E) == C) := by
              unfold hit
              rw [hgx, eC, Int.toNat_natCast, show 15 - n = E from by omega, hdiv]
              generalize R / 2 ^ E = q
              by_cases e : q = C
              · subst e; simp; omega
              · have : ¬ ((C : Int) = q) := by omega
                have e2 : ((q : Int) == C) = false := by rw [beq_eq_false_iff_ne]; omega
                simp [this, e2]
            have HNE := Lib.hid hnE
            have hfb := fits_le hok hS (R := R) i (by omega)
            have HFI := Lib.hid (show fitsN l R (i + 1) = fitsN l R i + if hit l R i then 1 else 0 from rfl)
            clear hdiv hnE
            refine wp_region_ext (fun _ => False) (by kernel_rfl) (by kernel_rfl) ?_
            repeat (go_big_quiet_step (fail))
            refine wpQuiet_nil ?_
            rintro _ ⟨d, rfl⟩
            have hs := hs.then d.same
            clear k0 k1
            generalize d.world = wr at *
            clear d
            go_upto_if 67 with fail
            go_cut [7] (fun s7 wx => s7 = .int .i64 (fitsN l R (i + 1) : Nat) ∧ wr = wx)
            case first =>
              by_cases hb : hit l R i = true
              · rw [hb] at hhit
                have hb2 : ((R : Int) / 2 ^ E == C) = true := hhit.symm
                have HH := Lib.hid hb
                clear hhit hb hgx
                go_wp2_with fail
                go_meet
                refine ⟨?_, rfl⟩
                rw [HFI.out, HH.out, if_pos rfl]
                go_num
              · have hb : hit l R i = false := by simpa using hb
                rw [hb] at hhit
                have hb2 : ((R : Int) / 2 ^ E == C) = false := hhit.symm
                have HH := Lib.hid hb
                clear hhit hb hgx
                go_wp2_with fail
                go_meet
                refine ⟨?_, rfl⟩
                rw [HFI.out, HH.out, if_neg (by simp)]
                rfl
            case rest =>
              obtain ⟨rfl, rfl⟩ := hcut
              clear hhit HFI
              go_wp2_with fail
              go_loopg [9] l.length (ApRel2 w2 l.length)
              case atStart => exact ⟨0, by omega, by omega, rfl, hs⟩
              case round =>
                clear hs
                rename Nat => gq
                obtain ⟨k, hk, hgk, rfl, hs⟩ := hrel
                by_cases hkl : k < l.length
                · obtain ⟨y, hy⟩ : ∃ y, l[k]? = some y := ⟨_, List.getElem?_eq_getElem hkl⟩
                  have hy0 := hok y (List.mem_of_getElem? hy)
                  obtain ⟨m, rfl⟩ : ∃ m : Nat, y = m := ⟨y.toNat, by omega⟩
                  obtain ⟨_, e2, q2⟩ := hr0.rd k m hy
                  cases e2
                  obtain ⟨_, e3, q3⟩ := hr2 k (code l k) (by simp [codes, hkl])
                  cases e3
                  have f0 : ∀ d : Ext (fun _ => False) wr, d.world.cell? (ad.add i) = some (.int .i64 n) := fun d => (hs.then d.same).cell q0 (fun c => c)
                  have f1 : ∀ d : Ext (fun _ => False) wr, d.world.cell? (ad2.add i) = some (.int .u32 C) := fun d => (hs.then d.same).cell q1 (fun c => c)
                  have f2 : ∀ d : Ext (fun _ => False) wr, d.world.cell? (ad.add k) = some (.int .i64 m) := fun d => (hs.then d.same).cell q2 (fun c => c)
                  by_cases hki : k = i
                  · have hmn : m = n := by rw [← hki] at hx; rw [hx] at hy; injection hy with hy; omega
                    have a1 : ((k : Int) != i) = false := by simp [hki]
                    have a2 : (k != i) = false := by simp [hki]
                    have a5 : decide ((n : Int) < m) = false := by simp; omega
                    have a6 : decide (n < m) = false := by simp; omega
                    have b1 : decide ((i : Int) < k) = false := by simp; omega
                    have b2 : decide (i < k) = false := by simp; omega
                    have f3 : ∀ d : Ext (fun _ => False) wr, d.world.cell? (ad2.add k) = some (.int .u32 (code l k)) := fun d => (hs.then d.same).cell q3 (fun c => c)
                    have HKI := Lib.hid hki
                    clear hki hmn
                    go_wp2_with fail
                    refine wp_region_ext (fun _ => False) (by kernel_rfl) (by kernel_rfl) ?_
                    repeat (go_big_quiet_step (fail))
                    refine wpQuiet_nil ?_
                    rintro _ ⟨d, rfl⟩
                    go_wp2_with fail
                    have hs := hs.then d.same
                    clear f0 f1 f2 f3
                    generalize d.world = wr at *
                    clear d
                    have f0 : ∀ d : Ext (fun _ => False) wr, d.world.cell? (ad.add i) = some (.int .i64 n) := fun d => (hs.then d.same).cell q0 (fun c => c)
                    have f1 : ∀ d : Ext (fun _ => False) wr, d.world.cell? (ad2.add i) = some (.int .u32 C) := fun d => (hs.then d.same).cell q1 (fun c => c)
                    have f2 : ∀ d : Ext (fun _ => False) wr, d.world.cell? (ad.add k) = some (.int .i64 m) := fun d => (hs.then d.same).cell q2 (fun c => c)
                    have f3 : ∀ d : Ext (fun _ => False) wr, d.world.cell? (ad2.add k) = some (.int .u32 (code l k)) := fun d => (hs.then d.same).cell q3 (fun c => c)
                    refine wp_region_ext (fun _ => False) (by kernel_rfl) (by kernel_rfl) ?_
                    repeat (go_big_quiet_step (fail))
                    refine wpQuiet_nil ?_
                    rintro _ ⟨d, rfl⟩
                    go_wp2_with fail
                    go_roundg (gq - 1)
                    case measure => omega
                    case rel => exact ⟨k + 1, by omega, by omega, by go_num, hs.then d.same⟩
                  · have a1 : ((k : Int) != i) = true := by simp; omega
                    have a2 : (k != i) = true := by simpa using hki
                    by_cases hmn : m < n
                    · have a3 : decide ((n : Int) ≤ m) = false := by simp; omega
                      have a4 : decide (n ≤ m) = false := by simp; omega
                      have a5 : decide ((n : Int) < m) = false := by simp; omega
                      have a6 : decide (n < m) = false := by simp; omega
                      have a7 : ((m : Int) == n) = false := by rw [beq_eq_false_iff_ne]; omega
                      have a8 : (m == n) = false := by rw [beq_eq_false_iff_ne]; omega
                      have f3 : ∀ d : Ext (fun _ => False) wr, d.world.cell? (ad2.add k) = some (.int .u32 (code l k)) := fun d => (hs.then d.same).cell q3 (fun c => c)
                      clear hmn
                      by_cases hik : i < k
                      · have b1 : decide ((i : Int) < k) = true := by simp; omega
                        have b2 : decide (i < k) = true := by simp; omega
                        clear hki hik
                        go_wp2_with fail
                        refine wp_region_ext (fun _ => False) (by kernel_rfl) (by kernel_rfl) ?_
                        repeat (go_big_quiet_step (fail))
                        refine wpQuiet_nil ?_
                        rintro _ ⟨d, rfl⟩
                        go_wp2_with fail
                        have hs := hs.then d.same
                        clear f0 f1 f2 f3
                        generalize d.world = wr at *
                        clear d
                        have f0 : ∀ d : Ext (fun _ => False) wr, d.world.cell? (ad.add i) = some (.int .i64 n) := fun d => (hs.then d.same).cell q0 (fun c => c)
                        have f1 : ∀ d : Ext (fun _ => False) wr, d.world.cell? (ad2.add i) = some (.int .u32 C) := fun d => (hs.then d.same).cell q1 (fun c => c)
                        have f2 : ∀ d : Ext (fun _ => False) wr, d.world.cell? (ad.add k) = some (.int .i64 m) := fun d => (hs.then d.same).cell q2 (fun c => c)
                        have f3 : ∀ d : Ext (fun _ => False) wr, d.world.cell? (ad2.add k) = some (.int .u32 (code l k)) := fun d => (hs.then d.same).cell q3 (fun c => c)
                        refine wp_region_ext (fun _ => False) (by kernel_rfl) (by kernel_rfl) ?_
                        repeat (go_big_quiet_step (fail))
                        refine wpQuiet_nil ?_
                        rintro _ ⟨d, rfl⟩
                        go_wp2_with fail
                        go_roundg (gq - 1)
                        case measure => omega
                        case rel => exact ⟨k + 1, by omega, by omega, by go_num, hs.then d.same⟩
                      · have b1 : decide ((i : Int) < k) = false := by simp; omega
                        have b2 : decide (i < k) = false := by simp; omega
                        clear hki hik
                        go_wp2_with fail
                        refine wp_region_ext (fun _ => False) (by kernel_rfl) (by kernel_rfl) ?_
                        repeat (go_big_quiet_step (fail))
                        refine wpQuiet_nil ?_
                        rintro _ ⟨d, rfl⟩
                        go_wp2_with fail
                        have hs := hs.then d.same
                        clear f0 f1 f2 f3
                        generalize d.world = wr at *
                        clear d
                        have f0 : ∀ d : Ext (fun _ => False) wr, d.world.cell? (ad.add i) = some (.int .i64 n) := fun d => (hs.then d.same).cell q0 (fun c => c)
                        have f1 : ∀ d : Ext (fun _ => False) wr, d.world.cell? (ad2.add i) = some (.int .u32 C) := fun d => (hs.then d.same).cell q1 (fun c => c)
                        have f2 : ∀ d : Ext (fun _ => False) wr, d.world.cell? (ad.add k) = some (.int .i64 m) := fun d => (hs.then d.same).cell q2 (fun c => c)
                        have f3 : ∀ d : Ext (fun _ => False) wr, d.world.cell? (ad2.add k) = some (.int .u32 (code l k)) := fun d => (hs.then d.same).cell q3 (fun c => c)
                        refine wp_region_ext (fun _ => False) (by kernel_rfl) (by kernel_rfl) ?_
                        repeat (go_big_quiet_step (fail))
                        refine wpQuiet_nil ?_
                        rintro _ ⟨d, rfl⟩
                        go_wp2_with fail
                        go_roundg (gq - 1)
                        case measure => omega
                        case rel => exact ⟨k + 1, by omega, by omega, by go_num, hs.then d.same⟩
                    · have a3 : decide ((n : Int) ≤ m) = true := by simp; omega
                      have a4 : decide (n ≤ m) = true := by simp; omega
                      obtain ⟨D, eD, _⟩ := code_true hS hy (by omega) (by omega)
                      rw [eD] at q3
                      have f3 : ∀ d : Ext (fun _ => False) wr, d.world.cell? (ad2.add k) = some (.int .u32 D) := fun d => (hs.then d.same).cell q3 (fun c => c)
                      obtain ⟨e, hme⟩ : ∃ e, m = n + e := ⟨m - n, by omega⟩
                      have hv2 : ((m : Int) - n) = (e : Int) := by omega
                      have hv3 : wrap64 ((m : Int) - n) = (e : Int) := by rw [hv2, IntWalk.wrap64_in _ (by omega)]
                      have hdv : (D : Int) / 2 ^ e = ((D / 2 ^ e : Nat) : Int) := by rw [Int.natCast_ediv, Int.natCast_pow]; rfl
                      have hee : m - n = e := by omega
                      by_cases hnm : n < m
                      · have hp := code_prefix hS hx hy (by omega) (by omega) (.inl hnm) eC eD
                        rw [hee] at hp
                        have a5 : decide ((n : Int) < m) = true := by simp; omega
                        have a6 : decide (n < m) = true := by simp; omega
                        have a7 : ((m : Int) == n) = false := by rw [beq_eq_false_iff_ne]; omega
                        have a8 : (m == n) = false := by rw [beq_eq_false_iff_ne]; omega
                        have g1 : ((D : Int) / 2 ^ e == C) = false := by rw [hdv, beq_eq_false_iff_ne]; omega
                        have g2 : decide ((D : Int) / 2 ^ e < C) = false := by rw [hdv, decide_eq_false_iff_not]; omega
                        clear hdv hee hp hnm hmn hme
                        by_cases hik : i < k
                        · have b1 : decide ((i : Int) < k) = true := by simp; omega
                          have b2 : decide (i < k) = true := by simp; omega
                          clear hki hik
                          go_wp2_with fail
                          refine wp_region_ext (fun _ => False) (by kernel_rfl) (by kernel_rfl) ?_
                          repeat (go_big_quiet_step (fail))
                          refine wpQuiet_nil ?_
                          rintro _ ⟨d, rfl⟩
                          go_wp2_with fail
                          have hs := hs.then d.same
                          clear f0 f1 f2 f3
                          generalize d.world = wr at *
                          clear d
                          have f0 : ∀ d : Ext (fun _ => False) wr, d.world.cell? (ad.add i) = some (.int .i64 n) := fun d => (hs.then d.same).cell q0 (fun c => c)
                          have f1 : ∀ d : Ext (fun _ => False) wr, d.world.cell? (ad2.add i) = some (.int .u32 C) := fun d => (hs.then d.same).cell q1 (fun c => c)
                          have f2 : ∀ d : Ext (fun _ => False) wr, d.world.cell? (ad.add k) = some (.int .i64 m) := fun d => (hs.then d.same).cell q2 (fun c => c)
                          have f3 : ∀ d : Ext (fun _ => False) wr, d.world.cell? (ad2.add k) = some (.int .u32 D) := fun d => (hs.then d.same).cell q3 (fun c => c)
                          refine wp_region_ext (fun _ => False) (by kernel_rfl) (by kernel_rfl) ?_
                          repeat (go_big_quiet_step (fail))
                          refine wpQuiet_nil ?_
                          rintro _ ⟨d, rfl⟩
                          go_wp2_with fail
                          go_roundg (gq - 1)
                          case measure => omega
                          case rel => exact ⟨k + 1, by omega, by omega, by go_num, hs.then d.same⟩
                        · have b1 : decide ((i : Int) < k) = false := by simp; omega
                          have b2 : decide (i < k) = false := by simp; omega
                          clear hki hik
                          go_wp2_with fail
                          refine wp_region_ext (fun _ => False) (by kernel_rfl) (by kernel_rfl) ?_
                          repeat (go_big_quiet_step (fail))
                          refine wpQuiet_nil ?_
                          rintro _ ⟨d, rfl⟩
                          go_wp2_with fail
                          have hs := hs.then d.same
                          clear f0 f1 f2 f3
                          generalize d.world = wr at *
                          clear d
                          have f0 : ∀ d : Ext (fun _ => False) wr, d.world.cell? (ad.add i) = some (.int .i64 n) := fun d => (hs.then d.same).cell q0 (fun c => c)
                          have f1 : ∀ d : Ext (fun _ => False) wr, d.world.cell? (ad2.add i) = some (.int .u32 C) := fun d => (hs.then d.same).cell q1 (fun c => c)
                          have f2 : ∀ d : Ext (fun _ => False) wr, d.world.cell? (ad.add k) = some (.int .i64 m) := fun d => (hs.then d.same).cell q2 (fun c => c)
                          have f3 : ∀ d : Ext (fun _ => False) wr, d.world.cell? (ad2.add k) = some (.int .u32 D) := fun d => (hs.then d.same).cell q3 (fun c => c)
                          refine wp_region_ext (fun _ => False) (by kernel_rfl) (by kernel_rfl) ?_
                          repeat (go_big_quiet_step (fail))
                          refine wpQuiet_nil ?_
                          rintro _ ⟨d, rfl⟩
                          go_wp2_with fail
                          go_roundg (gq - 1)
                          case measure => omega
                          case rel => exact ⟨k + 1, by omega, by omega, by go_num, hs.then d.same⟩
                      · have he0 : e = 0 := by omega
                        have hmn2 : m = n := by omega
                        have a5 : decide ((n : Int) < m) = false := by simp; omega
                        have a6 : decide (n < m) = false := by simp; omega
                        have a7 : ((m : Int) == n) = true := by simp [hmn2]
                        have a8 : (m == n) = true := by simp [hmn2]
                        have hd1 : D / 2 ^ e = D := by rw [he0]; simp
                        by_cases hik : i < k
                        · have hp := code_prefix hS hx hy (by omega) (by omega) (.inr ⟨hmn2.symm, hik⟩) eC eD
                          rw [hee, hd1] at hp
                          have g1 : ((D : Int) / 2 ^ e == C) = false := by rw [hdv, hd1, beq_eq_false_iff_ne]; omega
                          have g3 : decide ((D : Int) ≤ C) = false := by simp; omega
                          have g4 : decide (D ≤ C) = false := by simp; omega
                          have b1 : decide ((i : Int) < k) = true := by simp; omega
                          have b2 : decide (i < k) = true := by simp; omega
                          clear hki hik hdv hee hd1 he0 hmn2 hme hmn hnm hp
                          go_wp2_with fail
                          refine wp_region_ext (fun _ => False) (by kernel_rfl) (by kernel_rfl) ?_
                          repeat (go_big_quiet_step (fail))
                          refine wpQuiet_nil ?_
                          rintro _ ⟨d, rfl⟩
                          go_wp2_with fail
                          have hs := hs.then d.same
                          clear f0 f1 f2 f3
                          generalize d.world = wr at *
                          clear d
                          have f0 : ∀ d : Ext (fun _ => False) wr, d.world.cell? (ad.add i) = some (.int .i64 n) := fun d => (hs.then d.same).cell q0 (fun c => c)
                          have f1 : ∀ d : Ext (fun _ => False) wr, d.world.cell? (ad2.add i) = some (.int .u32 C) := fun d => (hs.then d.same).cell q1 (fun c => c)
                          have f2 : ∀ d : Ext (fun _ => False) wr, d.world.cell? (ad.add k) = some (.int .i64 m) := fun d => (hs.then d.same).cell q2 (fun c => c)
                          have f3 : ∀ d : Ext (fun _ => False) wr, d.world.cell? (ad2.add k) = some (.int .u32 D) := fun d => (hs.then d.same).cell q3 (fun c => c)
                          refine wp_region_ext (fun _ => False) (by kernel_rfl) (by kernel_rfl) ?_
                          repeat (go_big_quiet_step (fail))
                          refine wpQuiet_nil ?_
                          rintro _ ⟨d, rfl⟩
                          go_wp2_with fail
                          go_roundg (gq - 1)
                          case measure => omega
                          case rel => exact ⟨k + 1, by omega, by omega, by go_num, hs.then d.same⟩
                        · have hp := code_prefix hS hy hx (by omega) (by omega) (.inr ⟨hmn2, by omega⟩) eD eC
                          rw [show n - m = 0 from by omega, Nat.pow_zero, Nat.div_one] at hp
                          have g1 : ((D : Int) / 2 ^ e == C) = false := by rw [hdv, hd1, beq_eq_false_iff_ne]; omega
                          have b1 : decide ((i : Int) < k) = false := by simp; omega
                          have b2 : decide (i < k) = false := by simp; omega
                          clear hki hik hdv hee hd1 he0 hmn2 hme hmn hnm hp
                          go_wp2_with fail
                          refine wp_region_ext (fun _ => False) (by kernel_rfl) (by kernel_rfl) ?_
                          repeat (go_big_quiet_step (fail))
                          refine wpQuiet_nil ?_
                          rintro _ ⟨d, rfl⟩
                          go_wp2_with fail
                          have hs := hs.then d.same
                          clear f0 f1 f2 f3
                          generalize d.world = wr at *
                          clear d
                          have f0 : ∀ d : Ext (fun _ => False) wr, d.world.cell? (ad.add i) = some (.int .i64 n) := fun d => (hs.then d.same).cell q0 (fun c => c)
                          have f1 : ∀ d : Ext (fun _ => False) wr, d.world.cell? (ad2.add i) = some (.int .u32 C) := fun d => (hs.then d.same).cell q1 (fun c => c)
                          have f2 : ∀ d : Ext (fun _ => False) wr, d.world.cell? (ad.add k) = some (.int .i64 m) := fun d => (hs.then d.same).cell q2 (fun c => c)
                          have f3 : ∀ d : Ext (fun _ => False) wr, d.world.cell? (ad2.add k) = some (.int .u32 D) := fun d => (hs.then d.same).cell q3 (fun c => c)
                          refine wp_region_ext (fun _ => False) (by kernel_rfl) (by kernel_rfl) ?_
                          repeat (go_big_quiet_step (fail))
                          refine wpQuiet_nil ?_
                          rintro _ ⟨d, rfl⟩
                          go_wp2_with fail
                          go_roundg (gq - 1)
                          case measure => omega
                          case rel => exact ⟨k + 1, by omega, by omega, by go_num, hs.then d.same⟩
                · have hkl2 : k = l.length := by omega
                  subst hkl2
                  go_wp2_with fail
                  go_roundg (gk - 1)
                  case measure => omega
                  case rel => exact ⟨i + 1, by omega, by omega, rfl, by go_num, hs⟩
        · have hil : i = l.length := by omega
          subst hil
          have hb := hs.below_of B2 B2.size (fun _ _ c => c)
          have hF := HF.out
          have hWF := HW.out
          clear HF HW
          generalize fitsN l R l.length = F at *
          have HWF := Lib.hid hWF
          clear hWF
          go_wp2_with fail
          refine (ht _).out.mono ?_
          rintro e w6 ⟨rfl, hb6⟩
          have B6 := hb.trans (hb6.mono hb.size)
          have e1 : decide ((F : Int) ≤ 1) = true := by simp; omega
          have e2 : decide (F ≤ 1) = true := by simp; omega
          go_wp2_with fail
          refine (can_kind A c l w6 (h00.below B6)).mono ?_
          rintro e w7 ⟨rfl, hw⟩
          subst hw
          have hwf := HWF.out
          by_cases h1w : kind l = 1
          · have hF1 : F = 1 := hwf h1w
            subst hF1
            have e3 : (kind l != 1) = false := by simp [h1w]
            clear hwf h1w HWF
            generalize kind l = kk at *
            go_wp2_with fail
            go_ret
            exact ⟨rfl, B6⟩
          · have e3 : (kind l != 1) = true := by simpa using h1w
            clear hwf h1w HWF
            generalize kind l = kk at *
            go_wp2_with fail
            go_ret
            exact ⟨rfl, B6⟩
    · have hE' : (codesErr l != 0) = true := by simpa using hE
      go_enter Try.func4, Try.ntmps4
      go_wp2_with fail
      refine (canon_codes A c l w h00).mono ?_
      rintro e w2 ⟨v2, rfl, ho2, B2⟩
      have hco : codesOut l = [] := by rw [codesOut, if_neg hE]
      rw [hco] at ho2
      obtain ⟨A2, c2, rfl, hc2, hr2⟩ := ho2.rd
      clear ho2 hr2 hco hE
      generalize codesErr l = ce at *
      go_wp2_with fail
      refine (ht _).out.mono ?_
      rintro e w6 ⟨rfl, hb6⟩
      go_wp2_with fail
      go_ret
      exact ⟨rfl, B2.trans (hb6.mono B2.size)⟩
end Go.Proofs.Ytepphflpeobkhaa
