import Derived.Test.YtlmmbiabjpgilaaBitT
import Derived.Test.YtlmmbiabjpgilaaArgs
namespace Go.Proofs.Ytlmmbiabjpgilaa
set_option linter.unusedVariables false
set_option linter.unusedSimpArgs false
open Go.RowKit
attribute [local go_sem] max2i min2i max2t min2t

abbrev Op5 := S30
/-- The bits after one number and what stands behind it. -/
def oneT (t : List Int) (x : Op5) : List Int := if x.f0 % 4 = 3 then alignT (t ++ bitT x.f2 (1 + (x.f1 % 32).toNat)) ++ ofB x.f3 else t ++ bitT x.f2 (1 + (x.f1 % 32).toNat)
def backT (l : List Op5) : Nat → List Int
  | 0 => []
  | i + 1 => match l[i]? with
    | some x => oneT (backT l i) x
    | none => backT l i
theorem backT_succ {l : List Op5} {i : Nat} {x : Op5} (h : l[i]? = some x) : backT l (i + 1) = oneT (backT l i) x := by rw [backT, h]
theorem oneT_first (t : List Int) (x : Op5) : ∃ r, oneT t x = t ++ bitT x.f2 (1 + (x.f1 % 32).toNat) ++ r := by
  unfold oneT
  split
  · exact ⟨_, by rw [alignT, List.append_assoc (t ++ _)]⟩
  · exact ⟨[], by simp⟩
theorem backT_mono (l : List Op5) (i : Nat) : ∀ k, ∃ r, backT l (i + k) = backT l i ++ r
  | 0 => ⟨[], by simp⟩
  | k + 1 => by
    obtain ⟨r, hr⟩ := backT_mono l i k
    rw [show i + (k + 1) = (i + k) + 1 from by omega, backT]
    cases h : l[i + k]? with
    | none => exact ⟨r, hr⟩
    | some x =>
      obtain ⟨r2, h2⟩ := oneT_first (backT l (i + k)) x
      exact ⟨r ++ (bitT x.f2 (1 + (x.f1 % 32).toNat) ++ r2), by show oneT (backT l (i + k)) x = _; rw [h2, hr]; simp only [List.append_assoc]⟩
theorem oneT_length (t : List Int) (x : Op5) (h : x.f3.length ≤ 20) : (oneT t x).length ≤ t.length + 199 := by
  have h1 := Int.emod_nonneg x.f1 (b := 32) (by omega)
  have h2 := Int.emod_lt_of_pos x.f1 (b := 32) (by omega)
  unfold oneT
  split
  · rw [List.length_append, alignT_length, List.length_append, bitT_length, ofB_length]; omega
  · rw [List.length_append, bitT_length]; omega
theorem get_bits {T s b r : List Int} {n : Nat} (h : T = s ++ b ++ r) (hn : n = s.length) : (T.drop n).take b.length = b := by
  subst h; subst hn; exact mid_take s b r

structure B2Rel (w : World) (l : List Op5) (n p : Nat) (A2 : Option Addr) (c2 : Nat) (bs : List Int) (g : Nat) (v8 : Value) (wr : World) : Prop where mk ::
  out_ : ∃ (i : Nat), i ≤ n ∧ n ≤ g + i ∧ v8 = .int .i64 (i : Int) ∧ RdAt wr p A2 c2 bs (backT l i).length ∧ Below w.heap.size w wr
structure B3Rel (w : World) (m N p : Nat) (A2 : Option Addr) (c2 : Nat) (bs : List Int) (g : Nat) (v12 : Value) (wr : World) : Prop where mk ::
  out_ : ∃ (j : Nat), j ≤ m ∧ m ≤ g + j ∧ v12 = .int .i64 (j : Int) ∧ RdAt wr p A2 c2 bs (N + 8 * j) ∧ Below w.heap.size w wr
theorem mask_val (x : Int) {D : Nat} (hD : D < 32) : bits .and .u32 x ((2 ^ (1 + D) - 1) % 4294967296) = x % 2 ^ (1 + D) := by
  have h := and_maskK .u32 (.inl rfl) x (1 + D) (by simp only [IntKind.bits]; omega)
  have hp : 2 ^ (1 + D) ≤ 2 ^ 32 := Nat.pow_le_pow_right (by decide) (by omega)
  have hp0 : 0 < 2 ^ (1 + D) := Nat.pow_pos (by decide)
  have e : ((2 : Int) ^ (1 + D)) = ((2 ^ (1 + D) : Nat) : Int) := by rw [Int.natCast_pow]; rfl
  rw [e]
  rw [← h]
  congr 1
  generalize 2 ^ (1 + D) = y at *
  omega
structure B1Rel (w : World) (l : List Op5) (n : Nat) (g : Nat) (v5 : Value) (wr : World) : Prop where mk ::
  out_ : ∃ (i : Nat) (v' : Value), i ≤ n ∧ n ≤ g + i ∧ v5 = .int .i64 (i : Int) ∧ (backT l i).length ≤ 200 * i ∧ WrAt wr w.heap.size w.heap.size v' (backT l i) ∧ Below w.heap.size w wr
set_option maxHeartbeats 1600000 in
set_option maxRecDepth 100000 in
theorem bitsBack_walk (A1 : Option Addr) (c1 : Nat) (l : List S30) (w : World) (h01 : RowS w 4 A1 c1 l S30.enc (S30.ok w)) :
    Calls Try.prog 6 #[.slice A1 l.length c1] w fun e w' => e = .returned (.bool true) ∧ Below w.heap.size w w' := by
  have ht := fun W => Lib.hid (told5 W)
  have hm1 := h01.most
  have hcap1 := h01.cap
  obtain ⟨n, hnn⟩ : ∃ n, n = min l.length 40 := ⟨_, rfl⟩
  have hmi : min (l.length : Int) 40 = (n : Int) := by omega
  have HM := Lib.hid hnn
  clear hnn
  go_enter Try.func6, Try.ntmps6
  go_wp2_with fail
  refine wr_new.mono ?_
  rintro e w1 ⟨rfl, h1, B1⟩
  go_wp2_with fail
  go_loopg [5] n (B1Rel w l n)
  case atStart => exact ⟨0, _, by omega, by omega, rfl, by simp [backT], h1, B1⟩
  case round =>
    clear h1 B1
    obtain ⟨i, v', hi, hg, rfl, hlb, ha, hb⟩ := hrel
    by_cases hlt : i < n
    · have hil : i < l.length := by have := HM.out; omega
      have hi40 : i < 40 := by have := HM.out; omega
      obtain ⟨x, hx⟩ : ∃ x, l[i]? = some x := ⟨_, List.getElem?_eq_getElem hil⟩
      obtain ⟨b, off, rfl, q0, q1, q2, q3⟩ := S30.at_ h01 hb hx
      obtain ⟨y0, y1, y2, y3⟩ := h01.ok x (List.mem_of_getElem? hx)
      have hsucc := Lib.hid (backT_succ hx)
      have HXX := Lib.hid hx
      clear hx
      have hcap3 := y3.cap
      have hm3 := y3.most
      by_cases hbig : 20 < x.f3.length
      · have g1 : decide ((20 : Int) < x.f3.length) = true := by simp; omega
        go_wp2_with fail
        refine (ht _).out.mono ?_
        rintro e w6 ⟨rfl, hb6⟩
        go_wp2_with fail
        go_ret
        exact ⟨rfl, hb.trans (hb6.mono hb.size)⟩
      · have g1 : decide ((20 : Int) < x.f3.length) = false := by simp; omega
        have hand := and_31 x.f1
        obtain ⟨D, hD, eD⟩ := nat_of_mod x.f1 32 (by omega)
        rw [show ((32 : Nat) : Int) = 32 from rfl] at eD
        have hDt : (x.f1 % 32).toNat = D := by omega
        rw [eD] at hand
        have hand2 := and_3 x.f0
        obtain ⟨E, hE, eE⟩ := nat_of_mod x.f0 4 (by omega)
        rw [show ((4 : Nat) : Int) = 4 from rfl] at eE
        rw [eE] at hand2
        have hf2 : 0 ≤ x.f2 ∧ x.f2 < 4294967296 := by
          simp [Lit.wf, IntKind.min, IntKind.max, IntKind.bits, IntKind.signed] at y2; omega
        have hol := oneT_length (backT l i) x (by omega)
        have hone : oneT (backT l i) x = if E = 3 then alignT (backT l i ++ bitT x.f2 (1 + D)) ++ ofB x.f3 else backT l i ++ bitT x.f2 (1 + D) := by
          unfold oneT
          rw [hDt]
          by_cases h3 : E = 3
          · rw [if_pos h3, if_pos (by omega)]
          · rw [if_neg h3, if_neg (by omega)]
        have HO := Lib.hid hone
        have HL := Lib.hid hol
        have hsz := hb.size
        have hpl := ha.pb.lt
        have HPW := Lib.hid (wr_put x.f2 ((1 + D : Nat) : Int) ha hsz hf2.1 hf2.2 (by omega))
        rw [putT_ok _ (by omega) (by omega), show (((1 + D : Nat) : Nat) : Int) = 1 + (D : Int) from by omega] at HPW
        clear eD eE hDt hone hol
        go_wp2_with fail
        refine HPW.out.mono ?_
        rintro e w2 ⟨rfl, v2, h2⟩
        have hb2 := h2.below hb hsz (Nat.le_refl _) (fun g hg => ha.row.base_le g hg)
        have h2a := h2.at_
        clear q0 q1 q2 q3
        obtain ⟨b2, off2, e2, r0, r1, r2, r3⟩ := S30.at_ h01 hb2 HXX.out
        cases e2
        by_cases h3 : E = 3
        · subst h3
          rw [if_pos rfl] at HO
          have hr3 := y3.belo hb2
          go_wp2_with fail
          refine (wr_raw h2a hr3 (fun ad e hne => ?_) hb2.size (by rw [List.length_append, bitT_length]; omega)).mono ?_
          · have h1 := y3.lt hne ad e
            exact ⟨by omega, fun e2 => by have := h2a.row.base_le _ e2; omega⟩
          rintro e w4 ⟨rfl, v4, h4⟩
          have hb4 := h4.below hb2 hb2.size (Nat.le_refl _) (fun g hg => h2a.row.base_le g hg)
          have h4a := h4.at_
          rw [← HO.out, ← hsucc.out] at h4a
          go_wp2_with fail
          go_roundg (gk - 1)
          case measure => omega
          case rel => exact ⟨i + 1, v4, by omega, by omega, by go_num, by rw [hsucc.out]; have := HL.out; omega, h4a, hb4⟩
        · have g3 : ((E : Int) == 3) = false := by rw [beq_eq_false_iff_ne]; omega
          rw [if_neg h3] at HO
          rw [← HO.out, ← hsucc.out] at h2a
          clear h3
          go_wp2_with fail
          go_roundg (gk - 1)
          case measure => omega
          case rel => exact ⟨i + 1, v2, by omega, by omega, by go_num, by rw [hsucc.out]; have := HL.out; omega, h2a, hb2⟩
    · have hin : n = i := by omega
      subst hin
      have hn40 : n ≤ 40 := by have := HM.out; omega
      go_wp2_with fail
      refine (wr_bytes ha).mono ?_
      rintro e w2 ⟨A2, c2, rfl, _, hr2, B2, _⟩
      have hb2 := hb.trans (B2.mono hb.size)
      go_wp2_with fail
      refine (rd_new hr2 (by rw [packB_length]; omega)).mono ?_
      rintro e w3 ⟨p, A3, c3, rfl, h3, B3, hp, _⟩
      have hb3 := hb2.trans (B3.mono hb2.size)
      have hple : w.heap.size ≤ p := by have := hb2.size; omega
      have hT := ofB_packB ha.bin
      clear hr2 B2 B3 ha hb hb2 hp
      generalize packB (backT l n) = bs at *
      have HT := Lib.hid hT
      clear hT hlt hi hg
      go_wp2_with fail
      go_loopg [8] n (B2Rel w l n p A3 c3 bs)
      case atStart => exact ⟨0, by omega, by omega, rfl, h3, hb3⟩
      case round =>
        clear h3 hb3
        rename Nat => gq
        obtain ⟨i, hi, hg, rfl, h3, hb3⟩ := hrel
        by_cases hlt : i < n
        · have hil : i < l.length := by have := HM.out; omega
          obtain ⟨x, hx⟩ : ∃ x, l[i]? = some x := ⟨_, List.getElem?_eq_getElem hil⟩
          obtain ⟨b, off, rfl, q0, q1, q2, q3⟩ := S30.at_ h01 hb3 hx
          obtain ⟨y0, y1, y2, y3⟩ := h01.ok x (List.mem_of_getElem? hx)
          have hsucc := backT_succ hx
          have HXX := Lib.hid hx
          clear hx
          have hcap3 := y3.cap
          have hm3 := y3.most
          have hand := and_31 x.f1
          obtain ⟨D, hD, eD⟩ := nat_of_mod x.f1 32 (by omega)
          rw [show ((32 : Nat) : Int) = 32 from rfl] at eD
          have hDt : (x.f1 % 32).toNat = D := by omega
          rw [eD] at hand
          have hand2 := and_3 x.f0
          obtain ⟨E, hE, eE⟩ := nat_of_mod x.f0 4 (by omega)
          rw [show ((4 : Nat) : Int) = 4 from rfl] at eE
          rw [eE] at hand2
          have hf2 : 0 ≤ x.f2 ∧ x.f2 < 4294967296 := by
            simp [Lit.wf, IntKind.min, IntKind.max, IntKind.bits, IntKind.signed] at y2; omega
          have hone : backT l (i + 1) = if E = 3 then alignT (backT l i ++ bitT x.f2 (1 + D)) ++ ofB x.f3 else backT l i ++ bitT x.f2 (1 + D) := by
            rw [hsucc]
            unfold oneT
            rw [hDt]
            by_cases h3 : E = 3
            · rw [if_pos h3, if_pos (by omega)]
            · rw [if_neg h3, if_neg (by omega)]
          obtain ⟨rr, hrr⟩ : ∃ rr, ofB bs = backT l (i + 1) ++ rr := by
            obtain ⟨r1, hr1⟩ := backT_mono l (i + 1) (n - (i + 1))
            rw [show i + 1 + (n - (i + 1)) = n from by omega] at hr1
            exact ⟨_, by rw [HT.out, alignT, hr1, List.append_assoc]⟩
          have hTl := ofB_length bs
          have hg1 := @get_bits (ofB bs) (backT l i) (bitT x.f2 (1 + D)) (if E = 3 then (List.replicate ((8 - (backT l i ++ bitT x.f2 (1 + D)).length % 8) % 8) 0 ++ ofB x.f3) ++ rr else rr) (backT l i).length (by
            rw [hrr, hone]
            by_cases h3 : E = 3
            · rw [if_pos h3, if_pos h3, alignT]; simp only [List.append_assoc]
            · rw [if_neg h3, if_neg h3]) rfl
          rw [bitT_length] at hg1
          have hlen1 : (backT l i).length + (1 + D) ≤ 8 * bs.length := by
            have := congrArg List.length hrr
            rw [hone] at this
            by_cases h3 : E = 3
            · rw [if_pos h3, List.length_append, List.length_append, alignT_length, List.length_append, bitT_length] at this; omega
            · rw [if_neg h3, List.length_append, List.length_append, bitT_length] at this; omega
          have hget := rd_get h3 (k := 1 + D) (by omega) hlen1
          rw [hg1, numT_bitT _ hf2.1, show (((1 + D : Nat) : Nat) : Int) = 1 + (D : Int) from by omega] at hget
          have hmask := mask_val x.f2 hD
          generalize x.f2 % 2 ^ (1 + D) = V at *
          have ev : (V != V) = false := by simp
          have HG := Lib.hid hget
          have HO := Lib.hid hone
          have HR := Lib.hid hrr
          have hD31 : D ≤ 31 := by omega
          clear eD eE hDt hone hrr hsucc hg1 hget hTl
          go_wp2_with fail
          refine HG.out.mono ?_
          rintro e w4 ⟨rfl, h4, s4⟩
          have hb4 := s4.below_of hb3 hb3.size (fun k hk e => by omega)
          clear q0 q1 q2 q3
          obtain ⟨b2, off2, e2, r0, r1, r2, r3⟩ := S30.at_ h01 hb4 HXX.out
          cases e2
          have g0 : ((0 : Int) != 0) = false := by simp
          by_cases h3e : E = 3
          · subst h3e
            rw [if_pos rfl] at HO
            go_wp2_with fail
            refine (rd_align h4).mono ?_
            rintro e w5 ⟨rfl, h5, s5⟩
            have hb5 := s5.below_of hb4 hb4.size (fun k hk e => by omega)
            clear h4 s4 r0 r1 r2 r3
            obtain ⟨N, hN⟩ : ∃ N, N = ((backT l i).length + (1 + D) + 7) / 8 * 8 := ⟨_, rfl⟩
            rw [← hN] at h5
            have hNl : (alignT (backT l i ++ bitT x.f2 (1 + D))).length = N := by rw [alignT_length, List.length_append, bitT_length, hN]
            have HN := Lib.hid hNl
            clear hNl hN
            go_wp2_with fail
            go_loopg [12] x.f3.length (B3Rel w x.f3.length N p A3 c3 bs)
            case atStart => exact ⟨0, by omega, by omega, rfl, h5, hb5⟩
            case round =>
              clear h5 hb5 hb4 hb3 h3
              rename Nat => gr
              obtain ⟨j, hj, hgj, rfl, h6, hb6⟩ := hrel
              obtain ⟨b6, off6, e6, r0, r1, r2, r3⟩ := S30.at_ h01 hb6 HXX.out
              cases e6
              by_cases hjl : j < x.f3.length
              · obtain ⟨y, hy⟩ : ∃ y, x.f3[j]? = some y := ⟨_, List.getElem?_eq_getElem hjl⟩
                have hy8 := u8_of (y3.wf y (List.mem_of_getElem? hy))
                have hsplit : ofB x.f3 = ofB (x.f3.take j) ++ of8 y ++ ofB (x.f3.drop (j + 1)) := by
                  obtain ⟨hjj, ey⟩ := List.getElem?_eq_some_iff.1 hy
                  have hl3 : x.f3 = x.f3.take j ++ y :: x.f3.drop (j + 1) := by
                    rw [← ey, ← List.drop_eq_getElem_cons hjj, List.take_append_drop]
                  conv => lhs; rw [hl3, ofB_append]
                  rw [List.append_assoc]; rfl
                have hTT : ofB bs = alignT (backT l i ++ bitT x.f2 (1 + D)) ++ ofB (x.f3.take j) ++ of8 y ++ (ofB (x.f3.drop (j + 1)) ++ rr) := by
                  rw [HR.out, HO.out, hsplit]; simp only [List.append_assoc]
                have hpos : N + 8 * j = (alignT (backT l i ++ bitT x.f2 (1 + D)) ++ ofB (x.f3.take j)).length := by
                  rw [List.length_append, HN.out, ofB_length, List.length_take, Nat.min_eq_left (by omega)]
                have hg2 := get_bits hTT hpos
                rw [of8_length] at hg2
                have hbd : N + 8 * j + 8 ≤ 8 * bs.length := by
                  have h1 := congrArg List.length hTT
                  rw [List.length_append, List.length_append, ← hpos, of8_length, ofB_length] at h1
                  omega
                have hget := rd_get h6 (k := 8) (by omega) hbd
                rw [hg2, numT_of8 hy8.1 hy8.2] at hget
                have HG2 := Lib.hid hget
                have ey : (y != y) = false := by simp
                have HY := Lib.hid hy
                clear hTT hpos hg2 hget hsplit hy
                obtain ⟨y', rfl⟩ : ∃ y' : Nat, y = y' := ⟨y.toNat, by omega⟩
                go_wp2_with fail
                refine HG2.out.mono ?_
                rintro e w7 ⟨rfl, h7, s7⟩
                have hb7 := s7.below_of hb6 hb6.size (fun k hk e => by omega)
                clear r0 r1 r2 r3
                obtain ⟨b7, off7, e7, r0, r1, r2, r3⟩ := S30.at_ h01 hb7 HXX.out
                cases e7
                obtain ⟨ady, hady, hcy⟩ := y3.rd j _ HY.out
                rw [hady] at r3
                have hcy := (hb7.cell (World.block_lt_of_cell? w _ hcy)).trans hcy
                have HADY := Lib.hid hady
                clear hady
                go_wp2_with fail
                go_roundg (gr - 1)
                case measure => omega
                case rel => exact ⟨j + 1, by omega, by omega, by go_num, by rw [show N + 8 * (j + 1) = N + 8 * j + 8 from by omega]; exact h7, hb7⟩
              · have hje : j = x.f3.length := by omega
                subst hje
                go_wp2_with fail
                go_roundg (gq - 1)
                case measure => omega
                case rel =>
                  refine ⟨i + 1, by omega, by omega, by go_num, ?_, hb6⟩
                  rw [HO.out, List.length_append, HN.out, ofB_length]
                  exact h6
          · have g3 : ((E : Int) != 3) = true := by rw [bne_iff_ne]; omega
            rw [if_neg h3e] at HO
            clear h3e
            go_wp2_with fail
            go_roundg (gq - 1)
            case measure => omega
            case rel => exact ⟨i + 1, by omega, by omega, by go_num, by rw [HO.out, List.length_append, bitT_length]; exact h4, hb4⟩
        · have hin : n = i := by omega
          subst hin
          go_wp2_with fail
          refine (ht _).out.mono ?_
          rintro e w6 ⟨rfl, hb6⟩
          go_wp2_with fail
          go_ret
          exact ⟨rfl, hb3.trans (hb6.mono hb3.size)⟩
end Go.Proofs.Ytlmmbiabjpgilaa
