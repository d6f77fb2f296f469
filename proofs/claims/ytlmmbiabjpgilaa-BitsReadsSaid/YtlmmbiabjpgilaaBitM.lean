import Derived.Test.YtlmmbiabjpgilaaBitT
import Derived.Test.YtlmmbiabjpgilaaArgs
namespace Go.Proofs.Ytlmmbiabjpgilaa
set_option linter.unusedVariables false
set_option linter.unusedSimpArgs false
open Go.RowKit
attribute [local go_sem] max2i min2i max2t min2t

structure BqRel (w : World) (n : Nat) (A : Option Addr) (c p : Nat) (A2 : Option Addr) (c2 : Nat) (bs : List Int) (g : Nat) (v7 : Value) (wr : World) : Prop where mk ::
  out_ : ∃ (k : Nat) (cur : List Int), k ≤ n ∧ n ≤ g + k ∧ v7 = .int .i64 (k : Int) ∧ Own wr w.heap.size 5 (.slice A n c) (ints .u8 cur) ∧ cur.length = n ∧ RdAt wr p A2 c2 bs 0 ∧ Below w.heap.size w wr
structure BrRel (w : World) (m p : Nat) (A2 : Option Addr) (c2 : Nat) (bs : List Int) (g : Nat) (v9 v10 : Value) (wr : World) : Prop where mk ::
  out_ : ∃ (i n : Nat), i ≤ m ∧ m ≤ g + i ∧ v10 = .int .i64 (i : Int) ∧ v9 = .int .i64 (n : Int) ∧ RdAt wr p A2 c2 bs n ∧ Below w.heap.size w wr
set_option maxHeartbeats 1600000 in
set_option maxRecDepth 100000 in
theorem bitsReads_walk (A : Option Addr) (c : Nat) (bs : List Int) (A1 : Option Addr) (c1 : Nat) (l : List S30) (w : World) (h00 : RowOf w .u8 A c bs) (h01 : RowS w 4 A1 c1 l S30.enc (S30.ok w)) :
    Calls Try.prog 3 #[.slice A bs.length c, .slice A1 l.length c1] w fun e w' => e = .returned (.bool true) ∧ Below w.heap.size w w' := by
  have ht := fun W => Lib.hid (told5 W)
  have hm := h00.most
  have hcap := h00.cap
  have hm1 := h01.most
  have hcap1 := h01.cap
  by_cases hb60 : 60 < bs.length
  · have b1 : decide ((60 : Int) < bs.length) = true := by simp; omega
    go_enter Try.func3, Try.ntmps3
    go_wp2_with (go_at_call 7; refine (ht _).out.mono ?_; rintro e w' ⟨rfl, hb⟩)
    go_ret
    exact ⟨rfl, hb⟩
  · have b1 : decide ((60 : Int) < bs.length) = false := by simp; omega
    go_enter Try.func3, Try.ntmps3
    go_wp2_with (at_builtin; refine wpList_fresh .u8 rfl (.tmp 20) (.tmp 21) 22 5 1 rfl Try.underlying22 Try.u8inf A c bs rfl rfl h00 (by omega) (by omega) ?_; intro A' c' w1 ho hr' hb ha)
    refine (rd_new hr' (by omega)).mono ?_
    rintro e w2 ⟨p, A2, c2, rfl, h2, B2, hp, hA2⟩
    have hb2 := hb.trans (B2.mono hb.size)
    have hos : ∀ g, (Value.slice A' bs.length c').ownBlock = some g → g < w1.heap.size := ho.lt
    have ho2 := ho.kept (Same.of_below (S := fun _ => False) B2) (fun _ _ c => c)
    have hsz1 := hb.size
    have hle : w.heap.size ≤ p := by omega
    have hA2' : ∀ ad, A2 = some ad → w.heap.size ≤ ad.block := fun ad e => by have := hA2 ad e; omega
    clear ho hr'
    go_wp2_with fail
    go_loopg [7] bs.length (BqRel w bs.length A' c' p A2 c2 bs)
    case atStart => exact ⟨0, bs, by omega, by omega, rfl, ho2, rfl, h2, hb2⟩
    case round =>
      clear h2 ho2 hb2 B2 hb
      obtain ⟨k, cur, hk, hg, rfl, ho, hcl, hrd, hb⟩ := hrel
      by_cases hlt : k < bs.length
      · obtain ⟨g, cap, hv, hgb, hgl⟩ := World.ownsRow.form ho (by rw [ints_length]; omega)
        injection hv with e1 e2 e3
        subst e1
        subst e3
        have hgw1 := hos g rfl
        have ci := ho.cellI (i := k) (by omega)
        have fi := ho.frozenI k
        have hset := fun u => ho.set_ k u
        have HS := Lib.hid hset
        have HCL := Lib.hid hcl
        clear hset hcl e2
        generalize cur.getD k 0 = x at *
        go_wp2_with fail
        go_roundg (gk - 1)
        case measure => omega
        case rel =>
          refine ⟨k + 1, _, by omega, by omega, by go_num, HS.out _, by rw [List.length_set]; exact HCL.out, hrd.kept (S := fun k => k = g) (Same.set_ (S := fun k => k = g) (p := ⟨g, k, none⟩) (Same.refl _) (fun _ => rfl) _) (fun e => by omega) (fun ad e c => by have := hA2 ad e; omega), hb.setCell (by omega) _⟩
      · have hkl : k = bs.length := by omega
        subst hkl
        clear ho hcl
        go_wp2_with fail
        refine (ref_of A c bs wr (h00.belo hb) (by omega)).mono ?_
        rintro e w3 ⟨rfl, B3⟩
        have hrd := hrd.below B3
        have hb := hb.trans (B3.mono hb.size)
        clear B3
        go_wp2_with fail
        obtain ⟨m, hmm⟩ : ∃ m, m = min l.length 40 := ⟨_, rfl⟩
        have HM := Lib.hid hmm
        clear hmm
        go_loopg [9, 10] m (BrRel w m p A2 c2 bs)
        case atStart => exact ⟨0, 0, by omega, by omega, rfl, rfl, hrd, hb⟩
        case round =>
          clear hrd hb hk hg hlt
          rename Nat => gq
          obtain ⟨i, n, hi, hg, rfl, rfl, hrd, hb⟩ := hrel
          by_cases hlt : i < m
          · have hil : i < l.length := by have := HM.out; omega
            have hi40 : i < 40 := by have := HM.out; omega
            have e1 : decide ((i : Int) < l.length) = true := by simp; omega
            have e2 : decide (i < l.length) = true := by simp; omega
            have e3 : decide ((i : Int) < 40) = true := by simp; omega
            obtain ⟨x, hx⟩ : ∃ x, l[i]? = some x := ⟨_, List.getElem?_eq_getElem hil⟩
            obtain ⟨b, off, rfl, q0, q1, q2, q3⟩ := S30.at_ h01 hb hx
            obtain ⟨w0, w1, w2, w3⟩ := h01.ok x (List.mem_of_getElem? hx)
            clear hx
            have hpl := hrd.pb.lt
            obtain ⟨f0, f1, f2, a3, c3, f3⟩ := x
            simp only at q0 q1 q2 q3 w0 w1 w2 w3
            obtain ⟨kd, hkd5, ekd, _⟩ := mod_twice f0 5 (by omega) (by omega)
            rw [show ((5 : Nat) : Int) = 5 from rfl] at ekd
            have hrd := hrd.below (w' := wr.alloc (.cells #[.int .i64 f0, .int .i64 f1, .int .u32 f2, .slice a3 f3.length c3] 30)) ((Below.refl _ _).alloc (Nat.le_refl _) _)
            have hb' := hb.alloc hb.size (.cells #[.int .i64 f0, .int .i64 f1, .int .u32 f2, .slice a3 f3.length c3] 30)
            have hat := hrd.at_
            have hlen := ofB_length bs
            by_cases h2 : 2 < kd
            · have k1 : decide ((2 : Int) < kd) = true := by simp; omega
              go_wp2_with fail
              refine (rd_align hrd).mono ?_
              rintro e w4 ⟨rfl, hr4, s4⟩
              have hb4 := s4.below_of hb' (Nat.le_trans hb.size (by simp)) (fun k hk e => by omega)
              obtain ⟨N, hN⟩ : ∃ N, N = (n + 7) / 8 * 8 := ⟨_, rfl⟩
              rw [← hN] at hr4
              have hNe : ((n : Int) + 7) / 8 * 8 = (N : Int) := by omega
              clear hN
              go_wp2_with fail
              refine (rd_at hr4).mono ?_
              rintro e w5 ⟨rfl, rfl⟩
              have en : ((N : Int) != N) = false := by simp
              go_wp2_with fail
              go_roundg (gq - 1)
              case measure => omega
              case rel => exact ⟨i + 1, N, by omega, by omega, by go_num, rfl, hr4, hb4⟩
            · have k1 : decide ((2 : Int) < kd) = false := by simp; omega
              generalize ho : ofB bs = T at *
              have hst := txt_size T
              have hsl := txt_extract T
              have HT := Lib.hid ho
              have HSL := Lib.hid hsl
              have hTn : (T.length : Int) = 8 * bs.length := by omega
              have hTb : T.length ≤ 480 := by omega
              clear hsl ho hlen
              have en : ((n : Int) != n) = false := by simp
              have ev : ((0 : Int) != 0) = false := by simp
              have ew : ((1 : Int) != 1) = false := by simp
              have ex : ((5 : Int) != 5) = false := by simp
              have hn9 : (n : Int) ≤ 480 := by omega
              clear hat
              by_cases hbad : f1 < 0 ∨ 32 < f1
              · have hget := Lib.hid (rd_arg hrd hbad)
                rcases hbad with hbad | hbad
                · have g1 : decide (f1 < 0) = true := by simpa using hbad
                  clear hbad
                  go_wp2_with fail
                  refine hget.out.mono ?_
                  rintro e w4 ⟨rfl, hr4, s4⟩
                  have hb4 := s4.below_of hb' (Nat.le_trans hb.size (by simp)) (fun k hk e => by omega)
                  have q5 : w4.cell? ⟨wr.heap.size, 1, none⟩ = some (.int .i64 f1) := s4.cell (a := ⟨wr.heap.size, 1, none⟩) (by simp) (fun e => by simp at e; omega)
                  go_wp2_with fail
                  refine (rd_at hr4).mono ?_
                  rintro e w5 ⟨rfl, rfl⟩
                  go_wp2_with fail
                  go_roundg (gq - 1)
                  case measure => omega
                  case rel => exact ⟨i + 1, n, by omega, by omega, by go_num, rfl, hr4, hb4⟩
                · have g1 : decide (f1 < 0) = false := by simp; omega
                  have g2 : decide (32 < f1) = true := by simpa using hbad
                  clear hbad
                  go_wp2_with fail
                  refine hget.out.mono ?_
                  rintro e w4 ⟨rfl, hr4, s4⟩
                  have hb4 := s4.below_of hb' (Nat.le_trans hb.size (by simp)) (fun k hk e => by omega)
                  have q5 : w4.cell? ⟨wr.heap.size, 1, none⟩ = some (.int .i64 f1) := s4.cell (a := ⟨wr.heap.size, 1, none⟩) (by simp) (fun e => by simp at e; omega)
                  go_wp2_with fail
                  refine (rd_at hr4).mono ?_
                  rintro e w5 ⟨rfl, rfl⟩
                  go_wp2_with fail
                  go_roundg (gq - 1)
                  case measure => omega
                  case rel => exact ⟨i + 1, n, by omega, by omega, by go_num, rfl, hr4, hb4⟩
              · obtain ⟨N, rfl⟩ : ∃ N : Nat, f1 = N := ⟨f1.toNat, by omega⟩
                have hN32 : N ≤ 32 := by omega
                have g1 : decide ((N : Int) < 0) = false := by simp
                have g2 : decide ((32 : Int) < N) = false := by simp; omega
                clear hbad
                by_cases hsh : 8 * bs.length < n + N
                · have hget := Lib.hid (rd_short hrd hN32 hsh)
                  have g3 : decide ((T.length : Int) - n < N) = true := by simp; omega
                  clear hsh hTn
                  go_wp2_with fail
                  refine hget.out.mono ?_
                  rintro e w4 ⟨rfl, hr4, s4⟩
                  have hb4 := s4.below_of hb' (Nat.le_trans hb.size (by simp)) (fun k hk e => by omega)
                  have q5 : w4.cell? ⟨wr.heap.size, 1, none⟩ = some (.int .i64 N) := s4.cell (a := ⟨wr.heap.size, 1, none⟩) (by simp) (fun e => by simp at e; omega)
                  go_wp2_with fail
                  refine (rd_at hr4).mono ?_
                  rintro e w5 ⟨rfl, rfl⟩
                  go_wp2_with fail
                  go_roundg (gq - 1)
                  case measure => omega
                  case rel => exact ⟨i + 1, n, by omega, by omega, by go_num, rfl, hr4, hb4⟩
                · have hget := Lib.hid (rd_get hrd hN32 (by omega))
                  have g3 : decide ((T.length : Int) - n < N) = false := by simp; omega
                  have hbT : bin ((T.drop n).take N) := bin_take (bin_drop (by rw [← HT.out]; exact bin_ofB bs) n) N
                  have hls : ((T.drop n).take N).length ≤ 32 := by rw [List.length_take]; omega
                  have hsli := fun W => run_slice_string (P := Try.prog) W 9 (txt T) .i64 .i64 (n : Int) ((n : Int) + N) Try.underlying9 (by omega) (by omega) (by rw [hst]; omega)
                  rw [Int.toNat_natCast, show ((n : Int) + N).toNat = n + N from by omega, HSL.out n (n + N), show n + N - n = N from by omega] at hsli
                  have hnum := Lib.hid (fun W => ref_number ((T.drop n).take N) W hbT hls)
                  clear hls hbT hsh
                  have hU := numT_range (bin_take (bin_drop (show bin T from by rw [← HT.out]; exact bin_ofB bs) n) N)
                  rw [HT.out] at hget
                  generalize numT ((T.drop n).take N) = U at *
                  have eU : (U != U) = false := by simp
                  generalize txt T = ST at *
                  generalize txt ((T.drop n).take N) = SU at *
                  clear hU hTn
                  go_wp2_with fail
                  refine hget.out.mono ?_
                  rintro e w4 ⟨rfl, hr4, s4⟩
                  have hb4 := s4.below_of hb' (Nat.le_trans hb.size (by simp)) (fun k hk e => by omega)
                  have q5 : w4.cell? ⟨wr.heap.size, 1, none⟩ = some (.int .i64 N) := s4.cell (a := ⟨wr.heap.size, 1, none⟩) (by simp) (fun e => by simp at e; omega)
                  go_wp2_with fail
                  refine (hnum.out _).mono ?_
                  rintro e w5 ⟨rfl, hw⟩
                  subst hw
                  go_wp2_with fail
                  refine (rd_at hr4).mono ?_
                  rintro e w6 ⟨rfl, hw⟩
                  subst hw
                  have em : ((n : Int) + N != ((n + N : Nat) : Int)) = false := by rw [bne_eq_false_iff_eq]; omega
                  go_wp2_with fail
                  go_roundg (gq - 1)
                  case measure => omega
                  case rel => exact ⟨i + 1, n + N, by omega, by omega, by go_num, by go_num, hr4, hb4⟩
          · have him : i = m := by omega
            have hi40 : i ≤ 40 := by have := HM.out; omega
            by_cases h2 : i < l.length
            · have e1 : decide ((i : Int) < l.length) = true := by simp; omega
              have e2 : decide (i < l.length) = true := by simp; omega
              obtain rfl : i = 40 := by have := HM.out; omega
              have e1 : decide ((40 : Int) < l.length) = true := by simp; omega
              clear him hi hlt h2 hi40
              go_wp2_with fail
              refine (ht _).out.mono ?_
              rintro e w6 ⟨rfl, hb6⟩
              go_wp2_with fail
              go_ret
              exact ⟨rfl, hb.trans (hb6.mono hb.size)⟩
            · have e1 : decide ((i : Int) < l.length) = false := by simp; omega
              have e2 : decide (i < l.length) = false := by simp; omega
              clear him hi hlt h2 hi40
              go_wp2_with fail
              refine (ht _).out.mono ?_
              rintro e w6 ⟨rfl, hb6⟩
              go_wp2_with fail
              go_ret
              exact ⟨rfl, hb.trans (hb6.mono hb.size)⟩
end Go.Proofs.Ytlmmbiabjpgilaa
