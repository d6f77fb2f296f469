import Derived.Test.YteknaaijlkenkaaCanT
import Derived.Test.YteknaaijlkenkaaRef5S
namespace Go.Proofs.Yteknaaijlkenkaa
set_option linter.unusedVariables false
set_option linter.unusedSimpArgs false
open Go.RowKit

theorem adv_mod {x : Int} (h0 : 0 ≤ x) (h1 : x < 4294967296) : ∀ m, adv x m = (x + m) % 4294967296
  | 0 => by simp [adv]; omega
  | m + 1 => by rw [adv, adv_mod h0 h1 m]; omega
theorem nxt_range (l : List Int) (n : Nat) : 0 ≤ nxt l n ∧ nxt l n < 4294967296 := by
  unfold nxt
  split <;> omega
theorem nxt_shl (l : List Int) {n : Nat} (h : 1 ≤ n) : adv (nxt l n) (l.count (n : Int)) * 2 % 4294967296 = nxt l (n + 1) := by
  have := nxt_range l n
  rw [nxt_succ l h, adv_mod this.1 this.2, cnt, if_neg (by omega)]
theorem adv_range {x : Int} (h0 : 0 ≤ x) (h1 : x < 4294967296) (m : Nat) : 0 ≤ adv x m ∧ adv x m < 4294967296 := by
  rw [adv_mod h0 h1]; omega
def codeS (l : List Int) (j : Nat) : ByteArray := strOfNums (codeL (code l j) (l.getD j 0))
def strs (l : List Int) : List Value := (List.range l.length).map fun j => .string (if l.getD j 0 = 0 then ⟨#[]⟩ else codeS l j)
def rcF (l : List Int) (n i j : Nat) : Value := .string (if (1 ≤ l.getD j 0 ∧ l.getD j 0 < n) ∨ (l.getD j 0 = n ∧ j < i) then codeS l j else ⟨#[]⟩)
theorem Try.strinfo : (Try.prog.info? 9).map (fun i => (i.zero, i.size, i.bytes)) = some (some (.string ⟨#[]⟩), 1, 16) := by kernel_rfl

structure RcRel (w : World) (l : List Int) (o : Nat) (g : Nat) (v5 v6 : Value) (wr : World) : Prop where mk ::
  out_ : ∃ (n : Nat) (r : Int), 1 ≤ n ∧ n ≤ 16 ∧ 16 ≤ g + n ∧ v5 = .int .u32 r ∧ r * 2 % 4294967296 = nxt l n ∧ v6 = .int .i64 (n : Int) ∧ Blk wr o 9 (tab l.length (rcF l n 0)) ∧ Below w.heap.size w wr
structure RcRel2 (w : World) (l : List Int) (o n : Nat) (g : Nat) (v5 v7 : Value) (wr : World) : Prop where mk ::
  out_ : ∃ (i : Nat), i ≤ l.length ∧ l.length ≤ g + i ∧ v5 = .int .u32 (adv (nxt l n) ((l.take i).count (n : Int))) ∧ v7 = .int .i64 (i : Int) ∧ Blk wr o 9 (tab l.length (rcF l n i)) ∧ Below w.heap.size w wr

set_option maxHeartbeats 1600000 in
set_option maxRecDepth 100000 in
theorem ref_codes_ok (A : Option Addr) (c : Nat) (l : List Int) (w : World) (hr : RowOf w .i64 A c l) (hk0 : 0 ≤ kraft l) (hk1 : kind l ≠ 4) (hl : l.length ≤ 65536) (hd : ∀ n ∈ l, 0 ≤ n ∧ n ≤ 15) :
    Calls Try.prog 50 #[.slice A l.length c] w fun e w' =>
      ∃ v, e = .returned (.tuple #[v, .int .i64 0]) ∧ Own w' w.heap.size 9 v (strs l) ∧ Below w.heap.size w w' := by
  have hm := hr.most
  have hcap := hr.cap
  have HK := Lib.hid (ref_kraft A c l w hr)
  have HD := Lib.hid (ref_kind A c l w hr hl)
  have hkind : (kind l == 4) = false := by simpa using hk1
  have hmk := run_make1 (P := Try.prog) 76 9 (.string ⟨#[]⟩) 16 Try.underlying76 Try.strinfo rfl l.length l.length (Nat.le_refl _) (by omega) (by omega)
  go_enter Try.func50, Try.ntmps50
  go_wp2_with fail
  refine HK.out.mono ?_
  rintro e w1 ⟨rfl, rfl⟩
  have e1 : decide (kraft l < 0) = false := by simp; omega
  go_wp2_with fail
  refine HD.out.mono ?_
  rintro e w2 ⟨rfl, rfl⟩
  clear HK HD
  go_wp2_with fail
  have ho1 : Blk (w2.alloc (.cells (madeCells #[.string ⟨#[]⟩] l.length) 9)) w2.heap.size 9 (tab l.length (rcF l 1 0)) := by
    have := Blk.new w2 9 (madeCells #[.string ⟨#[]⟩] l.length)
    rw [show tab l.length (rcF l 1 0) = madeCells #[.string ⟨#[]⟩] l.length from (tab_congr (fun i _ => by
      unfold rcF
      rw [if_neg (by omega)])).trans (made_tab _ _).symm]
    exact this
  have hB1 : Below w2.heap.size w2 (w2.alloc (.cells (madeCells #[.string ⟨#[]⟩] l.length) 9)) := (Below.refl _ _).alloc (Nat.le_refl _) _
  clear hmk
  go_loopg [5, 6] 15 (RcRel w2 l w2.heap.size)
  case atStart => exact ⟨1, 0, by omega, by omega, by omega, rfl, rfl, rfl, ho1, hB1⟩
  case round =>
    clear ho1 hB1
    obtain ⟨n, r, hn1, hn16, hgn, rfl, hrn, rfl, ho, hB⟩ := hrel
    by_cases hlt : n < 16
    · have e2 : decide ((n : Int) ≤ 15) = true := by simp; omega
      go_wp2_with fail
      rw [hrn]
      clear hrn
      go_loopg [5, 7] l.length (RcRel2 w2 l w2.heap.size n)
      case atStart => exact ⟨0, by omega, by omega, by simp [adv], rfl, ho, hB⟩
      case round =>
        clear ho hB
        rename Nat => gq
        obtain ⟨i, hi, hgi, rfl, rfl, ho, hB⟩ := hrel
        by_cases hil : i < l.length
        · obtain ⟨x, hx⟩ : ∃ x, l[i]? = some x := ⟨_, List.getElem?_eq_getElem hil⟩
          obtain ⟨ad, rfl, hc⟩ := hr.rd i x hx
          have hc := (hB.cell (World.block_lt_of_cell? w2 _ hc)).trans hc
          have hg : l.getD i 0 = x := by rw [List.getD_eq_getElem?_getD, hx]; rfl
          have HC := Lib.hid (take_count hx (n : Int))
          have HG := Lib.hid hg
          have hcd : x = n → code l i = adv (nxt l n) ((l.take i).count (n : Int)) := fun e => by
            unfold code
            rw [hg, e, Int.toNat_natCast, if_neg (by omega)]
          have hnr := nxt_range l n
          have har := adv_range hnr.1 hnr.2 ((l.take i).count (n : Int))
          clear hx hg hnr
          generalize hav : adv (nxt l n) ((l.take i).count (n : Int)) = a at *
          have HAV := Lib.hid hav
          clear hav
          by_cases hxn : x = n
          · have hcd := hcd hxn
            subst hxn
            have e3 : ((n : Int) == n) = true := by simp
            have HCD := Lib.hid hcd
            clear hcd
            have c2 := ho.cell i
            rw [tab_get hil] at c2
            have f2 := ho.frozen i
            go_wp2_with fail
            refine (ref_code5 a n wr har.1 har.2 (WalkArith.wf_i64 (by omega))).mono ?_
            rintro e w5 ⟨rfl, hw⟩
            subst hw
            go_wp2_with fail
            go_roundg (gq - 1)
            case measure => omega
            case rel =>
              refine ⟨i + 1, by omega, by omega, ?_, by go_num, ?_, below_set hB (p := ⟨w2.heap.size, i, none⟩) (Nat.le_refl _) _⟩
              · first | rw [HC.out, if_pos rfl, adv, HAV.out] | rw [HC.out, if_pos trivial, adv, HAV.out]
              · have := ho.set_ i (.string (strOfNums (codeL a n)))
                rw [tab_set] at this
                rw [tab_congr (n := l.length) (g := fun j => if j = i then .string (strOfNums (codeL a n)) else rcF l n i j)]
                · exact this
                · intro j hj
                  by_cases e : j = i
                  · subst e
                    rw [if_pos rfl]
                    unfold rcF
                    rw [if_pos (.inr ⟨HG.out, by omega⟩), codeS, HCD.out, HG.out]
                    all_goals trivial
                  · rw [if_neg e]
                    unfold rcF
                    congr 2
                    exact propext ⟨fun h => by omega, fun h => by omega⟩
          · have e3 : (x == (n : Int)) = false := by simpa using hxn
            go_wp2_with fail
            go_roundg (gq - 1)
            case measure => omega
            case rel =>
              refine ⟨i + 1, by omega, by omega, ?_, by go_num, ?_, hB⟩
              · rw [HC.out, if_neg hxn, Nat.add_zero, HAV.out]
              · rw [tab_congr (n := l.length) (g := rcF l n i)]
                · exact ho
                · intro j hj
                  unfold rcF
                  by_cases e : j = i
                  · subst e
                    rw [HG.out]
                    simp [hxn]
                  · simp [show (j < i + 1) ↔ (j < i) from by omega]
        · have hil' : i = l.length := by omega
          subst hil'
          rw [List.take_length]
          go_wp2_with fail
          go_roundg (gk - 1)
          case measure => omega
          case rel =>
            refine ⟨n + 1, _, by omega, by omega, by omega, rfl, nxt_shl l hn1, by go_num, ?_, hB⟩
            rw [tab_congr (n := l.length) (g := rcF l n l.length)]
            · exact ho
            · intro j hj
              unfold rcF
              simp only [hj, and_true, Nat.not_lt_zero, and_false, or_false]
              congr 2
              exact propext ⟨fun h => by omega, fun h => by omega⟩
    · have hn : n = 16 := by omega
      subst hn
      go_wp2_with fail
      go_ret2
      refine ⟨_, rfl, ?_, hB⟩
      have hlen : (strs l).length = l.length := by simp [strs]
      refine ⟨by omega, .inr ⟨w2.heap.size, l.length, _, by rw [hlen]; rfl, Nat.le_refl _, ho, by omega, by simp [maxLen]; omega, by simp [tab], ?_⟩⟩
      apply List.ext_getElem
      · simp [tab, hlen]
      · intro i h1 h2
        have hi : i < l.length := by omega
        have hx := hd l[i] (List.getElem_mem hi)
        rw [List.getElem_take]
        simp only [tab, strs, List.getElem_map, List.getElem_range, Array.getElem_toList, Array.getElem_ofFn]
        unfold rcF
        have hg : l.getD i 0 = l[i] := by simp [List.getD_eq_getElem?_getD, hi]
        rw [hg]
        by_cases h0 : l[i] = 0
        · rw [if_pos h0, if_neg (by omega)]
        · rw [if_neg h0, if_pos (by omega)]
theorem ref_codes_neg (A : Option Addr) (c : Nat) (l : List Int) (w : World) (hr : RowOf w .i64 A c l) (hk0 : kraft l < 0) :
    Calls Try.prog 50 #[.slice A l.length c] w fun e w' => e = .returned (.tuple #[.slice none 0 0, .int .i64 7]) ∧ w' = w := by
  have hm := hr.most
  have hcap := hr.cap
  have HK := Lib.hid (ref_kraft A c l w hr)
  go_enter Try.func50, Try.ntmps50
  go_wp2_with fail
  refine HK.out.mono ?_
  rintro e w1 ⟨rfl, rfl⟩
  have e1 : decide (kraft l < 0) = true := by simp; omega
  go_wp2_with fail
  go_ret2
  exact ⟨rfl, rfl⟩
theorem ref_codes_over (A : Option Addr) (c : Nat) (l : List Int) (w : World) (hr : RowOf w .i64 A c l) (hl : l.length ≤ 65536) (hk0 : 0 ≤ kraft l) (hk1 : kind l = 4) :
    Calls Try.prog 50 #[.slice A l.length c] w fun e w' => e = .returned (.tuple #[.slice none 0 0, .int .i64 2]) ∧ w' = w := by
  have hm := hr.most
  have hcap := hr.cap
  have HK := Lib.hid (ref_kraft A c l w hr)
  have HD := Lib.hid (ref_kind A c l w hr hl)
  rw [hk1] at HD
  go_enter Try.func50, Try.ntmps50
  go_wp2_with fail
  refine HK.out.mono ?_
  rintro e w1 ⟨rfl, rfl⟩
  have e1 : decide (kraft l < 0) = false := by simp; omega
  go_wp2_with fail
  refine HD.out.mono ?_
  rintro e w2 ⟨rfl, rfl⟩
  go_wp2_with fail
  go_ret2
  exact ⟨rfl, rfl⟩
def strsOut (l : List Int) : List Value := if codesErr l = 0 then strs l else []
theorem ref_codes (A : Option Addr) (c : Nat) (l : List Int) (w : World) (hr : RowOf w .i64 A c l) (hl : l.length ≤ 65536) :
    Calls Try.prog 50 #[.slice A l.length c] w fun e w' =>
      ∃ v, e = .returned (.tuple #[v, .int .i64 (codesErr l)]) ∧ Own w' w.heap.size 9 v (strsOut l) ∧ Below w.heap.size w w' := by
  by_cases h0 : kraft l < 0
  · have e : codesErr l = 7 := by rw [codesErr, if_pos h0]
    have e2 : strsOut l = [] := by rw [strsOut, e]; rfl
    refine (ref_codes_neg A c l w hr h0).mono ?_
    rintro e w' ⟨rfl, rfl⟩
    rw [e, e2]
    exact ⟨_, rfl, Own.nil _ _ _, Below.refl _ _⟩
  · by_cases h1 : kind l = 4
    · have e : codesErr l = 2 := by rw [codesErr, if_neg h0, if_pos h1]
      have e2 : strsOut l = [] := by rw [strsOut, e]; rfl
      refine (ref_codes_over A c l w hr hl (by omega) h1).mono ?_
      rintro e w' ⟨rfl, rfl⟩
      rw [e, e2]
      exact ⟨_, rfl, Own.nil _ _ _, Below.refl _ _⟩
    · have e : codesErr l = 0 := by rw [codesErr, if_neg h0, if_neg h1]
      have e2 : strsOut l = strs l := by rw [strsOut, e]; rfl
      obtain ⟨g1, g2⟩ := kraft_good (l := l) (by omega)
      refine (ref_codes_ok A c l w hr (by omega) h1 g1 g2).mono ?_
      rintro e w' ⟨v, rfl, ho, hb⟩
      rw [e, e2]
      exact ⟨v, rfl, ho, hb⟩
end Go.Proofs.Yteknaaijlkenkaa
