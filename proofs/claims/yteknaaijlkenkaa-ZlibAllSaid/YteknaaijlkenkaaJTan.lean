import Derived.Test.YteknaaijlkenkaaJTab
import Derived.Test.YteknaaijlkenkaaCanR
namespace Go.Proofs.Yteknaaijlkenkaa
set_option linter.unusedVariables false
set_option linter.unusedSimpArgs false
open Go.RowKit
attribute [local go_sem] max2i min2i max2t min2t

/-! ### a table in memory -/
def tblF (F : Nat) (v : Value) (fr ct : Nat → Int) (i : Nat) : Value := if i = 0 then .int .i64 F else if i = 1 then v else if i < 18 then .int .u32 (fr (i - 2)) else .int .u32 (ct (i - 18))
abbrev TabB (w : World) (p F : Nat) (v : Value) (fr ct : Nat → Int) : Prop := Blk w p 130 (tab 34 (tblF F v fr ct))
section
variable {w : World} {p F : Nat} {v : Value} {fr ct : Nat → Int}
theorem TabB.first (h : TabB w p F v fr ct) : w.cell? ⟨p, 0, none⟩ = some (.int .i64 F) := by rw [Blk.cell h, tab_get (by omega)]; rfl
theorem TabB.rows (h : TabB w p F v fr ct) : w.cell? ⟨p, 1, none⟩ = some v := by rw [Blk.cell h, tab_get (by omega)]; rfl
theorem TabB.frm (h : TabB w p F v fr ct) {k : Nat} (hk : k < 16) : w.cell? ⟨p, 2 + k, none⟩ = some (.int .u32 (fr k)) := by
  rw [Blk.cell h, tab_get (by omega), tblF, if_neg (by omega), if_neg (by omega), if_pos (by omega), Nat.add_sub_cancel_left]
theorem TabB.cnt (h : TabB w p F v fr ct) {k : Nat} (hk : k < 16) : w.cell? ⟨p, 18 + k, none⟩ = some (.int .u32 (ct k)) := by
  rw [Blk.cell h, tab_get (by omega), tblF, if_neg (by omega), if_neg (by omega), if_neg (by omega), Nat.add_sub_cancel_left]
end
def begC (l : List Int) (c n : Nat) : Bool := (List.range l.length).any (fun j => decide (n < ln l j ∧ codeN l j / 2 ^ (ln l j - n) = c))
theorem begC_iff {l : List Int} (hg : Good l) {c n : Nat} : begC l c n = true ↔ ∃ j, n < ln l j ∧ codeN l j / 2 ^ (ln l j - n) = c := by
  unfold begC
  rw [List.any_eq_true]
  constructor
  · rintro ⟨j, _, h⟩; exact ⟨j, by simpa using h⟩
  · rintro ⟨j, h1, h2⟩; exact ⟨j, by rw [List.mem_range]; exact hg.lt (by omega), by simp [h1, h2]⟩
structure BgRel (w : World) (l : List Int) (c n : Nat) (g : Nat) (v7 : Value) (wr : World) : Prop where mk ::
  out_ : ∃ (k : Nat), n + 1 ≤ k ∧ k ≤ 16 ∧ 16 ≤ g + k ∧ v7 = .int .i64 (k : Int) ∧ (∀ j, n < ln l j → ln l j < k → codeN l j / 2 ^ (ln l j - n) ≠ c) ∧ Same (fun _ => False) w wr
set_option maxHeartbeats 1600000 in
set_option maxRecDepth 100000 in
theorem tab_begins {w : World} {p F : Nat} {v : Value} {fr ct : Nat → Int} {l : List Int} (hg : Good l) (h : TabB w p F v fr ct) (hfr : ∀ k, 1 ≤ k → k ≤ 15 → 0 < cnt l k → fr k = nxt l k) (hct : ∀ k, 1 ≤ k → k ≤ 15 → ct k = cnt l k)
    (c n : Nat) (hc : c < 2 ^ n) (hn : n ≤ 15) :
    Calls Try.prog 88 #[.pointer (some ⟨p, 0, none⟩), .int .u32 c, .int .i64 n] w fun e w' => e = .returned (.bool (begC l c n)) ∧ Same (fun _ => False) w w' := by
  obtain ⟨bq, hbq⟩ : ∃ b, begC l c n = b := ⟨_, rfl⟩
  rw [hbq]
  have HB := Lib.hid hbq
  clear hbq
  have HFR := Lib.hid hfr
  have HCT := Lib.hid hct
  clear hfr hct
  have hc15 : c < 32768 := Nat.lt_of_lt_of_le hc (by have := Nat.pow_le_pow_right (n := 2) (by decide) hn; simpa using this)
  go_enter Try.func88, Try.ntmps88
  go_wp2_with fail
  go_loopg [7] 16 (BgRel w l c n)
  case atStart => exact ⟨n + 1, by omega, by omega, by omega, by go_num, fun j j1 j2 => by omega, Same.refl _⟩
  case round =>
    obtain ⟨k, hk0, hk1, hgk, rfl, hA, hs⟩ := hrel
    have HA := Lib.hid hA
    clear hA
    have hpr : TabB wr p F v fr ct := Blk.same h hs (fun c => c)
    by_cases hk : k ≤ 15
    · have e0 : decide ((k : Int) ≤ 15) = true := by simp; omega
      have e0' : decide (k ≤ 15) = true := by simp; omega
      obtain ⟨m, hm, hms, _, _⟩ := hg.run (k := k) (by omega) hk
      have hsome := hg.ex (n := n) (c := c) (show n < k by omega) hk hm
      have hlow : c * 2 ^ (k - n) < 4294967296 ∧ (c + 1) * 2 ^ (k - n) < 4294967296 := by
        have h1 : (c + 1) * 2 ^ (k - n) ≤ 2 ^ n * 2 ^ (k - n) := Nat.mul_le_mul_right _ (by omega)
        rw [← Nat.pow_add, show n + (k - n) = k from by omega] at h1
        have h2 := Nat.pow_le_pow_right (n := 2) (by decide) hk
        have h3 : c * 2 ^ (k - n) ≤ (c + 1) * 2 ^ (k - n) := Nat.mul_le_mul_right _ (by omega)
        have : 2 ^ 15 = 32768 := by decide
        omega
      have hl1 : (c : Int) * 2 ^ (k - n) % 4294967296 = ((c * 2 ^ (k - n) : Nat) : Int) := by
        rw [Int.natCast_mul, Int.natCast_pow]
        have := hlow.1
        have e : ((c : Int) * ((2 : Nat) : Int) ^ (k - n)) = ((c * 2 ^ (k - n) : Nat) : Int) := by rw [Int.natCast_mul, Int.natCast_pow]
        rw [show (2 : Int) = ((2 : Nat) : Int) from rfl, e]; omega
      have hl2 : ((c : Int) + 1) * 2 ^ (k - n) % 4294967296 = (((c + 1) * 2 ^ (k - n) : Nat) : Int) := by
        have := hlow.2
        have e : (((c : Int) + 1) * ((2 : Nat) : Int) ^ (k - n)) = (((c + 1) * 2 ^ (k - n) : Nat) : Int) := by rw [Int.natCast_mul, Int.natCast_pow]; rfl
        rw [show (2 : Int) = ((2 : Nat) : Int) from rfl, e]; omega
      generalize c * 2 ^ (k - n) = lo at *
      generalize (c + 1) * 2 ^ (k - n) = hi at *
      have f0 := hpr.cnt (k := k) (by omega)
      rw [HCT.out k (by omega) hk] at f0
      have hkn : ((k : Int) - n) = ((k - n : Nat) : Int) := by omega
      have i1 : (k : Int) < 16 := by omega
      have fc : ∀ d : Ext (fun _ => False) wr, d.world.cell? ⟨p, 18 + k, none⟩ = some (.int .u32 (cnt l k)) := fun d => d.same.cell f0 (fun c => c)
      by_cases a1 : 0 < cnt l k
      · have f1 := hpr.frm (k := k) (by omega)
        rw [HFR.out k (by omega) hk a1, hm] at f1
        have ff : ∀ d : Ext (fun _ => False) wr, d.world.cell? ⟨p, 2 + k, none⟩ = some (.int .u32 m) := fun d => d.same.cell f1 (fun c => c)
        have b1 : decide ((0 : Int) < cnt l k) = true := by simp; omega
        have b1' : decide (0 < cnt l k) = true := by simp; omega
        by_cases a2 : m < hi
        · have b2 : decide ((m : Int) < hi) = true := by simp; omega
          have b2' : decide (m < hi) = true := by simp; omega
          by_cases a3 : lo < m + cnt l k
          · have hyes := hsome.1 ⟨a1, a2, a3⟩
            have hy : begC l c n = true := (begC_iff hg).2 (by obtain ⟨j, j1, j2⟩ := hyes; exact ⟨j, by omega, by rw [j1]; exact j2⟩)
            have b3 : decide ((lo : Int) < m + cnt l k) = true := by simp; omega
            have b3' : decide (lo < m + cnt l k) = true := by simp; omega
            have HY := Lib.hid hy
            clear hsome hyes hy hm a1 a2 a3
            generalize cnt l k = q at *
            go_wp2_with fail
            refine wp_region_ext (fun _ => False) (by kernel_rfl) (by kernel_rfl) ?_
            repeat (go_big_quiet_step (fail))
            refine wpQuiet_nil ?_
            rintro _ ⟨d, rfl⟩
            go_wp2_with fail
            go_ret
            exact ⟨by rw [← HB.out, HY.out]; rfl, hs.then d.same⟩
          · have b3 : decide ((lo : Int) < m + cnt l k) = false := by simp; omega
            have b3' : decide (lo < m + cnt l k) = false := by simp; omega
            have HNO := Lib.hid (fun hh => a3 (hsome.2 hh).2.2)
            clear hsome hm a1 a2 a3
            generalize cnt l k = q at *
            go_wp2_with fail
            refine wp_region_ext (fun _ => False) (by kernel_rfl) (by kernel_rfl) ?_
            repeat (go_big_quiet_step (fail))
            refine wpQuiet_nil ?_
            rintro _ ⟨d, rfl⟩
            go_wp2_with fail
            go_roundg (gk - 1)
            case measure => omega
            case rel =>
              refine ⟨k + 1, by omega, by omega, by omega, by go_num, fun j j1 j2 => ?_, hs.then d.same⟩
              by_cases e : ln l j = k
              · rw [e]; exact fun e2 => HNO.out ⟨j, e, e2⟩
              · exact HA.out j j1 (by omega)
        · have b2 : decide ((m : Int) < hi) = false := by simp; omega
          have b2' : decide (m < hi) = false := by simp; omega
          have HNO := Lib.hid (fun hh => a2 (hsome.2 hh).2.1)
          clear hsome hm a1 a2
          generalize cnt l k = q at *
          go_wp2_with fail
          refine wp_region_ext (fun _ => False) (by kernel_rfl) (by kernel_rfl) ?_
          repeat (go_big_quiet_step (fail))
          refine wpQuiet_nil ?_
          rintro _ ⟨d, rfl⟩
          go_wp2_with fail
          go_roundg (gk - 1)
          case measure => omega
          case rel =>
            refine ⟨k + 1, by omega, by omega, by omega, by go_num, fun j j1 j2 => ?_, hs.then d.same⟩
            by_cases e : ln l j = k
            · rw [e]; exact fun e2 => HNO.out ⟨j, e, e2⟩
            · exact HA.out j j1 (by omega)
      · have b1 : decide ((0 : Int) < cnt l k) = false := by simp; omega
        have b1' : decide (0 < cnt l k) = false := by simp; omega
        have HNO := Lib.hid (fun hh => a1 (hsome.2 hh).1)
        clear hsome hm a1
        generalize cnt l k = q at *
        go_wp2_with fail
        refine wp_region_ext (fun _ => False) (by kernel_rfl) (by kernel_rfl) ?_
        repeat (go_big_quiet_step (fail))
        refine wpQuiet_nil ?_
        rintro _ ⟨d, rfl⟩
        go_wp2_with fail
        go_roundg (gk - 1)
        case measure => omega
        case rel =>
          refine ⟨k + 1, by omega, by omega, by omega, by go_num, fun j j1 j2 => ?_, hs.then d.same⟩
          by_cases e : ln l j = k
          · rw [e]; exact fun e2 => HNO.out ⟨j, e, e2⟩
          · exact HA.out j j1 (by omega)
    · have e0 : decide ((k : Int) ≤ 15) = false := by simp; omega
      have e0' : decide (k ≤ 15) = false := by simp; omega
      have hno : begC l c n = false := by
        rw [Bool.eq_false_iff]
        intro hh
        obtain ⟨j, j1, j2⟩ := (begC_iff hg).1 hh
        exact HA.out j j1 (by have := (hg.at_ j).1; omega) j2
      have HY := Lib.hid hno
      clear hno
      go_wp2_with fail
      go_ret
      exact ⟨by rw [← HB.out, HY.out]; rfl, hs⟩
end Go.Proofs.Yteknaaijlkenkaa
namespace Go.Proofs.Yteknaaijlkenkaa
open Go.RowKit
attribute [local go_sem] max2i min2i max2t min2t

def flat (P : List Pl) : List Value := P.flatMap fun x => [.int .i64 x.k, .int .i64 x.s, .int .i64 x.n]
theorem flat_length (P : List Pl) : (flat P).length = P.length * 3 := by
  unfold flat
  induction P with
  | nil => rfl
  | cons x P ih => rw [List.flatMap_cons, List.length_append, ih, List.length_cons]; simp; omega
theorem flat_at : ∀ {P : List Pl} {q : Nat}, q < P.length → (flat P)[q * 3]? = some (.int .i64 (pg P q).k) ∧ (flat P)[q * 3 + 1]? = some (.int .i64 (pg P q).s) ∧ (flat P)[q * 3 + 2]? = some (.int .i64 (pg P q).n)
  | [], _, h => by simp at h
  | x :: P, 0, _ => ⟨rfl, rfl, rfl⟩
  | x :: P, q + 1, h => by
    have ih := flat_at (P := P) (q := q) (by simpa using h)
    have e : flat (x :: P) = .int .i64 x.k :: .int .i64 x.s :: .int .i64 x.n :: flat P := rfl
    rw [e, show (q + 1) * 3 = q * 3 + 3 from by omega, show q * 3 + 3 + 1 = (q * 3 + 1) + 3 from by omega, show q * 3 + 3 + 2 = (q * 3 + 2) + 3 from by omega]
    exact ih
structure TabAt (w : World) (base p F : Nat) (v : Value) (P : List Pl) (fr ct : Nat → Int) : Prop where
  pb : TabB w p F v fr ct
  row : w.ownsRow base 134 3 v P.length (flat P)
theorem ownsRow_kept {S : Nat → Prop} {w w' : World} {base : Nat} {e : TypeId} {m : Nat} {v : Value} {n : Nat} {xs : List Value} (h : w.ownsRow base e m v n xs) (hs : Same S w w') (hv : ∀ g, v.ownBlock = some g → ¬ S g) : w'.ownsRow base e m v n xs := by
  obtain ⟨h1, h2⟩ := h
  refine ⟨h1, ?_⟩
  rcases h2 with h2 | ⟨g, cap, cur, rfl, hb, hh, r⟩
  · exact .inl h2
  · exact .inr ⟨g, cap, cur, rfl, hb, (hs.block g (Array.getElem?_eq_some_iff.1 hh).1 (hv g rfl)).trans hh, r⟩
section
variable {w w' : World} {base p F : Nat} {v : Value} {P : List Pl} {fr ct : Nat → Int}
theorem TabAt.kept {S : Nat → Prop} (h : TabAt w base p F v P fr ct) (hs : Same S w w') (hp : ¬ S p) (hv : ∀ g, v.ownBlock = some g → ¬ S g) : TabAt w' base p F v P fr ct := ⟨Blk.same h.pb hs hp, ownsRow_kept h.row hs hv⟩
theorem TabAt.same (h : TabAt w base p F v P fr ct) (hs : Same (fun _ => False) w w') : TabAt w' base p F v P fr ct := h.kept hs (fun c => c) (fun _ _ c => c)
theorem TabAt.form (h : TabAt w base p F v P fr ct) (h0 : 0 < P.length) : ∃ g cap, v = .slice (some ⟨g, 0, none⟩) P.length cap ∧ P.length ≤ cap ∧ cap ≤ 9223372036854775807 ∧ base ≤ g ∧ g < w.heap.size ∧ g ≠ p ∧
    ∀ q, q < P.length → w.cell? ⟨g, q * 3, none⟩ = some (.int .i64 (pg P q).k) ∧ w.cell? ⟨g, q * 3 + 1, none⟩ = some (.int .i64 (pg P q).s) ∧ w.cell? ⟨g, q * 3 + 2, none⟩ = some (.int .i64 (pg P q).n) := by
  have hr := h.row
  rcases h.row.2 with ⟨e, hn⟩ | ⟨g, cap, cur, rfl, hbg, hg, hnc, hcm, _, _⟩
  · omega
  · refine ⟨g, cap, rfl, hnc, by simpa [maxLen] using hcm, hbg, (Array.getElem?_eq_some_iff.1 hg).1, fun e => ?_, fun q hq => ?_⟩
    · have := Blk.ne_ (t := 134) hg h.pb (by decide)
      exact this e
    · have hc := fun j u hu => World.ownsRow.cells hr (g := g) rfl j u hu
      obtain ⟨a, b, c⟩ := flat_at hq
      have h1 := hc _ _ a
      have h2 := hc _ _ b
      have h3 := hc _ _ c
      rw [Addr.add_lit, Nat.zero_add] at h1 h2 h3
      exact ⟨h1, h2, h3⟩
end
structure TFin (l : List Int) (F : Nat) (P : List Pl) (fr ct : Nat → Int) : Prop where
  good : Good l
  lo : 1 ≤ F
  hi : F ≤ 15
  inv : ∃ D, TInv l F D l.length l.length P ∧ ∀ p, p < 2 ^ F → D.getD p 0 ≤ 15
  fr : ∀ k, 1 ≤ k → k ≤ 15 → 0 < cnt l k → fr k = nxt l k
  ct : ∀ k, 1 ≤ k → k ≤ 15 → ct k = cnt l k
theorem mask_u32 (x n : Nat) (hn : n ≤ 31) : bits .and .u32 (x : Int) ((2 ^ n - 1) % 4294967296) = ((x % 2 ^ n : Nat) : Int) := by
  have hp := Nat.pow_le_pow_right (n := 2) (by decide) hn
  have h0 : 0 < 2 ^ n := Nat.pow_pos (by decide)
  have e : ((2 : Int) ^ n - 1) % 4294967296 = ((2 ^ n - 1 : Nat) : Int) := by
    have : ((2 : Int) ^ n) = ((2 ^ n : Nat) : Int) := by rw [Int.natCast_pow]; rfl
    rw [this]; omega
  rw [e, and_maskK .u32 (.inl rfl) _ _ (by show n ≤ 32; omega), Int.natCast_emod]
theorem find_cases {l : List Int} {F : Nat} {D : List Nat} {P : List Pl} (hg : Good l) (hI : TInv l F D l.length l.length P) {vm n yk ys yn : Nat} (hv : vm < 2 ^ n) (hy : look P F vm = ⟨yk, ys, yn⟩) :
    (yk = 1 ∧ yn ≤ n ∧ findN l vm n = (ys, yn, 0)) ∨ ((yk = 1 ∧ n < yn ∨ yk = 0) ∧ findN l vm n = if begC l (turnN vm n) n then (0, 0, 5) else (0, 0, 2)) := by
  have hb : begC l (turnN vm n) n = begN l vm n := by
    rw [Bool.eq_iff_iff, begC_iff hg, begN_iff hg]
    constructor
    · rintro ⟨j, h1, h2⟩; exact ⟨j, h1, (hg.tc_beg h1 hv).2 h2⟩
    · rintro ⟨j, h1, h2⟩; exact ⟨j, h1, (hg.tc_beg h1 hv).1 h2⟩
  rw [hb]
  by_cases hex : ∃ j, mt l j vm
  · obtain ⟨j, hj⟩ := hex
    have h1 := hI.look1 vm j (hg.lt hj.1) hj
    rw [hy] at h1
    injection h1 with e1 e2 e3
    subst e1 e2 e3
    by_cases hn : ln l ys ≤ n
    · exact .inl ⟨rfl, hn, by unfold findN; rw [hg.hit hj hn]⟩
    · refine .inr ⟨.inl ⟨rfl, by omega⟩, ?_⟩
      have : hitN l vm n = none := by
        cases hh : hitN l vm n with
        | none => rfl
        | some i =>
          obtain ⟨a, b⟩ := hit_some hh
          have := hg.one a hj
          subst this
          omega
      unfold findN
      rw [this]
  · have h0 := hI.look0 vm (fun j _ hm => hex ⟨j, hm⟩)
    rw [hy] at h0
    refine .inr ⟨.inr h0, ?_⟩
    have : hitN l vm n = none := by
      cases hh : hitN l vm n with
      | none => rfl
      | some i => exact absurd ⟨i, (hit_some hh).1⟩ hex
    unfold findN
    rw [this]
set_option maxHeartbeats 1600000 in
set_option maxRecDepth 100000 in
theorem tab_find {w : World} {base p F : Nat} {vv : Value} {P : List Pl} {fr ct : Nat → Int} {l : List Int} (h : TabAt w base p F vv P fr ct) (hF : TFin l F P fr ct) (v : Nat) (hv : v < 4294967296) (ni : Int) (n : Nat) (hni : min (max ni 0) 15 = n) :
    Calls Try.prog 82 #[.pointer (some ⟨p, 0, none⟩), .int .u32 v, .int .i64 ni] w fun e w' => e = .returned (.tuple #[.int .i64 (findN l (v % 2 ^ n) n).1, .int .i64 (findN l (v % 2 ^ n) n).2.1, .int .i64 (findN l (v % 2 ^ n) n).2.2]) ∧ Below w.heap.size w w' := by
  have hn : n ≤ 15 := by omega
  have hg := hF.good
  obtain ⟨D, hI, hD⟩ := hF.inv
  have hlo := hF.lo
  have hhi := hF.hi
  have hpos : 0 < P.length := Nat.lt_of_lt_of_le (Nat.pow_pos (by decide)) hI.len
  obtain ⟨g, cap, rfl, hc1, hc2, hbg, hgl, hgp, hcell⟩ := h.form hpos
  have f0 := TabB.first h.pb
  have f1 := TabB.rows h.pb
  have hpl : p < w.heap.size := Blk.lt h.pb
  have hpn : p ≠ w.heap.size := by omega
  have hgn : g ≠ w.heap.size := by omega
  have HC := Lib.hid hcell
  clear hcell
  have m1 := mask_u32 v n (by omega)
  generalize hvm : v % 2 ^ n = vm at *
  have hvm2 : vm < 2 ^ n := by rw [← hvm]; exact Nat.mod_lt _ (Nat.pow_pos (by decide))
  have hvm3 : vm < 32768 := Nat.lt_of_lt_of_le hvm2 (by have := Nat.pow_le_pow_right (n := 2) (by decide) hn; simpa using this)
  obtain ⟨a1, a2, a3, hres⟩ : ∃ a1 a2 a3, findN l vm n = (a1, a2, a3) := ⟨_, _, _, rfl⟩
  rw [hres]
  have m2 := mask_u32 vm F (by omega)
  have hi1 : vm % 2 ^ F < 2 ^ F := Nat.mod_lt _ (Nat.pow_pos (by decide))
  have hlen := hI.len
  obtain ⟨xk, xs, xn, hx⟩ : ∃ a b c, pg P (vm % 2 ^ F) = ⟨a, b, c⟩ := ⟨_, _, _, rfl⟩
  have hlook : look P F vm = if xk = 2 then pg P (xs + vm / 2 ^ F % 2 ^ xn) else ⟨xk, xs, xn⟩ := by unfold look; rw [hx]
  have hmore := hI.more (vm % 2 ^ F) hi1
  rw [hx] at hmore
  have hi1l : vm % 2 ^ F < P.length := by omega
  obtain ⟨c0, c1, c2⟩ := HC.out _ hi1l
  rw [hx] at c0 c1 c2
  have hD1 := hD _ hi1
  clear hvm
  by_cases hk : xk = 2
  · obtain ⟨o1, o2, o3⟩ := hmore hk
    simp only at o1 o2 o3
    rw [if_pos hk] at hlook
    have m3 := mask_u32 (vm / 2 ^ F) xn (by omega)
    have hr := Nat.mod_lt (vm / 2 ^ F) (Nat.pow_pos (n := xn) (show 0 < 2 by decide))
    rw [← o1] at o3
    have hi2 : xs + vm / 2 ^ F % 2 ^ xn < P.length := by omega
    obtain ⟨yk, ys, yn, hy⟩ : ∃ a b c, pg P (xs + vm / 2 ^ F % 2 ^ xn) = ⟨a, b, c⟩ := ⟨_, _, _, rfl⟩
    obtain ⟨b0, b1, b2⟩ := HC.out _ hi2
    rw [hy] at b0 b1 b2 hlook
    have hxn : xn ≤ 15 := by omega
    have hdv : (vm : Int) / 2 ^ F = ((vm / 2 ^ F : Nat) : Int) := by rw [Int.natCast_ediv, Int.natCast_pow]; rfl
    have hdl : vm / 2 ^ F ≤ vm := Nat.div_le_self _ _
    clear hy hx o1 hmore
    subst hk
    have hi2i : (xs : Int) + ((vm / 2 ^ F % 2 ^ xn : Nat) : Int) < P.length := by omega
    have hi2j : 0 ≤ (xs : Int) + ((vm / 2 ^ F % 2 ^ xn : Nat) : Int) := by omega
    have hi2t : ((xs : Int) + ((vm / 2 ^ F % 2 ^ xn : Nat) : Int)).toNat = xs + vm / 2 ^ F % 2 ^ xn := by omega
    have hi2w : IntKind.i64.wrap ((xs : Int) + ((vm / 2 ^ F % 2 ^ xn : Nat) : Int)) = (xs : Int) + ((vm / 2 ^ F % 2 ^ xn : Nat) : Int) := IntWalk.i64_in _ (by omega)
    generalize vm / 2 ^ F % 2 ^ xn = r at *
    generalize vm / 2 ^ F = qv at *
    generalize vm % 2 ^ F = i1 at *
    rcases find_cases hg hI hvm2 hlook with ⟨k1, k2, k3⟩ | ⟨k1, k3⟩
    · subst k1
      have d1 : decide ((yn : Int) ≤ n) = true := by simp; omega
      have d2 : decide (yn ≤ n) = true := by simp; omega
      rw [hres] at k3
      have K3 := Lib.hid k3
      clear k3
      go_enter Try.func82, Try.ntmps82
      go_wp2_with fail
      go_region
      go_wp2_with fail
      go_region

      go_wp2_with fail
      go_region
      go_wp2_with fail
      go_ret3
      refine ⟨?_, ?_⟩
      · obtain ⟨rfl, rfl, rfl⟩ : a1 = _ ∧ a2 = _ ∧ a3 = _ := by have := K3.out; simp only [Prod.mk.injEq] at this; exact this
        rfl
      · first | exact (((Below.refl _ _).alloc (Nat.le_refl _) _).drew).drew | exact ((((Below.refl _ _).alloc (Nat.le_refl _) _).drew).drew).drew
    · rw [hres] at k3
      have K3 := Lib.hid k3
      clear k3
      rcases k1 with ⟨k1, k2⟩ | k1
      · subst k1
        have d1 : decide ((yn : Int) ≤ n) = false := by simp; omega
        have d2 : decide (yn ≤ n) = false := by simp; omega
        go_enter Try.func82, Try.ntmps82
        go_wp2_with fail
        go_region
        go_wp2_with fail
        go_region

        go_wp2_with fail
        refine (tab_turned vm n _ hvm2 hn).mono ?_
        rintro e w2 ⟨rfl, hw⟩
        have hB2 : Below w.heap.size w w2 := by
          rw [hw]
          first | exact ((Below.refl _ _).alloc (Nat.le_refl _) _).drew | exact (((Below.refl _ _).alloc (Nat.le_refl _) _).drew).drew
        clear hw
        have hp2 : TabB w2 p F (.slice (some ⟨g, 0, none⟩) P.length cap) fr ct := Blk.below h.pb hB2 hpl
        go_wp2_with fail
        refine (tab_begins hg hp2 hF.fr hF.ct (turnN vm n) n (turnN_lt _ _) hn).mono ?_
        rintro e w3 ⟨rfl, hs3⟩
        have hB3 := hs3.below_of hB2 hB2.size (fun _ _ c => c)
        clear hs3 hp2 hB2
        cases hbc : begC l (turnN vm n) n with
        | true =>
          rw [hbc] at K3
          clear hbc
          go_wp2_with fail
          go_ret3
          refine ⟨?_, hB3⟩
          obtain ⟨rfl, rfl, rfl⟩ : a1 = _ ∧ a2 = _ ∧ a3 = _ := by have := K3.out; simp only [if_true, Prod.mk.injEq] at this; exact this
          rfl
        | false =>
          rw [hbc] at K3
          clear hbc
          go_wp2_with fail
          go_ret3
          refine ⟨?_, hB3⟩
          obtain ⟨rfl, rfl, rfl⟩ : a1 = _ ∧ a2 = _ ∧ a3 = _ := by have := K3.out; simp only [Bool.false_eq_true, if_false, Prod.mk.injEq] at this; exact this
          rfl
      · subst k1
        go_enter Try.func82, Try.ntmps82
        go_wp2_with fail
        go_region
        go_wp2_with fail
        go_region

        go_wp2_with fail
        refine (tab_turned vm n _ hvm2 hn).mono ?_
        rintro e w2 ⟨rfl, hw⟩
        have hB2 : Below w.heap.size w w2 := by
          rw [hw]
          first | exact ((Below.refl _ _).alloc (Nat.le_refl _) _).drew | exact (((Below.refl _ _).alloc (Nat.le_refl _) _).drew).drew
        clear hw
        have hp2 : TabB w2 p F (.slice (some ⟨g, 0, none⟩) P.length cap) fr ct := Blk.below h.pb hB2 hpl
        go_wp2_with fail
        refine (tab_begins hg hp2 hF.fr hF.ct (turnN vm n) n (turnN_lt _ _) hn).mono ?_
        rintro e w3 ⟨rfl, hs3⟩
        have hB3 := hs3.below_of hB2 hB2.size (fun _ _ c => c)
        clear hs3 hp2 hB2
        cases hbc : begC l (turnN vm n) n with
        | true =>
          rw [hbc] at K3
          clear hbc
          go_wp2_with fail
          go_ret3
          refine ⟨?_, hB3⟩
          obtain ⟨rfl, rfl, rfl⟩ : a1 = _ ∧ a2 = _ ∧ a3 = _ := by have := K3.out; simp only [if_true, Prod.mk.injEq] at this; exact this
          rfl
        | false =>
          rw [hbc] at K3
          clear hbc
          go_wp2_with fail
          go_ret3
          refine ⟨?_, hB3⟩
          obtain ⟨rfl, rfl, rfl⟩ : a1 = _ ∧ a2 = _ ∧ a3 = _ := by have := K3.out; simp only [Bool.false_eq_true, if_false, Prod.mk.injEq] at this; exact this
          rfl
  · rw [if_neg hk] at hlook
    have e0 : ((xk : Int) == 2) = false := by rw [beq_eq_false_iff_ne]; omega
    clear hx hmore hk
    generalize vm % 2 ^ F = i1 at *
    rcases find_cases hg hI hvm2 hlook with ⟨k1, k2, k3⟩ | ⟨k1, k3⟩
    · subst k1
      have d1 : decide ((xn : Int) ≤ n) = true := by simp; omega
      have d2 : decide (xn ≤ n) = true := by simp; omega
      rw [hres] at k3
      have K3 := Lib.hid k3
      clear k3
      go_enter Try.func82, Try.ntmps82
      go_wp2_with fail
      go_region
      go_wp2_with fail
      skip
      go_region
      go_wp2_with fail
      go_ret3
      refine ⟨?_, ?_⟩
      · obtain ⟨rfl, rfl, rfl⟩ : a1 = _ ∧ a2 = _ ∧ a3 = _ := by have := K3.out; simp only [Prod.mk.injEq] at this; exact this
        rfl
      · first | exact (((Below.refl _ _).alloc (Nat.le_refl _) _).drew).drew | exact ((((Below.refl _ _).alloc (Nat.le_refl _) _).drew).drew).drew
    · rw [hres] at k3
      have K3 := Lib.hid k3
      clear k3
      rcases k1 with ⟨k1, k2⟩ | k1
      · subst k1
        have d1 : decide ((xn : Int) ≤ n) = false := by simp; omega
        have d2 : decide (xn ≤ n) = false := by simp; omega
        go_enter Try.func82, Try.ntmps82
        go_wp2_with fail
        go_region
        go_wp2_with fail
        skip
        refine (tab_turned vm n _ hvm2 hn).mono ?_
        rintro e w2 ⟨rfl, hw⟩
        have hB2 : Below w.heap.size w w2 := by
          rw [hw]
          first | exact ((Below.refl _ _).alloc (Nat.le_refl _) _).drew | exact (((Below.refl _ _).alloc (Nat.le_refl _) _).drew).drew
        clear hw
        have hp2 : TabB w2 p F (.slice (some ⟨g, 0, none⟩) P.length cap) fr ct := Blk.below h.pb hB2 hpl
        go_wp2_with fail
        refine (tab_begins hg hp2 hF.fr hF.ct (turnN vm n) n (turnN_lt _ _) hn).mono ?_
        rintro e w3 ⟨rfl, hs3⟩
        have hB3 := hs3.below_of hB2 hB2.size (fun _ _ c => c)
        clear hs3 hp2 hB2
        cases hbc : begC l (turnN vm n) n with
        | true =>
          rw [hbc] at K3
          clear hbc
          go_wp2_with fail
          go_ret3
          refine ⟨?_, hB3⟩
          obtain ⟨rfl, rfl, rfl⟩ : a1 = _ ∧ a2 = _ ∧ a3 = _ := by have := K3.out; simp only [if_true, Prod.mk.injEq] at this; exact this
          rfl
        | false =>
          rw [hbc] at K3
          clear hbc
          go_wp2_with fail
          go_ret3
          refine ⟨?_, hB3⟩
          obtain ⟨rfl, rfl, rfl⟩ : a1 = _ ∧ a2 = _ ∧ a3 = _ := by have := K3.out; simp only [Bool.false_eq_true, if_false, Prod.mk.injEq] at this; exact this
          rfl
      · subst k1
        go_enter Try.func82, Try.ntmps82
        go_wp2_with fail
        go_region
        go_wp2_with fail
        skip
        refine (tab_turned vm n _ hvm2 hn).mono ?_
        rintro e w2 ⟨rfl, hw⟩
        have hB2 : Below w.heap.size w w2 := by
          rw [hw]
          first | exact ((Below.refl _ _).alloc (Nat.le_refl _) _).drew | exact (((Below.refl _ _).alloc (Nat.le_refl _) _).drew).drew
        clear hw
        have hp2 : TabB w2 p F (.slice (some ⟨g, 0, none⟩) P.length cap) fr ct := Blk.below h.pb hB2 hpl
        go_wp2_with fail
        refine (tab_begins hg hp2 hF.fr hF.ct (turnN vm n) n (turnN_lt _ _) hn).mono ?_
        rintro e w3 ⟨rfl, hs3⟩
        have hB3 := hs3.below_of hB2 hB2.size (fun _ _ c => c)
        clear hs3 hp2 hB2
        cases hbc : begC l (turnN vm n) n with
        | true =>
          rw [hbc] at K3
          clear hbc
          go_wp2_with fail
          go_ret3
          refine ⟨?_, hB3⟩
          obtain ⟨rfl, rfl, rfl⟩ : a1 = _ ∧ a2 = _ ∧ a3 = _ := by have := K3.out; simp only [if_true, Prod.mk.injEq] at this; exact this
          rfl
        | false =>
          rw [hbc] at K3
          clear hbc
          go_wp2_with fail
          go_ret3
          refine ⟨?_, hB3⟩
          obtain ⟨rfl, rfl, rfl⟩ : a1 = _ ∧ a2 = _ ∧ a3 = _ := by have := K3.out; simp only [Bool.false_eq_true, if_false, Prod.mk.injEq] at this; exact this
          rfl
end Go.Proofs.Yteknaaijlkenkaa
namespace Go.Proofs.Yteknaaijlkenkaa
open Go.RowKit
attribute [local go_sem] max2i min2i max2t min2t

theorem nats_at (D : List Nat) (p : Nat) : (nats D)[p]? = D[p]?.map (fun n : Nat => (n : Int)) := by simp [nats]
theorem nats_getD (D : List Nat) {p : Nat} (h : p < D.length) : (nats D).getD p 0 = ((D.getD p 0 : Nat) : Int) := by
  rw [List.getD_eq_getElem?_getD, nats_at, List.getD_eq_getElem?_getD, List.getElem?_eq_getElem h]; rfl
theorem nats_set (D : List Nat) (p n : Nat) : (nats D).set p (n : Int) = nats (D.set p n) := by simp [nats, List.map_set]
structure DpRel (w : World) (l : List Int) (F g0 : Nat) (g : Nat) (v19 : Value) (wr : World) : Prop where mk ::
  out_ : ∃ (k : Nat) (D : List Nat), k ≤ l.length ∧ l.length ≤ g + k ∧ v19 = .int .i64 (k : Int) ∧ Own wr w.heap.size 3 (.slice (some ⟨g0, 0, none⟩) (2 ^ F) (2 ^ F)) (ints .i64 (nats D)) ∧ D.length = 2 ^ F ∧ (∀ p, D.getD p 0 ≤ 15 - F) ∧
    (∀ i, i < k → F < ln l i → ln l i - F ≤ D.getD (tc l i % 2 ^ F) 0) ∧ Below w.heap.size w wr
set_option maxHeartbeats 1600000 in
set_option maxRecDepth 100000 in
theorem tab_deep {w : World} {p F gl capl N : Nat} {fr ct : Nat → Int} {l : List Int} {A A2 : Option Addr} {c c2 : Nat} (hg : Good l) (hF1 : 1 ≤ F) (hF : F ≤ 15) (hN : N = 2 ^ F) (h : TabB w p F (.slice (some ⟨gl, 0, none⟩) N capl) fr ct)
    (hr : RowOf w .i64 A c l) (hr2 : RowOf w .u32 A2 c2 (codes l)) :
    Calls Try.prog 84 #[.pointer (some ⟨p, 0, none⟩), .slice A l.length c, .slice A2 l.length c2] w fun e w' => ∃ g cap D, e = .returned (.slice (some ⟨g, 0, none⟩) N cap) ∧ Own w' w.heap.size 3 (.slice (some ⟨g, 0, none⟩) N cap) (ints .i64 (nats D)) ∧ D.length = N ∧ (∀ p, D.getD p 0 ≤ 15 - F) ∧
      (∀ i, i < l.length → F < ln l i → ln l i - F ≤ D.getD (tc l i % 2 ^ F) 0) ∧ Below w.heap.size w w' := by
  have hm := hr.most
  have hcap := hr.cap
  have hN1 : 2 ≤ N ∧ N ≤ 32768 := by
    have h1 := Nat.pow_le_pow_right (n := 2) (by decide) hF
    have h2 := Nat.pow_le_pow_right (n := 2) (by decide) hF1
    have : 2 ^ 15 = 32768 := by decide
    omega
  obtain ⟨hN2, hN3⟩ := hN1
  have hmk := run_make1 (P := Try.prog) 97 3 (.int .i64 0) 8 Try.underlying97 Try.intinfo rfl N N (Nat.le_refl _) (by omega) (by omega)
  have f0 := TabB.first h
  have f1 := TabB.rows h
  have hpl : p < w.heap.size := Blk.lt h
  have HN := Lib.hid hN
  have ho1 : Own (w.alloc (.cells (madeCells #[.int .i64 0] N) 3)) w.heap.size 3 (.slice (some ⟨w.heap.size, 0, none⟩) N N) (ints .i64 (nats (List.replicate N 0))) := by
    have e : (ints .i64 (nats (List.replicate N 0))) = List.replicate N (.int .i64 0) := by simp [ints, nats]
    rw [e]
    refine ⟨by simp, .inr ⟨w.heap.size, N, madeCells #[.int .i64 0] N, by simp, Nat.le_refl _, heap_alloc_new w _, by simp, by simp [maxLen]; omega, by simp [madeCells], ?_⟩⟩
    rw [made_tab, List.length_replicate]
    apply List.ext_getElem
    · simp [tab]
    · intro i h1 h2
      simp [tab]
  have hB := (Below.refl w.heap.size w).alloc (Nat.le_refl _) (.cells (madeCells #[.int .i64 0] N) 3)
  clear hN
  go_enter Try.func84, Try.ntmps84
  go_wp2_with fail
  clear hmk
  generalize w.alloc (.cells (madeCells #[.int .i64 0] N) 3) = w2 at *
  go_loopg [19] l.length (DpRel w l F w.heap.size)
  case atStart => exact ⟨0, List.replicate N 0, by omega, by omega, rfl, by rw [← HN.out]; exact ho1, by simp [HN.out], fun p => by simp [List.getD_eq_getElem?_getD, List.getElem?_replicate]; split <;> simp, fun i hi => by omega, hB⟩
  case round =>
    clear ho1 hB
    obtain ⟨k, D, hk, hgk, rfl, ho, hDl, hD1, hD2, hB⟩ := hrel
    rw [← HN.out] at ho hDl
    have HD1 := Lib.hid hD1
    have HD2 := Lib.hid hD2
    have HDL := Lib.hid hDl
    clear hD1 hD2 hDl
    by_cases hlt : k < l.length
    · have hgat := hg.at_ k
      obtain ⟨x, hx⟩ : ∃ x, l[k]? = some x := ⟨_, List.getElem?_eq_getElem hlt⟩
      have hln : l.getD k 0 = x := by rw [List.getD_eq_getElem?_getD, hx]; rfl
      obtain ⟨n, hn⟩ : ∃ n, n = ln l k := ⟨_, rfl⟩
      rw [← hn] at hgat
      obtain rfl : x = n := by rw [← hln]; exact hgat.2
      obtain ⟨ad, rfl, q0⟩ := hr.rd k n hx
      have q0 := (hB.cell (World.block_lt_of_cell? w _ q0)).trans q0
      have hn15 := hgat.1
      have f0 := (hB.cell (p := ⟨p, 0, none⟩) hpl).trans f0
      clear hx hln hgat
      by_cases hnF : F < n
      · have d1 : decide ((F : Int) < n) = true := by simp; omega
        have d1' : decide (F < n) = true := by simp; omega
        obtain ⟨hco, hcl⟩ := hg.cod (j := k) (by omega)
        obtain ⟨ad2, rfl, q2⟩ := hr2.rd k (code l k) (by simp [codes, hlt])
        rw [hco] at q2
        have q2 := (hB.cell (World.block_lt_of_cell? w _ q2)).trans q2
        have htt := hg.tc_turn (j := k) (by omega)
        rw [← hn] at hcl htt
        have HT := Lib.hid (tab_turned (codeN l k) n wr hcl hn15)
        rw [← htt] at HT
        have hm1 : bits .and .u32 (tc l k : Int) ((N : Int) - 1) = ((tc l k % 2 ^ F : Nat) : Int) := by
          have := and_maskK .u32 (.inl rfl) (tc l k : Int) F (by show F ≤ 32; omega)
          rw [← HN.out, show ((N - 1 : Nat) : Int) = (N : Int) - 1 from by omega] at this
          rw [this, ← HN.out, Int.natCast_emod]
        have hpp : tc l k % 2 ^ F < N := by rw [HN.out]; exact Nat.mod_lt _ (Nat.pow_pos (by decide))
        have htl : tc l k < 2 ^ 15 := Nat.lt_of_lt_of_le (hg.tc_lt (i := k) (by omega)) (Nat.pow_le_pow_right (by decide) (by omega))
        obtain ⟨q, hq⟩ : ∃ q, tc l k % 2 ^ F = q := ⟨_, rfl⟩
        rw [hq] at hm1 hpp
        have HQQ := Lib.hid hq
        clear hq htt hcl hco
        obtain ⟨tt, htt2⟩ : ∃ tt, tc l k = tt := ⟨_, rfl⟩
        rw [htt2] at hm1 HT htl
        have HTT := Lib.hid htt2
        clear htt2
        generalize codeN l k = cc at *
        have cI := ho.cellI (i := q) (by rw [nats_length, HDL.out]; omega)
        rw [nats_getD _ (by rw [HDL.out]; exact hpp)] at cI
        have fI := ho.frozenI q
        have hDq := HD1.out q
        generalize hdq : D.getD q 0 = dq at *
        have HDQ := Lib.hid hdq
        clear hdq
        have hgs := fun (u : Nat) => ho.drew.set_ q (u : Int)
        have HGS := Lib.hid hgs
        have hpn : p ≠ w.heap.size := by omega
        have cId := (show wr.drew.cell? ⟨w.heap.size, q, none⟩ = _ from cI)
        have HNn := Lib.hid hn
        obtain ⟨u, hu⟩ : ∃ u : Nat, max (dq : Int) ((n : Int) - F) = u := ⟨max dq (n - F), by omega⟩
        have HU := Lib.hid hu
        clear hgs hn
        go_wp2_with fail
        refine HT.out.mono ?_
        rintro e w3 ⟨rfl, hw⟩
        subst hw
        go_wp2_with fail
        go_region
        go_wp2_with fail
        go_roundg (gk - 1)
        case measure => omega
        case rel =>
          have hqD : q < D.length := by rw [HDL.out]; exact hpp
          have hu := HU.out
          refine ⟨k + 1, D.set q u, by omega, by omega, by go_num, ?_, by rw [List.length_set, ← HN.out]; exact HDL.out, fun x => ?_, fun i hi h1 => ?_, below_set hB.drew (p := ⟨w.heap.size, q, none⟩) (Nat.le_refl _) _⟩
          · rw [← HN.out, ← nats_set]; exact HGS.out u
          · rw [getD_set D q x u 0 hqD]
            split
            · omega
            · exact HD1.out x
          · rw [getD_set D q _ u 0 hqD]
            by_cases e : i = k
            · subst e
              rw [if_pos HQQ.out, ← HNn.out]; omega
            · have h2 := HD2.out i (by omega) h1
              split
              · rename_i e2
                rw [e2, HDQ.out] at h2
                omega
              · exact h2
      · have d1 : decide ((F : Int) < n) = false := by simp; omega
        have d1' : decide (F < n) = false := by simp; omega
        have HNn := Lib.hid hn
        clear hn
        go_wp2_with fail
        go_roundg (gk - 1)
        case measure => omega
        case rel => exact ⟨k + 1, D, by omega, by omega, by go_num, by rw [← HN.out]; exact ho, by rw [← HN.out]; exact HDL.out, HD1.out, fun i hi h1 => by
          by_cases e : i = k
          · subst e; have := HNn.out; omega
          · exact HD2.out i (by omega) h1, hB⟩
    · have hkl : k = l.length := by omega
      subst hkl
      go_wp2_with fail
      go_ret
      exact ⟨w.heap.size, N, D, rfl, ho, HDL.out, HD1.out, HD2.out, hB⟩
end Go.Proofs.Yteknaaijlkenkaa
