import Derived.Test.YteknaaijlkenkaaCan
namespace Go.Proofs.Yteknaaijlkenkaa
set_option linter.unusedVariables false
set_option linter.unusedSimpArgs false
open Go.RowKit

theorem Try.u32info : (Try.prog.info? 42).map (fun i => (i.zero, i.size, i.bytes)) = some (some (.int .u32 0), 1, 4) := by kernel_rfl
def tab (n : Nat) (f : Nat → Value) : Array Value := Array.ofFn (n := n) fun i => f i
theorem tab_get {n : Nat} {f : Nat → Value} {i : Nat} (h : i < n) : (tab n f)[i]? = some (f i) := by simp [tab, h]
theorem tab_size {n : Nat} {f : Nat → Value} : (tab n f).size = n := by simp [tab]
theorem tab_set {n : Nat} {f : Nat → Value} {i : Nat} {v : Value} : (tab n f).setIfInBounds i v = tab n (fun j => if j = i then v else f j) := by
  unfold tab
  apply Array.ext
  · simp
  · intro j h1 h2
    rw [Array.getElem_setIfInBounds (by simpa using h1)]
    by_cases h : i = j
    · subst h; simp
    · rw [if_neg h]
      simp [show ¬ j = i from fun e => h e.symm]
theorem tab_congr {n : Nat} {f g : Nat → Value} (h : ∀ i, i < n → f i = g i) : tab n f = tab n g := by
  apply Array.ext
  · simp [tab]
  · intro j h1 h2
    simp only [tab, Array.size_ofFn] at h1
    simp [tab, h j h1]

theorem take_count {l : List Int} {k : Nat} {x : Int} (h : l[k]? = some x) (y : Int) : (l.take (k + 1)).count y = (l.take k).count y + if x = y then 1 else 0 := by
  rw [List.take_add_one, h, List.count_append]
  simp [List.count_singleton]
theorem below_set {B : Nat} {w w' : World} (h : Below B w w') {p : Addr} (hp : B ≤ p.block) (u : Value) : Below B w (w'.setCell p u) :=
  ⟨h.os, h.tape, h.output, by simpa [World.setCell] using h.size, fun i hi => (Below.heap_setCell w' p u i (by omega)).trans (h.block i hi)⟩
/-- What counts stand behind the first loop: nothing of 0. -/
def cnt (l : List Int) (n : Nat) : Nat := if n = 0 then 0 else l.count (n : Int)
def cntF (l : List Int) (k : Nat) (j : Nat) : Value := .int .i64 ((l.take k).count (j : Int))
structure CtRel (w : World) (l : List Int) (p : Nat) (g : Nat) (v22 : Value) (wr : World) : Prop where mk ::
  out_ : ∃ (k : Nat), k ≤ l.length ∧ l.length ≤ g + k ∧ v22 = .int .i64 (k : Int) ∧ Blk wr p 137 (tab 16 (cntF l k)) ∧ Below w.heap.size w wr

def nxt (l : List Int) : Nat → Int
  | 0 => 0
  | 1 => 0
  | n + 2 => (nxt l (n + 1) + cnt l (n + 1)) % 4294967296 * 2 % 4294967296
theorem nxt_succ (l : List Int) {n : Nat} (h : 1 ≤ n) : nxt l (n + 1) = (nxt l n + cnt l n) % 4294967296 * 2 % 4294967296 := by
  obtain ⟨m, rfl⟩ : ∃ m, n = m + 1 := ⟨n - 1, by omega⟩
  rfl
def nxF (l : List Int) (n : Nat) (j : Nat) : Value := .int .u32 (if j ≤ n then nxt l j else 0)
structure NxRel (w : World) (l : List Int) (p q : Nat) (g : Nat) (v8 : Value) (wr : World) : Prop where mk ::
  out_ : ∃ (n : Nat), 1 ≤ n ∧ n ≤ 16 ∧ 16 ≤ g + n ∧ v8 = .int .i64 (n : Int) ∧ Blk wr p 137 (tab 16 fun j => .int .i64 (cnt l j)) ∧ Blk wr q 138 (tab 17 (nxF l n)) ∧ Below w.heap.size w wr

theorem made_tab (z : Value) (n : Nat) : madeCells #[z] n = tab n (fun _ => z) := by
  apply Array.ext
  · simp [tab, madeCells]
  · intro i h1 h2
    simp [tab, madeCells, Nat.mod_one]
def adv (x : Int) : Nat → Int
  | 0 => x
  | m + 1 => (adv x m + 1) % 4294967296
def code (l : List Int) (i : Nat) : Int := if (l.getD i 0).toNat = 0 then 0 else adv (nxt l (l.getD i 0).toNat) ((l.take i).count (((l.getD i 0).toNat : Nat) : Int))
def codes (l : List Int) : List Int := (List.range l.length).map (code l)
def adF (l : List Int) (k j : Nat) : Value := .int .u32 (if j = 0 then 0 else adv (nxt l j) ((l.take k).count (j : Int)))
def ouF (l : List Int) (k j : Nat) : Value := .int .u32 (if j < k then code l j else 0)
structure CoRel (w : World) (l : List Int) (q o : Nat) (g : Nat) (v54 : Value) (wr : World) : Prop where mk ::
  out_ : ∃ (k : Nat), k ≤ l.length ∧ l.length ≤ g + k ∧ v54 = .int .i64 (k : Int) ∧ Blk wr q 138 (tab 17 (adF l k)) ∧ Blk wr o 42 (tab l.length (ouF l k)) ∧ Below w.heap.size w wr

set_option maxHeartbeats 1600000 in
set_option maxRecDepth 100000 in
theorem can_codes (A : Option Addr) (c : Nat) (l : List Int) (w : World) (hr : RowOf w .i64 A c l) (hk0 : 0 ≤ kraft l) (hk1 : kind l ≠ 4) (hl : l.length ≤ 65536) (hd : ∀ n ∈ l, 0 ≤ n ∧ n ≤ 15) :
    Calls Try.prog 83 #[.slice A l.length c] w fun e w' =>
      ∃ v, e = .returned (.tuple #[v, .int .i64 0]) ∧ Own w' w.heap.size 42 v (ints .u32 (codes l)) ∧ Below w.heap.size w w' := by
  have hm := hr.most
  have hcap := hr.cap
  have HK := Lib.hid (can_kraft A c l w hr)
  have HD := Lib.hid (can_kind A c l w hr)
  have hkind : (kind l == 4) = false := by simpa using hk1
  have hmk := run_make1 (P := Try.prog) 124 42 (.int .u32 0) 4 Try.underlying124 Try.u32info rfl l.length l.length (Nat.le_refl _) (by omega) (by omega)
  go_enter Try.func83, Try.ntmps83
  go_wp2_with fail
  refine HK.out.mono ?_
  rintro e w1 ⟨rfl, rfl⟩
  have e1 : decide (kraft l < 0) = false := by simp; omega
  go_wp2_with fail
  refine HD.out.mono ?_
  rintro e w2 ⟨rfl, rfl⟩
  clear HK HD
  have hp := Blk.new w2 137 #[.int .i64 0, .int .i64 0, .int .i64 0, .int .i64 0, .int .i64 0, .int .i64 0, .int .i64 0, .int .i64 0, .int .i64 0, .int .i64 0, .int .i64 0, .int .i64 0, .int .i64 0, .int .i64 0, .int .i64 0, .int .i64 0]
  have hB : Below w2.heap.size w2 (w2.alloc (.cells #[.int .i64 0, .int .i64 0, .int .i64 0, .int .i64 0, .int .i64 0, .int .i64 0, .int .i64 0, .int .i64 0, .int .i64 0, .int .i64 0, .int .i64 0, .int .i64 0, .int .i64 0, .int .i64 0, .int .i64 0, .int .i64 0] 137)) := (Below.refl _ _).alloc (Nat.le_refl _) _
  go_wp2_with fail
  go_loopg [22] l.length (CtRel w2 l w2.heap.size)
  case atStart => exact ⟨0, by omega, by omega, rfl, hp, hB⟩
  case round =>
    clear hp hB
    obtain ⟨k, hk, hg, rfl, hp, hB⟩ := hrel
    by_cases hlt : k < l.length
    · obtain ⟨x, hx⟩ : ∃ x, l[k]? = some x := ⟨_, List.getElem?_eq_getElem hlt⟩
      obtain ⟨ad, rfl, hc⟩ := hr.rd k x hx
      have hc := (hB.cell (World.block_lt_of_cell? w2 _ hc)).trans hc
      obtain ⟨hx0, hx1⟩ := hd x (List.mem_of_getElem? hx)
      obtain ⟨n, rfl⟩ : ∃ n : Nat, x = n := ⟨x.toNat, by omega⟩
      have hn : n < 16 := by omega
      have hcn := hp.cell n
      rw [tab_get hn, cntF] at hcn
      have hfn := hp.frozen n
      have hcc := take_count hx
      have hcb : (l.take k).count (n : Int) ≤ 65536 := Nat.le_trans (List.count_le_length) (by simp; omega)
      have HC := Lib.hid hcc
      generalize hgc : (l.take k).count (n : Int) = cc at *
      have HG := Lib.hid hgc
      clear hgc hcc hx
      go_wp2_with fail
      go_roundg (gk - 1)
      case measure => omega
      case rel =>
        refine ⟨k + 1, by omega, by omega, by go_num, ?_, ?_⟩
        · have := hp.set_ n (.int .i64 ((cc : Int) + 1))
          rw [tab_set] at this
          rw [tab_congr (n := 16) (g := fun j => if j = n then .int .i64 ((cc : Int) + 1) else cntF l k j)] 
          · exact this
          · intro j hj
            simp only [cntF, HC.out]
            by_cases e : j = n
            · subst e; simp [HG.out]
            · have : ¬ (n : Int) = j := by omega
              simp [e, this]
        · exact below_set hB (Nat.le_refl _) _
    · have hkl : k = l.length := by omega
      subst hkl
      have hq : Blk (wr.setCell ⟨w2.heap.size, 0, none⟩ (.int .i64 0)) w2.heap.size 137 (tab 16 fun j => .int .i64 (cnt l j)) := by
        have := hp.set_ 0 (.int .i64 0)
        rw [tab_set] at this
        rw [tab_congr (n := 16) (g := fun j => if j = 0 then .int .i64 0 else cntF l l.length j)]
        · exact this
        · intro j _
          simp only [cntF, cnt, List.take_length]
          split <;> rfl
      have hB1 := below_set hB (p := ⟨w2.heap.size, 0, none⟩) (Nat.le_refl _) (.int .i64 0)
      have c0 := hp.cell 0
      rw [tab_get (by omega)] at c0
      have g0 := hp.frozen 0
      have hz1 := hB1.size
      have hpq0 := hp.lt
      have hsz : (wr.setCell ⟨w2.heap.size, 0, none⟩ (.int .i64 0)).heap.size = wr.heap.size := by simp [World.setCell]
      generalize hqq : wr.heap.size = q at *
      go_wp2_with fail
      generalize wr.setCell ⟨w2.heap.size, 0, none⟩ (.int .i64 0) = w3 at *
      clear c0 g0 hp hB
      have hq1 := hq.alloc (.cells #[.int .u32 0, .int .u32 0, .int .u32 0, .int .u32 0, .int .u32 0, .int .u32 0, .int .u32 0, .int .u32 0, .int .u32 0, .int .u32 0, .int .u32 0, .int .u32 0, .int .u32 0, .int .u32 0, .int .u32 0, .int .u32 0, .int .u32 0] 138)
      have hx1 := Blk.new w3 138 #[.int .u32 0, .int .u32 0, .int .u32 0, .int .u32 0, .int .u32 0, .int .u32 0, .int .u32 0, .int .u32 0, .int .u32 0, .int .u32 0, .int .u32 0, .int .u32 0, .int .u32 0, .int .u32 0, .int .u32 0, .int .u32 0, .int .u32 0]
      have hB2 := hB1.alloc hz1 (.cells #[.int .u32 0, .int .u32 0, .int .u32 0, .int .u32 0, .int .u32 0, .int .u32 0, .int .u32 0, .int .u32 0, .int .u32 0, .int .u32 0, .int .u32 0, .int .u32 0, .int .u32 0, .int .u32 0, .int .u32 0, .int .u32 0, .int .u32 0] 138)
      rw [hsz] at hx1
      clear hq hB1
      go_loopg [8] 15 (NxRel w2 l w2.heap.size q)
      case atStart => exact ⟨1, by omega, by omega, by omega, rfl, hq1, hx1, hB2⟩
      case round =>
        clear hq1 hx1 hB2
        obtain ⟨n, hn1, hn16, hgn, rfl, hp, hq, hB⟩ := hrel
        by_cases hlt : n < 16
        · have e1 : decide (n ≤ 15) = true := by simp; omega
          have c0 := hp.drew.cell n
          rw [tab_get hlt] at c0
          have c1 := hq.drew.cell n
          rw [tab_get (by omega), nxF, if_pos (Nat.le_refl _)] at c1
          have f2 := hq.drew.frozen (n + 1)
          have c2 := hq.drew.cell (n + 1)
          rw [tab_get (by omega)] at c2
          have i1 : (n : Int) < 17 := by omega
          have i2 : (n : Int) < 16 := by omega
          have i3 : (n : Int) + 1 < 17 := by omega
          go_wp2_with fail
          go_region
          go_wp2_with fail
          go_roundg (gk - 1)
          case measure => omega
          case rel =>
            refine ⟨n + 1, by omega, by omega, by omega, by go_num, ?_, ?_, ?_⟩
            · exact hp.drew.far (p := ⟨q, n + 1, none⟩) (by simp; omega) _
            · have := hq.drew.set_ (n + 1) (.int .u32 (nxt l (n + 1)))
              rw [tab_set] at this
              rw [tab_congr (n := 17) (g := fun j => if j = n + 1 then .int .u32 (nxt l (n + 1)) else nxF l n j)]
              · rw [nxt_succ l hn1] at this ⊢
                exact this
              · intro j hj
                unfold nxF
                by_cases e : j = n + 1
                · subst e; simp
                · by_cases e2 : j ≤ n
                  · simp [e, e2, show j ≤ n + 1 from by omega]
                  · simp [e, e2, show ¬ j ≤ n + 1 from by omega]
            · exact below_set hB.drew (p := ⟨q, n + 1, none⟩) (by simp; omega) _
        · have hn : n = 16 := by omega
          subst hn
          go_wp2_with fail
          have hq1 := hq.alloc (.cells (madeCells #[.int .u32 0] l.length) 42)
          have ho1 : Blk (wr.alloc (.cells (madeCells #[.int .u32 0] l.length) 42)) wr.heap.size 42 (tab l.length (ouF l 0)) := by
            have := Blk.new wr 42 (madeCells #[.int .u32 0] l.length)
            rw [show tab l.length (ouF l 0) = madeCells #[.int .u32 0] l.length from (tab_congr (fun i _ => by simp [ouF])).trans (made_tab _ _).symm]
            exact this
          have hB1 := hB.alloc hB.size (.cells (madeCells #[.int .u32 0] l.length) 42)
          have hqo := hq.lt
          have hoB := hB.size
          clear hp hq hB hmk
          generalize hoo : wr.heap.size = o at *
          generalize wr.alloc (.cells (madeCells #[.int .u32 0] l.length) 42) = w4 at *
          clear hoo
          go_loopg [54] l.length (CoRel w2 l q o)
          case atStart =>
            refine ⟨0, by omega, by omega, rfl, ?_, ?_, hB1⟩
            · rw [tab_congr (n := 17) (g := nxF l 16)]
              · exact hq1
              · intro j hj
                have e2 : j ≤ 16 := by omega
                by_cases e : j = 0
                · subst e; rfl
                · simp [adF, nxF, e, e2, adv]
            · exact ho1
          case round =>
            clear hq1 ho1 hB1
            obtain ⟨k, hk, hg, rfl, hq, ho, hB⟩ := hrel
            by_cases hlt : k < l.length
            · obtain ⟨x, hx⟩ : ∃ x, l[k]? = some x := ⟨_, List.getElem?_eq_getElem hlt⟩
              obtain ⟨ad, rfl, hc⟩ := hr.rd k x hx
              have hc := (hB.cell (World.block_lt_of_cell? w2 _ hc)).trans hc
              obtain ⟨hx0, hx1⟩ := hd x (List.mem_of_getElem? hx)
              obtain ⟨n, rfl⟩ : ∃ n : Nat, x = n := ⟨x.toNat, by omega⟩
              have hco : code l k = if n = 0 then 0 else adv (nxt l n) ((l.take k).count (n : Int)) := by
                unfold code
                rw [List.getD_eq_getElem?_getD, hx]
                simp
              have HC := Lib.hid (take_count hx)
              have HCO := Lib.hid hco
              clear hco hx
              by_cases h0 : n = 0
              · subst h0
                go_wp2_with fail
                go_roundg (gk - 1)
                case measure => omega
                case rel =>
                  refine ⟨k + 1, by omega, by omega, by go_num, ?_, ?_, hB⟩
                  · rw [tab_congr (n := 17) (g := adF l k)]
                    · exact hq
                    · intro j hj
                      unfold adF
                      by_cases e : j = 0
                      · simp [e]
                      · rw [HC.out, if_neg (show ¬ ((0 : Nat) : Int) = j by omega), Nat.add_zero]
                  · rw [tab_congr (n := l.length) (g := ouF l k)]
                    · exact ho
                    · intro j hj
                      unfold ouF
                      by_cases e : j = k
                      · subst e; simp [HCO.out]
                      · by_cases e2 : j < k
                        · simp [e2, show j < k + 1 from by omega]
                        · simp [e2, show ¬ j < k + 1 from by omega]
              · have e1 : decide (0 < n) = true := by simp; omega
                have c1 := hq.cell n
                rw [tab_get (by omega), adF, if_neg h0] at c1
                have f1 := hq.frozen n
                have c2 := ho.cell k
                rw [tab_get hlt] at c2
                have f2 := ho.frozen k
                have hne : q ≠ o := by omega
                have hne2 : o ≠ q := by omega
                generalize hav : adv (nxt l n) ((l.take k).count (n : Int)) = a at *
                have HA := Lib.hid hav
                clear hav
                go_wp2_with fail
                go_roundg (gk - 1)
                case measure => omega
                case rel =>
                  refine ⟨k + 1, by omega, by omega, by go_num, ?_, ?_, ?_⟩
                  · have := (hq.far (p := ⟨o, k, none⟩) hne (.int .u32 a)).set_ n (.int .u32 ((a + 1) % 4294967296))
                    rw [tab_set] at this
                    rw [tab_congr (n := 17) (g := fun j => if j = n then .int .u32 ((a + 1) % 4294967296) else adF l k j)]
                    · exact this
                    · intro j hj
                      unfold adF
                      by_cases e : j = n
                      · subst e
                        rw [if_neg h0, if_pos rfl, HC.out, if_pos rfl, adv, HA.out]
                      · rw [if_neg e, HC.out, if_neg (show ¬ (n : Int) = j by omega), Nat.add_zero]
                  · have := (ho.set_ k (.int .u32 a)).far (p := ⟨q, n, none⟩) hne2 (.int .u32 ((a + 1) % 4294967296))
                    rw [tab_set] at this
                    rw [tab_congr (n := l.length) (g := fun j => if j = k then .int .u32 a else ouF l k j)]
                    · exact this
                    · intro j hj
                      unfold ouF
                      by_cases e : j = k
                      · subst e
                        rw [if_pos (by omega), if_pos rfl, HCO.out, if_neg h0]
                      · rw [if_neg e]
                        by_cases e2 : j < k
                        · simp [e2, show j < k + 1 from by omega]
                        · simp [e2, show ¬ j < k + 1 from by omega]
                  · exact below_set (below_set hB (p := ⟨o, k, none⟩) (by simp; omega) _) (p := ⟨q, n, none⟩) (by simp; omega) _
            · have hkl : k = l.length := by omega
              subst hkl
              go_wp2_with fail
              go_ret2
              refine ⟨_, rfl, ?_, hB⟩
              have hlen : (ints .u32 (codes l)).length = l.length := by simp [ints, codes]
              refine ⟨by simp [ints, codes], .inr ⟨o, l.length, _, by rw [hlen]; rfl, by omega, ho, by omega, by simp [maxLen]; omega, by simp [tab], ?_⟩⟩
              apply List.ext_getElem
              · simp [tab, hlen]
              · intro i h1 h2
                have hi : i < l.length := by omega
                simp [tab, ints, codes, ouF]
theorem can_codes_neg (A : Option Addr) (c : Nat) (l : List Int) (w : World) (hr : RowOf w .i64 A c l) (hk0 : kraft l < 0) :
    Calls Try.prog 83 #[.slice A l.length c] w fun e w' => e = .returned (.tuple #[.slice none 0 0, .int .i64 7]) ∧ w' = w := by
  have hm := hr.most
  have hcap := hr.cap
  have HK := Lib.hid (can_kraft A c l w hr)
  go_enter Try.func83, Try.ntmps83
  go_wp2_with fail
  refine HK.out.mono ?_
  rintro e w1 ⟨rfl, rfl⟩
  have e1 : decide (kraft l < 0) = true := by simp; omega
  go_wp2_with fail
  go_ret2
  exact ⟨rfl, rfl⟩
theorem can_codes_over (A : Option Addr) (c : Nat) (l : List Int) (w : World) (hr : RowOf w .i64 A c l) (hk0 : 0 ≤ kraft l) (hk1 : kind l = 4) :
    Calls Try.prog 83 #[.slice A l.length c] w fun e w' => e = .returned (.tuple #[.slice none 0 0, .int .i64 2]) ∧ w' = w := by
  have hm := hr.most
  have hcap := hr.cap
  have HK := Lib.hid (can_kraft A c l w hr)
  have HD := Lib.hid (can_kind A c l w hr)
  rw [hk1] at HD
  go_enter Try.func83, Try.ntmps83
  go_wp2_with fail
  refine HK.out.mono ?_
  rintro e w1 ⟨rfl, rfl⟩
  have e1 : decide (kraft l < 0) = false := by simp; omega
  go_wp2_with fail
  refine HD.out.mono ?_
  rintro e w2 ⟨rfl, rfl⟩
  go_wp2_with fail
  go_ret2
  exact ⟨rfl, rfl⟩
end Go.Proofs.Yteknaaijlkenkaa
