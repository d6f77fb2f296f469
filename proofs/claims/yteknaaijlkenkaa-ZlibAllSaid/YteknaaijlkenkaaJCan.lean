import Derived.Test.YteknaaijlkenkaaArgs
namespace Go.Proofs.Yteknaaijlkenkaa
set_option linter.unusedVariables false
set_option linter.unusedSimpArgs false
open Go.RowKit

/-- What a length takes, by 2^15. -/
def kr (n : Int) : Int := if 0 < n then ((2 ^ (15 - n).toNat : Nat) : Int) else 0
def kraftGo : List Int → Int → Int
  | [], s => s
  | n :: l, s => if n < 0 ∨ 15 < n then -1 else kraftGo l (s + kr n)
def kraft (l : List Int) : Int := if 65536 < l.length then -1 else kraftGo l 0
def someGo : List Int → Nat → Int → Nat × Int
  | [], s, d => (s, d)
  | n :: l, s, d => if n ≠ 0 then someGo l (s + 1) n else someGo l s d
def kindOf (sd : Nat × Int) (k : Int) : Int :=
  if sd.1 = 0 then 0 else if k = 32768 then 1 else if k < 0 ∨ 32768 < k then 4 else if sd.1 = 1 ∧ sd.2 = 1 then 2 else 3
def kind (l : List Int) : Int := kindOf (someGo l 0 0) (kraft l)

theorem kr_range (n : Int) : 0 ≤ kr n ∧ kr n ≤ 16384 := by
  unfold kr
  split
  · have : 2 ^ (15 - n).toNat ≤ 2 ^ 14 := Nat.pow_le_pow_right (by decide) (by omega)
    generalize 2 ^ (15 - n).toNat = p at *
    simp at this
    omega
  · omega
theorem kraftGo_good : ∀ {l : List Int} {s : Int}, (∀ n ∈ l, 0 ≤ n ∧ n ≤ 15) → kraftGo l s = s + (l.map kr).sum
  | [], s, _ => by simp [kraftGo]
  | n :: l, s, h => by
    have h0 := h n (by simp)
    rw [kraftGo, if_neg (by omega), kraftGo_good (fun x hx => h x (by simp [hx])), List.map_cons, List.sum_cons]
    omega
theorem kraftGo_range : ∀ (l : List Int) (s : Int), 0 ≤ s → kraftGo l s = -1 ∨ (s ≤ kraftGo l s ∧ kraftGo l s ≤ s + 16384 * l.length)
  | [], s, _ => by simp [kraftGo]
  | n :: l, s, hs => by
    rw [kraftGo]
    split
    · exact .inl rfl
    · have := kr_range n
      rcases kraftGo_range l (s + kr n) (by omega) with h | h
      · exact .inl h
      · refine .inr ⟨by omega, ?_⟩
        rw [List.length_cons]
        have : ((l.length + 1 : Nat) : Int) = l.length + 1 := by omega
        omega
theorem kraft_range (l : List Int) : -1 ≤ kraft l ∧ kraft l ≤ 1073741824 := by
  unfold kraft
  split
  · omega
  · rcases kraftGo_range l 0 (Int.le_refl _) with h | h <;> omega
theorem kr_pow {n : Nat} (h : n ≤ 15) (h0 : n ≠ 0) : wrap64 ((2 : Int) ^ (15 - n)) = kr n := by
  have e : kr n = (2 : Int) ^ (15 - n) := by
    unfold kr
    rw [if_pos (by omega), show (15 - (n : Int)).toNat = 15 - n from by omega, Int.natCast_pow]
    rfl
  have := kr_range n
  rw [e] at *
  rw [IntWalk.wrap64_in _ (by omega)]
theorem someGo_le : ∀ (l : List Int) (s : Nat) (d : Int), (someGo l s d).1 ≤ s + l.length
  | [], s, d => by simp [someGo]
  | n :: l, s, d => by
    rw [someGo]
    split
    · have := someGo_le l (s + 1) n; simp; omega
    · have := someGo_le l s d; simp; omega
end Go.Proofs.Yteknaaijlkenkaa
namespace Go.Proofs.Yteknaaijlkenkaa
open Go.RowKit

structure KrRel (w : World) (l : List Int) (g : Nat) (v3 v11 : Value) (wr : World) : Prop where mk ::
  out_ : ∃ (k : Nat) (s : Int), k ≤ l.length ∧ l.length ≤ g + k ∧ v3 = .int .i64 s ∧ v11 = .int .i64 (k : Int) ∧ wr = w ∧ kraftGo (l.drop k) s = kraftGo l 0 ∧ 0 ≤ s ∧ s ≤ 16384 * k

theorem drop_at {α : Type} {l : List α} {k : Nat} {x : α} (h : l[k]? = some x) : l.drop k = x :: l.drop (k + 1) := by
  have hk := (List.getElem?_eq_some_iff.1 h).1
  rw [List.drop_eq_getElem_cons hk, (List.getElem?_eq_some_iff.1 h).2]

set_option maxHeartbeats 1600000 in
set_option maxRecDepth 100000 in
theorem can_kraft (A : Option Addr) (c : Nat) (l : List Int) (w : World) (hr : RowOf w .i64 A c l) :
    Calls Try.prog 89 #[.slice A l.length c] w fun e w' => e = .returned (.int .i64 (kraft l)) ∧ w' = w := by
  have hm := hr.most
  have hcap := hr.cap
  by_cases h1 : 65536 < l.length
  · have h1' : decide ((65536 : Int) < l.length) = true := by simp; omega
    have hk : kraft l = -1 := by unfold kraft; rw [if_pos h1]
    rw [hk]
    go_enter Try.func89, Try.ntmps89
    go_wp2_with fail
    go_ret
    exact ⟨rfl, rfl⟩
  · have h1' : decide ((65536 : Int) < l.length) = false := by simp; omega
    have hk : kraft l = kraftGo l 0 := by unfold kraft; rw [if_neg h1]
    rw [hk]
    clear hk
    go_enter Try.func89, Try.ntmps89
    go_wp2_with fail
    go_loopg [3, 11] l.length (KrRel w l)
    case atStart => exact ⟨0, 0, by omega, by omega, rfl, rfl, rfl, by simp, by omega, by omega⟩
    case round =>
      obtain ⟨k, s, hk, hg, rfl, rfl, rfl, hE, hs0, hs1⟩ := hrel
      by_cases hlt : k < l.length
      · obtain ⟨x, hx⟩ : ∃ x, l[k]? = some x := ⟨_, List.getElem?_eq_getElem hlt⟩
        obtain ⟨ad, rfl, hc⟩ := hr.rd k x hx
        rw [drop_at hx, kraftGo] at hE
        have hwf := hr.wf x (List.mem_of_getElem? hx)
        clear hx
        by_cases hb : x < 0 ∨ 15 < x
        · rw [if_pos hb] at hE
          have HE := Lib.hid hE
          clear hE
          rcases hb with hb | hb
          · have e1 : decide (x < 0) = true := by simpa using hb
            go_wp2_with fail
            go_ret
            exact ⟨congrArg (fun q => Ending.returned (.int .i64 q)) HE.out, rfl⟩
          · have e1 : decide (x < 0) = false := by simp; omega
            have e2 : decide (15 < x) = true := by simpa using hb
            go_wp2_with fail
            go_ret
            exact ⟨congrArg (fun q => Ending.returned (.int .i64 q)) HE.out, rfl⟩
        · rw [if_neg hb] at hE
          have HE := Lib.hid hE
          clear hE
          obtain ⟨n, rfl⟩ : ∃ n : Nat, x = n := ⟨x.toNat, by omega⟩
          have hn : n ≤ 15 := by omega
          have e1 : decide ((n : Int) < 0) = false := by simp
          have e2 : decide ((15 : Int) < n) = false := by simp; omega
          by_cases h0 : n = 0
          · subst h0
            go_wp2_with fail
            go_roundg (gk - 1)
            case measure => omega
            case rel => exact ⟨k + 1, s, by omega, by omega, rfl, by go_num, rfl, by simpa [kr] using HE.out, hs0, by omega⟩
          · have e3 : decide (0 < n) = true := by simp; omega
            go_wp2_with fail
            go_roundg (gk - 1)
            case measure => omega
            case rel =>
              have hp := kr_pow hn h0
              have hq := kr_range n
              refine ⟨k + 1, _, by omega, by omega, ?_, by go_num, rfl, HE.out, by omega, by omega⟩
              rw [hp, IntWalk.wrap64_in _ (by omega)]
      · have hkl : k = l.length := by omega
        subst hkl
        rw [List.drop_length, kraftGo] at hE
        have HE := Lib.hid hE
        clear hE
        go_wp2_with fail
        go_ret
        exact ⟨congrArg (fun q => Ending.returned (.int .i64 q)) HE.out, rfl⟩

structure KdRel (w : World) (l : List Int) (g : Nat) (v3 v4 v10 : Value) (wr : World) : Prop where mk ::
  out_ : ∃ (k s : Nat) (d : Int), k ≤ l.length ∧ l.length ≤ g + k ∧ v3 = .int .i64 (s : Int) ∧ v4 = .int .i64 d ∧ v10 = .int .i64 (k : Int) ∧ wr = w ∧ someGo (l.drop k) s d = someGo l 0 0 ∧ s ≤ k

set_option maxHeartbeats 1600000 in
set_option maxRecDepth 100000 in
theorem can_kind (A : Option Addr) (c : Nat) (l : List Int) (w : World) (hr : RowOf w .i64 A c l) :
    Calls Try.prog 87 #[.slice A l.length c] w fun e w' => e = .returned (.int .i64 (kind l)) ∧ w' = w := by
  have hm := hr.most
  have hcap := hr.cap
  have HK := Lib.hid (can_kraft A c l w hr)
  have hkr := kraft_range l
  have hk : kind l = kindOf (someGo l 0 0) (kraft l) := rfl
  have HK2 := Lib.hid hk
  clear hk
  go_enter Try.func87, Try.ntmps87
  go_wp2_with fail
  go_loopg [3, 4, 10] l.length (KdRel w l)
  case atStart => exact ⟨0, 0, 0, by omega, by omega, rfl, rfl, rfl, rfl, by simp, by omega⟩
  case round =>
    obtain ⟨k, s, d, hk, hg, rfl, rfl, rfl, rfl, hE, hs⟩ := hrel
    by_cases hlt : k < l.length
    · obtain ⟨x, hx⟩ : ∃ x, l[k]? = some x := ⟨_, List.getElem?_eq_getElem hlt⟩
      obtain ⟨ad, rfl, hc⟩ := hr.rd k x hx
      rw [drop_at hx, someGo] at hE
      have hwf := hr.wf x (List.mem_of_getElem? hx)
      clear hx
      by_cases h0 : x = 0
      · subst h0
        rw [if_neg (by simp)] at hE
        have HE := Lib.hid hE
        clear hE
        go_wp2_with fail
        go_roundg (gk - 1)
        case measure => omega
        case rel => exact ⟨k + 1, s, d, by omega, by omega, rfl, rfl, by go_num, rfl, HE.out, by omega⟩
      · rw [if_pos h0] at hE
        have HE := Lib.hid hE
        clear hE
        have e1 : (x != 0) = true := by simp [h0]
        go_wp2_with fail
        go_roundg (gk - 1)
        case measure => omega
        case rel => exact ⟨k + 1, s + 1, x, by omega, by omega, by go_num, rfl, by go_num, rfl, HE.out, by omega⟩
    · have hkl : k = l.length := by omega
      subst hkl
      rw [List.drop_length, someGo] at hE
      rw [← hE] at HK2
      clear hE
      go_wp2_with fail
      refine HK.out.mono ?_
      rintro e w1 ⟨rfl, rfl⟩
      generalize kraft l = q at *
      have hke := HK2.out
      unfold kindOf at hke
      simp only at hke
      by_cases a1 : s = 0
      · rw [if_pos a1] at hke
        have HKE := Lib.hid hke
        have b1 : ((s : Int) == 0) = true := by simp [a1]
        clear hke a1
        go_wp2_with fail
        go_ret
        exact ⟨congrArg (fun q => Ending.returned (.int .i64 q)) HKE.out.symm, rfl⟩
      · rw [if_neg a1] at hke
        have b1 : ((s : Int) == 0) = false := by simp [a1]
        by_cases a2 : q = 32768
        · rw [if_pos a2] at hke
          have HKE := Lib.hid hke
          have b2 : (q == 32768) = true := by simp [a2]
          clear hke a2 a1
          go_wp2_with fail
          go_ret
          exact ⟨congrArg (fun q => Ending.returned (.int .i64 q)) HKE.out.symm, rfl⟩
        · rw [if_neg a2] at hke
          have b2 : (q == 32768) = false := by simp [a2]
          by_cases a3 : q < 0 ∨ 32768 < q
          · rw [if_pos a3] at hke
            have HKE := Lib.hid hke
            clear hke a1
            rcases a3 with a3 | a3
            · have b3 : decide (q < 0) = true := by simpa using a3
              go_wp2_with fail
              go_ret
              exact ⟨congrArg (fun q => Ending.returned (.int .i64 q)) HKE.out.symm, rfl⟩
            · have b3 : decide (q < 0) = false := by simp; omega
              have b4 : decide (32768 < q) = true := by simpa using a3
              go_wp2_with fail
              go_ret
              exact ⟨congrArg (fun q => Ending.returned (.int .i64 q)) HKE.out.symm, rfl⟩
          · rw [if_neg a3] at hke
            have b3 : decide (q < 0) = false := by simp; omega
            have b4 : decide (32768 < q) = false := by simp; omega
            by_cases a4 : s = 1
            · have b5 : ((s : Int) == 1) = true := by simp [a4]
              by_cases a5 : d = 1
              · rw [if_pos ⟨a4, a5⟩] at hke
                have HKE := Lib.hid hke
                have b6 : (d == 1) = true := by simp [a5]
                clear hke a1 a2 a4 a5
                go_wp2_with fail
                go_ret
                exact ⟨congrArg (fun q => Ending.returned (.int .i64 q)) HKE.out.symm, rfl⟩
              · rw [if_neg (fun h => a5 h.2)] at hke
                have HKE := Lib.hid hke
                have b6 : (d == 1) = false := by simp [a5]
                clear hke a1 a2 a4 a5
                go_wp2_with fail
                go_ret
                exact ⟨congrArg (fun q => Ending.returned (.int .i64 q)) HKE.out.symm, rfl⟩
            · rw [if_neg (fun h => a4 h.1)] at hke
              have HKE := Lib.hid hke
              have b5 : ((s : Int) == 1) = false := by simp; omega
              clear hke a1 a2 a4
              go_wp2_with fail
              go_ret
              exact ⟨congrArg (fun q => Ending.returned (.int .i64 q)) HKE.out.symm, rfl⟩
end Go.Proofs.Yteknaaijlkenkaa
namespace Go.Proofs.Yteknaaijlkenkaa
open Go.RowKit

theorem Try.u32info : (Try.prog.info? 42).map (fun i => (i.zero, i.size, i.bytes)) = some (some (.int .u32 0), 1, 4) := by kernel_rfl
def tab (n : Nat) (f : Nat → Value) : Array Value := Array.ofFn (n := n) fun i => f i
theorem tab_get {n : Nat} {f : Nat → Value} {i : Nat} (h : i < n) : (tab n f)[i]? = some (f i) := by simp [tab, h]
theorem tab_size {n : Nat} {f : Nat → Value} : (tab n f).size = n := by simp [tab]
theorem tab_set {n : Nat} {f : Nat → Value} {i : Nat} {v : Value} : (tab n f).setIfInBounds i v = tab n (fun j => if j = i then v else f j) := by
  unfold tab
  apply Array.ext
  · simp
  · intro j h1 h2
    rw [Array.getElem_setIfInBounds (by simpa using h1)]
    by_cases h : i = j
    · subst h; simp
    · rw [if_neg h]
      simp [show ¬ j = i from fun e => h e.symm]
theorem tab_congr {n : Nat} {f g : Nat → Value} (h : ∀ i, i < n → f i = g i) : tab n f = tab n g := by
  apply Array.ext
  · simp [tab]
  · intro j h1 h2
    simp only [tab, Array.size_ofFn] at h1
    simp [tab, h j h1]

theorem take_count {l : List Int} {k : Nat} {x : Int} (h : l[k]? = some x) (y : Int) : (l.take (k + 1)).count y = (l.take k).count y + if x = y then 1 else 0 := by
  rw [List.take_add_one, h, List.count_append]
  simp [List.count_singleton]
theorem below_set {B : Nat} {w w' : World} (h : Below B w w') {p : Addr} (hp : B ≤ p.block) (u : Value) : Below B w (w'.setCell p u) :=
  ⟨h.os, h.tape, h.output, by simpa [World.setCell] using h.size, fun i hi => (Below.heap_setCell w' p u i (by omega)).trans (h.block i hi)⟩
/-- What counts stand behind the first loop: nothing of 0. -/
def cnt (l : List Int) (n : Nat) : Nat := if n = 0 then 0 else l.count (n : Int)
def cntF (l : List Int) (k : Nat) (j : Nat) : Value := .int .i64 ((l.take k).count (j : Int))
structure CtRel (w : World) (l : List Int) (p : Nat) (g : Nat) (v22 : Value) (wr : World) : Prop where mk ::
  out_ : ∃ (k : Nat), k ≤ l.length ∧ l.length ≤ g + k ∧ v22 = .int .i64 (k : Int) ∧ Blk wr p 137 (tab 16 (cntF l k)) ∧ Below w.heap.size w wr

def nxt (l : List Int) : Nat → Int
  | 0 => 0
  | 1 => 0
  | n + 2 => (nxt l (n + 1) + cnt l (n + 1)) % 4294967296 * 2 % 4294967296
theorem nxt_succ (l : List Int) {n : Nat} (h : 1 ≤ n) : nxt l (n + 1) = (nxt l n + cnt l n) % 4294967296 * 2 % 4294967296 := by
  obtain ⟨m, rfl⟩ : ∃ m, n = m + 1 := ⟨n - 1, by omega⟩
  rfl
def nxF (l : List Int) (n : Nat) (j : Nat) : Value := .int .u32 (if j ≤ n then nxt l j else 0)
structure NxRel (w : World) (l : List Int) (p q : Nat) (g : Nat) (v8 : Value) (wr : World) : Prop where mk ::
  out_ : ∃ (n : Nat), 1 ≤ n ∧ n ≤ 16 ∧ 16 ≤ g + n ∧ v8 = .int .i64 (n : Int) ∧ Blk wr p 137 (tab 16 fun j => .int .i64 (cnt l j)) ∧ Blk wr q 138 (tab 17 (nxF l n)) ∧ Below w.heap.size w wr

theorem made_tab (z : Value) (n : Nat) : madeCells #[z] n = tab n (fun _ => z) := by
  apply Array.ext
  · simp [tab, madeCells]
  · intro i h1 h2
    simp [tab, madeCells, Nat.mod_one]
def adv (x : Int) : Nat → Int
  | 0 => x
  | m + 1 => (adv x m + 1) % 4294967296
def code (l : List Int) (i : Nat) : Int := if (l.getD i 0).toNat = 0 then 0 else adv (nxt l (l.getD i 0).toNat) ((l.take i).count (((l.getD i 0).toNat : Nat) : Int))
def codes (l : List Int) : List Int := (List.range l.length).map (code l)
def adF (l : List Int) (k j : Nat) : Value := .int .u32 (if j = 0 then 0 else adv (nxt l j) ((l.take k).count (j : Int)))
def ouF (l : List Int) (k j : Nat) : Value := .int .u32 (if j < k then code l j else 0)
structure CoRel (w : World) (l : List Int) (q o : Nat) (g : Nat) (v54 : Value) (wr : World) : Prop where mk ::
  out_ : ∃ (k : Nat), k ≤ l.length ∧ l.length ≤ g + k ∧ v54 = .int .i64 (k : Int) ∧ Blk wr q 138 (tab 17 (adF l k)) ∧ Blk wr o 42 (tab l.length (ouF l k)) ∧ Below w.heap.size w wr

set_option maxHeartbeats 1600000 in
set_option maxRecDepth 100000 in
theorem can_codes (A : Option Addr) (c : Nat) (l : List Int) (w : World) (hr : RowOf w .i64 A c l) (hk0 : 0 ≤ kraft l) (hk1 : kind l ≠ 4) (hl : l.length ≤ 65536) (hd : ∀ n ∈ l, 0 ≤ n ∧ n ≤ 15) :
    Calls Try.prog 83 #[.slice A l.length c] w fun e w' =>
      ∃ v, e = .returned (.tuple #[v, .int .i64 0]) ∧ Own w' w.heap.size 42 v (ints .u32 (codes l)) ∧ Below w.heap.size w w' := by
  have hm := hr.most
  have hcap := hr.cap
  have HK := Lib.hid (can_kraft A c l w hr)
  have HD := Lib.hid (can_kind A c l w hr)
  have hkind : (kind l == 4) = false := by simpa using hk1
  have hmk := run_make1 (P := Try.prog) 124 42 (.int .u32 0) 4 Try.underlying124 Try.u32info rfl l.length l.length (Nat.le_refl _) (by omega) (by omega)
  go_enter Try.func83, Try.ntmps83
  go_wp2_with fail
  refine HK.out.mono ?_
  rintro e w1 ⟨rfl, rfl⟩
  have e1 : decide (kraft l < 0) = false := by simp; omega
  go_wp2_with fail
  refine HD.out.mono ?_
  rintro e w2 ⟨rfl, rfl⟩
  clear HK HD
  have hp := Blk.new w2 137 #[.int .i64 0, .int .i64 0, .int .i64 0, .int .i64 0, .int .i64 0, .int .i64 0, .int .i64 0, .int .i64 0, .int .i64 0, .int .i64 0, .int .i64 0, .int .i64 0, .int .i64 0, .int .i64 0, .int .i64 0, .int .i64 0]
  have hB : Below w2.heap.size w2 (w2.alloc (.cells #[.int .i64 0, .int .i64 0, .int .i64 0, .int .i64 0, .int .i64 0, .int .i64 0, .int .i64 0, .int .i64 0, .int .i64 0, .int .i64 0, .int .i64 0, .int .i64 0, .int .i64 0, .int .i64 0, .int .i64 0, .int .i64 0] 137)) := (Below.refl _ _).alloc (Nat.le_refl _) _
  go_wp2_with fail
  go_loopg [22] l.length (CtRel w2 l w2.heap.size)
  case atStart => exact ⟨0, by omega, by omega, rfl, hp, hB⟩
  case round =>
    clear hp hB
    obtain ⟨k, hk, hg, rfl, hp, hB⟩ := hrel
    by_cases hlt : k < l.length
    · obtain ⟨x, hx⟩ : ∃ x, l[k]? = some x := ⟨_, List.getElem?_eq_getElem hlt⟩
      obtain ⟨ad, rfl, hc⟩ := hr.rd k x hx
      have hc := (hB.cell (World.block_lt_of_cell? w2 _ hc)).trans hc
      obtain ⟨hx0, hx1⟩ := hd x (List.mem_of_getElem? hx)
      obtain ⟨n, rfl⟩ : ∃ n : Nat, x = n := ⟨x.toNat, by omega⟩
      have hn : n < 16 := by omega
      have hcn := hp.cell n
      rw [tab_get hn, cntF] at hcn
      have hfn := hp.frozen n
      have hcc := take_count hx
      have hcb : (l.take k).count (n : Int) ≤ 65536 := Nat.le_trans (List.count_le_length) (by simp; omega)
      have HC := Lib.hid hcc
      generalize hgc : (l.take k).count (n : Int) = cc at *
      have HG := Lib.hid hgc
      clear hgc hcc hx
      go_wp2_with fail
      go_roundg (gk - 1)
      case measure => omega
      case rel =>
        refine ⟨k + 1, by omega, by omega, by go_num, ?_, ?_⟩
        · have := hp.set_ n (.int .i64 ((cc : Int) + 1))
          rw [tab_set] at this
          rw [tab_congr (n := 16) (g := fun j => if j = n then .int .i64 ((cc : Int) + 1) else cntF l k j)] 
          · exact this
          · intro j hj
            simp only [cntF, HC.out]
            by_cases e : j = n
            · subst e; simp [HG.out]
            · have : ¬ (n : Int) = j := by omega
              simp [e, this]
        · exact below_set hB (Nat.le_refl _) _
    · have hkl : k = l.length := by omega
      subst hkl
      have hq : Blk (wr.setCell ⟨w2.heap.size, 0, none⟩ (.int .i64 0)) w2.heap.size 137 (tab 16 fun j => .int .i64 (cnt l j)) := by
        have := hp.set_ 0 (.int .i64 0)
        rw [tab_set] at this
        rw [tab_congr (n := 16) (g := fun j => if j = 0 then .int .i64 0 else cntF l l.length j)]
        · exact this
        · intro j _
          simp only [cntF, cnt, List.take_length]
          split <;> rfl
      have hB1 := below_set hB (p := ⟨w2.heap.size, 0, none⟩) (Nat.le_refl _) (.int .i64 0)
      have c0 := hp.cell 0
      rw [tab_get (by omega)] at c0
      have g0 := hp.frozen 0
      have hz1 := hB1.size
      have hpq0 := hp.lt
      have hsz : (wr.setCell ⟨w2.heap.size, 0, none⟩ (.int .i64 0)).heap.size = wr.heap.size := by simp [World.setCell]
      generalize hqq : wr.heap.size = q at *
      go_wp2_with fail
      generalize wr.setCell ⟨w2.heap.size, 0, none⟩ (.int .i64 0) = w3 at *
      clear c0 g0 hp hB
      have hq1 := hq.alloc (.cells #[.int .u32 0, .int .u32 0, .int .u32 0, .int .u32 0, .int .u32 0, .int .u32 0, .int .u32 0, .int .u32 0, .int .u32 0, .int .u32 0, .int .u32 0, .int .u32 0, .int .u32 0, .int .u32 0, .int .u32 0, .int .u32 0, .int .u32 0] 138)
      have hx1 := Blk.new w3 138 #[.int .u32 0, .int .u32 0, .int .u32 0, .int .u32 0, .int .u32 0, .int .u32 0, .int .u32 0, .int .u32 0, .int .u32 0, .int .u32 0, .int .u32 0, .int .u32 0, .int .u32 0, .int .u32 0, .int .u32 0, .int .u32 0, .int .u32 0]
      have hB2 := hB1.alloc hz1 (.cells #[.int .u32 0, .int .u32 0, .int .u32 0, .int .u32 0, .int .u32 0, .int .u32 0, .int .u32 0, .int .u32 0, .int .u32 0, .int .u32 0, .int .u32 0, .int .u32 0, .int .u32 0, .int .u32 0, .int .u32 0, .int .u32 0, .int .u32 0] 138)
      rw [hsz] at hx1
      clear hq hB1
      go_loopg [8] 15 (NxRel w2 l w2.heap.size q)
      case atStart => exact ⟨1, by omega, by omega, by omega, rfl, hq1, hx1, hB2⟩
      case round =>
        clear hq1 hx1 hB2
        obtain ⟨n, hn1, hn16, hgn, rfl, hp, hq, hB⟩ := hrel
        by_cases hlt : n < 16
        · have e1 : decide (n ≤ 15) = true := by simp; omega
          have c0 := hp.drew.cell n
          rw [tab_get hlt] at c0
          have c1 := hq.drew.cell n
          rw [tab_get (by omega), nxF, if_pos (Nat.le_refl _)] at c1
          have f2 := hq.drew.frozen (n + 1)
          have c2 := hq.drew.cell (n + 1)
          rw [tab_get (by omega)] at c2
          have i1 : (n : Int) < 17 := by omega
          have i2 : (n : Int) < 16 := by omega
          have i3 : (n : Int) + 1 < 17 := by omega
          go_wp2_with fail
          go_region
          go_wp2_with fail
          go_roundg (gk - 1)
          case measure => omega
          case rel =>
            refine ⟨n + 1, by omega, by omega, by omega, by go_num, ?_, ?_, ?_⟩
            · exact hp.drew.far (p := ⟨q, n + 1, none⟩) (by simp; omega) _
            · have := hq.drew.set_ (n + 1) (.int .u32 (nxt l (n + 1)))
              rw [tab_set] at this
              rw [tab_congr (n := 17) (g := fun j => if j = n + 1 then .int .u32 (nxt l (n + 1)) else nxF l n j)]
              · rw [nxt_succ l hn1] at this ⊢
                exact this
              · intro j hj
                unfold nxF
                by_cases e : j = n + 1
                · subst e; simp
                · by_cases e2 : j ≤ n
                  · simp [e, e2, show j ≤ n + 1 from by omega]
                  · simp [e, e2, show ¬ j ≤ n + 1 from by omega]
            · exact below_set hB.drew (p := ⟨q, n + 1, none⟩) (by simp; omega) _
        · have hn : n = 16 := by omega
          subst hn
          go_wp2_with fail
          have hq1 := hq.alloc (.cells (madeCells #[.int .u32 0] l.length) 42)
          have ho1 : Blk (wr.alloc (.cells (madeCells #[.int .u32 0] l.length) 42)) wr.heap.size 42 (tab l.length (ouF l 0)) := by
            have := Blk.new wr 42 (madeCells #[.int .u32 0] l.length)
            rw [show tab l.length (ouF l 0) = madeCells #[.int .u32 0] l.length from (tab_congr (fun i _ => by simp [ouF])).trans (made_tab _ _).symm]
            exact this
          have hB1 := hB.alloc hB.size (.cells (madeCells #[.int .u32 0] l.length) 42)
          have hqo := hq.lt
          have hoB := hB.size
          clear hp hq hB hmk
          generalize hoo : wr.heap.size = o at *
          generalize wr.alloc (.cells (madeCells #[.int .u32 0] l.length) 42) = w4 at *
          clear hoo
          go_loopg [54] l.length (CoRel w2 l q o)
          case atStart =>
            refine ⟨0, by omega, by omega, rfl, ?_, ?_, hB1⟩
            · rw [tab_congr (n := 17) (g := nxF l 16)]
              · exact hq1
              · intro j hj
                have e2 : j ≤ 16 := by omega
                by_cases e : j = 0
                · subst e; rfl
                · simp [adF, nxF, e, e2, adv]
            · exact ho1
          case round =>
            clear hq1 ho1 hB1
            obtain ⟨k, hk, hg, rfl, hq, ho, hB⟩ := hrel
            by_cases hlt : k < l.length
            · obtain ⟨x, hx⟩ : ∃ x, l[k]? = some x := ⟨_, List.getElem?_eq_getElem hlt⟩
              obtain ⟨ad, rfl, hc⟩ := hr.rd k x hx
              have hc := (hB.cell (World.block_lt_of_cell? w2 _ hc)).trans hc
              obtain ⟨hx0, hx1⟩ := hd x (List.mem_of_getElem? hx)
              obtain ⟨n, rfl⟩ : ∃ n : Nat, x = n := ⟨x.toNat, by omega⟩
              have hco : code l k = if n = 0 then 0 else adv (nxt l n) ((l.take k).count (n : Int)) := by
                unfold code
                rw [List.getD_eq_getElem?_getD, hx]
                simp
              have HC := Lib.hid (take_count hx)
              have HCO := Lib.hid hco
              clear hco hx
              by_cases h0 : n = 0
              · subst h0
                go_wp2_with fail
                go_roundg (gk - 1)
                case measure => omega
                case rel =>
                  refine ⟨k + 1, by omega, by omega, by go_num, ?_, ?_, hB⟩
                  · rw [tab_congr (n := 17) (g := adF l k)]
                    · exact hq
                    · intro j hj
                      unfold adF
                      by_cases e : j = 0
                      · simp [e]
                      · rw [HC.out, if_neg (show ¬ ((0 : Nat) : Int) = j by omega), Nat.add_zero]
                  · rw [tab_congr (n := l.length) (g := ouF l k)]
                    · exact ho
                    · intro j hj
                      unfold ouF
                      by_cases e : j = k
                      · subst e; simp [HCO.out]
                      · by_cases e2 : j < k
                        · simp [e2, show j < k + 1 from by omega]
                        · simp [e2, show ¬ j < k + 1 from by omega]
              · have e1 : decide (0 < n) = true := by simp; omega
                have c1 := hq.cell n
                rw [tab_get (by omega), adF, if_neg h0] at c1
                have f1 := hq.frozen n
                have c2 := ho.cell k
                rw [tab_get hlt] at c2
                have f2 := ho.frozen k
                have hne : q ≠ o := by omega
                have hne2 : o ≠ q := by omega
                generalize hav : adv (nxt l n) ((l.take k).count (n : Int)) = a at *
                have HA := Lib.hid hav
                clear hav
                go_wp2_with fail
                go_roundg (gk - 1)
                case measure => omega
                case rel =>
                  refine ⟨k + 1, by omega, by omega, by go_num, ?_, ?_, ?_⟩
                  · have := (hq.far (p := ⟨o, k, none⟩) hne (.int .u32 a)).set_ n (.int .u32 ((a + 1) % 4294967296))
                    rw [tab_set] at this
                    rw [tab_congr (n := 17) (g := fun j => if j = n then .int .u32 ((a + 1) % 4294967296) else adF l k j)]
                    · exact this
                    · intro j hj
                      unfold adF
                      by_cases e : j = n
                      · subst e
                        rw [if_neg h0, if_pos rfl, HC.out, if_pos rfl, adv, HA.out]
                      · rw [if_neg e, HC.out, if_neg (show ¬ (n : Int) = j by omega), Nat.add_zero]
                  · have := (ho.set_ k (.int .u32 a)).far (p := ⟨q, n, none⟩) hne2 (.int .u32 ((a + 1) % 4294967296))
                    rw [tab_set] at this
                    rw [tab_congr (n := l.length) (g := fun j => if j = k then .int .u32 a else ouF l k j)]
                    · exact this
                    · intro j hj
                      unfold ouF
                      by_cases e : j = k
                      · subst e
                        rw [if_pos (by omega), if_pos rfl, HCO.out, if_neg h0]
                      · rw [if_neg e]
                        by_cases e2 : j < k
                        · simp [e2, show j < k + 1 from by omega]
                        · simp [e2, show ¬ j < k + 1 from by omega]
                  · exact below_set (below_set hB (p := ⟨o, k, none⟩) (by simp; omega) _) (p := ⟨q, n, none⟩) (by simp; omega) _
            · have hkl : k = l.length := by omega
              subst hkl
              go_wp2_with fail
              go_ret2
              refine ⟨_, rfl, ?_, hB⟩
              have hlen : (ints .u32 (codes l)).length = l.length := by simp [ints, codes]
              refine ⟨by simp [ints, codes], .inr ⟨o, l.length, _, by rw [hlen]; rfl, by omega, ho, by omega, by simp [maxLen]; omega, by simp [tab], ?_⟩⟩
              apply List.ext_getElem
              · simp [tab, hlen]
              · intro i h1 h2
                have hi : i < l.length := by omega
                simp [tab, ints, codes, ouF]
theorem can_codes_neg (A : Option Addr) (c : Nat) (l : List Int) (w : World) (hr : RowOf w .i64 A c l) (hk0 : kraft l < 0) :
    Calls Try.prog 83 #[.slice A l.length c] w fun e w' => e = .returned (.tuple #[.slice none 0 0, .int .i64 7]) ∧ w' = w := by
  have hm := hr.most
  have hcap := hr.cap
  have HK := Lib.hid (can_kraft A c l w hr)
  go_enter Try.func83, Try.ntmps83
  go_wp2_with fail
  refine HK.out.mono ?_
  rintro e w1 ⟨rfl, rfl⟩
  have e1 : decide (kraft l < 0) = true := by simp; omega
  go_wp2_with fail
  go_ret2
  exact ⟨rfl, rfl⟩
theorem can_codes_over (A : Option Addr) (c : Nat) (l : List Int) (w : World) (hr : RowOf w .i64 A c l) (hk0 : 0 ≤ kraft l) (hk1 : kind l = 4) :
    Calls Try.prog 83 #[.slice A l.length c] w fun e w' => e = .returned (.tuple #[.slice none 0 0, .int .i64 2]) ∧ w' = w := by
  have hm := hr.most
  have hcap := hr.cap
  have HK := Lib.hid (can_kraft A c l w hr)
  have HD := Lib.hid (can_kind A c l w hr)
  rw [hk1] at HD
  go_enter Try.func83, Try.ntmps83
  go_wp2_with fail
  refine HK.out.mono ?_
  rintro e w1 ⟨rfl, rfl⟩
  have e1 : decide (kraft l < 0) = false := by simp; omega
  go_wp2_with fail
  refine HD.out.mono ?_
  rintro e w2 ⟨rfl, rfl⟩
  go_wp2_with fail
  go_ret2
  exact ⟨rfl, rfl⟩
end Go.Proofs.Yteknaaijlkenkaa
namespace Go.Proofs.Yteknaaijlkenkaa
open Go.RowKit

def codesErr (l : List Int) : Int := if kraft l < 0 then 7 else if kind l = 4 then 2 else 0
def codesOut (l : List Int) : List Int := if codesErr l = 0 then codes l else []
theorem kraftGo_all : ∀ {l : List Int} {s : Int}, 0 ≤ s → 0 ≤ kraftGo l s → ∀ n ∈ l, 0 ≤ n ∧ n ≤ 15
  | [], _, _, _, n, hn => by simp at hn
  | x :: l, s, hs, h, n, hn => by
    rw [kraftGo] at h
    split at h
    · omega
    · rcases List.mem_cons.1 hn with e | hn
      · subst e; omega
      · have := kr_range x
        exact kraftGo_all (by omega) h n hn
theorem kraft_good {l : List Int} (h : 0 ≤ kraft l) : l.length ≤ 65536 ∧ ∀ n ∈ l, 0 ≤ n ∧ n ≤ 15 := by
  unfold kraft at h
  split at h
  · omega
  · exact ⟨by omega, kraftGo_all (Int.le_refl _) h⟩

theorem canon_codes (A : Option Addr) (c : Nat) (l : List Int) (w : World) (hr : RowOf w .i64 A c l) :
    Calls Try.prog 83 #[.slice A l.length c] w fun e w' =>
      ∃ v, e = .returned (.tuple #[v, .int .i64 (codesErr l)]) ∧ Own w' w.heap.size 42 v (ints .u32 (codesOut l)) ∧ Below w.heap.size w w' := by
  by_cases h0 : kraft l < 0
  · have e : codesErr l = 7 := by rw [codesErr, if_pos h0]
    have e2 : codesOut l = [] := by rw [codesOut, e]; rfl
    refine (can_codes_neg A c l w hr h0).mono ?_
    rintro e w' ⟨rfl, rfl⟩
    rw [e, e2]
    exact ⟨_, rfl, Own.nil _ _ _, Below.refl _ _⟩
  · by_cases h1 : kind l = 4
    · have e : codesErr l = 2 := by rw [codesErr, if_neg h0, if_pos h1]
      have e2 : codesOut l = [] := by rw [codesOut, e]; rfl
      refine (can_codes_over A c l w hr (by omega) h1).mono ?_
      rintro e w' ⟨rfl, rfl⟩
      rw [e, e2]
      exact ⟨_, rfl, Own.nil _ _ _, Below.refl _ _⟩
    · have e : codesErr l = 0 := by rw [codesErr, if_neg h0, if_neg h1]
      have e2 : codesOut l = codes l := by rw [codesOut, e]; rfl
      obtain ⟨g1, g2⟩ := kraft_good (l := l) (by omega)
      refine (can_codes A c l w hr (by omega) h1 g1 g2).mono ?_
      rintro e w' ⟨v, rfl, ho, hb⟩
      rw [e, e2]
      exact ⟨v, rfl, ho, hb⟩

theorem RowOf.of_blk {w : World} {k : IntKind} {g : Nat} {t : TypeId} {xs : List Int} {n : Nat} (h : Blk w g t (ints k xs).toArray) (hn : xs.length = n) (hm : n ≤ 9223372036854775807) (hwf : ∀ x ∈ xs, (Lit.int k x).wf = true) : RowOf w k (some ⟨g, 0, none⟩) n xs := by
  refine ⟨fun i x hx => ⟨_, rfl, ?_⟩, by omega, hm, hwf, by simp⟩
  rw [Addr.add_lit, h.cell]
  simp [ints, hx]
theorem RowOf.below {w w' : World} {k : IntKind} {A : Option Addr} {c : Nat} {xs : List Int} (h : RowOf w k A c xs) (hb : Below w.heap.size w w') : RowOf w' k A c xs :=
  ⟨h.rd.below hb (Nat.le_refl _), h.cap, h.most, h.wf, h.nil⟩

end Go.Proofs.Yteknaaijlkenkaa
namespace Go.Proofs.Yteknaaijlkenkaa
open Go.RowKit
attribute [local go_sem] max2i min2i max2t min2t

def okL (l : List Int) : Prop := ∀ n ∈ l, 0 ≤ n ∧ n ≤ 15
theorem sum_nonneg : ∀ (l : List Int), 0 ≤ (l.map kr).sum
  | [] => by simp
  | n :: l => by
    have := sum_nonneg l
    have := kr_range n
    rw [List.map_cons, List.sum_cons]; omega
theorem kr_pos {n : Int} (h : 0 < n) : 0 < kr n := by
  unfold kr
  rw [if_pos h]
  have : 0 < 2 ^ (15 - n).toNat := Nat.pow_pos (by decide)
  generalize 2 ^ (15 - n).toNat = p at *
  omega
theorem someGo_sum : ∀ {l : List Int} {s : Nat} {d : Int}, okL l →
    s ≤ (someGo l s d).1 ∧ ((someGo l s d).1 = s → (someGo l s d).2 = d ∧ (l.map kr).sum = 0) ∧ ((someGo l s d).1 = s + 1 → (l.map kr).sum = kr (someGo l s d).2) ∧ (s < (someGo l s d).1 → 0 < (l.map kr).sum)
  | [], s, d, _ => by simp [someGo]
  | n :: l, s, d, h => by
    have hn := h n (by simp)
    have hl : okL l := fun x hx => h x (by simp [hx])
    rw [List.map_cons, List.sum_cons, someGo]
    by_cases h0 : n = 0
    · subst h0
      rw [if_neg (by simp), show kr 0 = 0 from rfl, Int.zero_add]
      exact someGo_sum hl
    · rw [if_pos h0]
      obtain ⟨i1, i2, i3, i4⟩ := someGo_sum (l := l) (s := s + 1) (d := n) hl
      have hp := kr_pos (n := n) (by omega)
      have hs := sum_nonneg l
      refine ⟨by omega, fun e => by omega, fun e => ?_, fun _ => by omega⟩
      obtain ⟨e1, e2⟩ := i2 e
      rw [e1, e2]; omega
theorem kraft_ok {l : List Int} (h : okL l) (hl : l.length ≤ 65536) : kraft l = (l.map kr).sum := by
  unfold kraft
  rw [if_neg (by omega), kraftGo_good h, Int.zero_add]
theorem kinds {l : List Int} (h : okL l) (hl : l.length ≤ 65536) :
    (kind l = 0 ∧ kraft l = 0) ∨ (kind l = 1 ∧ kraft l = 32768) ∨ (kind l = 2 ∧ kraft l = 16384) ∨ (kind l = 3 ∧ 0 < kraft l ∧ kraft l < 32768) ∨ (kind l = 4 ∧ 32768 < kraft l) := by
  obtain ⟨i1, i2, i3, i4⟩ := someGo_sum (l := l) (s := 0) (d := 0) h
  have hs := sum_nonneg l
  rw [← kraft_ok h hl] at *
  unfold kind kindOf
  by_cases a1 : (someGo l 0 0).1 = 0
  · rw [if_pos a1]; exact .inl ⟨rfl, (i2 a1).2⟩
  · rw [if_neg a1]
    have := i4 (by omega)
    by_cases a2 : kraft l = 32768
    · rw [if_pos a2]; exact .inr (.inl ⟨rfl, a2⟩)
    · rw [if_neg a2]
      by_cases a3 : kraft l < 0 ∨ 32768 < kraft l
      · rw [if_pos a3]; exact .inr (.inr (.inr (.inr ⟨rfl, by omega⟩)))
      · rw [if_neg a3]
        by_cases a4 : (someGo l 0 0).1 = 1 ∧ (someGo l 0 0).2 = 1
        · rw [if_pos a4]
          have := i3 (by omega)
          rw [a4.2] at this
          exact .inr (.inr (.inl ⟨rfl, this⟩))
        · rw [if_neg a4]; exact .inr (.inr (.inr (.inl ⟨rfl, by omega⟩)))
theorem kraft_snoc {l : List Int} (h : okL l) (hl : l.length ≤ 100) {m : Int} (hm : 0 ≤ m ∧ m ≤ 15) : kraft (l ++ [m]) = kraft l + kr m := by
  have h2 : okL (l ++ [m]) := fun x hx => by
    rcases List.mem_append.1 hx with hx | hx
    · exact h x hx
    · simp at hx; subst hx; exact hm
  rw [kraft_ok h (by omega), kraft_ok h2 (by simp; omega)]
  simp

theorem RowOf.of_own {w : World} {base : Nat} {k : IntKind} {e : TypeId} {v : Value} {xs : List Int} (h : Own w base e v (ints k xs)) (hwf : ∀ x ∈ xs, (Lit.int k x).wf = true) : ∃ A c, v = .slice A xs.length c ∧ RowOf w k A c xs := by
  obtain ⟨A, c, rfl, hc, hr⟩ := h.rd
  refine ⟨A, c, rfl, hr, hc, ?_, hwf, ?_⟩
  · rcases h.2 with ⟨e, _⟩ | ⟨g, cap, cur, e, _, _, _, hm, _⟩
    · injection e with e1 e2 e3; omega
    · injection e with e1 e2 e3; subst e3; simpa [maxLen] using hm
  · intro hA
    rcases h.2 with ⟨e, _⟩ | ⟨g, cap, cur, e, _, _, _, hm, _⟩
    · injection e with e1 e2 e3
    · injection e with e1 e2 e3; rw [hA] at e1; cases e1
theorem own_ge {w : World} {base : Nat} {e : TypeId} {m : Nat} {v : Value} {n : Nat} {xs : List Value} (h : w.ownsRow base e m v n xs) (k : Nat) (hk : v.ownBlock = some k) : base ≤ k := by
  rcases h.2 with ⟨rfl, _⟩ | ⟨g, cap, cur, rfl, hb, _⟩
  · simp [Value.ownBlock] at hk
  · simp [Value.ownBlock] at hk; omega
theorem RdI.rdn {w : World} {k : IntKind} {A : Option Addr} {xs : List Int} (h : RdI w k A xs) : RdN w A (ints k xs) := fun j u hj => by
  obtain ⟨x, hx, rfl⟩ : ∃ x, xs[j]? = some x ∧ u = .int k x := by
    rw [ints, List.getElem?_map] at hj
    obtain ⟨x, hx, e⟩ := Option.map_eq_some_iff.1 hj
    exact ⟨x, hx, e.symm⟩
  have h0 : 0 < xs.length := by have := (List.getElem?_eq_some_iff.1 hx).1; omega
  obtain ⟨ad0, e0, hc0⟩ := h 0 _ (List.getElem?_eq_getElem h0)
  obtain ⟨ad, e, hc⟩ := h j x hx
  rw [e0] at e
  injection e with e
  subst e
  have hs := (cell_plain hc0).2 rfl
  exact ⟨ad0.block, ad0.off, by rw [e0]; cases ad0; simp at hs; subst hs; rfl, (cell_plain hc).1⟩
theorem RdN.alloc_ {w : World} {A : Option Addr} {cs : List Value} (h : RdN w A cs) (o : Obj) : RdN (w.alloc o) A cs := fun j u hj => by
  obtain ⟨b, off, e, hc⟩ := h j u hj
  exact ⟨b, off, e, ((Same.refl (S := fun _ => False) w).alloc o).cell hc (fun c => c)⟩
theorem one_ints (k : IntKind) (xs : List Int) : ∀ u ∈ ints k xs, u.oneCell' = true := by
  intro u hu
  obtain ⟨x, _, rfl⟩ := List.mem_map.1 hu
  rfl
theorem okL_snoc {l : List Int} {m : Int} (h : okL l) (hm : 0 ≤ m ∧ m ≤ 15) : okL (l ++ [m]) := fun x hx => by
  rcases List.mem_append.1 hx with hx | hx
  · exact h x hx
  · simp at hx; subst hx; exact hm
section
variable {P : Program} {ops : Array Oper} {Q : Exit → Act → World → Prop} {a : Act} {w : World} {rest : List Oper} {o : Oper}
theorem wpList_unguard (hw : Region.wanted o (yielded ops a.tmps) = true) (h : wpList P ops Q ({ o with guard := none } :: rest) a w) : wpList P ops Q (o :: rest) a w := by
  unfold wpList at *
  rw [if_pos hw]
  rw [if_pos (by rfl)] at h
  exact h
end
theorem wf15 {x : Int} (h : 0 ≤ x ∧ x ≤ 15) : (Lit.int .i64 x).wf = true := WalkArith.wf_i64 (by omega)

theorem Try.intinfo : (Try.prog.info? 3).map (fun i => (i.zero, i.size, i.bytes)) = some (some (.int .i64 0), 1, 8) := by kernel_rfl

structure KkRel (w : World) (l : List Int) (g : Nat) (v5 v6 : Value) (wr : World) : Prop where mk ::
  out_ : ∃ (k : Nat) (cur : List Int), k ≤ l.length ∧ l.length ≤ g + k ∧ v6 = .int .i64 (k : Int) ∧ Own wr w.heap.size 3 v5 (ints .i64 cur) ∧ cur.length = k ∧ okL cur ∧ Below w.heap.size w wr

end Go.Proofs.Yteknaaijlkenkaa
namespace Go.Proofs.Yteknaaijlkenkaa
open Go.RowKit

theorem adv_mod' {x : Int} (h0 : 0 ≤ x) (h1 : x < 4294967296) : ∀ m, adv x m = (x + m) % 4294967296
  | 0 => by simp [adv]; omega
  | m + 1 => by rw [adv, adv_mod' h0 h1 m]; omega
/-- What the codes shorter than n take, by 2^15. -/
def below15 (l : List Int) : Nat → Nat
  | 0 => 0
  | n + 1 => below15 l n + cnt l n * 2 ^ (15 - n)
theorem below15_mono (l : List Int) {n m : Nat} (h : n ≤ m) : below15 l n ≤ below15 l m := by
  induction m with
  | zero => have : n = 0 := by omega
            subst this; exact Nat.le_refl _
  | succ m ih =>
    by_cases e : n = m + 1
    · subst e; exact Nat.le_refl _
    · exact Nat.le_trans (ih (by omega)) (Nat.le_add_right _ _)
theorem cnt_cons (x : Int) (l : List Int) (n : Nat) : cnt (x :: l) n = cnt l n + if n ≠ 0 ∧ x = n then 1 else 0 := by
  unfold cnt
  by_cases h0 : n = 0
  · simp [h0]
  · rw [if_neg h0, if_neg h0, List.count_cons]
    by_cases hx : x = n
    · simp [hx, h0]
    · simp [hx]
theorem below15_cons {x : Nat} (l : List Int) : ∀ n, below15 ((x : Int) :: l) n = below15 l n + if 1 ≤ x ∧ x < n then 2 ^ (15 - x) else 0
  | 0 => by simp [below15]
  | n + 1 => by
    rw [below15, below15, below15_cons l n, cnt_cons]
    by_cases e : n ≠ 0 ∧ (x : Int) = n
    · have : x = n := by omega
      subst this
      rw [if_pos e, if_neg (by omega), if_pos (by omega), Nat.add_mul]
      omega
    · rw [if_neg e, Nat.add_zero]
      by_cases h : 1 ≤ x ∧ x < n
      · rw [if_pos h, if_pos (by omega)]; omega
      · rw [if_neg h, if_neg (by omega)]; omega
theorem below15_all : ∀ {l : List Int}, okL l → (below15 l 16 : Int) = (l.map kr).sum
  | [], _ => by decide
  | x :: l, h => by
    have hx := h x (by simp)
    have ih := below15_all (l := l) (fun y hy => h y (by simp [hy]))
    obtain ⟨n, rfl⟩ : ∃ n : Nat, x = n := ⟨x.toNat, by omega⟩
    rw [below15_cons, List.map_cons, List.sum_cons, ← ih]
    unfold kr
    by_cases h0 : 1 ≤ n
    · rw [if_pos (by omega), if_pos (by omega), show (15 - (n : Int)).toNat = 15 - n from by omega]
      generalize 2 ^ (15 - n) = p
      omega
    · rw [if_neg (by omega), if_neg (by omega)]
      omega
theorem pow_step {n : Nat} (h : n + 1 ≤ 15) : 2 * 2 ^ (15 - (n + 1)) = 2 ^ (15 - n) := by
  rw [← Nat.pow_succ']; congr 1; omega
/-- No wrap: the first code of a length. -/
theorem nxt_true {l : List Int} (hS : below15 l 16 ≤ 32768) : ∀ n, 1 ≤ n → n ≤ 15 → ∃ m : Nat, nxt l n = m ∧ m * 2 ^ (15 - n) = below15 l n
  | 0, h, _ => by omega
  | 1, _, _ => ⟨0, rfl, by simp [below15, cnt]⟩
  | n + 2, _, h15 => by
    obtain ⟨m, e1, e2⟩ := nxt_true hS (n + 1) (by omega) (by omega)
    have hb : below15 l (n + 2) = below15 l (n + 1) + cnt l (n + 1) * 2 ^ (15 - (n + 1)) := rfl
    have hm := below15_mono l (show n + 2 ≤ 16 by omega)
    have hsum : (m + cnt l (n + 1)) * 2 ^ (15 - (n + 1)) = below15 l (n + 2) := by rw [Nat.add_mul, e2, hb]
    have hp : 1 ≤ 2 ^ (15 - (n + 1)) := Nat.pow_pos (by decide)
    have hle : m + cnt l (n + 1) ≤ 32768 := by
      have := Nat.mul_le_mul_left (m + cnt l (n + 1)) hp
      omega
    refine ⟨(m + cnt l (n + 1)) * 2, ?_, ?_⟩
    · rw [nxt_succ l (by omega), e1]
      omega
    · rw [Nat.mul_assoc, pow_step (by omega)]
      exact hsum
theorem count_take_lt {l : List Int} {i : Nat} {x : Int} (h : l[i]? = some x) : (l.take i).count x + 1 ≤ l.count x := by
  have h1 := take_count h x
  rw [if_pos rfl] at h1
  have := List.Sublist.count_le x (List.take_sublist (i + 1) l)
  omega
/-- The code of a symbol, as a place. -/
theorem code_true {l : List Int} (hS : below15 l 16 ≤ 32768) {i n : Nat} (h : l[i]? = some (n : Int)) (h1 : 1 ≤ n) (h15 : n ≤ 15) :
    ∃ C : Nat, code l i = C ∧ C * 2 ^ (15 - n) = below15 l n + (l.take i).count (n : Int) * 2 ^ (15 - n) ∧ (l.take i).count (n : Int) + 1 ≤ cnt l n ∧ C * 2 ^ (15 - n) + 2 ^ (15 - n) ≤ below15 l (n + 1) := by
  obtain ⟨m, e1, e2⟩ := nxt_true hS n h1 h15
  have hc := count_take_lt h
  have hg : l.getD i 0 = n := by rw [List.getD_eq_getElem?_getD, h]; rfl
  have hcn : cnt l n = l.count (n : Int) := by unfold cnt; rw [if_neg (by omega)]
  have hb : below15 l (n + 1) = below15 l n + cnt l n * 2 ^ (15 - n) := rfl
  have hm := below15_mono l (show n + 1 ≤ 16 by omega)
  generalize hq : (l.take i).count (n : Int) = b at *
  rw [← hcn] at hc
  have hmul : (b + 1) * 2 ^ (15 - n) ≤ cnt l n * 2 ^ (15 - n) := Nat.mul_le_mul_right _ hc
  have hsum : (m + b) * 2 ^ (15 - n) = below15 l n + b * 2 ^ (15 - n) := by rw [Nat.add_mul, e2]
  have hs1 : (b + 1) * 2 ^ (15 - n) = b * 2 ^ (15 - n) + 2 ^ (15 - n) := by rw [Nat.add_mul]; omega
  have hp : 1 ≤ 2 ^ (15 - n) := Nat.pow_pos (by decide)
  have hle : m + b ≤ 32768 := by
    have := Nat.mul_le_mul_left (m + b) hp
    omega
  refine ⟨m + b, ?_, hsum, hc, by omega⟩
  unfold code
  rw [hg, Int.toNat_natCast, if_neg (by omega), hq, e1, adv_mod' (by omega) (by omega)]
  omega
/-- Two codes: the shorter (or the earlier of two alike) ends ahead of the other's beginning. -/
theorem code_order {l : List Int} (hS : below15 l 16 ≤ 32768) {i k n m : Nat} (h : l[i]? = some (n : Int)) (h' : l[k]? = some (m : Int)) (h1 : 1 ≤ n) (h15 : m ≤ 15)
    (hlt : n < m ∨ (n = m ∧ i < k)) {C D : Nat} (hC : code l i = C) (hD : code l k = D) : C * 2 ^ (15 - n) + 2 ^ (15 - n) ≤ D * 2 ^ (15 - m) := by
  have hnm : n ≤ m := by omega
  obtain ⟨C', e1, e2, e3, e4⟩ := code_true hS h h1 (by omega)
  obtain ⟨D', g1, g2, g3, g4⟩ := code_true hS h' (by omega) h15
  have : C' = C := by omega
  subst this
  have : D' = D := by omega
  subst this
  rcases hlt with hlt | ⟨rfl, hlt⟩
  · have := below15_mono l (show n + 1 ≤ m from hlt)
    omega
  · have hc : (l.take i).count (n : Int) + 1 ≤ (l.take k).count (n : Int) := by
      have h2 := take_count h (n : Int)
      rw [if_pos rfl] at h2
      have := List.Sublist.count_le (n : Int) (show (l.take (i + 1)).Sublist (l.take k) from by
        rw [show l.take (i + 1) = (l.take k).take (i + 1) from by rw [List.take_take, Nat.min_eq_left (by omega)]]
        exact List.take_sublist _ _)
      omega
    have := Nat.mul_le_mul_right (2 ^ (15 - n)) hc
    rw [Nat.add_mul, Nat.one_mul] at this
    omega
theorem pow_split {n m : Nat} (h : n ≤ m) (h15 : m ≤ 15) : 2 ^ (m - n) * 2 ^ (15 - m) = 2 ^ (15 - n) := by
  rw [← Nat.pow_add]; congr 1; omega
/-- Seen by the shorter one's bits, the later code is greater. -/
theorem code_prefix {l : List Int} (hS : below15 l 16 ≤ 32768) {i k n m : Nat} (h : l[i]? = some (n : Int)) (h' : l[k]? = some (m : Int)) (h1 : 1 ≤ n) (h15 : m ≤ 15)
    (hlt : n < m ∨ (n = m ∧ i < k)) {C D : Nat} (hC : code l i = C) (hD : code l k = D) : C + 1 ≤ D / 2 ^ (m - n) := by
  have ho := code_order hS h h' h1 h15 hlt hC hD
  have hs := pow_split (n := n) (m := m) (by omega) h15
  have hp : 0 < 2 ^ (15 - m) := Nat.pow_pos (by decide)
  rw [Nat.le_div_iff_mul_le (Nat.pow_pos (by decide))]
  rw [← hs, ← Nat.mul_assoc, show C * 2 ^ (m - n) * 2 ^ (15 - m) + 2 ^ (m - n) * 2 ^ (15 - m) = (C + 1) * 2 ^ (m - n) * 2 ^ (15 - m) from by rw [Nat.add_mul, Nat.add_mul, Nat.one_mul]] at ho
  exact Nat.le_of_mul_le_mul_right ho hp
theorem code_small {l : List Int} (hS : below15 l 16 ≤ 32768) {i n : Nat} (h : l[i]? = some (n : Int)) (h1 : 1 ≤ n) (h15 : n ≤ 15) {C : Nat} (hC : code l i = C) : C < 2 ^ n := by
  obtain ⟨C', e1, e2, e3, e4⟩ := code_true hS h h1 h15
  have : C' = C := by omega
  subst this
  have hm := below15_mono l (show n + 1 ≤ 16 by omega)
  have hs := pow_split (n := 0) (m := n) (by omega) h15
  rw [Nat.sub_zero] at hs
  have hp : 0 < 2 ^ (15 - n) := Nat.pow_pos (by decide)
  have : (C' + 1) * 2 ^ (15 - n) ≤ 2 ^ n * 2 ^ (15 - n) := by
    rw [hs, Nat.add_mul, Nat.one_mul]
    have : 2 ^ (15 - 0) = 32768 := by decide
    omega
  exact Nat.le_of_mul_le_mul_right this hp
/-- The symbol that is there at a place. -/
theorem find_count : ∀ {l : List Int} {x : Int} {b : Nat}, b < l.count x → ∃ i, l[i]? = some x ∧ (l.take i).count x = b
  | [], x, b, h => by simp at h
  | y :: l, x, b, h => by
    rw [List.count_cons] at h
    by_cases hy : y = x
    · subst hy
      by_cases hb : b = 0
      · exact ⟨0, by simp, by simp [hb]⟩
      · obtain ⟨i, h1, h2⟩ := find_count (l := l) (x := y) (b := b - 1) (by simp at h; omega)
        exact ⟨i + 1, by simpa using h1, by simp [h2]; omega⟩
    · obtain ⟨i, h1, h2⟩ := find_count (l := l) (x := x) (b := b) (by simpa [hy] using h)
      exact ⟨i + 1, by simpa using h1, by simp [h2, hy]⟩
/-- Where nothing is left, each row of 15 bits begins with a code. -/
theorem code_cover {l : List Int} (hS : below15 l 16 = 32768) {R : Nat} (hR : R < 32768) : ∃ i n : Nat, l[i]? = some (n : Int) ∧ 1 ≤ n ∧ n ≤ 15 ∧ code l i = ((R / 2 ^ (15 - n) : Nat) : Int) := by
  have hex : ∀ m, R < below15 l m → ∃ n, n < m ∧ below15 l n ≤ R ∧ R < below15 l (n + 1) := fun m => by
    induction m with
    | zero => intro h; simp [below15] at h
    | succ m ih =>
      intro h
      by_cases hm : R < below15 l m
      · obtain ⟨n, h1, h2⟩ := ih hm; exact ⟨n, by omega, h2⟩
      · exact ⟨m, by omega, by omega, h⟩
  obtain ⟨n, hn, hlo, hhi⟩ := hex 16 (by omega)
  have hb : below15 l (n + 1) = below15 l n + cnt l n * 2 ^ (15 - n) := rfl
  have hp : 0 < 2 ^ (15 - n) := Nat.pow_pos (by decide)
  have hn0 : n ≠ 0 := fun e => by
    subst e
    have hb0 : below15 l (0 + 1) = below15 l 0 := by simp [below15, cnt]
    have : below15 l 0 = 0 := rfl
    omega
  have hlt : (R - below15 l n) / 2 ^ (15 - n) < l.count (n : Int) := by
    have hcn : cnt l n = l.count (n : Int) := by unfold cnt; rw [if_neg hn0]
    rw [← hcn, Nat.div_lt_iff_lt_mul hp]
    omega
  obtain ⟨i, h1, h2⟩ := find_count hlt
  obtain ⟨C, e1, e2, _, _⟩ := code_true (by omega) h1 (by omega) (by omega)
  refine ⟨i, n, h1, by omega, by omega, ?_⟩
  rw [e1]
  obtain ⟨m, _, hm⟩ := nxt_true (l := l) (by omega) n (by omega) (by omega)
  rw [h2, ← hm, ← Nat.add_mul] at e2
  have hC : C = m + (R - m * 2 ^ (15 - n)) / 2 ^ (15 - n) := Nat.eq_of_mul_eq_mul_right hp e2
  rw [hC]
  congr 1
  have hR2 : R = m * 2 ^ (15 - n) + (R - m * 2 ^ (15 - n)) := by omega
  conv => rhs; rw [hR2, Nat.add_comm, Nat.add_mul_div_right _ _ hp]
  omega
end Go.Proofs.Yteknaaijlkenkaa
