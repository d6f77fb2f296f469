import Derived.Test.YteknaaijlkenkaaBase
import Derived.Test.YteknaaijlkenkaaRows
namespace Go.Proofs.Yteknaaijlkenkaa
set_option linter.unusedVariables false
set_option linter.unusedSimpArgs false

/-- All that was ever put, and n bytes more, each the one d places ahead. -/
def ext (all : List Int) (d : Nat) : Nat → List Int
  | 0 => all
  | n + 1 => ext all d n ++ [(ext all d n).getD ((ext all d n).length - d) 0]

theorem ext_length (all : List Int) (d n : Nat) : (ext all d n).length = all.length + n := by
  induction n with
  | zero => rfl
  | succ n ih => simp [ext, ih]; omega

theorem ext_old (all : List Int) (d n i : Nat) (h : i < all.length) : (ext all d n)[i]? = all[i]? := by
  induction n with
  | zero => rfl
  | succ n ih => rw [ext, List.getElem?_append_left (by rw [ext_length]; omega), ih]

theorem ext_take (all : List Int) (d n : Nat) : (ext all d n).take all.length = all := by
  apply List.ext_getElem?
  intro i
  rw [List.getElem?_take]
  split
  · rename_i h; exact ext_old all d n i h
  · rename_i h; rw [List.getElem?_eq_none (by omega)]

theorem ext_split (all : List Int) (d n : Nat) : ext all d n = all ++ (ext all d n).drop all.length := by
  conv => lhs; rw [← List.take_append_drop all.length (ext all d n), ext_take]

theorem ext_mono (all : List Int) (d : Nat) : ∀ n m i, i < all.length + n → (ext all d (n + m))[i]? = (ext all d n)[i]?
  | n, 0, i, _ => rfl
  | n, m + 1, i, h => by
    rw [← Nat.add_assoc, ext, List.getElem?_append_left (by rw [ext_length]; omega)]
    exact ext_mono all d n m i h

/-- Each new byte is the one d places ahead. -/
theorem ext_new (all : List Int) (d n i : Nat) (hi : i < n) (hd : 1 ≤ d) (hda : d ≤ all.length) : (ext all d n)[all.length + i]? = (ext all d n)[all.length + i - d]? := by
  obtain ⟨m, rfl⟩ : ∃ m, n = (i + 1) + m := ⟨n - (i + 1), by omega⟩
  rw [ext_mono all d (i + 1) m _ (by omega), ext_mono all d (i + 1) m _ (by omega), ext]
  have hl := ext_length all d i
  rw [List.getElem?_append_right (by omega), List.getElem?_append_left (by omega), hl]
  simp only [Nat.sub_self, List.getElem?_cons_zero]
  rw [List.getD_eq_getElem?_getD, List.getElem?_eq_getElem (by omega)]
  rfl

/-- It repeats what stood there. -/
theorem ext_repeats (all : List Int) (d n : Nat) (hd : 1 ≤ d) (hda : d ≤ all.length) : ∀ i, i < n → (ext all d n)[all.length + i]? = all[all.length - d + i % d]?
  | i, hi => by
    rw [ext_new all d n i hi hd hda]
    by_cases h : i < d
    · rw [Nat.mod_eq_of_lt h, ext_old all d n _ (by omega)]
      congr 1
      omega
    · have := ext_repeats all d n hd hda (i - d) (by omega)
      rw [show all.length + i - d = all.length + (i - d) from by omega, this, ← Nat.mod_eq_sub_mod (by omega)]

theorem mod_ne {s i n : Nat} (h1 : i < n) (h2 : n < i + s) : i % s ≠ n % s := by
  intro e
  have := Nat.sub_mod_eq_zero_of_mod_eq e.symm
  have h3 := Nat.le_of_dvd (by omega) (Nat.dvd_of_mod_eq_zero this)
  omega
end Go.Proofs.Yteknaaijlkenkaa
namespace Go.Proofs.Yteknaaijlkenkaa
open Go.RowKit

/-- Blocks p (the struct) and r (the ring) are a window of so many places with all that was ever put. -/
structure WinAt (w : World) (p r size : Nat) (all : List Int) (ring : List Int) : Prop where
  ne : p ≠ r
  pb : Blk w p 105 #[.slice (some ⟨r, 0, none⟩) size size, .int .i64 all.length]
  rb : Blk w r 5 (ints .u8 ring).toArray
  len : ring.length = size
  lo : 1 ≤ size
  hi : size ≤ 65536
  at_ : ∀ i, i < all.length → all.length < i + size + 1 → ring[i % size]? = all[i]?

theorem WinAt.drewN {w : World} {p r size : Nat} {all ring : List Int} (h : WinAt w p r size all ring) (n : Nat) : WinAt (w.drewN n) p r size all ring := ⟨h.ne, h.pb, h.rb, h.len, h.lo, h.hi, h.at_⟩
theorem WinAt.drew {w : World} {p r size : Nat} {all ring : List Int} (h : WinAt w p r size all ring) : WinAt w.drew p r size all ring := ⟨h.ne, h.pb, h.rb, h.len, h.lo, h.hi, h.at_⟩
theorem WinAt.kept {w w' : World} {p r size : Nat} {all ring : List Int} {S : Nat → Prop} (h : WinAt w p r size all ring) (hs : Same S w w') (hp : ¬ S p) (hr : ¬ S r) : WinAt w' p r size all ring :=
  ⟨h.ne, h.pb.same hs hp, h.rb.same hs hr, h.len, h.lo, h.hi, h.at_⟩
theorem WinAt.put {w : World} {p r size : Nat} {all ring : List Int} (h : WinAt w p r size all ring) (c : Int) :
    WinAt ((w.setCell ⟨r, all.length % size, none⟩ (.int .u8 c)).setCell ⟨p, 1, none⟩ (.int .i64 ((all.length : Int) + 1))) p r size (all ++ [c]) (ring.set (all.length % size) c) := by
  have hm := Nat.mod_lt all.length (by have := h.lo; omega : 0 < size)
  refine ⟨h.ne, ?_, ?_, by simp [h.len], h.lo, h.hi, ?_⟩
  · have := (h.pb.far (p := ⟨r, all.length % size, none⟩) h.ne (.int .u8 c)).set_ 1 (.int .i64 ((all.length : Int) + 1))
    simpa using this
  · have := (h.rb.set_ (all.length % size) (.int .u8 c)).far (p := ⟨p, 1, none⟩) (Ne.symm h.ne) (.int .i64 ((all.length : Int) + 1))
    simpa [ints, List.map_set] using this
  · intro i hi hle
    simp only [List.length_append, List.length_cons, List.length_nil] at hi hle
    by_cases e : i = all.length
    · subst e
      rw [List.getElem?_set_self (by rw [h.len]; exact hm)]
      simp
    · rw [List.getElem?_set_ne (mod_ne (by omega) (by omega)).symm, h.at_ i (by omega) (by omega), List.getElem?_append_left (by omega)]

abbrev two (p r : Nat) : Nat → Prop := fun k => k = p ∨ k = r

set_option maxHeartbeats 400000 in
theorem put_run (p r size : Nat) (all ring : List Int) (c : Int) (w : World) (h : WinAt w p r size all ring) (hl : all.length < 4611686018427387904) :
    Calls Try.prog 81 #[.pointer (some ⟨p, 0, none⟩), .int .u8 c] w fun e w' => e = .returned (.tuple #[]) ∧
      w' = ((w.setCell ⟨r, all.length % size, none⟩ (.int .u8 c)).setCell ⟨p, 1, none⟩ (.int .i64 ((all.length : Int) + 1))).drew := by
  have h0 := h.pb.cell 0
  have h1 := h.pb.cell 1
  have hi := Nat.mod_lt all.length (by have := h.lo; omega : 0 < size)
  have h2 : w.cell? ⟨r, all.length % size, none⟩ = some (.int .u8 (ring.getD (all.length % size) 0)) := by
    rw [h.rb.cell]; simp [ints, h.len, hi]
  have f0 := h.rb.frozen (all.length % size)
  have f1 := h.pb.frozen 1
  have hs0 := h.lo
  have hs1 := h.hi
  have hne : r ≠ p := fun e => h.ne e.symm
  generalize all.length = n at *
  generalize ring.getD (n % size) 0 = x at *
  clear h
  go_enter Try.func81, Try.ntmps81
  go_wp2
  go_region
  all_goals (go_wp2; go_end0; exact ⟨rfl, rfl⟩)

theorem put_win {p r size : Nat} {all ring : List Int} (c : Int) {w : World} (h : WinAt w p r size all ring) (hl : all.length < 4611686018427387904) :
    Calls Try.prog 81 #[.pointer (some ⟨p, 0, none⟩), .int .u8 c] w fun e w' => e = .returned (.tuple #[]) ∧
      WinAt w' p r size (all ++ [c]) (ring.set (all.length % size) c) ∧ Same (two p r) w w' := by
  refine (put_run p r size all ring c w h hl).mono ?_
  rintro e w' ⟨rfl, rfl⟩
  exact ⟨rfl, (h.put c).drew, (((Same.refl w).set_ (fun _ => .inr rfl) _).set_ (fun _ => .inl rfl) _).drew⟩

set_option maxHeartbeats 400000 in
set_option maxHeartbeats 400000 in
theorem have_win {p r size : Nat} {all ring : List Int} {w : World} (h : WinAt w p r size all ring) :
    Calls Try.prog 74 #[.pointer (some ⟨p, 0, none⟩)] w fun e w' => e = .returned (.int .i64 ((min all.length size : Nat) : Int)) ∧ w' = w.drew := by
  have h0 := h.pb.cell 0
  have h1 := h.pb.cell 1
  have e : ((min all.length size : Nat) : Int) = if (size : Int) < all.length then (size : Int) else all.length := by split <;> omega
  rw [e]
  generalize all.length = n at *
  clear h e
  go_enter Try.func74, Try.ntmps74
  go_wp2
  go_region
  all_goals go_wp2
  all_goals (go_ret; exact ⟨rfl, rfl⟩)

theorem Try.u8info : (Try.prog.info? 5).map (fun i => (i.zero, i.size, i.bytes)) = some (some (.int .u8 0), 1, 1) := by kernel_rfl

set_option maxHeartbeats 400000 in
theorem new_bad {n : Int} {w : World} (h : n < 1 ∨ 65536 < n) :
    Calls Try.prog 45 #[.int .i64 n] w fun e w' => e = .returned (.tuple #[.pointer none, .int .i64 7]) ∧ w' = w := by
  by_cases h1 : n < 1
  · go_enter Try.func45, Try.ntmps45
    go_wp2
    go_ret2
    exact ⟨rfl, rfl⟩
  · have h2 : 65536 < n := by omega
    go_enter Try.func45, Try.ntmps45
    go_wp2
    go_ret2
    exact ⟨rfl, rfl⟩

set_option maxHeartbeats 400000 in
theorem new_run {n : Nat} {w : World} (h1 : 1 ≤ n) (h2 : n ≤ 65536) :
    Calls Try.prog 45 #[.int .i64 n] w fun e w' => e = .returned (.tuple #[.pointer (some ⟨w.heap.size + 1, 0, none⟩), .int .i64 0]) ∧
      w' = (w.alloc (.cells (madeCells #[.int .u8 0] n) 5)).alloc (.cells #[.slice (some ⟨w.heap.size, 0, none⟩) n n, .int .i64 0] 105) := by
  have hmk := run_make1 (P := Try.prog) 22 5 (.int .u8 0) 1 Try.underlying22 Try.u8info rfl n n (Nat.le_refl _) (by omega) (by omega)
  go_enter Try.func45, Try.ntmps45
  go_wp2
  go_ret2
  exact ⟨rfl, rfl⟩

theorem new_win {n : Nat} {w : World} (h1 : 1 ≤ n) (h2 : n ≤ 65536) :
    Calls Try.prog 45 #[.int .i64 n] w fun e w' => ∃ p r ring, e = .returned (.tuple #[.pointer (some ⟨p, 0, none⟩), .int .i64 0]) ∧
      WinAt w' p r n [] ring ∧ w.heap.size ≤ p ∧ w.heap.size ≤ r ∧ Same (fun _ => False) w w' := by
  refine (new_run h1 h2).mono ?_
  rintro e w' ⟨rfl, rfl⟩
  refine ⟨w.heap.size + 1, w.heap.size, List.replicate n 0, rfl, ⟨by omega, ?_, ?_, by simp, h1, h2, fun i h _ => by simp at h⟩, by omega, by omega, ((Same.refl w).alloc _).alloc _⟩
  · have := Blk.new (w.alloc (.cells (madeCells #[.int .u8 0] n) 5)) 105 #[.slice (some ⟨w.heap.size, 0, none⟩) n n, .int .i64 0]
    simpa using this
  · have := (Blk.new w 5 (madeCells #[.int .u8 0] n)).alloc (.cells #[.slice (some ⟨w.heap.size, 0, none⟩) n n, .int .i64 0] 105)
    rw [← made_ints]
    exact this


set_option maxHeartbeats 400000 in
theorem copy_arg {p : Option Addr} {d n : Int} {w : World} (h : n < 0 ∨ 65538 < n) :
    Calls Try.prog 75 #[.pointer p, .int .i64 d, .int .i64 n] w fun e w' => e = .returned (.tuple #[.slice none 0 0, .int .i64 1]) ∧ w' = w := by
  by_cases h1 : n < 0
  · cases p <;>
    · go_enter Try.func75, Try.ntmps75
      go_wp2
      go_ret2
      exact ⟨rfl, rfl⟩
  · have h2 : 65538 < n := by omega
    cases p <;>
    · go_enter Try.func75, Try.ntmps75
      go_wp2
      go_ret2
      exact ⟨rfl, rfl⟩

set_option maxHeartbeats 400000 in
theorem copy_form {p r size : Nat} {all ring : List Int} {d n : Int} {w : World} (h : WinAt w p r size all ring) (h1 : 0 ≤ n) (h2 : n ≤ 65538) (hd : d < 1 ∨ ((min all.length size : Nat) : Int) < d) :
    Calls Try.prog 75 #[.pointer (some ⟨p, 0, none⟩), .int .i64 d, .int .i64 n] w fun e w' => e = .returned (.tuple #[.slice none 0 0, .int .i64 2]) ∧ Same (fun _ => False) w w' := by
  by_cases h3 : d < 1
  · clear hd
    go_enter Try.func75, Try.ntmps75
    go_wp2
    go_ret2
    exact ⟨rfl, Same.refl _⟩
  · have h4 : ((min all.length size : Nat) : Int) < d := by omega
    clear hd
    have hh := have_win h
    generalize (min all.length size) = m at *
    have H := Lib.hid hh
    clear hh
    go_enter Try.func75, Try.ntmps75
    go_wp2_with (go_at_call 74; refine H.out.mono ?_; rintro e w' ⟨rfl, rfl⟩)
    go_ret2
    exact ⟨rfl, (Same.refl _).drew⟩

/-- The relation of Copy's loop: k bytes have been copied. -/
structure CopyRel (w : World) (p r size : Nat) (all : List Int) (d n : Nat) (g : Nat) (v8 v33 : Value) (wr : World) : Prop where mk ::
  out : ∃ k ring, k ≤ n ∧ n ≤ g + k ∧ v33 = .int .i64 (k : Int) ∧ WinAt wr p r size (ext all d k) ring ∧ Own wr w.heap.size 5 v8 (ints .u8 ((ext all d k).drop all.length)) ∧ Same (two p r) w wr

set_option maxHeartbeats 800000 in
theorem copy_ok {p r size : Nat} {all ring : List Int} {d n : Nat} {w : World} (h : WinAt w p r size all ring) (h2 : n ≤ 65538) (hd1 : 1 ≤ d) (hd : d ≤ min all.length size) (hl : all.length < 2305843009213693952) :
    Calls Try.prog 75 #[.pointer (some ⟨p, 0, none⟩), .int .i64 d, .int .i64 n] w fun e w' => ∃ v ring', e = .returned (.tuple #[v, .int .i64 0]) ∧
      WinAt w' p r size (ext all d n) ring' ∧ Own w' w.heap.size 5 v (ints .u8 ((ext all d n).drop all.length)) ∧ Same (two p r) w w' := by
  have hmk := run_make0 (P := Try.prog) 22 5 (.int .u8 0) 1 Try.underlying22 Try.u8info rfl n (by omega) (by omega)
  have hm : d ≤ all.length ∧ d ≤ size := by omega
  have hh := Lib.hid (have_win h)
  have hp := h.pb.lt
  have hr := h.rb.lt
  generalize hM : min all.length size = M at *
  clear hM
  have b1 : decide ((n : Int) < 0) = false := by simp
  have b2 : decide ((65538 : Int) < n) = false := by simp; omega
  have b3 : decide ((d : Int) < 1) = false := by simp; omega
  have b4 : decide (M < d) = false := by simp; omega
  go_enter Try.func75, Try.ntmps75
  go_wp2_with (go_at_call 74; refine hh.out.mono ?_; rintro e w' ⟨rfl, rfl⟩)
  have hW : WinAt (w.alloc (.cells (madeCells #[.int .u8 0] n) 5)).drew p r size all ring := (h.drew).kept ((Same.refl (S := fun _ => False) _).alloc _) (fun c => c) (fun c => c)
  have hO : Own (w.alloc (.cells (madeCells #[.int .u8 0] n) 5)).drew w.heap.size 5 (.slice (some ⟨w.heap.size, 0, none⟩) 0 n) (ints .u8 []) := Own.made w.drew w.heap.size 5 (.int .u8 0) 0 n (Nat.le_refl _) (Nat.zero_le _) (by omega)
  go_loopg [8, 33] n (CopyRel w p r size all d n)
  case atStart => exact ⟨0, ring, Nat.zero_le _, by omega, rfl, hW, by simpa [ext] using hO, ((Same.refl _).drew).alloc _⟩
  case round =>
    obtain ⟨k, ring', hk, hg, rfl, hw, ho, hs⟩ := hrel
    clear hW hO
    have hL := ext_length all d k
    by_cases hlt : k < n
    · obtain ⟨m, hm2⟩ : ∃ m, (ext all d k).length = m + d := ⟨all.length + k - d, by omega⟩
      have c0 := hw.pb.cell 0
      have c1 := hw.pb.cell 1
      have hmod := Nat.mod_lt m (by have := hw.lo; omega : 0 < size)
      have c2 : wr.cell? ⟨r, m % size, none⟩ = some (.int .u8 ((ext all d k).getD m 0)) := by
        rw [hw.rb.cell]
        have := hw.at_ m (by omega) (by omega)
        simp [ints, this, List.getD_eq_getElem?_getD, List.getElem?_eq_getElem (show m < (ext all d k).length by omega)]
      have hsz0 := hw.lo
      have hsz1 := hw.hi
      have hpw := Lib.hid (put_win ((ext all d k).getD m 0) hw.drew (by omega))
      generalize hx : (ext all d k).getD m 0 = x at c2
      have Hx := Lib.hid hx
      have hmb : m < 4611686018427387904 := by omega
      have Hm := Lib.hid hm2
      have HL := Lib.hid hL
      rw [hm2] at c1
      clear hx hm2 hL
      go_wp2
      go_region
      all_goals go_wp2_with fail
      rw [← Hx.out]
      refine hpw.out.mono ?_
      rintro e w1 ⟨rfl, hw1, hs1⟩
      have hs' : Same (two p r) w w1 := hs.trans hs1.drew_left (fun _ _ c => c)
      have ho1 : Own w1 w.heap.size 5 u8 (ints .u8 ((ext all d k).drop all.length)) := ho.kept hs1.drew_left (fun g hg hc => by
        have := ho.base_le g hg
        rcases hc with rfl | rfl <;> omega)
      go_wp2_with (at_builtin; go_loud (refine wpList_app1 w.heap.size rfl (.tmp 56) (.tmp 58) 22 5 (.int .u8 0) 1 rfl Try.underlying22 Try.u8info rfl u8 _ (.int .u8 ((ext all d k).getD m 0)) ⟨w1.heap.size, 0, none⟩ 1 rfl rfl ?c1 rfl (ho1.alloc _) ?c2 ?c3 ?c4 ?_))
      case c1 => simp
      case c2 => have := hs'.size; simp; omega
      case c3 => have := HL.out; simp [ints, this]; omega
      case c4 => have := HL.out; simp [ints, this]; omega
      intro v2 w2 ho2 hs2 hat
      go_wp2
      go_roundg (gk - 1)
      case measure => omega
      case rel => 
        have HS : Same (fun g => u8.ownBlock = some g) w1 w2 := hs2.alloc_left
        have he : ext all d (k + 1) = ext all d k ++ [(ext all d k).getD m 0] := by
          have e : (ext all d k).length - d = m := by have := Hm.out; omega
          rw [ext, e]
        refine ⟨k + 1, ring'.set ((ext all d k).length % size) ((ext all d k).getD m 0), by omega, by omega, by go_num, ?_, ?_, ?_⟩
        · rw [he]
          exact hw1.kept HS (fun c => by have := ho1.base_le p c; omega) (fun c => by have := ho1.base_le r c; omega)
        · rw [he, List.drop_append_of_le_length (by have := HL.out; omega), ints_append]
          simpa [ints, List.getD_eq_getElem?_getD] using ho2
        · exact hs'.trans HS (fun i hi hc => by have := ho1.base_le i hc; omega)
    · have hkn : k = n := by omega
      subst hkn
      go_wp2
      go_ret2
      exact ⟨u8, ring', rfl, hw, ho, hs⟩

/-- The window, whatever its ring. -/
def Win (w : World) (p r size : Nat) (all : List Int) : Prop := ∃ ring, WinAt w p r size all ring
section
variable {w w' : World} {p r size : Nat} {all : List Int}
theorem Win.drew (h : Win w p r size all) : Win w.drew p r size all := let ⟨_, x⟩ := h; ⟨_, x.drew⟩
theorem Win.drewN (h : Win w p r size all) (n : Nat) : Win (w.drewN n) p r size all := let ⟨_, x⟩ := h; ⟨_, x.drewN n⟩
theorem Win.kept {S : Nat → Prop} (h : Win w p r size all) (hs : Same S w w') (hp : ¬ S p) (hr : ¬ S r) : Win w' p r size all := let ⟨_, x⟩ := h; ⟨_, x.kept hs hp hr⟩
theorem Win.lo (h : Win w p r size all) : 1 ≤ size := let ⟨_, x⟩ := h; x.lo
theorem Win.hi (h : Win w p r size all) : size ≤ 65536 := let ⟨_, x⟩ := h; x.hi
theorem win_put (c : Int) (h : Win w p r size all) (hl : all.length < 4611686018427387904) :
    Calls Try.prog 81 #[.pointer (some ⟨p, 0, none⟩), .int .u8 c] w fun e w' => e = .returned (.tuple #[]) ∧ Win w' p r size (all ++ [c]) ∧ Same (two p r) w w' := by
  obtain ⟨_, x⟩ := h
  refine (put_win c x hl).mono ?_
  rintro e w' ⟨rfl, h1, h2⟩
  exact ⟨rfl, ⟨_, h1⟩, h2⟩
theorem win_have (h : Win w p r size all) :
    Calls Try.prog 74 #[.pointer (some ⟨p, 0, none⟩)] w fun e w' => e = .returned (.int .i64 ((min all.length size : Nat) : Int)) ∧ w' = w.drew := let ⟨_, x⟩ := h; have_win x
theorem win_new {n : Nat} (h1 : 1 ≤ n) (h2 : n ≤ 65536) :
    Calls Try.prog 45 #[.int .i64 n] w fun e w' => ∃ p r, e = .returned (.tuple #[.pointer (some ⟨p, 0, none⟩), .int .i64 0]) ∧
      Win w' p r n [] ∧ w.heap.size ≤ p ∧ w.heap.size ≤ r ∧ Same (fun _ => False) w w' := by
  refine (new_win h1 h2).mono ?_
  rintro e w' ⟨p, r, ring, rfl, x, hp, hr, hs⟩
  exact ⟨p, r, rfl, ⟨_, x⟩, hp, hr, hs⟩
theorem win_form {d n : Int} (h : Win w p r size all) (h1 : 0 ≤ n) (h2 : n ≤ 65538) (hd : d < 1 ∨ ((min all.length size : Nat) : Int) < d) :
    Calls Try.prog 75 #[.pointer (some ⟨p, 0, none⟩), .int .i64 d, .int .i64 n] w fun e w' => e = .returned (.tuple #[.slice none 0 0, .int .i64 2]) ∧ Same (fun _ => False) w w' := let ⟨_, x⟩ := h; copy_form x h1 h2 hd
theorem win_copy {d n : Nat} (h : Win w p r size all) (h2 : n ≤ 65538) (hd1 : 1 ≤ d) (hd : d ≤ min all.length size) (hl : all.length < 2305843009213693952) :
    Calls Try.prog 75 #[.pointer (some ⟨p, 0, none⟩), .int .i64 d, .int .i64 n] w fun e w' => ∃ v, e = .returned (.tuple #[v, .int .i64 0]) ∧
      Win w' p r size (ext all d n) ∧ Own w' w.heap.size 5 v (ints .u8 ((ext all d n).drop all.length)) ∧ Same (two p r) w w' := by
  obtain ⟨_, x⟩ := h
  refine (copy_ok x h2 hd1 hd hl).mono ?_
  rintro e w' ⟨v, ring, rfl, h1, h2, h3⟩
  exact ⟨v, rfl, ⟨_, h1⟩, h2, h3⟩
end

end Go.Proofs.Yteknaaijlkenkaa
