import Derived.Test.YtoofkcbgldbfpaaRRRBitW
namespace Go.Proofs.YtoofkcbgldbfpaaRRR
set_option linter.unusedVariables false
set_option linter.unusedSimpArgs false
open Go.RowKit

/-- From w on, the writer at p whose bytes v owned has come to the bits t, and v' owns its bytes. -/
structure WrTo (w w' : World) (base p : Nat) (v v' : Value) (t : List Int) : Prop where
  at_ : WrAt w' base p v' t
  same : Same (fun k => k = p ∨ v.ownBlock = some k) w w'
  own : v'.ownBlock = v.ownBlock ∨ ∃ g, v'.ownBlock = some g ∧ w.heap.size ≤ g
section
variable {w w' w'' : World} {base p : Nat} {v v' v'' : Value} {t t' t'' : List Int}
theorem WrAt.kept {S : Nat → Prop} (h : WrAt w base p v t) (hs : Same S w w') (hp : ¬ S p) (hv : ∀ g, v.ownBlock = some g → ¬ S g) : WrAt w' base p v t := ⟨h.pb.same hs hp, h.row.kept hs hv, h.bin, h.hi⟩
theorem WrAt.drew (h : WrAt w base p v t) : WrAt w.drew base p v t := ⟨h.pb.drew, h.row.drew, h.bin, h.hi⟩
theorem WrAt.drewN (h : WrAt w base p v t) (n : Nat) : WrAt (w.drewN n) base p v t := ⟨h.pb.drewN n, h.row.drewN n, h.bin, h.hi⟩
theorem WrAt.below (h : WrAt w base p v t) (hb : Below w.heap.size w w') : WrAt w' base p v t := h.kept (Same.of_below (S := fun _ => False) hb) (fun c => c) (fun _ _ c => c)
theorem WrTo.refl (h : WrAt w base p v t) : WrTo w w base p v v t := ⟨h, Same.refl _, .inl rfl⟩
theorem WrTo.trans (h : WrTo w w' base p v v' t') (k : WrTo w' w'' base p v' v'' t'') : WrTo w w'' base p v v'' t'' := by
  refine ⟨k.at_, h.same.trans k.same (fun i hi c => ?_), ?_⟩
  · rcases c with c | c
    · exact .inl c
    · rcases h.own with e | ⟨g, e, hg⟩
      · exact .inr (by rw [← e]; exact c)
      · rw [e] at c; injection c with c; omega
  · rcases k.own with e | ⟨g, e, hg⟩
    · rw [e]; exact h.own
    · exact .inr ⟨g, e, Nat.le_trans h.same.size hg⟩
theorem WrTo.size (h : WrTo w w' base p v v' t) : w.heap.size ≤ w'.heap.size := h.same.size
/-- Nothing that stood ahead of base and beside the writer is touched. -/
theorem WrTo.below (h : WrTo w w' base p v v' t) {B : Nat} {w0 : World} (hb : Below B w0 w) (hB : B ≤ w.heap.size) (hp : B ≤ p) (hv : ∀ g, v.ownBlock = some g → B ≤ g) : Below B w0 w' :=
  h.same.below_of hb hB (fun k hk c => by
    rcases c with c | c
    · omega
    · have := hv k c; omega)
end
theorem wr_step {base p : Nat} {v : Value} {t : List Int} {w : World} (y : Int) (h : WrAt w base p v t) (hbase : base ≤ w.heap.size) (hy0 : 0 ≤ y) (hy1 : y < 4294967296) (hl : t.length < 1099511627776) :
    Calls Try.prog 29 #[.pointer (some ⟨p, 0, none⟩), .int .u32 y] w fun e w' => e = .returned (.tuple #[]) ∧ ∃ v', WrTo w w' base p v v' (t ++ [y % 2]) :=
  (wr_bit y h hbase hy0 hy1 hl).mono fun _ _ ⟨he, v', a, b, c⟩ => ⟨he, v', a, b, c⟩

structure PwRel (w : World) (base p : Nat) (v : Value) (t : List Int) (f : Nat → List Int) (n : Nat) (g : Nat) (v18 : Value) (wr : World) : Prop where mk ::
  out_ : ∃ (k : Nat) (v' : Value), k ≤ n ∧ n ≤ g + k ∧ v18 = .int .i64 (k : Int) ∧ WrTo w wr base p v v' (t ++ f k)
set_option maxHeartbeats 1600000 in
set_option maxRecDepth 100000 in
theorem wr_put {base p : Nat} {v : Value} {t : List Int} {w : World} (y n : Int) (h : WrAt w base p v t) (hbase : base ≤ w.heap.size) (hy0 : 0 ≤ y) (hy1 : y < 4294967296) (hl : t.length + 32 ≤ 1099511627776) :
    Calls Try.prog 18 #[.pointer (some ⟨p, 0, none⟩), .int .u32 y, .int .i64 n] w fun e w' => e = .returned (.tuple #[]) ∧ ∃ v', WrTo w w' base p v v' (t ++ putT y n) := by
  by_cases h1 : n < 1
  · have e1 : decide (n < 1) = true := by simpa using h1
    rw [putT_no y (.inl h1), List.append_nil]
    go_enter Try.func18, Try.ntmps18
    go_wp2_with fail
    ((try simp only [Exit.inBlock, Exit.then]); first | refine bodyPost_end (results_none rfl _ _ _) rfl ?_ | refine bodyPost_ret (results_none rfl _ _ _) rfl ?_)
    exact ⟨rfl, v, WrTo.refl h⟩
  · have e1 : decide (n < 1) = false := by simp; omega
    by_cases h2 : 32 < n
    · have e2 : decide (32 < n) = true := by simpa using h2
      rw [putT_no y (.inr h2), List.append_nil]
      go_enter Try.func18, Try.ntmps18
      go_wp2_with fail
      ((try simp only [Exit.inBlock, Exit.then]); first | refine bodyPost_end (results_none rfl _ _ _) rfl ?_ | refine bodyPost_ret (results_none rfl _ _ _) rfl ?_)
      exact ⟨rfl, v, WrTo.refl h⟩
    · have e2 : decide (32 < n) = false := by simp; omega
      obtain ⟨m, rfl⟩ : ∃ m : Nat, n = m := ⟨n.toNat, by omega⟩
      rw [putT_ok y (by omega) (by omega)]
      have hm : m ≤ 32 := by omega
      go_enter Try.func18, Try.ntmps18
      go_wp2_with fail
      go_loopg [18] m (PwRel w base p v t (bitT y) m)
      case atStart => exact ⟨0, v, by omega, by omega, rfl, by simpa [bitT] using WrTo.refl h⟩
      case round =>
        obtain ⟨k, v1, hk, hg, rfl, hw⟩ := hrel
        by_cases hlt : k < m
        · have hx0 : 0 ≤ y / 2 ^ k := Int.ediv_nonneg hy0 (Int.le_of_lt (Int.pow_pos (by decide)))
          have hx1 : y / 2 ^ k < 4294967296 := Int.lt_of_le_of_lt (Int.ediv_le_self _ hy0) hy1
          have HS := Lib.hid (wr_step (y / 2 ^ k) hw.at_ (Nat.le_trans hbase hw.size) hx0 hx1 (by rw [List.length_append, bitT_length]; omega))
          have HB := Lib.hid (show bitT y (k + 1) = bitT y k ++ [y / 2 ^ k % 2] from rfl)
          clear hx0 hx1
          go_wp2_with fail
          refine HS.out.mono ?_
          rintro e w2 ⟨rfl, v2, hw2⟩
          go_wp2_with fail
          go_roundg (gk - 1)
          case measure => omega
          case rel => exact ⟨k + 1, v2, by omega, by omega, by go_num, by rw [HB.out, ← List.append_assoc]; exact hw.trans hw2⟩
        · have hkm : k = m := by omega
          subst hkm
          go_wp2_with fail
          ((try simp only [Exit.inBlock, Exit.then]); first | refine bodyPost_end (results_none rfl _ _ _) rfl ?_ | refine bodyPost_ret (results_none rfl _ _ _) rfl ?_)
          exact ⟨rfl, v1, hw⟩

theorem wr_setn {base p : Nat} {v : Value} {t t' : List Int} {w : World} (h : WrAt w base p v t) (hb : packB t' = packB t) (ht : bin t') (hl : t'.length ≤ 1099511627776) :
    WrTo w (w.setCell ⟨p, 1, none⟩ (.int .i64 (t'.length : Int))) base p v v t' := by
  have hvp : v.ownBlock ≠ some p := h.row.blk_ne h.pb (by decide)
  refine ⟨⟨?_, ?_, ht, hl⟩, (Same.refl w).set_ (fun _ => .inl rfl) _, .inl rfl⟩
  · have := h.pb.set_ 1 (.int .i64 (t'.length : Int))
    simpa using this
  · rw [hb]
    exact h.row.kept (Same.set_ (S := fun k => k = p) (p := ⟨p, 1, none⟩) (Same.refl _) (fun _ => rfl) _) (fun k hk e => hvp (by rw [hk, e]))
set_option maxHeartbeats 1600000 in
set_option maxRecDepth 100000 in
theorem wr_align {base p : Nat} {v : Value} {t : List Int} {w : World} (h : WrAt w base p v t) (hl : t.length + 8 ≤ 1099511627776) :
    Calls Try.prog 31 #[.pointer (some ⟨p, 0, none⟩)] w fun e w' => e = .returned (.tuple #[]) ∧ WrTo w w' base p v v (alignT t) := by
  have c1 := h.pb.cell 1
  have fp := h.pb.frozen 1
  have hS := wr_setn h (packB_align t) (bin_align h.bin) (by rw [alignT_length]; omega)
  rw [alignT_length] at hS
  have HS := Lib.hid hS
  clear hS h
  generalize t.length = n at *
  have e : (((n + 7) / 8 * 8 : Nat) : Int) = ((n : Int) + 7) / 8 * 8 := by omega
  rw [e] at HS
  clear e
  go_enter Try.func31, Try.ntmps31
  go_wp2_with fail
  ((try simp only [Exit.inBlock, Exit.then]); first | refine bodyPost_end (results_none rfl _ _ _) rfl ?_ | refine bodyPost_ret (results_none rfl _ _ _) rfl ?_)
  exact ⟨rfl, HS.out⟩
set_option maxHeartbeats 1600000 in
set_option maxRecDepth 100000 in
theorem wr_new {w : World} :
    Calls Try.prog 17 #[] w fun e w' => e = .returned (.pointer (some ⟨w.heap.size, 0, none⟩)) ∧ WrAt w' w.heap.size w.heap.size (.slice none 0 0) [] ∧ Below w.heap.size w w' := by
  go_enter Try.func17, Try.ntmps17
  go_wp2_with fail
  go_ret
  refine ⟨rfl, ⟨?_, Own.nil _ _ _, bin_nil, by simp⟩, (Below.refl _ _).alloc (Nat.le_refl _) _⟩
  have := Blk.new w 48 #[.slice none 0 0, .int .i64 0]
  simpa using this
end Go.Proofs.YtoofkcbgldbfpaaRRR
