import Derived.Test.YtoofkcbgldbfpaaRRRBitP
import Derived.Test.YtoofkcbgldbfpaaRRRBas2
import Derived.Test.YtoofkcbgldbfpaaRRRRows
namespace Go.Proofs.YtoofkcbgldbfpaaRRR
set_option linter.unusedVariables false
set_option linter.unusedSimpArgs false
open Go.RowKit

theorem and_u32_1 (x : Int) : bits .and .u32 x 1 = x % 2 := and_maskK .u32 (.inl rfl) x 1 (by decide)
theorem and_u8_1 (x : Int) : bits .and .u8 x 1 = x % 2 := and_maskK .u8 (.inr (.inr rfl)) x 1 (by decide)

/-- Block p is a writer with the bits t, whose bytes the slice v owns. -/
structure WrAt (w : World) (base p : Nat) (v : Value) (t : List Int) : Prop where
  pb : Blk w p 48 #[v, .int .i64 t.length]
  row : Own w base 5 v (ints .u8 (packB t))
  bin : bin t
  hi : t.length ≤ 1099511627776

theorem Try.u8inf : (Try.prog.info? 5).map (fun i => (i.zero, i.size, i.bytes)) = some (some (.int .u8 0), 1, 1) := by kernel_rfl
theorem or_u8 {b z r : Nat} (hb : b < 2 ^ r) (hz : z < 2) (hr : r < 8) : bits .or .u8 (b : Int) ((z : Int) * 2 ^ r % 256) = (b : Int) + z * 2 ^ r := by
  have hp : 2 ^ (r + 1) ≤ 2 ^ 8 := Nat.pow_le_pow_right (by decide) (by omega)
  rw [Nat.pow_succ] at hp
  have h1 : z * 2 ^ r ≤ 1 * 2 ^ r := Nat.mul_le_mul_right _ (by omega)
  have e : (z : Int) * 2 ^ r % 256 = (z : Int) * 2 ^ r := by
    have : ((z : Int) * 2 ^ r) = ((z * 2 ^ r : Nat) : Int) := by rw [Int.natCast_mul, Int.natCast_pow]; rfl
    rw [this]
    generalize z * 2 ^ r = y at *
    generalize 2 ^ r = x at *
    omega
  rw [e]
  exact or_addK .u8 (.inr (.inr rfl)) b z r hb (by simp only [IntKind.bits]; omega)

/-- What a bit's two stores leave. -/
theorem wr_set {base p g m cap q : Nat} {w : World} {n n' u : Int} {P : List Int} (pb : Blk w p 48 #[.slice (some ⟨g, 0, none⟩) m cap, .int .i64 n])
    (row : Own w base 5 (.slice (some ⟨g, 0, none⟩) m cap) (ints .u8 P)) (hne : g ≠ p) :
    Blk ((w.setCell ⟨g, q, none⟩ (.int .u8 u)).setCell ⟨p, 1, none⟩ (.int .i64 n')).drew p 48 #[.slice (some ⟨g, 0, none⟩) m cap, .int .i64 n'] ∧
    Own ((w.setCell ⟨g, q, none⟩ (.int .u8 u)).setCell ⟨p, 1, none⟩ (.int .i64 n')).drew base 5 (.slice (some ⟨g, 0, none⟩) m cap) (ints .u8 (P.set q u)) ∧
    Same (fun k => k = p ∨ k = g) w ((w.setCell ⟨g, q, none⟩ (.int .u8 u)).setCell ⟨p, 1, none⟩ (.int .i64 n')).drew := by
  have hm : m = P.length := by
    rcases row.2 with ⟨h, _⟩ | ⟨_, _, _, h, _⟩
    · simp at h
    · injection h with _ h2 _; rw [h2, ints_length]
  subst hm
  have row' : w.ownsRow base 5 1 (.slice (some ⟨g, 0, none⟩) (ints .u8 P).length cap) (ints .u8 P).length (ints .u8 P) := by rw [ints_length]; unfold Own at row; rwa [ints_length] at row
  have s1 := (World.ownsRow.stored row' q (.int .u8 u)).1
  refine ⟨?_, ?_, (((Same.refl w).set_ (fun _ => .inr rfl) _).set_ (fun _ => .inl rfl) _).drew⟩
  · have := ((pb.far (p := ⟨g, q, none⟩) (Ne.symm hne) (.int .u8 u)).set_ 1 (.int .i64 n')).drew
    simpa using this
  · have e : (ints .u8 P).set q (.int .u8 u) = ints .u8 (P.set q u) := by simp [ints, List.map_set]
    rw [e] at s1
    have hl : (ints .u8 P).length = (ints .u8 (P.set q u)).length := by simp [ints]
    have s2 : Own (w.setCell ⟨g, q, none⟩ (.int .u8 u)) base 5 (.slice (some ⟨g, 0, none⟩) P.length cap) (ints .u8 (P.set q u)) := by
      unfold Own; rw [← hl]; rw [ints_length] at s1 ⊢; exact s1
    exact (s2.kept (S := fun k => k = p) (Same.set_ (S := fun k => k = p) (p := ⟨p, 1, none⟩) (Same.refl _) (fun _ => rfl) _) (fun k hk => by simp [Value.ownBlock] at hk; omega)).drew

set_option maxHeartbeats 1600000 in
set_option maxRecDepth 100000 in
theorem bit_old {base p : Nat} {v : Value} {t : List Int} {w : World} (y : Int) (h : WrAt w base p v t) (hm : ¬ t.length % 8 = 0) (hy0 : 0 ≤ y) (hy1 : y < 4294967296) (hl : t.length < 1099511627776) :
    Calls Try.prog 29 #[.pointer (some ⟨p, 0, none⟩), .int .u32 y] w fun e w' => e = .returned (.tuple #[]) ∧ ∃ v', WrAt w' base p v' (t ++ [y % 2]) ∧ Same (fun k => k = p ∨ v.ownBlock = some k) w w' ∧ (v'.ownBlock = v.ownBlock ∨ ∃ g, v'.ownBlock = some g ∧ w.heap.size ≤ g) := by
  obtain ⟨pb, row, hb, hi⟩ := h
  obtain ⟨g, cap, rfl, hgb, hgl⟩ := World.ownsRow.form row (by rw [ints_length, packB_length]; omega)
  have hne : g ≠ p := fun e => row.blk_ne pb (by decide) (by rw [e]; rfl)
  have fg := World.ownsRow.frozenAt row (t.length / 8)
  have cg := World.ownsRow.cellAt row (t.length / 8) (by rw [ints_length, packB_length]; omega)
  rw [ints_at, show (packB t)[t.length / 8]? = some (byteAt t (t.length / 8)) from packN_at _ (by omega)] at cg
  rw [ints_length, packB_length] at pb row ⊢
  have c1 := pb.cell 1
  have fp := pb.frozen 1
  have c0 := pb.cell 0
  have hB := byteAt_range hb (t.length / 8)
  have hBl := byteAt_last hb
  have hd1 := and_u32_1 y
  obtain ⟨z, hz, ez⟩ := nat_of_mod y 2 (by omega)
  rw [show ((2 : Nat) : Int) = 2 from rfl] at ez
  rw [ez] at hd1
  rw [ez]
  generalize hBe : byteAt t (t.length / 8) = B at *
  obtain ⟨b, rfl⟩ : ∃ b : Nat, B = b := ⟨B.toNat, by omega⟩
  obtain ⟨q, hq⟩ : ∃ q, q = t.length / 8 := ⟨_, rfl⟩
  obtain ⟨r, hr⟩ : ∃ r, r = t.length % 8 := ⟨_, rfl⟩
  rw [← hq] at hBe
  rw [← hr] at hm hBl
  have hlq : t.length = 8 * q + r := by omega
  have hr8 : r < 8 := by omega
  obtain ⟨m, hmm⟩ : ∃ m, m = (t.length + 7) / 8 := ⟨_, rfl⟩
  rw [← hq] at cg fg
  rw [← hmm] at c0 pb row ⊢
  have hqm : q < m := by omega
  clear hmm
  generalize hn : t.length = n at *
  have HN := Lib.hid hn
  have HQ := Lib.hid hlq
  have HR := Lib.hid hr
  have HC := Lib.hid hq
  have HB := Lib.hid hBe
  have dq : (n : Int) / 8 = q := by omega
  have dr : (n : Int) % 8 = r := by omega
  clear ez hr hq hlq hi hBe hn
  have d0 : ((r : Int) == 0) = false := by simp; omega
  go_enter Try.func29, Try.ntmps29
  go_wp2
  go_region
  all_goals go_wp2
  go_end0
  obtain ⟨k1, k2, k3⟩ := wr_set (q := q) (n' := (n : Int) + 1) (u := bits .or .u8 (b : Int) ((z : Int) * 2 ^ r % 256)) pb row hne
  refine ⟨rfl, _, ⟨?_, ?_, bin_append hb (bin_one (by omega)), ?_⟩, k3.mono (fun i _ h => h.imp id (fun h => by simp [Value.ownBlock, h])), .inl rfl⟩
  · rw [List.length_append, HN.out]; exact k1
  · rw [packB_snoc_old _ _ (by rw [HN.out, ← HR.out]; exact hm), HN.out, ← HC.out, ← HR.out, HB.out, ← or_u8 (by exact_mod_cast hBl) hz hr8]
    exact k2
  · rw [List.length_append, HN.out]; simp; omega

set_option maxHeartbeats 1600000 in
set_option maxRecDepth 100000 in
theorem bit_new {base p : Nat} {v : Value} {t : List Int} {w : World} (y : Int) (h : WrAt w base p v t) (hm : t.length % 8 = 0) (hbase : base ≤ w.heap.size) (hy0 : 0 ≤ y) (hy1 : y < 4294967296) (hl : t.length < 1099511627776) :
    Calls Try.prog 29 #[.pointer (some ⟨p, 0, none⟩), .int .u32 y] w fun e w' => e = .returned (.tuple #[]) ∧ ∃ v', WrAt w' base p v' (t ++ [y % 2]) ∧ Same (fun k => k = p ∨ v.ownBlock = some k) w w' ∧ (v'.ownBlock = v.ownBlock ∨ ∃ g, v'.ownBlock = some g ∧ w.heap.size ≤ g) := by
  obtain ⟨pb, row, hb, hi⟩ := h
  have hpl := pb.lt
  have hvp : v.ownBlock ≠ some p := row.blk_ne pb (by decide)
  have c1 := pb.cell 1
  have fp := pb.frozen 1
  have c0 := pb.cell 0
  have hB := byteAt_range hb (t.length / 8)
  have hBl := byteAt_last hb
  have hd1 := and_u32_1 y
  obtain ⟨z, hz, ez⟩ := nat_of_mod y 2 (by omega)
  rw [show ((2 : Nat) : Int) = 2 from rfl] at ez
  rw [ez] at hd1
  rw [ez]
  generalize hBe : byteAt t (t.length / 8) = B at *
  obtain ⟨b, rfl⟩ : ∃ b : Nat, B = b := ⟨B.toNat, by omega⟩
  obtain ⟨q, hq⟩ : ∃ q, q = t.length / 8 := ⟨_, rfl⟩
  obtain ⟨r, hr⟩ : ∃ r, r = t.length % 8 := ⟨_, rfl⟩
  rw [← hq] at hBe
  rw [← hr] at hm hBl
  have hlq : t.length = 8 * q + r := by omega
  have hr8 : r < 8 := by omega
  generalize hn : t.length = n at *
  have HN := Lib.hid hn
  have HQ := Lib.hid hlq
  have HR := Lib.hid hr
  have HC := Lib.hid hq
  have HB := Lib.hid hBe
  have dq : (n : Int) / 8 = q := by omega
  have dr : (n : Int) % 8 = r := by omega
  clear ez hr hq hlq hi hBe hn
  obtain rfl : r = 0 := hm
  have fp0 := pb.frozen 0
  have hpn : (packB t).length = q := by rw [packB_length, HN.out]; have := HQ.out; omega
  have HP := Lib.hid hpn
  clear hpn
  go_enter Try.func29, Try.ntmps29
  go_wp2_with (at_builtin; refine wpList_push base rfl (.tmp 14) (.tmp 15) 33 5 (.int .u8 0) 1 rfl Try.underlying33 Try.u8inf rfl v _ (.int .u8 0) ⟨w.heap.size, 0, none⟩ 1 (q + 1) (by rw [ints_length, HP.out]) rfl rfl (by simp) rfl (row.alloc _) (by simp; omega) (by omega) (by omega) ?_; intro g cap w1 ho1 hs1 hgb hgl hat; have pb1 := (pb.alloc _).same hs1 hvp; clear pb c0 c1 fp fp0; have d0 := pb1.cell 0; have d1 := pb1.cell 1; have fd := pb1.frozen 0)
  have hgp : g ≠ p := by
    rcases hat with hat | hat
    · intro e; rw [e] at hat; exact hvp hat
    · rw [hat]; simp; omega
  have hb0 : b = 0 := by have : b < 2 ^ 0 := by exact_mod_cast hBl
                         simpa using this
  subst hb0
  have S1 : Same (fun k => k = p ∨ v.ownBlock = some k) w w1 := (hs1.alloc_left).mono (fun _ _ h => .inr h)
  have pb2 : Blk (w1.setCell ⟨p, 0, none⟩ (.slice (some ⟨g, 0, none⟩) (q + 1) cap)) p 48 #[.slice (some ⟨g, 0, none⟩) (q + 1) cap, .int .i64 n] := by
    have := pb1.set_ 0 (.slice (some ⟨g, 0, none⟩) (q + 1) cap)
    simpa using this
  have S2 : Same (fun k => k = p ∨ v.ownBlock = some k) w (w1.setCell ⟨p, 0, none⟩ (.slice (some ⟨g, 0, none⟩) (q + 1) cap)) := S1.set_ (fun _ => .inl rfl) _
  have row2 : Own (w1.setCell ⟨p, 0, none⟩ (.slice (some ⟨g, 0, none⟩) (q + 1) cap)) base 5 (.slice (some ⟨g, 0, none⟩) (q + 1) cap) (ints .u8 (packB t ++ [0])) := by
    have := ho1.kept (Same.set_ (S := fun k => k = p) (p := ⟨p, 0, none⟩) (Same.refl _) (fun _ => rfl) (.slice (some ⟨g, 0, none⟩) (q + 1) cap)) (fun k hk => by simp [Value.ownBlock] at hk; omega)
    rw [ints_append]; exact this
  have hgw : w.heap.size ≤ g ∨ v.ownBlock = some g := by
    rcases hat with hat | hat
    · exact .inr hat
    · exact .inl (by rw [hat]; simp)
  have hor : bits .or .u8 0 (z : Int) = (0 : Int) + z * 2 ^ 0 := by
    have h1 := or_u8 (b := 0) (z := z) (r := 0) (by decide) hz (by decide)
    rwa [show ((z : Int) * 2 ^ 0 % 256) = z from by simp only [Int.pow_zero, Int.mul_one]; omega] at h1
  have HOR := Lib.hid hor
  clear hor
  generalize w1.setCell ⟨p, 0, none⟩ (.slice (some ⟨g, 0, none⟩) (q + 1) cap) = w2 at *
  clear pb1 d0 d1 fd ho1 hs1 hat S1
  have c0 := pb2.cell 0
  have c1 := pb2.cell 1
  have fp := pb2.frozen 1
  have hlen : (packB t ++ [0]).length = q + 1 := by rw [List.length_append, HP.out]; rfl
  have row3 : w2.ownsRow base 5 1 (.slice (some ⟨g, 0, none⟩) (q + 1) cap) (q + 1) (ints .u8 (packB t ++ [0])) := by
    unfold Own at row2; rw [ints_length, hlen] at row2; exact row2
  have fg := World.ownsRow.frozenAt row3 q
  have cg := World.ownsRow.cellAt row3 q (by omega)
  rw [ints_at, show (packB t ++ [0])[q]? = some 0 from by rw [← HP.out]; simp] at cg
  have hqq : q < q + 1 := by omega
  clear hlen row3
  go_region
  all_goals go_wp2
  go_end0
  obtain ⟨k1, k2, k3⟩ := wr_set (q := q) (n' := (n : Int) + 1) (u := bits .or .u8 0 (z : Int)) pb2 row2 hgp
  refine ⟨rfl, .slice (some ⟨g, 0, none⟩) (q + 1) cap, ⟨?_, ?_, bin_append hb (bin_one (by omega)), ?_⟩, ?_, ?_⟩
  · rw [List.length_append, HN.out]; exact k1
  · rw [packB_snoc_new _ _ (by rw [HN.out, ← HR.out]), HN.out, ← HC.out, ← HR.out, HB.out, show (((0 : Nat) : Int) + z * 2 ^ 0) = (0 : Int) + z * 2 ^ 0 from rfl, ← HOR.out]
    exact k2
  · rw [List.length_append, HN.out]; simp; omega
  · refine S2.trans k3 (fun i hi h => ?_)
    rcases h with h | h
    · exact .inl h
    · rcases hgw with hg | hg
      · omega
      · exact .inr (by rw [h]; exact hg)
  · rcases hgw with hg | hg
    · exact .inr ⟨g, rfl, by omega⟩
    · exact .inl (by rw [hg]; rfl)

theorem wr_bit {base p : Nat} {v : Value} {t : List Int} {w : World} (y : Int) (h : WrAt w base p v t) (hbase : base ≤ w.heap.size) (hy0 : 0 ≤ y) (hy1 : y < 4294967296) (hl : t.length < 1099511627776) :
    Calls Try.prog 29 #[.pointer (some ⟨p, 0, none⟩), .int .u32 y] w fun e w' => e = .returned (.tuple #[]) ∧ ∃ v', WrAt w' base p v' (t ++ [y % 2]) ∧ Same (fun k => k = p ∨ v.ownBlock = some k) w w' ∧ (v'.ownBlock = v.ownBlock ∨ ∃ g, v'.ownBlock = some g ∧ w.heap.size ≤ g) := by
  by_cases hm : t.length % 8 = 0
  · exact bit_new y h hm hbase hy0 hy1 hl
  · exact bit_old y h hm hy0 hy1 hl
end Go.Proofs.YtoofkcbgldbfpaaRRR
