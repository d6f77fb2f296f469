import Derived.Test.YteknaaijlkenkaaRefB
namespace Go.Proofs.Yteknaaijlkenkaa
set_option linter.unusedVariables false
set_option linter.unusedSimpArgs false
open Go.RowKit

theorem txt_get (t : List Int) {i : Nat} {z : Nat} (hz : z < 2) (h : t[i]? = some (z : Int)) : ∀ hi : i < (txt t).size, ((txt t)[i]'hi).toNat = 48 + z := fun hi => by
  have e : (txt t)[i]'hi = (txt t).data.toList[i]'(by rw [Array.length_toList]; exact hi) := by rw [ByteArray.getElem_eq_getElem_data, Array.getElem_toList]
  rw [e]
  have h3 : UInt8.ofNat ((48 : Int) + (z : Int)).toNat = UInt8.ofNat (48 + z) := congrArg UInt8.ofNat (by omega)
  have h2 : (txt t).data.toList[i]? = some (UInt8.ofNat (48 + z)) := by
    rw [txt_data, List.getElem?_map, h, Option.map_some, h3]
  rw [List.getElem?_eq_getElem (by rw [Array.length_toList]; exact hi)] at h2
  injection h2 with h2
  rw [h2, UInt8.toNat_ofNat']
  omega

structure OfRel (w : World) (xs : List Int) (g : Nat) (v4 : Value) (wr : World) : Prop where mk ::
  out_ : ∃ (i : Nat), i ≤ xs.length ∧ xs.length ≤ g + i ∧ v4 = .int .i64 (i : Int) ∧ Own wr w.heap.size 5 (.slice (some ⟨w.heap.size, 0, none⟩) xs.length xs.length) (ints .u8 (filled xs i)) ∧ Below w.heap.size w wr
theorem Try.u8inf2 : (Try.prog.info? 5).map (fun i => (i.zero, i.size, i.bytes)) = some (some (.int .u8 0), 1, 1) := by kernel_rfl
theorem u8_of' {x : Int} (h : (Lit.int .u8 x).wf = true) : 0 ≤ x ∧ x < 256 := by
  simp [Lit.wf, IntKind.min, IntKind.max, IntKind.bits, IntKind.signed] at h; omega
structure ByRel (w : World) (t : List Int) (m : Nat) (g : Nat) (v4 : Value) (wr : World) : Prop where mk ::
  out_ : ∃ (i : Nat), i ≤ t.length ∧ t.length ≤ g + i ∧ v4 = .int .i64 (i : Int) ∧ Own wr w.heap.size 5 (.slice (some ⟨w.heap.size, 0, none⟩) m m) (ints .u8 (packN (t.take i) m)) ∧ Below w.heap.size w wr
theorem or_u8' {b z r : Nat} (hb : b < 2 ^ r) (hz : z < 2) (hr : r < 8) : bits .or .u8 (b : Int) ((z : Int) * 2 ^ r % 256) = (b : Int) + z * 2 ^ r := by
  have hp : 2 ^ (r + 1) ≤ 2 ^ 8 := Nat.pow_le_pow_right (by decide) (by omega)
  rw [Nat.pow_succ] at hp
  have h1 : z * 2 ^ r ≤ 1 * 2 ^ r := Nat.mul_le_mul_right _ (by omega)
  have e : (z : Int) * 2 ^ r % 256 = (z : Int) * 2 ^ r := by
    have : ((z : Int) * 2 ^ r) = ((z * 2 ^ r : Nat) : Int) := by rw [Int.natCast_mul, Int.natCast_pow]; rfl
    rw [this]
    generalize z * 2 ^ r = y at *
    generalize 2 ^ r = x at *
    omega
  rw [e]
  exact or_addK .u8 (.inr (.inr rfl)) b z r hb (by simp only [IntKind.bits]; omega)
set_option maxHeartbeats 1600000 in
set_option maxRecDepth 100000 in
theorem ref_bytes (t : List Int) (w : World) (ht : bin t) (hl : t.length ≤ 1099511627776) :
    Calls Try.prog 28 #[.string (txt t)] w fun e w' => ∃ A c, e = .returned (.slice A (packB t).length c) ∧ Own w' w.heap.size 5 (.slice A (packB t).length c) (ints .u8 (packB t)) ∧ Below w.heap.size w w' := by
  have hsz := txt_size t
  have hget := fun i z (hz : z < 2) (h : t[i]? = some ((z : Nat) : Int)) => txt_get t hz h
  have HG := Lib.hid hget
  clear hget
  generalize txt t = S at *
  obtain ⟨m, hm⟩ : ∃ m, m = (t.length + 7) / 8 := ⟨_, rfl⟩
  have hmk := run_make1 (P := Try.prog) 22 5 (.int .u8 0) 1 Try.underlying22 Try.u8inf2 rfl m m (Nat.le_refl _) (by omega) (by omega)
  have hS : (S.size : Int) = (t.length : Int) := by omega
  have hN : ((t.length : Int) + 7) / 8 = (m : Int) := by omega
  have HM := Lib.hid hm
  have hmb : m ≤ 1099511627776 := by omega
  clear hm
  have HSZ := Lib.hid hsz
  have hO : Own (w.alloc (.cells (madeCells #[.int .u8 0] m) 5)) w.heap.size 5 (.slice (some ⟨w.heap.size, 0, none⟩) m m) (ints .u8 (packN (t.take 0) m)) := by
    have := Own.made w w.heap.size 5 (.int .u8 0) m m (Nat.le_refl _) (Nat.le_refl _) (by omega)
    rw [List.take_zero, packN_nil]; simpa [ints] using this
  clear hsz
  go_enter Try.func28, Try.ntmps28
  go_wp2_with fail
  go_loopg [4] t.length (ByRel w t m)
  case atStart => exact ⟨0, by omega, by omega, rfl, hO, (Below.refl _ _).alloc (Nat.le_refl _) _⟩
  case round =>
    clear hO
    obtain ⟨i, hi, hg, rfl, ho, hb⟩ := hrel
    by_cases hlt : i < t.length
    · have hlen : (t.take i).length = i := by rw [List.length_take]; omega
      have hqm : i / 8 < m := by have := HM.out; omega
      have ci := ho.cellI (i := i / 8) (by rw [packN_length]; exact hqm)
      rw [packN_getD _ hqm] at ci
      have fi := ho.frozenI (i / 8)
      have hB := byteAt_range (bin_take ht i) (i / 8)
      have hBl := byteAt_last (bin_take ht i)
      rw [hlen] at hBl
      obtain ⟨z0, hz0⟩ : ∃ z, t[i]? = some z := ⟨_, List.getElem?_eq_getElem hlt⟩
      have hz01 := ht z0 (List.mem_of_getElem? hz0)
      obtain ⟨z, rfl⟩ : ∃ z : Nat, z0 = z := ⟨z0.toNat, by omega⟩
      have hz : z < 2 := by omega
      have hgi := HG.out i z hz hz0
      have hst : packN (t.take (i + 1)) m = (packN (t.take i) m).set (i / 8) (byteAt (t.take i) (i / 8) + z * 2 ^ (i % 8)) := by
        obtain ⟨h1, e1⟩ := List.getElem?_eq_some_iff.1 hz0
        rw [List.take_succ_eq_append_getElem h1, e1, packN_snoc _ _ (by rw [hlen]; exact hqm), hlen]
      generalize byteAt (t.take i) (i / 8) = B at *
      obtain ⟨b, rfl⟩ : ∃ b : Nat, B = b := ⟨B.toNat, by omega⟩
      obtain ⟨q, hqe⟩ : ∃ q, q = i / 8 := ⟨_, rfl⟩
      obtain ⟨r, hre⟩ : ∃ r, r = i % 8 := ⟨_, rfl⟩
      rw [← hqe] at ci fi hqm hst
      rw [← hre] at hst hBl
      have hr8 : r < 8 := by omega
      have hor := or_u8' (b := b) (z := z) (r := r) (by exact_mod_cast hBl) hz hr8
      have hS2 := ho.set_ q ((b : Int) + z * 2 ^ r)
      rw [← hst] at hS2
      rw [← hor, show (z : Int) * 2 ^ r % 256 = (48 + (z : Int) - 48) * 2 ^ r % 256 from by rw [show (48 + (z : Int) - 48) = z from by omega]] at hS2
      have HS := Lib.hid hS2
      have dq : (i : Int) / 8 = q := by omega
      have dr : (i : Int) % 8 = r := by omega
      have hsi : i < S.size := by have := HSZ.out; omega
      clear hqe hre hS2 hst hor hz0 hz01 hlen
      go_wp2_with fail
      go_region
      all_goals
        go_wp2_with fail
        go_roundg (gk - 1)
        case measure => omega
        case rel => exact ⟨i + 1, by omega, by omega, by go_num, HS.out.drew, (hb.setCell (Nat.le_refl _) _).drew⟩
    · have hil : i = t.length := by omega
      subst hil
      go_wp2_with fail
      go_ret
      rw [List.take_length] at ho
      have e : packB t = packN t m := by unfold packB; rw [← HM.out]
      have e2 : (packB t).length = m := by rw [e, packN_length]
      rw [e2, e]
      exact ⟨_, _, rfl, ho, hb⟩
structure NuRel (w : World) (t : List Int) (g : Nat) (v3 v4 : Value) (wr : World) : Prop where mk ::
  out_ : ∃ (k : Nat), k ≤ t.length ∧ k ≤ g ∧ v3 = .int .u32 (numT (t.drop k)) ∧ v4 = .int .i64 ((k : Int) - 1) ∧ wr = w
set_option maxHeartbeats 1600000 in
set_option maxRecDepth 100000 in
theorem ref_number (t : List Int) (w : World) (ht : bin t) (hl : t.length ≤ 32) :
    Calls Try.prog 52 #[.string (txt t)] w fun e w' => e = .returned (.int .u32 (numT t)) ∧ w' = w := by
  have hsz := txt_size t
  have hget := fun i z (hz : z < 2) (h : t[i]? = some ((z : Nat) : Int)) => txt_get t hz h
  have HG := Lib.hid hget
  clear hget
  generalize txt t = S at *
  have hS : (S.size : Int) = (t.length : Int) := by omega
  have HSZ := Lib.hid hsz
  clear hsz
  go_enter Try.func52, Try.ntmps52
  go_wp2_with fail
  go_loopg [3, 4] t.length (NuRel w t)
  case atStart => exact ⟨t.length, by omega, by omega, by rw [List.drop_length]; rfl, rfl, rfl⟩
  case round =>
    obtain ⟨k, hk, hg, rfl, rfl, rfl⟩ := hrel
    by_cases h0 : k = 0
    · subst h0
      go_wp2_with fail
      go_ret
      exact ⟨rfl, rfl⟩
    · obtain ⟨i, rfl⟩ : ∃ i, k = i + 1 := ⟨k - 1, by omega⟩
      have e0 : ((i + 1 : Nat) : Int) - 1 = i := by omega
      rw [e0]
      obtain ⟨z0, hz0⟩ : ∃ z, t[i]? = some z := ⟨_, List.getElem?_eq_getElem (by omega)⟩
      have hz01 := ht z0 (List.mem_of_getElem? hz0)
      obtain ⟨z, rfl⟩ : ∃ z : Nat, z0 = z := ⟨z0.toNat, by omega⟩
      have hz : z < 2 := by omega
      have hgi := HG.out i z hz hz0
      have hd : t.drop i = (z : Int) :: t.drop (i + 1) := by
        obtain ⟨h1, e1⟩ := List.getElem?_eq_some_iff.1 hz0
        rw [List.drop_eq_getElem_cons h1, e1]
      have hN : numT (t.drop i) = z + 2 * numT (t.drop (i + 1)) := by rw [hd]; rfl
      have hrg := numT_range (bin_drop ht (i + 1))
      have hp : (2 : Int) ^ (t.drop (i + 1)).length ≤ 2 ^ 31 := by
        have : 2 ^ (t.drop (i + 1)).length ≤ 2 ^ 31 := Nat.pow_le_pow_right (by decide) (by rw [List.length_drop]; omega)
        exact_mod_cast this
      rw [show (2 : Int) ^ 31 = 2147483648 from by decide] at hp
      have hsi : i < S.size := by have := HSZ.out; omega
      have HN := Lib.hid hN
      generalize numT (t.drop (i + 1)) = V at *
      obtain ⟨b, rfl⟩ : ∃ b : Nat, V = b := ⟨V.toNat, by omega⟩
      have hb31 : b < 2147483648 := by omega
      have hor := or_addK .u32 (.inl rfl) z b 1 (by omega) (by simp only [IntKind.bits]; omega)
      rw [bits_or_comm] at hor
      have HOR := Lib.hid hor
      clear hrg hp hor hd hN hz0 hz01 e0 h0
      go_wp2_with fail
      go_roundg (gk - 1)
      case measure => omega
      case rel => 
        refine ⟨i, by omega, by omega, ?_, rfl, rfl⟩
        rw [HN.out]
        have h1 : bits .or .u32 ((b : Int) * 2) (48 + (z : Int) - 48) = (z : Int) + b * 2 ^ 1 := by
          rw [show (48 + (z : Int) - 48) = z from by omega, show (b : Int) * 2 = b * 2 ^ 1 from by simp]
          exact HOR.out
        rw [h1]
        congr 1
        simp; omega
end Go.Proofs.Yteknaaijlkenkaa
