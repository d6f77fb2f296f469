import Derived.Test.YteknaaijlkenkaaBas2
import Derived.Lib.ConvBytes
namespace Go.Proofs.Yteknaaijlkenkaa
set_option linter.unusedVariables false
set_option linter.unusedSimpArgs false
open Go.RowKit

/-! ### []byte(s) of a string that is no constant: the world behind it is Lib.bytesWorld -/
theorem conv_run {P : Program} {src dst e : TypeId} {u : TypeDesc} (hs : P.underlying src = some u) (hd : P.underlying dst = some (.slice e)) (he : P.underlying e = some (.int .u8)) {S : ByteArray} {xs : List Int} (hS : S = strOfNums xs) (w : World) :
    (convert src dst (.string S)).run P w = .ok (.slice (some ⟨w.heap.size, 0, none⟩) xs.length (grownCap w xs.length 0 e)) (Lib.bytesWorld w e S) := by
  subst hS
  have := Lib.run_convert_string_bytes (P := P) w src dst e (strOfNums xs) hs hd he
  rw [strOfNums_size] at this
  exact this
theorem bytes_row {e : TypeId} {S : ByteArray} {xs : List Int} (hS : S = strOfNums xs) (hx : ∀ x ∈ xs, (Lit.int .u8 x).wf = true) (hl : xs.length ≤ 1000000) (w : World) :
    RowOf (Lib.bytesWorld w e S) .u8 (some ⟨w.heap.size, 0, none⟩) (grownCap w xs.length 0 e) xs := by
  subst hS
  have h1 := grownCap_ge w xs.length 0 e
  have h2 := grownCap_le_maxLen w xs.length 0 e (by simp only [maxLen]; omega)
  refine ⟨fun i x hi => ⟨_, rfl, ?_⟩, h1, by simp only [maxLen] at h2; omega, hx, by simp⟩
  obtain ⟨hil, hxi⟩ := List.getElem?_eq_some_iff.1 hi
  have hc := Lib.bytesWorld_cell w e (strOfNums xs) i (by rw [strOfNums_size]; exact hil)
  have hw := hx x (List.mem_of_getElem? hi)
  simp [Lit.wf, IntKind.min, IntKind.max, IntKind.bits, IntKind.signed] at hw
  rw [Addr.add_lit, Nat.zero_add, hc, strOfNums_data, List.getD_eq_getElem?_getD, List.getElem?_map, hi]
  simp only [Option.map_some, Option.getD_some]
  congr 2
  rw [UInt8.toNat_ofNat']
  omega
theorem bytes_below {e : TypeId} {S : ByteArray} (w : World) : Below w.heap.size w (Lib.bytesWorld w e S) :=
  ⟨rfl, rfl, rfl, by rw [Lib.bytesWorld_size]; omega, fun k hk => Lib.bytesWorld_at_old w e _ k hk⟩
end Go.Proofs.Yteknaaijlkenkaa
