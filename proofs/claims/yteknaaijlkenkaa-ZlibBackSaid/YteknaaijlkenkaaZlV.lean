import Derived.Test.YteknaaijlkenkaaZlY
import Derived.Test.YteknaaijlkenkaaConB
import Derived.Laws.BitsAllLaws
namespace Go.Proofs.Yteknaaijlkenkaa
set_option linter.unusedVariables false
set_option linter.unusedSimpArgs false
open Go.RowKit

/-! ### ZlibBack: zlib.All on a string of the law's kind -/
theorem zS_app (l r s : List Int) : zS l (r ++ s) = zS l r ++ s := by unfold zS; simp
theorem zl_on {l r : List Int} (m ratio : Nat) (hn : l.length ≤ 300) (hm : l.length ≤ m ∨ m + 1 = l.length) (hm2 : m ≤ 1073741824) (hr : r.length ≤ 100) (hw : ∀ x ∈ l, (Lit.int .u8 x).wf = true) {A : Option Addr} {c : Nat} (w : World) (h : RowOf w .u8 A c (zS l r)) :
    Calls Try.prog 9 #[.slice A (zS l r).length c, .int .i64 m, .float .f64 ratio] w fun e w' => AllPost w (zQ (zS l r) m ratio) e w' := by
  have hlen := zS_len l r
  have ha : ∃ R, allQ ((zS l r).drop 2) false (zH (zS l r)).1 (m : Int).toNat = R ∧ R.2.1 ≤ 305 ∧ R.1.length ≤ 300 ∧ ∀ x ∈ R.1, (Lit.int .u8 x).wf = true := by
    rw [zH_zS, Int.toNat_natCast]
    rcases hm with hm | hm
    · have e1 : allQ ((zS l r).drop 2) false 32768 m = (l, 5 + l.length, 0) := allQ_one l r false 32768 m (by omega) hm
      exact ⟨_, e1, by simp only; omega, hn, hw⟩
    · have e1 : allQ ((zS l r).drop 2) false 32768 m = ([], 0, 3) := allQ_onemore l r false 32768 m (by omega) (fun e => by rw [e] at hm; simp at hm) hm
      exact ⟨_, e1, by simp, by simp, fun x hx => by simp at hx⟩
  obtain ⟨R, hR, h1, h2, h3⟩ := ha
  exact zlib_all (m : Int) ratio (by omega) (by rw [hR]; omega) (by rw [hR]; omega) (by rw [hR]; exact h3) w h
/-- What zlib.All answers, told from the world ahead of the conversion. -/
structure ZlPost (w : World) (r : List Int × Nat × Nat) (en : Ending) (w' : World) : Prop where mk ::
  out_ : ∃ v : Value, en = .returned (.tuple #[v, .int .i64 (r.2.1 : Nat), .int .i64 (r.2.2 : Nat)]) ∧ Own w' w.heap.size 5 v (ints .u8 r.1) ∧ Below w.heap.size w w'
theorem own_low {w : World} {b b' : Nat} {e : TypeId} {v : Value} {xs : List Value} (h : Own w b e v xs) (hb : b' ≤ b) : Own w b' e v xs := h.lower hb
theorem conv_any {xs : List Int} (hx : ∀ x ∈ xs, (Lit.int .u8 x).wf = true) (hl : xs.length ≤ 1000000) : ∃ (BW : World → World) (G : World → Nat), ∀ W, (convert 9 22 (.string (strOfNums xs))).run Try.prog W = .ok (.slice (some ⟨W.heap.size, 0, none⟩) xs.length (G W)) (BW W) ∧ RowOf (BW W) .u8 (some ⟨W.heap.size, 0, none⟩) (G W) xs ∧ Below W.heap.size W (BW W) :=
  ⟨fun W => Lib.bytesWorld W 5 (strOfNums xs), fun W => grownCap W xs.length 0 5, fun W => ⟨conv_run Try.underlying9 Try.underlying22 Try.underlying5 rfl W, bytes_row rfl hx hl W, bytes_below W⟩⟩
/-- One text of the law: its conversion, and what zlib.All answers behind it. -/
theorem zl_text {l r : List Int} (hn : l.length ≤ 300) (hr : r.length ≤ 100) (hw : ∀ x ∈ l, (Lit.int .u8 x).wf = true) (hz : ∀ x ∈ zS l r, (Lit.int .u8 x).wf = true) (N : Nat) (hN : 7 + l.length + r.length = N) :
    ∃ (BW : World → World) (G : World → Nat), (∀ W, (convert 9 22 (.string (strOfNums (zS l r)))).run Try.prog W = .ok (.slice (some ⟨W.heap.size, 0, none⟩) N (G W)) (BW W)) ∧ (∀ W, Below W.heap.size W (BW W)) ∧
      ∀ (m ratio : Nat) (R : List Int × Nat × Nat), zQ (zS l r) m ratio = R → l.length ≤ m ∨ m + 1 = l.length → m ≤ 1073741824 → ∀ W,
        Calls Try.prog 9 #[.slice (some ⟨W.heap.size, 0, none⟩) N (G W), .int .i64 m, .float .f64 ratio] (BW W) fun e w' => ZlPost W R e w' := by
  have hlen := zS_len l r
  obtain ⟨BW, G, h⟩ := conv_any hz (by omega)
  rw [hlen, hN] at h
  refine ⟨BW, G, fun W => (h W).1, fun W => (h W).2.2, ?_⟩
  rintro m ratio R rfl hm hm2 W
  have h1 := (h W).2.1
  have hb := (h W).2.2
  have hc := zl_on (r := r) m ratio hn hm hm2 hr hw (BW W) h1
  rw [hlen, hN] at hc
  refine hc.mono ?_
  rintro e w' ⟨v, he, ho, hB⟩
  exact ⟨⟨v, he, own_low ho hb.size, hb.trans (hB.mono hb.size)⟩⟩
theorem strS_extract (xs : List Int) (i j : Nat) : (strOfNums xs).extract i j = strOfNums ((xs.drop i).take (j - i)) := by
  apply ByteArray.ext
  apply Array.ext'
  rw [ByteArray.data_extract, Array.toList_extract, strOfNums_data, strOfNums_data, List.extract_eq_take_drop, ← List.map_drop, ← List.map_take]
theorem zS_cut (l : List Int) (v : Nat) : (strOfNums (zS l (beB v 4))).extract 0 (l.length + 10) = strOfNums (zS l ((beB v 4).take 3)) := by
  rw [strS_extract, List.drop_zero, Nat.sub_zero]
  congr 1
  have e : beB v 4 = (beB v 4).take 3 ++ (beB v 4).drop 3 := (List.take_append_drop 3 _).symm
  have hl : (zS l ((beB v 4).take 3)).length = l.length + 10 := by rw [zS_len]; simp [beB_len]; omega
  conv => lhs; rw [e]
  rw [zS_app, ← hl, List.take_left]
theorem zS_lastB (l : List Int) (v : Nat) : (zS l (beB v 4)).getD (l.length + 10) 0 = ((v % 256 : Nat) : Int) := by
  have e : beB v 4 = (beB v 4).take 3 ++ [((v % 256 : Nat) : Int)] := by simp [beB]
  have hl : (zS l ((beB v 4).take 3)).length = l.length + 10 := by rw [zS_len]; simp [beB_len]; omega
  rw [e, zS_app, List.getD_eq_getElem?_getD, List.getElem?_append_right (by omega), hl]
  simp
end Go.Proofs.Yteknaaijlkenkaa
