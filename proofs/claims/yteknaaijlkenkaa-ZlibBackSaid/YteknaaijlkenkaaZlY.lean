import Derived.Test.YteknaaijlkenkaaZlQ
import Derived.Test.YteknaaijlkenkaaInfSz
namespace Go.Proofs.Yteknaaijlkenkaa
set_option linter.unusedVariables false
set_option linter.unusedSimpArgs false

/-! ### ZlibBack, plainly: what zlib.All answers on one stored block with a check behind it -/
theorem over_one : ∀ n : Fin 301, overZ n.1 (5 + n.1) 4607182418800017408 = false := by decide +kernel
theorem over_zero : ∀ n : Fin 301, 0 < n.1 → overZ n.1 (5 + n.1) 0 = true := by decide +kernel
def zS (data r : List Int) : List Int := 120 :: 156 :: (headB data true ++ (data ++ r))
theorem zS_len (data r : List Int) : (zS data r).length = 7 + data.length + r.length := by
  unfold zS; simp [headB]; omega
theorem zH_zS (data r : List Int) : zH (zS data r) = (32768, 0) := by
  unfold zH zS
  rw [if_neg (by simp)]
  simp only [List.getD_cons_zero, List.getD_cons_succ]
  decide
theorem beN_back (a r : List Int) : ∀ n, beN (a ++ r) a.length n = beN r 0 n
  | 0 => rfl
  | n + 1 => by
    rw [beN, beN, beN_back a r n]
    rw [List.getD_eq_getElem?_getD, List.getD_eq_getElem?_getD, List.getElem?_append_right (by omega)]
    rw [Nat.add_sub_cancel_left, Nat.zero_add]
theorem beN_zS (data r : List Int) : beN (zS data r) (2 + (5 + data.length)) 4 = beN r 0 4 := by
  have e : zS data r = (120 :: 156 :: (headB data true ++ data)) ++ r := by unfold zS; simp
  have hl : (120 :: 156 :: (headB data true ++ data) : List Int).length = 2 + (5 + data.length) := by simp [headB]; omega
  rw [e, ← hl, beN_back]
theorem zQ_zS (data r : List Int) (m ratio : Nat) (hn : data.length ≤ 300) (hm : data.length ≤ m) (hm2 : m ≤ 1073741824) :
    zQ (zS data r) m ratio = if overZ data.length (5 + data.length) ratio then ([], 0, 3) else if r.length ≠ 4 ∨ beN r 0 4 ≠ adlN data then ([], 0, 2) else (data, 5 + data.length, 0) := by
  have ha : allQ ((zS data r).drop 2) false 32768 m = (data, 5 + data.length, 0) := allQ_one data r false 32768 m (by omega) hm
  unfold zQ
  rw [if_neg (by omega), zH_zS, Int.toNat_natCast, ha, if_neg (by simp), if_neg (by simp)]
  simp only
  rw [beN_zS, zS_len]
  by_cases hc : r.length ≠ 4 ∨ beN r 0 4 ≠ adlN data
  · rw [if_pos hc, if_pos (show 7 + data.length + r.length ≠ 5 + data.length + 6 ∨ beN r 0 4 ≠ adlN data from hc.imp (fun h => by omega) id)]
  · rw [if_neg hc, if_neg (show ¬(7 + data.length + r.length ≠ 5 + data.length + 6 ∨ beN r 0 4 ≠ adlN data) from fun h => hc (h.imp (fun h => by omega) id))]
/-- Room for one byte less than there are. -/
theorem zQ_short (data r : List Int) (m ratio : Nat) (hn : data.length ≤ 300) (hm : m + 1 = data.length) : zQ (zS data r) m ratio = ([], 0, 3) := by
  have ha : allQ ((zS data r).drop 2) false 32768 m = ([], 0, 3) := allQ_onemore data r false 32768 m (by omega) (fun e => by rw [e] at hm; simp at hm) hm
  unfold zQ
  rw [if_neg (by omega), zH_zS, Int.toNat_natCast, ha, if_neg (by simp), if_pos (by simp)]
/-- The check's own bytes say the check. -/
theorem beN_beB (v : Nat) (hv : v < 4294967296) : beN (beB v 4) 0 4 = v := by
  simp only [beN, beB, List.getD_cons_zero, List.getD_cons_succ, Nat.zero_add, Nat.reduceMul, Int.toNat_natCast]
  omega
theorem beN_last (v : Nat) (hv : v < 4294967296) (x : Nat) (hx : x < 256) : (beN ((beB v 4).take 3 ++ [(x : Int)]) 0 4 = v) ↔ x = v % 256 := by
  simp only [beN, beB, List.take_succ_cons, List.take_zero, List.cons_append, List.nil_append, List.getD_cons_zero, List.getD_cons_succ, Nat.zero_add, Nat.reduceMul, Int.toNat_natCast]
  omega
theorem adlN_lt (l : List Int) : adlN l < 4294967296 := by
  have h := adl_lt l (1, 0) (by simp) (by simp)
  unfold adlN
  omega
section
variable {l : List Int}
theorem zB_whole (hn : l.length ≤ 300) : zQ (zS l (beB (adlN l) 4)) (l.length : Nat) 4607182418800017408 = (l, 5 + l.length, 0) := by
  rw [zQ_zS l _ l.length _ hn (Nat.le_refl _) (by omega), over_one ⟨l.length, by omega⟩, if_neg (by simp), if_neg]
  rintro (h | h)
  · exact h (beB_len _ 4)
  · exact h (beN_beB _ (adlN_lt l))
theorem zB_long (hn : l.length ≤ 300) : zQ (zS l (beB (adlN l) 4 ++ [0])) (l.length : Nat) 4607182418800017408 = ([], 0, 2) := by
  rw [zQ_zS l _ l.length _ hn (Nat.le_refl _) (by omega), over_one ⟨l.length, by omega⟩, if_neg (by simp), if_pos (.inl (by simp [beB_len]))]
theorem zB_cut (hn : l.length ≤ 300) : zQ (zS l ((beB (adlN l) 4).take 3)) (l.length : Nat) 4607182418800017408 = ([], 0, 2) := by
  rw [zQ_zS l _ l.length _ hn (Nat.le_refl _) (by omega), over_one ⟨l.length, by omega⟩, if_neg (by simp), if_pos (.inl (by simp [beB_len]))]
theorem zB_last (hn : l.length ≤ 300) {x : Nat} (hx : x < 256) : zQ (zS l ((beB (adlN l) 4).take 3 ++ [(x : Int)])) (l.length : Nat) 4607182418800017408 = if x = adlN l % 256 then (l, 5 + l.length, 0) else ([], 0, 2) := by
  rw [zQ_zS l _ l.length _ hn (Nat.le_refl _) (by omega), over_one ⟨l.length, by omega⟩, if_neg (by simp)]
  have h4 : ((beB (adlN l) 4).take 3 ++ [(x : Int)]).length = 4 := by simp [beB_len]
  have hb := beN_last (adlN l) (adlN_lt l) x hx
  by_cases h : x = adlN l % 256
  · rw [if_pos h, if_neg]
    rintro (c | c)
    · exact c h4
    · exact c (hb.2 h)
  · rw [if_neg h, if_pos (.inr (fun c => h (hb.1 c)))]
theorem zB_less (hn : l.length ≤ 300) (h0 : 0 < l.length) (r : List Int) (ratio : Nat) : zQ (zS l r) ((l.length - 1 : Nat) : Int) ratio = ([], 0, 3) := zQ_short l r (l.length - 1) ratio hn (by omega)
theorem zB_dear (hn : l.length ≤ 300) (h0 : 0 < l.length) (r : List Int) : zQ (zS l r) (l.length : Nat) 0 = ([], 0, 3) := by
  rw [zQ_zS l _ l.length _ hn (Nat.le_refl _) (by omega), over_zero ⟨l.length, by omega⟩ h0, if_pos rfl]
end
end Go.Proofs.Yteknaaijlkenkaa
