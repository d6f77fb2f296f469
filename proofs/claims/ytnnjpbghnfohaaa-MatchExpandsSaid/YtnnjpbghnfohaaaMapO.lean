import Derived.Test.YtnnjpbghnfohaaaMapV
import Derived.Test.YtnnjpbghnfohaaaLzP
namespace Go.Proofs.Ytnnjpbghnfohaaa
set_option linter.unusedVariables false
set_option linter.unusedSimpArgs false
open Go.RowKit Go.MapKept

/-! ### what tokens of a text expand to -/
def Tk.tok (x : Tk) : Tok := ⟨x.n, x.d, x.c⟩
theorem may_intro {wide : Bool} {t : Tok} (h0 : ¬ t.f0 = 0) (h1 : t.f2 = 0) (h2 : 3 ≤ t.f0) (h3 : t.f0 ≤ if wide then 65538 else 258) (h4 : 1 ≤ t.f1) (h5 : t.f1 ≤ if wide then 65536 else 32768) : may wide t = true := by
  unfold may
  rw [if_neg h0]
  simp only [Bool.and_eq_true, beq_iff_eq, decide_eq_true_eq]
  exact ⟨⟨⟨⟨h1, h2⟩, h3⟩, h4⟩, h5⟩
theorem ext_match (bs : List Int) (at_ d : Nat) (hd : 1 ≤ d) (hda : d ≤ at_) : ∀ n, at_ + n ≤ bs.length → (∀ i, i < n → bs.getD (at_ + i) 0 = bs.getD (at_ + i - d) 0) → ext (bs.take at_) d n = bs.take (at_ + n)
  | 0, _, _ => rfl
  | n + 1, h, hs => by
    rw [ext, ext_match bs at_ d hd hda n (by omega) (fun i hi => hs i (by omega))]
    have hl : (bs.take (at_ + n)).length = at_ + n := by rw [List.length_take]; omega
    rw [hl, ← Nat.add_assoc, take_next bs (at_ + n) 0 (by omega)]
    congr 2
    rw [hs n (by omega), List.getD_eq_getElem?_getD, List.getD_eq_getElem?_getD, List.getElem?_take_of_lt (by omega)]
theorem lazyN_cases (bs : List Int) (M : Nat) (far chain good : Int) (lazy : Bool) (at_ : Nat) : lazyN bs M far chain good lazy at_ = 0 ∨ lazyN bs M far chain good lazy at_ = (findQ bs M far chain good at_).1 := by
  unfold lazyN
  split
  · exact .inl rfl
  · exact .inr rfl
theorem exp_tokL (bs : List Int) (wide : Bool) (M : Nat) (hM : M = if wide then 65538 else 258) (far chain good : Int) (lazy : Bool) (most : Int) (hl : (bs.length : Int) ≤ most) (hs : bs.length ≤ 32768) :
    ∀ (k at_ i : Nat), bs.length - at_ ≤ k → at_ ≤ bs.length → expand wide most ((tokL bs M far chain good lazy at_).map Tk.tok) i (bs.take at_) = (bs, 0, 0)
  | 0, at_, i, hk, ha => by
    rw [tokL_end (by omega), List.map_nil, expand, List.take_of_length_le (by omega)]
  | k + 1, at_, i, hk, ha => by
    have htl : (bs.take at_).length = at_ := by rw [List.length_take]; omega
    by_cases hlt : at_ < bs.length
    · by_cases h0 : lazyN bs M far chain good lazy at_ = 0
      · rw [tokL_byte hlt h0, List.map_cons, expand]
        have hw : wrong wide most (bs.take at_).length (Tk.tok ⟨0, 0, bs.getD at_ 0⟩) = 0 := wrong_ok (by simp [may, Tk.tok]) (by simp [Tk.tok]) (by simp [Tk.tok]; omega)
        rw [if_pos hw]
        have hm : more (bs.take at_) (Tk.tok ⟨0, 0, bs.getD at_ 0⟩) = bs.take (at_ + 1) := by
          rw [take_next bs at_ 0 hlt]; simp [more, Tk.tok]
        rw [hm]
        exact exp_tokL bs wide M hM far chain good lazy most hl hs k (at_ + 1) (i + 1) (by omega) (by omega)
      · have hn := (lazyN_cases bs M far chain good lazy at_).resolve_left h0
        obtain ⟨n, hn'⟩ : ∃ n, lazyN bs M far chain good lazy at_ = n := ⟨_, rfl⟩
        rw [tokL_match hlt hn' (hn' ▸ h0), List.map_cons, expand]
        rw [hn'] at hn h0
        have h3M : 3 ≤ M := by rw [hM]; split <;> omega
        obtain ⟨d, hd⟩ : ∃ d, (findQ bs M far chain good at_).2 = d := ⟨_, rfl⟩
        have hsame := fun i => findQ_same (i := i) h3M (show findQ bs M far chain good at_ = (n, d) from by rw [← hd, hn])
        have hle := (findQ_le bs M far chain good at_).1
        rw [← hn] at hle
        have hd1 : 1 ≤ d ∧ 3 ≤ n := by
          rcases findQ_is bs M far chain good at_ h3M with e | ⟨q, h1, h2, h3, h4, h5⟩
          · rw [e] at hn; exact absurd hn h0
          · rw [hd] at h4; rw [← hn] at h5; exact ⟨by omega, h5⟩
        obtain ⟨x1, x2, _⟩ := hsame (n - 1) (by omega)
        rw [hd]
        have hw : wrong wide most (bs.take at_).length (Tk.tok ⟨n, d, 0⟩) = 0 := by
          refine wrong_ok ?_ ?_ ?_
          · rw [hM] at hle
            exact may_intro (by simp only [Tk.tok]; omega) rfl (by simp only [Tk.tok]; omega) (by simp only [Tk.tok]; cases wide <;> simp at hle ⊢ <;> omega) (by simp only [Tk.tok]; omega) (by simp only [Tk.tok]; cases wide <;> simp <;> omega)
          · simp only [Tk.tok]; omega
          · simp only [Tk.tok]; omega
        rw [if_pos hw]
        have hm : more (bs.take at_) (Tk.tok ⟨n, d, 0⟩) = bs.take (at_ + n) := by
          have : ¬ ((n : Int) = 0) := by omega
          show (if (n : Int) = 0 then bs.take at_ ++ [0] else ext (bs.take at_) (Int.toNat (d : Int)) (Int.toNat (n : Int))) = _
          rw [if_neg this, Int.toNat_natCast, Int.toNat_natCast]
          exact ext_match bs at_ d hd1.1 x1 n (by omega) (fun i hi => (hsame i hi).2.2)
        rw [hm]
        exact exp_tokL bs wide M hM far chain good lazy most hl hs k (at_ + n) (i + 1) (by omega) (by omega)
    · rw [tokL_end (by omega), List.map_nil, expand, List.take_of_length_le (by omega)]
def storeL (bs : List Int) : List Tk := bs.map fun c => ⟨0, 0, c⟩
theorem exp_storeL (wide : Bool) (most : Int) : ∀ (bs out : List Int) (i : Nat), ((out.length + bs.length : Nat) : Int) ≤ most → expand wide most ((storeL bs).map Tk.tok) i out = (out ++ bs, 0, 0)
  | [], out, i, _ => by simp [storeL, expand]
  | c :: bs, out, i, h => by
    simp only [List.length_cons] at h
    rw [storeL, List.map_cons, List.map_cons, expand]
    have hw : wrong wide most out.length (Tk.tok ⟨0, 0, c⟩) = 0 := wrong_ok (by simp [may, Tk.tok]) (by simp [Tk.tok]) (by simp [Tk.tok]; omega)
    rw [if_pos hw]
    have hm : more out (Tk.tok ⟨0, 0, c⟩) = out ++ [c] := by simp [more, Tk.tok]
    rw [hm]
    have := exp_storeL wide most bs (out ++ [c]) (i + 1) (by simp; omega)
    rw [storeL] at this
    rw [this]
    simp
end Go.Proofs.Ytnnjpbghnfohaaa
