import Derived.Test.YtbcngpmgimackaaLzP
import Derived.Test.YtbcngpmgimackaaRows
import Derived.Recover
namespace Go.Proofs.Ytbcngpmgimackaa
open Go.RowKit
attribute [local go_sem] max2i min2i max2t min2t

def tokV (t : Tok) : Value := .agg #[.int .i64 t.f0, .int .i64 t.f1, .int .u8 t.f2]

/-- 'may', by its numbers. -/
def mayN (a b c : Int) (wide : Bool) : Bool :=
  if a = 0 then b == 0
  else c == 0 && decide (3 ≤ a) && decide (a ≤ if wide then 65538 else 258) && decide (1 ≤ b) && decide (b ≤ if wide then 65536 else 32768)
theorem may_eq (t : Tok) (wide : Bool) : may wide t = mayN t.f0 t.f1 t.f2 wide := rfl

set_option maxHeartbeats 1600000 in
set_option maxRecDepth 100000 in
theorem lz_may (a b c : Int) (wide : Bool) (w : World) :
    Calls Try.prog 17 #[.agg #[.int .i64 a, .int .i64 b, .int .u8 c], .bool wide] w fun e w' => e = .returned (.bool (mayN a b c wide)) ∧ Same (fun _ => False) w w' := by
  by_cases h0 : a = 0
  · have hm : mayN a b c wide = (b == 0) := by rw [mayN, if_pos h0]
    have HM := Lib.hid hm
    clear hm
    rw [HM.out]
    have h0' : (a == 0) = true := by simp [h0]
    clear h0
    go_enter Try.func17, Try.ntmps17
    go_wp2
    go_ret
    exact ⟨rfl, (Same.refl _).alloc _⟩
  · have h0' : (a == 0) = false := by simp [h0]
    have h0i : a < 0 ∨ 0 < a := by omega
    have H0 := Lib.hid h0
    generalize hr : mayN a b c wide = r
    have HR := Lib.hid hr
    clear hr h0
    cases wide <;>
    · go_enter Try.func17, Try.ntmps17
      go_wp2
      all_goals go_ret
      all_goals refine ⟨?_, (Same.refl _).alloc _⟩
      all_goals rw [← HR.out, mayN, if_neg H0.out]
      all_goals clear HR H0
      all_goals simp_all <;> omega

set_option maxHeartbeats 1600000 in
set_option maxRecDepth 100000 in
theorem ref_may (a b c : Int) (wide : Bool) (w : World) :
    Calls Try.prog 18 #[.agg #[.int .i64 a, .int .i64 b, .int .u8 c], .bool wide] w fun e w' => e = .returned (.bool (mayN a b c wide)) ∧ Same (fun _ => False) w w' := by
  generalize hr : mayN a b c wide = r
  have HR := Lib.hid hr
  clear hr
  by_cases h0 : a = 0
  · have h0' : (a == 0) = true := by simp [h0]
    have H0 := Lib.hid h0
    have h0i : a ≤ 0 := by omega
    clear h0
    by_cases h1 : b = 0
    · have h1' : (b == 0) = true := by simp [h1]
      have H1 := Lib.hid h1
      clear h1
      go_enter Try.func18, Try.ntmps18
      go_wp2
      go_ret
      refine ⟨?_, (Same.refl _).alloc _⟩
      rw [← HR.out, mayN, if_pos H0.out, H1.out]; rfl
    · have h1' : (b == 0) = false := by simp [h1]
      have h1i : b < 0 ∨ 0 < b := by omega
      have H1 := Lib.hid h1
      clear h1
      cases wide <;>
      · go_enter Try.func18, Try.ntmps18
        go_wp2
        all_goals go_ret
        all_goals refine ⟨?_, (Same.refl _).alloc _⟩
        all_goals rw [← HR.out, mayN, if_pos H0.out, h1']
        all_goals clear HR H0 H1
        all_goals simp_all
        all_goals omega
  · have h0' : (a == 0) = false := by simp [h0]
    have h0i : a < 0 ∨ 0 < a := by omega
    have H0 := Lib.hid h0
    clear h0
    cases wide <;>
    · go_enter Try.func18, Try.ntmps18
      go_wp2
      all_goals go_ret
      all_goals refine ⟨?_, (Same.refl _).alloc _⟩
      all_goals rw [← HR.out, mayN, if_neg H0.out]
      all_goals clear HR H0
      all_goals simp_all <;> omega

structure SizeRel (w : World) (l : List Tok) (g : Nat) (v3 v8 : Value) (wr : World) : Prop where mk ::
  out : ∃ k : Nat, k ≤ l.length ∧ l.length ≤ g + k ∧ v8 = .int .i64 (k : Int) ∧ v3 = .int .i64 (size (l.take k)) ∧ Below w.heap.size w wr

theorem take_at {α : Type} {l : List α} {k : Nat} {x : α} (h : l[k]? = some x) : l.take (k + 1) = l.take k ++ [x] := by
  have hk := (List.getElem?_eq_some_iff.1 h).1
  rw [List.take_succ_eq_append_getElem hk, (List.getElem?_eq_some_iff.1 h).2]

set_option maxHeartbeats 1600000 in
set_option maxRecDepth 100000 in
theorem lz_size (A : Option Addr) (c : Nat) (l : List Tok) (w : World) (h00 : RowS w 3 A c l S42.enc (S42.ok w)) :
    Calls Try.prog 19 #[.slice A l.length c] w fun e w' => e = .returned (.int .i64 (size l)) ∧ Below w.heap.size w w' := by
  have hm := h00.most
  have hcap := h00.cap
  go_enter Try.func19, Try.ntmps19
  go_wp2_with fail
  go_loopg [3, 8] l.length (SizeRel w l)
  case atStart => exact ⟨0, by omega, by omega, rfl, rfl, Below.refl _ _⟩
  case round =>
    obtain ⟨k, hk, hg, rfl, rfl, hb⟩ := hrel
    by_cases hlt : k < l.length
    · obtain ⟨x, hx⟩ : ∃ x, l[k]? = some x := ⟨_, List.getElem?_eq_getElem hlt⟩
      obtain ⟨b, off, rfl, c0, c1, c2⟩ := S42.at_ h00 hb hx
      have hr := sizeFrom_range (l.take k) 0 (by omega) (by omega)
      have hs := size_snoc (l.take k) x
      rw [← take_at hx] at hs
      change 0 ≤ size (l.take k) ∧ size (l.take k) ≤ _ at hr
      generalize hn : size (l.take k) = n at *
      have HS := Lib.hid hs
      clear hs hn hx
      by_cases h0 : x.f0 = 0
      · have h0' : (x.f0 == 0) = true := by simp [h0]
        have H0 := Lib.hid h0
        have h0i : 0 ≤ x.f0 ∧ x.f0 ≤ 0 := by omega
        clear h0
        go_wp2_with fail
        go_roundg (gk - 1)
        case measure => omega
        case rel => exact ⟨k + 1, by omega, by omega, by go_num, by rw [HS.out, sz, if_pos H0.out]; congr 1; omega, hb.alloc hb.size _⟩
      · have h0' : (x.f0 == 0) = false := by simp [h0]
        have H0 := Lib.hid h0
        clear h0
        go_wp2_with fail
        go_roundg (gk - 1)
        case measure => omega
        case rel => exact ⟨k + 1, by omega, by omega, by go_num, by rw [HS.out, sz, if_neg H0.out]; congr 1; omega, hb.alloc hb.size _⟩
    · have hkl : k = l.length := by omega
      subst hkl
      rw [List.take_length]
      go_wp2_with fail
      go_ret
      exact ⟨rfl, hb⟩

set_option maxHeartbeats 1600000 in
set_option maxRecDepth 100000 in
theorem ref_size (A : Option Addr) (c : Nat) (l : List Tok) (w : World) (h00 : RowS w 3 A c l S42.enc (S42.ok w)) :
    Calls Try.prog 20 #[.slice A l.length c] w fun e w' => e = .returned (.int .i64 (size l)) ∧ Below w.heap.size w w' := by
  have hm := h00.most
  have hcap := h00.cap
  go_enter Try.func20, Try.ntmps20
  go_wp2_with fail
  go_loopg [3, 4] l.length (SizeRel w l)
  case atStart => exact ⟨0, by omega, by omega, rfl, rfl, Below.refl _ _⟩
  case round =>
    obtain ⟨k, hk, hg, rfl, rfl, hb⟩ := hrel
    by_cases hlt : k < l.length
    · obtain ⟨x, hx⟩ : ∃ x, l[k]? = some x := ⟨_, List.getElem?_eq_getElem hlt⟩
      obtain ⟨b, off, rfl, c0, c1, c2⟩ := S42.at_ h00 hb hx
      have hr := sizeFrom_range (l.take k) 0 (by omega) (by omega)
      have hs := size_snoc (l.take k) x
      rw [← take_at hx] at hs
      change 0 ≤ size (l.take k) ∧ size (l.take k) ≤ _ at hr
      have hsat : min (size (l.take k) + sz x) 1099511627776 = 1099511627776 → size l = 1099511627776 := fun e => by
        have e2 : l = l.take (k + 1) ++ l.drop (k + 1) := (List.take_append_drop _ _).symm
        rw [e2, size_append, hs, e, sizeFrom_sat]
      generalize hn : size (l.take k) = n at *
      have HS := Lib.hid hs
      have HT := Lib.hid hsat
      clear hs hn hx hsat
      have hsz := sz_nonneg x
      by_cases h0 : x.f0 = 0
      · have h0' : (x.f0 == 0) = true := by simp [h0]
        have H0 := Lib.hid h0
        have h0i : 0 ≤ x.f0 ∧ x.f0 ≤ 0 := by omega
        have hz : sz x = 1 := by rw [sz, if_pos h0]
        have HZ := Lib.hid hz
        clear h0 hz
        by_cases hbig : 1099511627776 - n < 1
        · go_wp2_with fail
          go_ret
          exact ⟨by rw [HT.out (by rw [HZ.out]; omega)]; rfl, hb⟩
        · go_wp2_with fail
          go_roundg (gk - 1)
          case measure => omega
          case rel => exact ⟨k + 1, by omega, by omega, by go_num, by rw [HS.out, HZ.out]; congr 1; omega, hb⟩
      · have h0' : (x.f0 == 0) = false := by simp [h0]
        have hz : sz x = max x.f0 0 := by rw [sz, if_neg h0]
        have HZ := Lib.hid hz
        clear h0 hz
        by_cases hbig : 1099511627776 - n < max x.f0 0
        · go_wp2_with fail
          go_ret
          exact ⟨by rw [HT.out (by rw [HZ.out]; omega)]; rfl, hb⟩
        · go_wp2_with fail
          go_roundg (gk - 1)
          case measure => omega
          case rel => exact ⟨k + 1, by omega, by omega, by go_num, by rw [HS.out, HZ.out]; congr 1; omega, hb⟩
    · have hkl : k = l.length := by omega
      subst hkl
      rw [List.take_length]
      go_wp2_with fail
      go_ret
      exact ⟨rfl, hb⟩

set_option maxHeartbeats 1600000 in
set_option maxRecDepth 100000 in
theorem few_calls (A : Option Addr) (c : Nat) (l : List Tok) (w : World) (h00 : RowS w 3 A c l S42.enc (S42.ok w)) :
    Calls Try.prog 21 #[.slice A l.length c] w fun e w' => e = .returned (.bool (decide (l.length ≤ 100 ∧ size l ≤ 70000))) ∧ Below w.heap.size w w' := by
  have hs := Lib.hid (ref_size A c l w h00)
  have hcap := h00.cap
  have hm := h00.most
  generalize hr : decide (l.length ≤ 100 ∧ size l ≤ 70000) = r
  have HR := Lib.hid hr
  clear hr
  by_cases h1 : l.length ≤ 100
  · have h1' : decide ((l.length : Int) ≤ 100) = true := by simp; omega
    go_enter Try.func21, Try.ntmps21
    go_wp2_with fail
    refine hs.out.mono ?_
    rintro e w1 ⟨rfl, hb⟩
    go_wp2_with fail
    go_ret
    refine ⟨?_, hb⟩
    rw [← HR.out]
    simp [h1]
  · have h1' : decide ((l.length : Int) ≤ 100) = false := by simp; omega
    go_enter Try.func21, Try.ntmps21
    go_wp2_with fail
    go_ret
    refine ⟨?_, Below.refl _ _⟩
    rw [← HR.out]
    simp [h1]

end Go.Proofs.Ytbcngpmgimackaa
