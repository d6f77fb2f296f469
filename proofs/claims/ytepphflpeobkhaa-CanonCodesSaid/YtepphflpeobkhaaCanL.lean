import Derived.Test.YtepphflpeobkhaaCanK
import Derived.Test.YtepphflpeobkhaaRef5C
namespace Go.Proofs.Ytepphflpeobkhaa
open Go.RowKit
attribute [local go_sem] max2i min2i max2t min2t

theorem codes_length (l : List Int) : (codes l).length = l.length := by simp [codes]
theorem strs_length (l : List Int) : (strs l).length = l.length := by simp [strs]
theorem code_range (l : List Int) (i : Nat) : 0 ≤ code l i ∧ code l i < 4294967296 := by
  unfold code
  split
  · omega
  · have := nxt_range l (l.getD i 0).toNat
    exact adv_range this.1 this.2 _
structure CcRel (w4 : World) (l : List Int) (g : Nat) (v8 : Value) (wr : World) : Prop where mk ::
  out_ : ∃ (k : Nat), k ≤ l.length ∧ l.length ≤ g + k ∧ v8 = .int .i64 (k : Int) ∧ Same (fun _ => False) w4 wr

set_option maxHeartbeats 1600000 in
set_option maxRecDepth 100000 in
theorem canonCodes_walk (A : Option Addr) (c : Nat) (l : List Int) (w : World) (h00 : RowOf w .i64 A c l) :
    Calls Try.prog 3 #[.slice A l.length c] w fun e w' => e = .returned (.bool true) ∧ Below w.heap.size w w' := by
  have ht := fun W => Lib.hid (told7 W)
  have hm := h00.most
  have hcap := h00.cap
  by_cases h1 : 320 < l.length
  · have h1' : decide ((320 : Int) < l.length) = true := by simp; omega
    go_enter Try.func3, Try.ntmps3
    go_wp2_with (go_at_call 10; refine (ht _).out.mono ?_; rintro e w' ⟨rfl, hb⟩)
    go_ret
    exact ⟨rfl, hb⟩
  · have h1' : decide ((320 : Int) < l.length) = false := by simp; omega
    by_cases hE : codesErr l = 0
    · have hgood : 0 ≤ kraft l := by
        unfold codesErr at hE
        split at hE
        · omega
        · omega
      have hd := (kraft_good hgood).2
      clear hgood
      go_enter Try.func3, Try.ntmps3
      go_wp2_with (at_builtin; go_loud (refine wpList_appN w.heap.size rfl (.tmp 13) (.tmp 14) 22 3 (.int .i64 0) 1 8 rfl Try.underlying22 Try.intinfo rfl (by omega) (.slice (some ⟨w.heap.size, 0, none⟩) 0 0) 0 [] A l.length c (ints .i64 l) rfl rfl (by simp [ints]) (h00.rd.rdn.alloc_ _) ?c2 (one_ints _ _) ?c4 ?c5 ?c6 ?c7 ?_))
      case c2 => intro e; have := h00.nil e; omega
      case c4 => exact ⟨rfl, .inr ⟨w.heap.size, 0, #[], rfl, Nat.le_refl _, heap_alloc_new w _, Nat.le_refl _, by simp [maxLen], rfl, rfl⟩⟩
      case c5 => simp
      case c6 => omega
      case c7 => omega
      intro v1 w1 ho1 hs1 _
      have B1 : Below w.heap.size w w1 := hs1.alloc_left.below (fun k hk e => by simp [Value.ownBlock] at e; omega)
      have ho1 : Own w1 w.heap.size 3 v1 (ints .i64 l) := by unfold Own; rw [ints_length]; simpa using ho1
      clear hs1
      obtain ⟨A1, c1, rfl, hr1⟩ := RowOf.of_own ho1 h00.wf
      clear ho1
      go_wp2_with fail
      refine (canon_codes A1 c1 l w1 hr1).mono ?_
      rintro e w2 ⟨v2, rfl, ho2, hb2⟩
      have hr1 := hr1.below hb2
      have B2 := B1.trans (hb2.mono B1.size)
      go_wp2_with fail
      refine (ref_codes A c l w2 (h00.below B2) (by omega)).mono ?_
      rintro e w3 ⟨v3, rfl, ho3, hb3⟩
      have hr1 := hr1.below hb3
      have B3 := B2.trans (hb3.mono B2.size)
      have hr0 := h00.below B3
      clear B1 B2
      rw [hE]
      have hco : codesOut l = codes l := by rw [codesOut, if_pos hE]
      have hso : strsOut l = strs l := by rw [strsOut, if_pos hE]
      rw [hco] at ho2
      rw [hso] at ho3
      obtain ⟨A2, c2, rfl, hc2, hr2⟩ := ho2.rd
      have hr2 := hr2.same (Same.of_below (S := fun _ => False) hb3) (fun _ _ c => c)
      rw [codes_length] at hc2 ⊢
      obtain ⟨A3, c3, rfl, hc3, _, _, hn3, hr3⟩ := ho3.shape
      rw [strs_length] at hc3 ⊢
      clear hco hso ho2 ho3 hb2 hb3 hE
      go_wp2_with fail
      refine (can_kraft A1 c1 l w3 hr1).mono ?_
      rintro e w4 ⟨rfl, hw⟩
      subst hw
      go_wp2_with fail
      refine (ref_kraft A c l w4 hr0).mono ?_
      rintro e w5 ⟨rfl, hw⟩
      subst hw
      have b1 : (kraft l != kraft l) = false := by simp
      generalize kraft l = kq at *
      go_wp2_with fail
      refine (can_kind A1 c1 l w5 hr1).mono ?_
      rintro e w6 ⟨rfl, hw⟩
      subst hw
      go_wp2_with fail
      refine (ref_kind A c l w6 hr0 (by omega)).mono ?_
      rintro e w7 ⟨rfl, hw⟩
      subst hw
      have b2 : (kind l != kind l) = false := by simp
      generalize kind l = kk at *
      have b3 : ((l.length : Int) != l.length) = false := by simp
      go_wp2_with fail
      go_loopg [8] l.length (CcRel w7 l)
      case atStart => exact ⟨0, by omega, by omega, rfl, Same.refl _⟩
      case round =>
        obtain ⟨k, hk, hg, rfl, hs⟩ := hrel
        have hb := hs.below_of B3 B3.size (fun _ _ c => c)
        by_cases hlt : k < l.length
        · obtain ⟨x, hx⟩ : ∃ x, l[k]? = some x := ⟨_, List.getElem?_eq_getElem hlt⟩
          have hx0 := hd x (List.mem_of_getElem? hx)
          have hgx : l.getD k 0 = x := by rw [List.getD_eq_getElem?_getD, hx]; rfl
          obtain ⟨ad, rfl, q0⟩ := hr0.rd k x hx
          obtain ⟨ad1, rfl, q1⟩ := hr1.rd k x hx
          obtain ⟨ad2, rfl, q2⟩ := hr2 k (code l k) (by simp [codes, hlt])
          have hcr := code_range l k
          have hs3 : (strs l)[k]? = some (.string (if x = 0 then ⟨#[]⟩ else codeS l k)) := by
            simp only [strs, List.getElem?_map, List.getElem?_range hlt, Option.map_some]
            rw [hgx]
          cases A3 with
          | none => exact absurd (hs3.symm.trans (by rw [hn3 rfl]; rfl : (strs l)[k]? = none)) (by simp)
          | some ad3 =>
          have q3 := hr3 ad3 rfl k _ hs3
          have k0 : ∀ d : Ext (fun _ => False) wr, d.world.cell? (ad.add k) = some (.int .i64 x) := fun d => (hs.then d.same).cell q0 (fun c => c)
          have k1 : ∀ d : Ext (fun _ => False) wr, d.world.cell? (ad1.add k) = some (.int .i64 x) := fun d => (hs.then d.same).cell q1 (fun c => c)
          have en : (x != x) = false := by simp
          by_cases h0 : x = 0
          · have hc0 : code l k = 0 := by unfold code; rw [hgx, h0]; rfl
            rw [hc0] at q2
            have k2 : ∀ d : Ext (fun _ => False) wr, d.world.cell? (ad2.add k) = some (.int .u32 0) := fun d => (hs.then d.same).cell q2 (fun c => c)
            subst h0
            clear hx q0 q1 q2 q3 hs3 hgx hc0 hx0 hcr
            go_wp2_with fail
            refine wp_region_ext (fun _ => False) (by kernel_rfl) (by kernel_rfl) ?_
            repeat (go_big_quiet_step (fail))
            refine wpQuiet_nil ?_
            rintro _ ⟨d, rfl⟩
            go_wp2_with fail
            go_roundg (gk - 1)
            case measure => omega
            case rel => exact ⟨k + 1, by omega, by omega, by go_num, hs.then d.same⟩
          · rw [if_neg h0, codeS, hgx] at q3
            have k2 : ∀ d : Ext (fun _ => False) wr, d.world.cell? (ad2.add k) = some (.int .u32 (code l k)) := fun d => (hs.then d.same).cell q2 (fun c => c)
            have k3 : ∀ d : Ext (fun _ => False) wr, d.world.cell? (ad3.add k) = some (.string (strOfNums (codeL (code l k) x))) := fun d => (hs.then d.same).cell q3 (fun c => c)
            have m1 := fun d : Ext (fun _ => False) wr => Lib.hid (ext_call (d := d) ((ref_code (code l k) x d.world hcr.1 hcr.2 (WalkArith.wf_i64 (by omega))).mono (fun e w' h => ⟨h.1, h.2 ▸ Same.refl _⟩)))
            have hp : decide (0 < x) = true := by simp; omega
            have hz : (x == 0) = false := by simpa using h0
            generalize strOfNums (codeL (code l k) x) = S at *
            generalize code l k = y at *
            clear hx q0 q1 q2 q3 hs3 hgx hx0 hcr
            go_wp2_with fail
            refine wp_region_ext (fun _ => False) (by kernel_rfl) (by kernel_rfl) ?_
            repeat (go_big_quiet_step (exact (m1 _).out))
            refine wpQuiet_nil ?_
            rintro _ ⟨d, rfl⟩
            go_wp2_with fail
            go_roundg (gk - 1)
            case measure => omega
            case rel => exact ⟨k + 1, by omega, by omega, by go_num, hs.then d.same⟩
        · have hkl : k = l.length := by omega
          subst hkl
          go_wp2_with (go_at_call 10; refine (ht _).out.mono ?_; rintro e w9 ⟨rfl, hb9⟩)
          go_ret
          exact ⟨rfl, hb.trans (hb9.mono hb.size)⟩
    · have hE' : (codesErr l == 0) = false := by simpa using hE
      go_enter Try.func3, Try.ntmps3
      go_wp2_with (at_builtin; go_loud (refine wpList_appN w.heap.size rfl (.tmp 13) (.tmp 14) 22 3 (.int .i64 0) 1 8 rfl Try.underlying22 Try.intinfo rfl (by omega) (.slice (some ⟨w.heap.size, 0, none⟩) 0 0) 0 [] A l.length c (ints .i64 l) rfl rfl (by simp [ints]) (h00.rd.rdn.alloc_ _) ?c2 (one_ints _ _) ?c4 ?c5 ?c6 ?c7 ?_))
      case c2 => intro e; have := h00.nil e; omega
      case c4 => exact ⟨rfl, .inr ⟨w.heap.size, 0, #[], rfl, Nat.le_refl _, heap_alloc_new w _, Nat.le_refl _, by simp [maxLen], rfl, rfl⟩⟩
      case c5 => simp
      case c6 => omega
      case c7 => omega
      intro v1 w1 ho1 hs1 _
      have B1 : Below w.heap.size w w1 := hs1.alloc_left.below (fun k hk e => by simp [Value.ownBlock] at e; omega)
      have ho1 : Own w1 w.heap.size 3 v1 (ints .i64 l) := by unfold Own; rw [ints_length]; simpa using ho1
      clear hs1
      obtain ⟨A1, c1, rfl, hr1⟩ := RowOf.of_own ho1 h00.wf
      clear ho1
      go_wp2_with fail
      refine (canon_codes A1 c1 l w1 hr1).mono ?_
      rintro e w2 ⟨v2, rfl, ho2, hb2⟩
      have hr1 := hr1.below hb2
      have B2 := B1.trans (hb2.mono B1.size)
      go_wp2_with fail
      refine (ref_codes A c l w2 (h00.below B2) (by omega)).mono ?_
      rintro e w3 ⟨v3, rfl, ho3, hb3⟩
      have hr1 := hr1.below hb3
      have B3 := B2.trans (hb3.mono B2.size)
      have hr0 := h00.below B3
      clear B1 B2
      have hco : codesOut l = [] := by rw [codesOut, if_neg hE]
      have hso : strsOut l = [] := by rw [strsOut, if_neg hE]
      rw [hco] at ho2
      rw [hso] at ho3
      obtain ⟨A2, c2, rfl, hc2, hr2⟩ := ho2.rd
      obtain ⟨A3, c3, rfl, hc3, _⟩ := ho3.shape
      clear hco hso ho2 ho3 hb2 hb3 hE hr2
      generalize codesErr l = ce at *
      go_wp2_with fail
      refine (can_kraft A1 c1 l w3 hr1).mono ?_
      rintro e w4 ⟨rfl, hw⟩
      subst hw
      go_wp2_with fail
      refine (ref_kraft A c l w4 hr0).mono ?_
      rintro e w5 ⟨rfl, hw⟩
      subst hw
      have b1 : (kraft l != kraft l) = false := by simp
      generalize kraft l = kq at *
      go_wp2_with fail
      refine (can_kind A1 c1 l w5 hr1).mono ?_
      rintro e w6 ⟨rfl, hw⟩
      subst hw
      go_wp2_with fail
      refine (ref_kind A c l w6 hr0 (by omega)).mono ?_
      rintro e w7 ⟨rfl, hw⟩
      subst hw
      have b2 : (kind l != kind l) = false := by simp
      generalize kind l = kk at *
      have b3 : (ce != ce) = false := by simp
      go_wp2_with fail
      go_loopg [8] l.length (CcRel w7 l)
      case atStart => exact ⟨0, by omega, by omega, rfl, Same.refl _⟩
      case round =>
        obtain ⟨k, hk, hg, rfl, hs⟩ := hrel
        have hb := hs.below_of B3 B3.size (fun _ _ c => c)
        by_cases hlt : k < l.length
        · obtain ⟨x, hx⟩ : ∃ x, l[k]? = some x := ⟨_, List.getElem?_eq_getElem hlt⟩
          obtain ⟨ad, rfl, q0⟩ := hr0.rd k x hx
          obtain ⟨ad1, rfl, q1⟩ := hr1.rd k x hx
          have k0 : ∀ d : Ext (fun _ => False) wr, d.world.cell? (ad.add k) = some (.int .i64 x) := fun d => (hs.then d.same).cell q0 (fun c => c)
          have k1 : ∀ d : Ext (fun _ => False) wr, d.world.cell? (ad1.add k) = some (.int .i64 x) := fun d => (hs.then d.same).cell q1 (fun c => c)
          have en : (x != x) = false := by simp
          clear hx q0 q1
          go_wp2_with fail
          refine wp_region_ext (fun _ => False) (by kernel_rfl) (by kernel_rfl) ?_
          repeat (go_big_quiet_step (fail))
          refine wpQuiet_nil ?_
          rintro _ ⟨d, rfl⟩
          go_wp2_with fail
          go_roundg (gk - 1)
          case measure => omega
          case rel => exact ⟨k + 1, by omega, by omega, by go_num, hs.then d.same⟩
        · have hkl : k = l.length := by omega
          subst hkl
          go_wp2_with (go_at_call 10; refine (ht _).out.mono ?_; rintro e w9 ⟨rfl, hb9⟩)
          go_ret
          exact ⟨rfl, hb.trans (hb9.mono hb.size)⟩
end Go.Proofs.Ytepphflpeobkhaa
