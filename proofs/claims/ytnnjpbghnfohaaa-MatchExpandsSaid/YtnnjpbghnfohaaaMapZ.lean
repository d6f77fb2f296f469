import Derived.Test.YtnnjpbghnfohaaaMapY
import Derived.Test.YtnnjpbghnfohaaaMapO
namespace Go.Proofs.Ytnnjpbghnfohaaa
set_option linter.unusedVariables false
set_option linter.unusedSimpArgs false
open Go.RowKit Go.MapKept
attribute [local go_sem] max2i min2i max2t min2t

/-! ### tokens in memory -/
def RdTk (w : World) (A : Option Addr) (xs : List Tk) : Prop := ∀ i x, xs[i]? = some x → ∃ b off, A = some ⟨b, off, none⟩ ∧ w.cell? ⟨b, off + i * 3, none⟩ = some (.int .i64 x.n) ∧ w.cell? ⟨b, off + i * 3 + 1, none⟩ = some (.int .i64 x.d) ∧ w.cell? ⟨b, off + i * 3 + 2, none⟩ = some (.int .u8 x.c)
theorem tk_flat_len (xs : List Tk) : (xs.flatMap Tk.enc).length = xs.length * 3 := by
  induction xs with
  | nil => rfl
  | cons x xs ih => rw [List.flatMap_cons, List.length_append, ih, List.length_cons]; simp [Tk.enc]; omega
theorem tk_flat_at : ∀ {xs : List Tk} {i : Nat} {x : Tk}, xs[i]? = some x → (xs.flatMap Tk.enc)[i * 3]? = some (.int .i64 x.n) ∧ (xs.flatMap Tk.enc)[i * 3 + 1]? = some (.int .i64 x.d) ∧ (xs.flatMap Tk.enc)[i * 3 + 2]? = some (.int .u8 x.c)
  | [], i, x, h => by simp at h
  | y :: xs, 0, x, h => by
    simp at h; subst h
    rw [List.flatMap_cons]
    exact ⟨rfl, rfl, rfl⟩
  | y :: xs, i + 1, x, h => by
    have ih := tk_flat_at (xs := xs) (i := i) (x := x) (by simpa using h)
    rw [List.flatMap_cons]
    have hl : (Tk.enc y).length = 3 := rfl
    rw [List.getElem?_append_right (by omega), List.getElem?_append_right (by omega), List.getElem?_append_right (by omega), hl, show (i + 1) * 3 - 3 = i * 3 from by omega, show (i + 1) * 3 + 1 - 3 = i * 3 + 1 from by omega, show (i + 1) * 3 + 2 - 3 = i * 3 + 2 from by omega]
    exact ih
theorem own_tk {w : World} {base : Nat} {e : TypeId} {v : Value} {xs : List Tk} (h : w.ownsRow base e 3 v xs.length (xs.flatMap Tk.enc)) : ∃ A c, v = .slice A xs.length c ∧ xs.length ≤ c ∧ c ≤ 9223372036854775807 ∧ RdTk w A xs ∧ (∀ ad, A = some ad → base ≤ ad.block ∧ v.ownBlock = some ad.block) ∧ (A = none → c = 0) := by
  have h0 := h
  obtain ⟨h1, h2⟩ := h
  rcases h2 with ⟨rfl, hn⟩ | ⟨g, cap, cur, rfl, hb, hh, hnc, hcm, _, ht⟩
  · have : xs = [] := List.eq_nil_of_length_eq_zero hn
    subst this
    exact ⟨none, 0, rfl, by simp, by simp, fun i x hx => by simp at hx, by simp, by simp⟩
  · refine ⟨_, cap, rfl, hnc, by simpa [maxLen] using hcm, fun i x hx => ?_, ?_, by simp⟩
    · obtain ⟨c0, c1, c2⟩ := tk_flat_at hx
      refine ⟨g, 0, rfl, ?_, ?_, ?_⟩
      · have := World.ownsRow.cells h0 (g := g) rfl _ _ c0
        rwa [Addr.add_lit] at this
      · have := World.ownsRow.cells h0 (g := g) rfl _ _ c1
        rwa [Addr.add_lit] at this
      · have := World.ownsRow.cells h0 (g := g) rfl _ _ c2
        rwa [Addr.add_lit] at this
    · rintro ad e
      injection e with e; subst e
      exact ⟨hb, rfl⟩
theorem RdTk.same {S : Nat → Prop} {w w' : World} {A : Option Addr} {xs : List Tk} (h : RdTk w A xs) (hs : Same S w w') (hA : ∀ ad, A = some ad → ¬ S ad.block) : RdTk w' A xs := fun i x hx => by
  obtain ⟨b, off, rfl, c0, c1, c2⟩ := h i x hx
  exact ⟨b, off, rfl, hs.cell c0 (hA ⟨b, off, none⟩ rfl), hs.cell c1 (hA ⟨b, off, none⟩ rfl), hs.cell c2 (hA ⟨b, off, none⟩ rfl)⟩
def TkOf (w' : World) (A : Option Addr) (xs : List Tk) : Prop := ∀ W', Below w'.heap.size w' W' → RdTk W' A xs
theorem RdTk.of {w' : World} {A : Option Addr} {xs : List Tk} (h : RdTk w' A xs) : TkOf w' A xs := fun W' hb => h.same (Same.of_below (S := fun _ => False) hb) (fun _ _ c => c)

structure SmRel (w : World) (n : Nat) (gk : Nat) (s5 : Value) (wr : World) : Prop where mk ::
  out_ : ∃ i : Nat, i ≤ n ∧ gk = n - i ∧ s5 = .int .i64 i ∧ Same (fun _ => False) w wr
set_option maxHeartbeats 1600000 in
set_option maxRecDepth 100000 in
theorem same_tok (A B : Option Addr) (c d : Nat) (xs : List Tk) (w : World) (ha : RdTk w A xs) (hb : RdTk w B xs) (hc : xs.length ≤ c) (hd : xs.length ≤ d) (hc2 : c ≤ 9223372036854775807) (hd2 : d ≤ 9223372036854775807) (hl : xs.length ≤ 1000000) :
    Calls Try.prog 13 #[.slice A xs.length c, .slice B xs.length d] w fun e w' => e = .returned (.bool true) ∧ Below w.heap.size w w' := by
  go_enter Try.func13, Try.ntmps13
  go_wp2_with fail
  go_loopg [5] xs.length (SmRel w xs.length)
  case atStart => exact ⟨⟨0, by omega, by omega, rfl, Same.refl _⟩⟩
  case round =>
    obtain ⟨i, hi, hg, rfl, hs⟩ := hrel.out_
    clear hrel
    by_cases hlt : i < xs.length
    · have e1 : decide (i < xs.length) = true := by simpa using hlt
      obtain ⟨x, hx⟩ : ∃ x, xs[i]? = some x := ⟨_, List.getElem?_eq_getElem hlt⟩
      obtain ⟨ba, oa, rfl, a0, a1, a2⟩ := (ha.same hs (fun _ _ c => c)) i x hx
      obtain ⟨bb, ob, rfl, b0, b1, b2⟩ := (hb.same hs (fun _ _ c => c)) i x hx
      have A0 := fun d : Ext (fun _ => False) wr => d.same.cell a0 (fun c => c)
      have A1 := fun d : Ext (fun _ => False) wr => d.same.cell a1 (fun c => c)
      have A2 := fun d : Ext (fun _ => False) wr => d.same.cell a2 (fun c => c)
      have B0 := fun d : Ext (fun _ => False) wr => d.same.cell b0 (fun c => c)
      have B1 := fun d : Ext (fun _ => False) wr => d.same.cell b1 (fun c => c)
      have B2 := fun d : Ext (fun _ => False) wr => d.same.cell b2 (fun c => c)
      obtain ⟨xn, xd, xc⟩ := x
      simp only at A0 A1 A2 B0 B1 B2
      clear hx a0 a1 a2 b0 b1 b2
      go_wp2_with fail
      refine wp_region_ext (fun _ => False) (by kernel_rfl) (by kernel_rfl) ?_
      repeat (go_big_quiet_step (fail))
      refine wpQuiet_nil ?_
      rintro _ ⟨d, rfl⟩
      go_wp2_with fail
      go_roundg (gk - 1)
      case measure => omega
      case rel => exact ⟨⟨i + 1, by omega, by omega, by go_num, hs.then d.same⟩⟩
    · have e1 : decide (i < xs.length) = false := by simpa using hlt
      go_wp2_with fail
      go_ret
      exact ⟨rfl, hs.below_of (Below.refl _ _) (Nat.le_refl _) (fun _ _ c => c)⟩

/-! ### the reference's tokens -/
def tokZ (store : Bool) (bs : List Int) (M : Nat) (far chain good : Int) (lazy : Bool) (at_ : Nat) : List Tk := if store then storeL (bs.drop at_) else tokL bs M far chain good lazy at_
theorem storeL_drop {bs : List Int} {at_ : Nat} (h : at_ < bs.length) : storeL (bs.drop at_) = ⟨0, 0, bs.getD at_ 0⟩ :: storeL (bs.drop (at_ + 1)) := by
  rw [List.drop_eq_getElem_cons h, storeL, List.map_cons, List.getD_eq_getElem?_getD, List.getElem?_eq_getElem h]
  rfl
structure RtRel (w0 : World) (base : Nat) (bs : List Int) (L : List Tk) (T : Nat → List Tk) (gk : Nat) (s7 s8 : Value) (wr : World) : Prop where mk ::
  out_ : ∃ (at_ : Nat) (acc : List Tk), at_ ≤ bs.length + 100000 ∧ acc.length ≤ at_ ∧ gk = bs.length - at_ ∧ s8 = .int .i64 at_ ∧ L = acc ++ T at_ ∧ wr.ownsRow base 45 3 s7 acc.length (acc.flatMap Tk.enc) ∧ Below w0.heap.size w0 wr
set_option maxHeartbeats 1600000 in
set_option maxRecDepth 100000 in
theorem ref_tokens (A : Option Addr) (c : Nat) (bs : List Int) (store lazy wide : Bool) (chain good : Int) (M : Nat) (far : Int) (hM : M = if wide then 65538 else 258) (hfar : far = if wide then 65536 else 32768) (w : World) (hr : RowOf w .u8 A c bs) (hl : bs.length ≤ 100000) :
    Calls Try.prog 15 #[.slice A bs.length c, .agg #[.bool store, .int .i64 chain, .bool lazy, .int .i64 good], .bool wide] w fun e w' => ∃ v base, e = .returned v ∧ w.heap.size ≤ base ∧ w'.ownsRow base 45 3 v (tokZ store bs M far chain (max good 1) lazy 0).length ((tokZ store bs M far chain (max good 1) lazy 0).flatMap Tk.enc) ∧ Below w.heap.size w w' := by
  have hm := hr.most
  have hcap := hr.cap
  have hB0 := (Below.refl w.heap.size w).alloc (Nat.le_refl _) (.cells #[.bool store, .int .i64 chain, .bool lazy, .int .i64 good] 24)
  have hz0 := hB0.size
  have hr0 := hr.belo hB0
  have hbx := Blk.new w 24 #[.bool store, .int .i64 chain, .bool lazy, .int .i64 good]
  have hM1 : M ≤ 65538 := by rw [hM]; cases wide <;> simp
  obtain ⟨L, hL⟩ : ∃ L, tokZ store bs M far chain (max good 1) lazy 0 = L := ⟨_, rfl⟩
  rw [hL]
  cases store
  · go_enter Try.func15, Try.ntmps15
    go_wp2_with fail
    generalize w.alloc (.cells #[.bool false, .int .i64 chain, .bool lazy, .int .i64 good] 24) = w0 at *
    go_wp2_with fail
    go_loopg [7, 8] bs.length (RtRel w0 w0.heap.size bs L (tokL bs M far chain (max good 1) lazy))
    case atStart => exact ⟨⟨0, [], by omega, by simp, by omega, rfl, hL.symm, ⟨rfl, .inl ⟨rfl, rfl⟩⟩, Below.refl _ _⟩⟩
    case round =>
      obtain ⟨at_, acc, hat, hacc, hg, rfl, htok, ho, hb⟩ := hrel.out_
      clear hrel
      by_cases hlt : at_ < bs.length
      · have e1 : decide (at_ < bs.length) = true := by simpa using hlt
        have hx1 := hbx.below hb hbx.lt
        have b0 := hx1.cell 0
        have b1 := hx1.cell 1
        have b2 := hx1.cell 2
        have b3 := hx1.cell 3
        have C1 := ref_findQ A c bs false lazy wide chain good M far hM hfar wr (hr0.belo hb) hl at_
        obtain ⟨hn1, hd1⟩ := findQ_le bs M far chain (max good 1) at_
        obtain ⟨n1, hn1'⟩ : ∃ n1, (findQ bs M far chain (max good 1) at_).1 = n1 := ⟨_, rfl⟩
        obtain ⟨d1, hd1'⟩ : ∃ d1, (findQ bs M far chain (max good 1) at_).2 = d1 := ⟨_, rfl⟩
        have hlz : lazyN bs M far chain (max good 1) lazy at_ = if 0 < n1 ∧ lazy = true ∧ (n1 : Int) < max good 1 ∧ n1 < (findQ bs M far chain (max good 1) (at_ + 1)).1 then 0 else n1 := by unfold lazyN; rw [hn1']
        rw [hn1'] at C1 hn1
        rw [hd1'] at C1 hd1
        clear hn1'
        go_wp2_with fail
        refine C1.mono ?_
        rintro e w2 ⟨rfl, hbb2⟩
        have hb2 := hb.trans (hbb2.mono hb.size)
        have ho2 := own3_kept ho (Same.of_below (S := fun _ => False) hbb2)
        have hx2 := hx1.below hbb2 hx1.lt
        have l0 := hx2.cell 0
        have l1 := hx2.cell 1
        have l2 := hx2.cell 2
        have l3 := hx2.cell 3
        clear C1 hx1 hb b0 b1 b2 b3 ho
        by_cases c0 : 0 < n1
        · have hn0 : n1 ≠ 0 := by omega
          have e2 : decide (0 < n1) = true := by simpa using c0
          have e3 : decide ((0 : Int) < n1) = true := by simpa using c0
          cases lazy
          · have hln : lazyN bs M far chain (max good 1) false at_ = n1 := by rw [hlz, if_neg (fun c => by simp at c)]
            clear hlz
            have bt := Blk.new w2 45 #[.int .i64 (n1 : Int), .int .i64 (d1 : Int), .int .u8 0]
            have ho2' := own3_kept ho2 ((Same.refl (S := fun _ => False) w2).alloc (.cells #[.int .i64 (n1 : Int), .int .i64 (d1 : Int), .int .u8 0] 45))
            have hz2 := hb2.size
            have hb3 := hb2.alloc hz2 (.cells #[.int .i64 (n1 : Int), .int .i64 (d1 : Int), .int .u8 0] 45)
            have hstep := tokL_match hlt hln hn0
            rw [hd1'] at hstep
            have HSTEP := Lib.hid hstep
            have HT := Lib.hid htok
            have en0 : ((n1 : Int) == 0) = false := by simp; omega
            have en1 : (n1 == 0) = false := by simp; omega
            clear hstep htok hln hd1'
            go_wp2_with (at_builtin; refine wpList_tok w0.heap.size rfl (.tmp 64) (.tmp 68) 36 45 (w2).heap.size rfl Try.underlying36 Try.tokinfo _ acc ⟨n1, d1, 0⟩ rfl rfl bt ho2' hb3.size (by omega) ?_; intro v9 w9 ho9 hs9 _)
            have hb9 := hs9.below_of hb3 hb3.size (fun k hk e => by have := own3_ge ho2' k e; omega)
            go_roundg (gk - n1)
            case measure => omega
            case rel => exact ⟨⟨at_ + n1, acc ++ [⟨n1, d1, 0⟩], by omega, by simp; omega, by omega, by go_num, by rw [HT.out, HSTEP.out, List.append_assoc]; rfl, ho9, hb9⟩⟩
          · by_cases c1 : (n1 : Int) < good
            · have e4 : decide ((n1 : Int) < good) = true := by simpa using c1
              have C2 := ref_findQ A c bs false true wide chain good M far hM hfar w2 (hr0.belo hb2) hl (at_ + 1)
              rw [show ((at_ + 1 : Nat) : Int) = (at_ : Int) + 1 from by omega] at C2
              obtain ⟨hn2, _⟩ := findQ_le bs M far chain (max good 1) (at_ + 1)
              have c1m : (n1 : Int) < max good 1 := by omega
              generalize (findQ bs M far chain (max good 1) (at_ + 1)).1 = n2 at *
              generalize (findQ bs M far chain (max good 1) (at_ + 1)).2 = d2 at *
              go_wp2_with fail
              refine C2.mono ?_
              rintro e w3 ⟨rfl, hbb3⟩
              have hb2 := hb2.trans (hbb3.mono hb2.size)
              have ho2 := own3_kept ho2 (Same.of_below (S := fun _ => False) hbb3)
              clear C2 hx2 l0 l1 l2 l3
              by_cases c2 : n1 < n2
              · have e5 : decide (n1 < n2) = true := by simpa using c2
                have hln : lazyN bs M far chain (max good 1) true at_ = 0 := by rw [hlz, if_pos ⟨c0, by simp, c1m, c2⟩]
                have hstep := tokL_byte hlt hln
                clear hlz c2 hln
                have hr2 := hr0.belo hb2
                obtain ⟨ba, bo, hA⟩ := hr2.addr3 (fun e => by rw [e] at hlt; simp at hlt)
                subst hA
                obtain ⟨ad, ead, rb⟩ := hr2.rd.at_ (i := at_) hlt
                injection ead with ead
                subst ead
                rw [Addr.add_lit] at rb
                have bt := Blk.new w3 45 #[.int .i64 ((0 : Nat) : Int), .int .i64 ((0 : Nat) : Int), .int .u8 (bs.getD at_ 0)]
                have ho2' := own3_kept ho2 ((Same.refl (S := fun _ => False) w3).alloc (.cells #[.int .i64 ((0 : Nat) : Int), .int .i64 ((0 : Nat) : Int), .int .u8 (bs.getD at_ 0)] 45))
                have hz2 := hb2.size
                have hb3 := hb2.alloc hz2 (.cells #[.int .i64 ((0 : Nat) : Int), .int .i64 ((0 : Nat) : Int), .int .u8 (bs.getD at_ 0)] 45)
                have HSTEP := Lib.hid hstep
                have HT := Lib.hid htok
                clear hstep htok
                generalize bs.getD at_ 0 = bb at *
                go_wp2_with (at_builtin; refine wpList_tok w0.heap.size rfl (.tmp 54) (.tmp 60) 36 45 (w3).heap.size rfl Try.underlying36 Try.tokinfo _ acc ⟨0, 0, bb⟩ rfl rfl bt ho2' hb3.size (by omega) ?_; intro v9 w9 ho9 hs9 _)
                have hb9 := hs9.below_of hb3 hb3.size (fun k hk e => by have := own3_ge ho2' k e; omega)
                go_roundg (gk - 1)
                case measure => omega
                case rel => exact ⟨⟨at_ + 1, acc ++ [⟨0, 0, bb⟩], by omega, by simp; omega, by omega, by go_num, by rw [HT.out, HSTEP.out, List.append_assoc]; rfl, ho9, hb9⟩⟩
              · have e5 : decide (n1 < n2) = false := by simpa using c2
                have hln : lazyN bs M far chain (max good 1) true at_ = n1 := by rw [hlz, if_neg (fun c => c2 c.2.2.2)]
                clear hlz c2
                have bt := Blk.new w3 45 #[.int .i64 (n1 : Int), .int .i64 (d1 : Int), .int .u8 0]
                have ho2' := own3_kept ho2 ((Same.refl (S := fun _ => False) w3).alloc (.cells #[.int .i64 (n1 : Int), .int .i64 (d1 : Int), .int .u8 0] 45))
                have hz2 := hb2.size
                have hb3 := hb2.alloc hz2 (.cells #[.int .i64 (n1 : Int), .int .i64 (d1 : Int), .int .u8 0] 45)
                have hstep := tokL_match hlt hln hn0
                rw [hd1'] at hstep
                have HSTEP := Lib.hid hstep
                have HT := Lib.hid htok
                have en0 : ((n1 : Int) == 0) = false := by simp; omega
                have en1 : (n1 == 0) = false := by simp; omega
                clear hstep htok hln hd1'
                go_wp2_with (at_builtin; refine wpList_tok w0.heap.size rfl (.tmp 64) (.tmp 68) 36 45 (w3).heap.size rfl Try.underlying36 Try.tokinfo _ acc ⟨n1, d1, 0⟩ rfl rfl bt ho2' hb3.size (by omega) ?_; intro v9 w9 ho9 hs9 _)
                have hb9 := hs9.below_of hb3 hb3.size (fun k hk e => by have := own3_ge ho2' k e; omega)
                go_roundg (gk - n1)
                case measure => omega
                case rel => exact ⟨⟨at_ + n1, acc ++ [⟨n1, d1, 0⟩], by omega, by simp; omega, by omega, by go_num, by rw [HT.out, HSTEP.out, List.append_assoc]; rfl, ho9, hb9⟩⟩
            · have e4 : decide ((n1 : Int) < good) = false := by simpa using c1
              have hln : lazyN bs M far chain (max good 1) true at_ = n1 := by rw [hlz, if_neg (fun c => c1 (by have := c.2.2.1; omega))]
              clear hlz c1
              have bt := Blk.new w2 45 #[.int .i64 (n1 : Int), .int .i64 (d1 : Int), .int .u8 0]
              have ho2' := own3_kept ho2 ((Same.refl (S := fun _ => False) w2).alloc (.cells #[.int .i64 (n1 : Int), .int .i64 (d1 : Int), .int .u8 0] 45))
              have hz2 := hb2.size
              have hb3 := hb2.alloc hz2 (.cells #[.int .i64 (n1 : Int), .int .i64 (d1 : Int), .int .u8 0] 45)
              have hstep := tokL_match hlt hln hn0
              rw [hd1'] at hstep
              have HSTEP := Lib.hid hstep
              have HT := Lib.hid htok
              have en0 : ((n1 : Int) == 0) = false := by simp; omega
              have en1 : (n1 == 0) = false := by simp; omega
              clear hstep htok hln hd1'
              go_wp2_with (at_builtin; refine wpList_tok w0.heap.size rfl (.tmp 64) (.tmp 68) 36 45 (w2).heap.size rfl Try.underlying36 Try.tokinfo _ acc ⟨n1, d1, 0⟩ rfl rfl bt ho2' hb3.size (by omega) ?_; intro v9 w9 ho9 hs9 _)
              have hb9 := hs9.below_of hb3 hb3.size (fun k hk e => by have := own3_ge ho2' k e; omega)
              go_roundg (gk - n1)
              case measure => omega
              case rel => exact ⟨⟨at_ + n1, acc ++ [⟨n1, d1, 0⟩], by omega, by simp; omega, by omega, by go_num, by rw [HT.out, HSTEP.out, List.append_assoc]; rfl, ho9, hb9⟩⟩
        · have hn0 : n1 = 0 := by omega
          subst hn0
          have hln : lazyN bs M far chain (max good 1) lazy at_ = 0 := by rw [hlz, if_neg (fun c => c0 c.1)]
          have hstep := tokL_byte hlt hln
          clear hlz c0 hln
          have hr2 := hr0.belo hb2
          obtain ⟨ba, bo, hA⟩ := hr2.addr3 (fun e => by rw [e] at hlt; simp at hlt)
          subst hA
          obtain ⟨ad, ead, rb⟩ := hr2.rd.at_ (i := at_) hlt
          injection ead with ead
          subst ead
          rw [Addr.add_lit] at rb
          have bt := Blk.new w2 45 #[.int .i64 ((0 : Nat) : Int), .int .i64 ((0 : Nat) : Int), .int .u8 (bs.getD at_ 0)]
          have ho2' := own3_kept ho2 ((Same.refl (S := fun _ => False) w2).alloc (.cells #[.int .i64 ((0 : Nat) : Int), .int .i64 ((0 : Nat) : Int), .int .u8 (bs.getD at_ 0)] 45))
          have hz2 := hb2.size
          have hb3 := hb2.alloc hz2 (.cells #[.int .i64 ((0 : Nat) : Int), .int .i64 ((0 : Nat) : Int), .int .u8 (bs.getD at_ 0)] 45)
          have HSTEP := Lib.hid hstep
          have HT := Lib.hid htok
          clear hstep htok
          generalize bs.getD at_ 0 = bb at *
          go_wp2_with (at_builtin; refine wpList_tok w0.heap.size rfl (.tmp 54) (.tmp 60) 36 45 (w2).heap.size rfl Try.underlying36 Try.tokinfo _ acc ⟨0, 0, bb⟩ rfl rfl bt ho2' hb3.size (by omega) ?_; intro v9 w9 ho9 hs9 _)
          have hb9 := hs9.below_of hb3 hb3.size (fun k hk e => by have := own3_ge ho2' k e; omega)
          go_roundg (gk - 1)
          case measure => omega
          case rel => exact ⟨⟨at_ + 1, acc ++ [⟨0, 0, bb⟩], by omega, by simp; omega, by omega, by go_num, by rw [HT.out, HSTEP.out, List.append_assoc]; rfl, ho9, hb9⟩⟩
      · have e1 : decide (at_ < bs.length) = false := by simpa using hlt
        rw [tokL_end (at_ := at_) (by omega), List.append_nil] at htok
        subst htok
        go_wp2_with fail
        go_ret
        exact ⟨_, w0.heap.size, rfl, by omega, ho, hB0.trans (hb.mono hz0)⟩
  · go_enter Try.func15, Try.ntmps15
    go_wp2_with fail
    generalize w.alloc (.cells #[.bool true, .int .i64 chain, .bool lazy, .int .i64 good] 24) = w0 at *
    go_wp2_with fail
    go_loopg [7, 8] bs.length (RtRel w0 w0.heap.size bs L (fun k => storeL (bs.drop k)))
    case atStart => exact ⟨⟨0, [], by omega, by simp, by omega, rfl, hL.symm, ⟨rfl, .inl ⟨rfl, rfl⟩⟩, Below.refl _ _⟩⟩
    case round =>
      obtain ⟨at_, acc, hat, hacc, hg, rfl, htok, ho, hb⟩ := hrel.out_
      clear hrel
      by_cases hlt : at_ < bs.length
      · have e1 : decide (at_ < bs.length) = true := by simpa using hlt
        have hx1 := hbx.below hb hbx.lt
        have b0 := hx1.cell 0
        have b1 := hx1.cell 1
        have b2 := hx1.cell 2
        have b3 := hx1.cell 3
        have hstep := storeL_drop hlt
        have hb2 := hb
        have ho2 := ho
        clear hb ho
        have hr2 := hr0.belo hb2
        obtain ⟨ba, bo, hA⟩ := hr2.addr3 (fun e => by rw [e] at hlt; simp at hlt)
        subst hA
        obtain ⟨ad, ead, rb⟩ := hr2.rd.at_ (i := at_) hlt
        injection ead with ead
        subst ead
        rw [Addr.add_lit] at rb
        have bt := Blk.new wr 45 #[.int .i64 ((0 : Nat) : Int), .int .i64 ((0 : Nat) : Int), .int .u8 (bs.getD at_ 0)]
        have ho2' := own3_kept ho2 ((Same.refl (S := fun _ => False) wr).alloc (.cells #[.int .i64 ((0 : Nat) : Int), .int .i64 ((0 : Nat) : Int), .int .u8 (bs.getD at_ 0)] 45))
        have hz2 := hb2.size
        have hb3 := hb2.alloc hz2 (.cells #[.int .i64 ((0 : Nat) : Int), .int .i64 ((0 : Nat) : Int), .int .u8 (bs.getD at_ 0)] 45)
        have HSTEP := Lib.hid hstep
        have HT := Lib.hid htok
        clear hstep htok
        generalize bs.getD at_ 0 = bb at *
        go_wp2_with (at_builtin; refine wpList_tok w0.heap.size rfl (.tmp 54) (.tmp 60) 36 45 (wr).heap.size rfl Try.underlying36 Try.tokinfo _ acc ⟨0, 0, bb⟩ rfl rfl bt ho2' hb3.size (by omega) ?_; intro v9 w9 ho9 hs9 _)
        have hb9 := hs9.below_of hb3 hb3.size (fun k hk e => by have := own3_ge ho2' k e; omega)
        go_roundg (gk - 1)
        case measure => omega
        case rel => exact ⟨⟨at_ + 1, acc ++ [⟨0, 0, bb⟩], by omega, by simp; omega, by omega, by go_num, by rw [HT.out, HSTEP.out, List.append_assoc]; rfl, ho9, hb9⟩⟩
      · have e1 : decide (at_ < bs.length) = false := by simpa using hlt
        rw [show storeL (bs.drop at_) = [] from by rw [List.drop_eq_nil_of_le (by omega)]; rfl, List.append_nil] at htok
        subst htok
        go_wp2_with fail
        go_ret
        exact ⟨_, w0.heap.size, rfl, by omega, ho, hB0.trans (hb.mono hz0)⟩
end Go.Proofs.Ytnnjpbghnfohaaa
