import Derived.Test.YtnnjpbghnfohaaaMapY
import Derived.Deep.Cut
import Derived.Deep.DeepCutAuto
import Derived.Deep.CutBlock
namespace Go.Proofs.Ytnnjpbghnfohaaa
set_option linter.unusedVariables false
set_option linter.unusedSimpArgs false
open Go.RowKit Go.MapKept
attribute [local go_sem] max2i min2i max2t min2t

/-- What is found, wherever it is asked for. -/
def findI (bs : List Int) (M : Nat) (far chain good : Int) (at_ : Int) : Nat × Nat := if at_ < 0 then (0, 0) else findQ bs M far chain good at_.toNat
theorem match_findI {w : World} {base f m cf : Nat} {Af : Option Addr} {bs : List Int} {store lazy : Bool} {chain good far : Int} {M : Nat} {es : Array MapEntry} {clock : Nat} (h : FinB w base f Af cf bs store lazy chain good far (M : Nat) m) (hE : MapE w base m bs (bs.length - 2) es clock)
    (hwf : ∀ x ∈ bs, (Lit.int .u8 x).wf = true) (at_ : Int) (hl : bs.length ≤ 100000) (hM : M ≤ 100000) :
    Calls Try.prog 11 #[.pointer (some ⟨f, 0, none⟩), .int .i64 at_] w fun e w' => e = .returned (.tuple #[.int .i64 (findI bs M far chain good at_).1, .int .i64 (findI bs M far chain good at_).2]) ∧ Same (fun _ => False) w w' := by
  by_cases h0 : at_ < 0
  · unfold findI
    rw [if_pos h0]
    refine (match_find_out h at_ (.inl h0) hl).mono ?_
    rintro e w' ⟨rfl, rfl⟩
    exact ⟨rfl, Same.refl _⟩
  · obtain ⟨k, rfl⟩ : ∃ k : Nat, at_ = k := ⟨at_.toNat, by omega⟩
    unfold findI
    rw [if_neg h0]
    exact match_findQ h hE hwf k hl hM
theorem ref_findI (A : Option Addr) (c : Nat) (bs : List Int) (store lazy wide : Bool) (chain good : Int) (M : Nat) (far : Int) (hM : M = if wide then 65538 else 258) (hfar : far = if wide then 65536 else 32768) (w : World) (hr : RowOf w .u8 A c bs) (hl : bs.length ≤ 100000) (at_ : Int) :
    Calls Try.prog 12 #[.slice A bs.length c, .agg #[.bool store, .int .i64 chain, .bool lazy, .int .i64 good], .bool wide, .int .i64 at_] w fun e w' => e = .returned (.tuple #[.int .i64 (findI bs M far chain (max good 1) at_).1, .int .i64 (findI bs M far chain (max good 1) at_).2]) ∧ Below w.heap.size w w' := by
  by_cases h0 : at_ < 0
  · unfold findI
    rw [if_pos h0]
    exact ref_match_out A c bs store lazy wide chain good w hr hl at_ (.inl h0)
  · obtain ⟨k, rfl⟩ : ∃ k : Nat, at_ = k := ⟨at_.toNat, by omega⟩
    unfold findI
    rw [if_neg h0]
    exact ref_findQ A c bs store lazy wide chain good M far hM hfar w hr hl k
structure MfRel (w : World) (n : Nat) (gk : Nat) (s14 : Value) (wr : World) : Prop where mk ::
  out_ : ∃ i : Nat, i ≤ n ∧ gk = n - i ∧ s14 = .int .i64 i ∧ Below w.heap.size w wr
set_option maxHeartbeats 20000000 in
set_option maxRecDepth 100000 in
theorem matchFinds_walk (A : Option Addr) (c : Nat) (bs : List Int) (n : Int) (store : Bool) (chain : Int) (lazy : Bool) (good : Int) (wide : Bool) (A4 : Option Addr) (c4 : Nat) (ats : List Int) (w : World) (h00 : RowOf w .u8 A c bs) (h01 : (Lit.int .i64 n).wf = true) (h02 : (Lit.int .i64 chain).wf = true) (h03 : (Lit.int .i64 good).wf = true) (h04 : RowOf w .i64 A4 c4 ats) :
    Calls Try.prog 3 #[.slice A bs.length c, .int .i64 n, .agg #[.bool store, .int .i64 chain, .bool lazy, .int .i64 good], .bool wide, .slice A4 ats.length c4] w fun e w' => e = .returned (.bool true) ∧ Below w.heap.size w w' := by
  have ht := fun W => Lib.hid (told13 W)
  have hm := h00.most
  have hcap := h00.cap
  have hm4 := h04.most
  have hcap4 := h04.cap
  have hB0 := (Below.refl w.heap.size w).alloc (Nat.le_refl _) (.cells #[.bool store, .int .i64 chain, .bool lazy, .int .i64 good] 24)
  have hbx := Blk.new w 24 #[.bool store, .int .i64 chain, .bool lazy, .int .i64 good]
  have hr0 := h00.belo hB0
  have ha0 := h04.belo hB0
  by_cases h1 : 200 < bs.length
  · have h1' : decide ((200 : Int) < bs.length) = true := by simp; omega
    go_enter Try.func3, Try.ntmps3
    go_wp2_with (go_at_call 8; refine (ht _).out.mono ?_; rintro e w' ⟨rfl, hb⟩)
    go_ret
    exact ⟨rfl, hB0.trans (hb.mono hB0.size)⟩
  have h1' : decide ((200 : Int) < bs.length) = false := by simp; omega
  obtain ⟨G, hG⟩ : ∃ G, max good 1 = G := ⟨_, rfl⟩
  have HG := Lib.hid hG
  clear hG
  go_enter Try.func3, Try.ntmps3
  go_wp2_with fail
  generalize w.alloc (.cells #[.bool store, .int .i64 chain, .bool lazy, .int .i64 good] 24) = w0 at *
  refine (match_longB A c bs n w0 hr0 (by omega)).mono ?_
  rintro e w1 ⟨A', c', s, rfl, hr1, hrb1, hs1, hs2, hb1⟩
  have hx1 := hbx.below hb1 hbx.lt
  have ha1 := ha0.belo hb1
  have hb01 := hB0.trans (hb1.mono hB0.size)
  obtain ⟨M, hM⟩ : ∃ M : Nat, M = if wide then 65538 else 258 := ⟨_, rfl⟩
  obtain ⟨far, hfar⟩ : ∃ far : Int, far = if wide then 65536 else 32768 := ⟨_, rfl⟩
  have hM1 : M ≤ 65538 := by rw [hM]; cases wide <;> simp
  have hm1 := hr1.most
  have hc1 := hr1.cap
  have HM := Lib.hid hM
  have HFAR := Lib.hid hfar
  clear hM hfar
  go_wp2_with (at_builtin; refine wpList_freshG w1.heap.size rfl .u8 rfl (.tmp 27) (.tmp 28) 22 5 1 rfl Try.underlying22 Try.u8inf A' c' s rfl rfl hr1 (by omega) (by omega) ?_; intro A2 c2 w2 ho2 hr2 hbb2 hat2; have hx2 := hx1.below hbb2 hx1.lt; have x0 := hx2.cell 0; have x1 := hx2.cell 1; have x2 := hx2.cell 2; have x3 := hx2.cell 3)
  have hb02 := hb01.trans (hbb2.mono hb01.size)
  have ha2 := ha1.belo hbb2
  have hr12 := hr1.belo hbb2
  have hrb12 := hrb1.same (Same.of_below (S := fun _ => False) hbb2) (fun _ _ c => c)
  have hrb2 : RdB w2 A2 s := by
    obtain ⟨A6, c6, e6, _, _, h, _⟩ := ho2.rdb
    injection e6 with e6 _ _
    rw [e6]; exact h
  clear ho2 hat2
  refine (match_new A2 c2 s store lazy wide chain good w2 hr2 (by omega)).mono ?_
  rintro e w5 ⟨f1, rfl, ⟨base1, m1, Af1, cf1, es1, clock1, hbase1, hF1, hE1, hbb5⟩⟩
  rw [← HFAR.out, HG.out] at hF1
  rw [show (if wide = true then (65538 : Int) else 258) = ((M : Nat) : Int) from by rw [HM.out]; cases wide <;> rfl] at hF1
  have hb05 := hb02.trans (hbb5.mono hb02.size)
  have hx5 := hx2.below hbb5 hx2.lt
  have ha5 := ha2.belo hbb5
  have hr5 := hr12.belo hbb5
  have hrb5 := hrb12.same (Same.of_below (S := fun _ => False) hbb5) (fun _ _ c => c)
  have hrb6 := hrb2.same (Same.of_below (S := fun _ => False) hbb5) (fun _ _ c => c)
  clear hx1 hx2 ha1 ha2 hr12 hrb12 hrb1 hrb2 hr2 x0 x1 x2 x3 hbx hr0 ha0 hbb2 hb1
  have HF := Lib.hid hF1
  have HE := Lib.hid hE1
  clear hF1 hE1
  go_wp2_with fail
  go_loopg [14] ats.length (MfRel w5 ats.length)
  case atStart => exact ⟨⟨0, by omega, by omega, rfl, Below.refl _ _⟩⟩
  case round =>
    obtain ⟨i, hi, hg, rfl, hb⟩ := hrel.out_
    clear hrel
    by_cases hlt : i < ats.length ∧ i < 60
    · obtain ⟨hlt, hlt2⟩ := hlt
      have e1 : decide (i < ats.length) = true := by simpa using hlt
      have e2 : decide ((i : Int) < 60) = true := by simp; omega
      obtain ⟨x, hx⟩ : ∃ x, ats[i]? = some x := ⟨_, List.getElem?_eq_getElem hlt⟩
      obtain ⟨ad, rfl, hcx⟩ := (ha5.belo hb).rd i x hx
      have hxw := h04.wf x (List.mem_of_getElem? hx)
      have hF1 := HF.out.kept (Same.of_below (S := fun _ => False) hb) (fun c => c) (fun _ _ c => c)
      have hE1 := HE.out.kept (Same.of_below (S := fun _ => False) hb) (fun c => c) (fun _ _ _ _ c => c)
      have hM := HM.out
      have hfar := HFAR.out
      have hG := HG.out
      have a3 := and_3 (i : Int)
      obtain ⟨r, hr, er⟩ := nat_of_mod (i : Int) 4 (by omega)
      rw [show ((4 : Nat) : Int) = 4 from rfl] at er
      rw [er] at a3
      clear er hx
      go_upto_region 12 with fail
      go_cut [57] (fun s57 wx => ∃ b : Bool, s57 = .bool b ∧ (b = true → 0 < s.length) ∧ wx = wr)
      case first =>
        by_cases h6 : 0 < r
        · have e3 : decide ((0 : Int) < r) = true := by simp; omega
          by_cases h7 : 0 < s.length
          · have e4 : decide ((0 : Int) < s.length) = true := by simp; omega
            go_wp2_with fail
            go_meet
            exact ⟨true, rfl, fun _ => h7, rfl⟩
          · have e4 : decide ((0 : Int) < s.length) = false := by rw [decide_eq_false_iff_not]; omega
            go_wp2_with fail
            go_meet
            exact ⟨false, rfl, (fun c => by cases c), rfl⟩
        · have e3 : decide ((0 : Int) < r) = false := by simp; omega
          go_wp2_with fail
          go_meet
          exact ⟨false, rfl, (fun c => by cases c), rfl⟩
      case rest =>
      obtain ⟨b57, rfl, hb57, rfl⟩ := hcut
      go_upto_if 57 with fail
      go_cut [15] (fun s15 wx => ∃ X : Int, s15 = .int .i64 X ∧ wx = wc)
      case first =>
        cases b57
        · go_wp2_with fail
          go_meet
          exact ⟨_, rfl, rfl⟩
        · have h6 := hb57 rfl
          obtain ⟨D, hD1, hD2⟩ := uint_rem x s.length (by omega) (by omega)
          go_wp2_with fail
          go_meet
          exact ⟨_, rfl, rfl⟩
      case rest =>
        obtain ⟨X, rfl, rfl⟩ := hcut
        clear hcx a3 hxw
        have C1 := match_findI hF1 hE1 hr1.wf X (by omega) (by omega)
        go_wp2_with fail
        refine C1.mono ?_
        rintro e w6 ⟨rfl, hs6⟩
        have hb6 := hs6.below_of hb hb.size (fun _ _ c => c)
        have hx6 := hx5.below hb6 hx5.lt
        have x0 := hx6.cell 0
        have x1 := hx6.cell 1
        have x2 := hx6.cell 2
        have x3 := hx6.cell 3
        have C2 := ref_findI A' c' s store lazy wide chain good M far hM hfar w6 (hr5.belo hb6) (by omega) X
        rw [hG] at C2
        clear C1
        generalize (findI s M far chain G X).1 = r1 at *
        generalize (findI s M far chain G X).2 = r2 at *
        go_wp2_with fail
        refine C2.mono ?_
        rintro e w7 ⟨rfl, hbb7⟩
        have hb7 := hb6.trans (hbb7.mono hb6.size)
        go_wp2_with fail
        go_roundg (gk - 1)
        case measure => omega
        case rel => exact ⟨⟨i + 1, by omega, by omega, by go_num, hb7⟩⟩
    · have hb9 := hb05.trans (hb.mono hb05.size)
      by_cases h5 : i < ats.length
      · have e1 : decide (i < ats.length) = true := by simpa using h5
        have e2 : decide ((i : Int) < 60) = false := by simp; omega
        go_wp2_with (go_at_call 8; refine (ht _).out.mono ?_; rintro e w' ⟨rfl, hb'⟩; have k1 := (hrb5.same (Same.of_below (S := fun _ => False) (hb.trans (hb'.mono hb.size))) (fun _ _ c => c)).to_string (P := Try.prog) (c := c') rfl Try.underlying22 Try.underlying5 Try.underlying9; have k2 := (hrb6.same (Same.of_below (S := fun _ => False) (hb.trans (hb'.mono hb.size))) (fun _ _ c => c)).to_string (P := Try.prog) (c := c2) rfl Try.underlying22 Try.underlying5 Try.underlying9)
        go_ret
        exact ⟨rfl, hb9.trans (hb'.mono hb9.size)⟩
      · have e1 : decide (i < ats.length) = false := by simpa using h5
        go_wp2_with (go_at_call 8; refine (ht _).out.mono ?_; rintro e w' ⟨rfl, hb'⟩; have k1 := (hrb5.same (Same.of_below (S := fun _ => False) (hb.trans (hb'.mono hb.size))) (fun _ _ c => c)).to_string (P := Try.prog) (c := c') rfl Try.underlying22 Try.underlying5 Try.underlying9; have k2 := (hrb6.same (Same.of_below (S := fun _ => False) (hb.trans (hb'.mono hb.size))) (fun _ _ c => c)).to_string (P := Try.prog) (c := c2) rfl Try.underlying22 Try.underlying5 Try.underlying9)
        go_ret
        exact ⟨rfl, hb9.trans (hb'.mono hb9.size)⟩
end Go.Proofs.Ytnnjpbghnfohaaa
