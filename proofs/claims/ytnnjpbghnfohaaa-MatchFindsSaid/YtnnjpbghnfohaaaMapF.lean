import Derived.Test.YtnnjpbghnfohaaaMapQ
import Derived.Test.YtnnjpbghnfohaaaMapS
namespace Go.Proofs.Ytnnjpbghnfohaaa
set_option linter.unusedVariables false
set_option linter.unusedSimpArgs false
open Go.RowKit Go.MapKept
attribute [local go_sem] max2i min2i max2t min2t

theorem poss_getD {bs : List Int} {i n j : Nat} (h : i < n) (hj : j < (poss bs i (tri bs i)).length) : (nats (poss bs n (tri bs i))).getD j 0 = (((poss bs i (tri bs i)).getD j 0 : Nat) : Int) := by
  obtain ⟨Q, h1, _⟩ := poss_at bs h
  rw [nats_getD _ _ (by rw [h1, List.length_append]; omega), h1, List.getD_eq_getElem?_getD, List.getElem?_append_left hj, ← List.getD_eq_getElem?_getD]
theorem poss_lt {bs : List Int} {i j : Nat} {t : Int × Int × Int} (hj : j < (poss bs i t).length) : (poss bs i t).getD j 0 < i := by
  have : (poss bs i t).getD j 0 ∈ poss bs i t := by
    rw [List.getD_eq_getElem?_getD, List.getElem?_eq_getElem hj]
    exact List.getElem_mem hj
  exact (poss_mem this).1
theorem poss_ge {bs : List Int} {i n j : Nat} (h : i < n) (hj : (poss bs i (tri bs i)).length ≤ j) (hn : j < (nats (poss bs n (tri bs i))).length) : ¬ (nats (poss bs n (tri bs i))).getD j 0 < (i : Int) := by
  obtain ⟨Q, h1, h2⟩ := poss_at bs h
  rw [nats_length] at hn
  rw [nats_getD _ _ hn]
  have : (poss bs n (tri bs i)).getD j 0 ∈ i :: Q := by
    rw [h1] at hn ⊢
    rw [List.length_append] at hn
    rw [List.getD_eq_getElem?_getD, List.getElem?_append_right hj, List.getElem?_eq_getElem (by omega)]
    exact List.getElem_mem _
  rcases List.mem_cons.1 this with e | e
  · omega
  · have := h2 _ e; omega
theorem take_rev {α : Type} (P : List α) (k : Nat) (d : α) (h : k < P.length) : (P.take (k + 1)).reverse = P.getD k d :: (P.take k).reverse := by
  rw [List.take_add_one, List.getElem?_eq_getElem h, List.getD_eq_getElem?_getD, List.getElem?_eq_getElem h]
  simp
structure FdRel (w : World) (bs : List Int) (M : Nat) (far chain good : Int) (at_ i : Nat) (P : List Nat) (res : Nat × Nat) (gk : Nat) (s9 s10 s11 : Value) (wr : World) : Prop where mk ::
  out_ : ∃ kk b d : Nat, kk ≤ i ∧ gk = kk ∧ b ≤ 100000 ∧ d ≤ 100000 ∧ s9 = .int .i64 b ∧ s10 = .int .i64 d ∧ s11 = .int .i64 ((kk : Int) - 1) ∧ res = findR bs M far chain good at_ (P.take kk).reverse (i - kk) (b, d) ∧ Same (fun _ => False) w wr
theorem findR_more (bs : List Int) (M : Nat) (far chain good : Int) (at_ q : Nat) (qs : List Nat) (s b d mm : Nat) (h1 : (s : Int) < chain) (h2 : (at_ : Int) - q ≤ far) (hm : alk bs M q at_ = mm) :
    findR bs M far chain good at_ (q :: qs) s (b, d) = if b < mm then (if good ≤ (mm : Int) then (mm, at_ - q) else findR bs M far chain good at_ qs (s + 1) (mm, at_ - q)) else (if good ≤ (b : Int) then (b, d) else findR bs M far chain good at_ qs (s + 1) (b, d)) := by
  rw [findR, if_pos ⟨h1, h2⟩, hm]
  by_cases c : b < mm
  · simp only [if_pos c]
  · simp only [if_neg c]
theorem alk_le (bs : List Int) (M p q : Nat) : alk bs M p q ≤ M := by
  rcases Nat.eq_zero_or_pos (alk bs M p q) with e | e
  · omega
  · have := (alkN_same bs M p q (bs.length - q) 0 (alk bs M p q - 1) (Nat.zero_le _) (by show _ < alk bs M p q; omega)).2.1
    omega
set_option maxHeartbeats 1600000 in
set_option maxRecDepth 100000 in
theorem match_find {w : World} {base f m cf : Nat} {Af : Option Addr} {bs : List Int} {store lazy : Bool} {chain good far : Int} {M : Nat} {es : Array MapEntry} {clock : Nat} (h : FinB w base f Af cf bs store lazy chain good far (M : Nat) m) (hE : MapE w base m bs (bs.length - 2) es clock)
    (hwf : ∀ x ∈ bs, (Lit.int .u8 x).wf = true) (at_ : Nat) (hat : at_ + 3 ≤ bs.length) (hl : bs.length ≤ 100000) (hM : M ≤ 100000) :
    Calls Try.prog 11 #[.pointer (some ⟨f, 0, none⟩), .int .i64 at_] w fun e w' => e = .returned (.tuple #[.int .i64 (findP bs M far chain good at_).1, .int .i64 (findP bs M far chain good at_).2]) ∧ Same (fun _ => False) w w' := by
  obtain ⟨g, rfl⟩ := h.addr (fun e => by rw [e] at hat; simp at hat)
  have hr := h.row hwf
  have e0 : decide (at_ + 3 ≤ bs.length) = true := by simpa using hat
  have e0' : decide ((bs.length : Int) - 3 < at_) = false := by simp; omega
  have hN : at_ < bs.length - 2 := by omega
  have hok : ok3 (tri bs at_) := ⟨hwf _ (getD_mem3 bs at_ 0 (by omega)), hwf _ (getD_mem3 bs (at_ + 1) 0 (by omega)), hwf _ (getD_mem3 bs (at_ + 2) 0 (by omega))⟩
  have q0 := h.pb.cell 0
  have c0 := fun d : Ext (fun _ => False) w => (h.pb.same d.same (fun c => c)).cell 0
  have c7 := fun d : Ext (fun _ => False) w => (h.pb.same d.same (fun c => c)).cell 7
  have ra := fun (j : Nat) (hj : j < bs.length) (d : Ext (fun _ => False) w) => (show d.world.cell? ⟨g, j, none⟩ = some (.int .u8 (bs.getD j 0)) from by
    obtain ⟨ad, e, hc⟩ := (hr.rd.same d.same (fun _ _ c => c)).at_ hj
    injection e with e
    subst e
    rw [Addr.add_lit, Nat.zero_add] at hc
    exact hc)
  have r0 := ra at_ (by omega)
  have r1 := ra (at_ + 1) (by omega)
  have r2 := ra (at_ + 2) (by omega)
  have k1 : ((at_ : Int) + 1).toNat = at_ + 1 := by omega
  have k2 : ((at_ : Int) + 2).toNat = at_ + 2 := by omega
  have l0 : at_ < bs.length := by omega
  have l1 : at_ + 1 < bs.length := by omega
  have l2 : at_ + 2 < bs.length := by omega
  obtain ⟨v0, hlook, hO⟩ := hE.look hok
  have lk : ∀ d : Ext (fun _ => False) w, (Instr.lookup 46 (.map (some m)) (.agg #[.int .u8 (bs.getD at_ 0), .int .u8 (bs.getD (at_ + 1) 0), .int .u8 (bs.getD (at_ + 2) 0)]) false).run Try.prog d.world = .ok v0 d.world := fun d => hlook d.world ((d.same.block m (Array.getElem?_eq_some_iff.1 hE.blk).1 (fun c => c)).trans hE.blk)
  obtain ⟨A0, cc0, rfl, hrL, _⟩ := hO.row (fun x hx => by
    simp only [nats, List.mem_map] at hx
    obtain ⟨y, hy, rfl⟩ := hx
    have := (poss_mem hy).1
    exact WalkArith.wf_i64 (by omega))
  have hi : (poss bs at_ (tri bs at_)).length < (nats (poss bs (bs.length - 2) (tri bs at_))).length := by
    obtain ⟨Q, h1, _⟩ := poss_at bs hN
    rw [nats_length, h1, List.length_append, List.length_cons]
    omega
  have hL : (nats (poss bs (bs.length - 2) (tri bs at_))).length ≤ 1000000 := by
    rw [nats_length]
    have := poss_le bs (bs.length - 2) (tri bs at_)
    omega
  have hxj := fun j (hj : j < (poss bs at_ (tri bs at_)).length) => poss_getD (j := j) hN hj
  have hxlt := fun j (hj : j < (poss bs at_ (tri bs at_)).length) => (by rw [hxj j hj]; have := poss_lt hj; omega : (nats (poss bs (bs.length - 2) (tri bs at_))).getD j 0 < at_)
  have hxge := fun j (h1 : (poss bs at_ (tri bs at_)).length ≤ j) => poss_ge (j := j) hN h1
  have hres : findP bs M far chain good at_ = findR bs M far chain good at_ (poss bs at_ (tri bs at_)).reverse 0 (0, 0) := rfl
  have hPlt : ∀ j, j < (poss bs at_ (tri bs at_)).length → (poss bs at_ (tri bs at_)).getD j 0 < at_ := fun j hj => poss_lt hj
  have hi2 := poss_le bs at_ (tri bs at_)
  clear hlook hO hok ra hN
  generalize nats (poss bs (bs.length - 2) (tri bs at_)) = xs at *
  generalize poss bs at_ (tri bs at_) = P at *
  generalize findP bs M far chain good at_ = res at *
  have HRES := Lib.hid hres
  have e1 : decide ((at_ : Int) < 0) = false := by simp
  clear hres e0
  generalize bs.getD at_ 0 = b0 at *
  generalize bs.getD (at_ + 1) 0 = b1 at *
  generalize bs.getD (at_ + 2) 0 = b2 at *
  go_enter Try.func11, Try.ntmps11
  go_wp2_with fail
  refine wp_region_ext (fun _ => False) (by kernel_rfl) (by kernel_rfl) ?_
  repeat (go_big_quiet_step (fail))
  refine wpQuiet_nil ?_
  rintro _ ⟨d, rfl⟩
  have hr1 := hrL.same d.same (fun _ _ c => c)
  go_wp2_with fail
  refine (search_int hr1 hL _ _ hi hxlt (fun j h1 h2 => Int.not_lt.2 (hxge j h1 h2))).mono ?_
  rintro e w' ⟨⟨bb, rfl⟩, hw'⟩
  subst hw'
  obtain ⟨lb, lo, rfl⟩ := hrL.addr3 (fun e => by rw [e] at hi; simp at hi)
  have hsw := d.same
  generalize d.world = w2 at *
  clear q0 c0 c7 r0 r1 r2 k1 k2 l0 l1 l2 lk hxge hxlt hr1 d
  go_wp2_with fail
  go_loopg [9, 10, 11] P.length (FdRel w bs M far chain good at_ P.length P res)
  case atStart => exact ⟨⟨P.length, 0, 0, Nat.le_refl _, rfl, by omega, by omega, rfl, rfl, rfl, by rw [HRES.out, List.take_length, Nat.sub_self], hsw⟩⟩
  case round =>
    obtain ⟨kk, b, dd, hkk, hg, hb, hdd, rfl, rfl, rfl, hres, hs⟩ := hrel.out_
    clear hrel HRES
    have hF := h.kept hs (fun c => c) (fun _ _ c => c)
    have c2 := fun d : Ext (fun _ => False) wr => (hF.pb.same d.same (fun c => c)).cell 2
    have c5 := fun d : Ext (fun _ => False) wr => (hF.pb.same d.same (fun c => c)).cell 5
    cases kk with
    | zero =>
      have hz : (((0 : Nat) : Int) - 1) = -1 := by omega
      rw [hz]
      rw [List.take_zero, List.reverse_nil, findR] at hres
      have e1 : decide ((0 : Int) ≤ -1) = false := by decide
      go_wp2_with fail
      refine wp_region_ext (fun _ => False) (by kernel_rfl) (by kernel_rfl) ?_
      repeat (go_big_quiet_step (fail))
      refine wpQuiet_nil ?_
      rintro _ ⟨d, rfl⟩
      go_wp2_with fail
      go_ret2
      rw [hres]
      exact ⟨rfl, hs.then d.same⟩
    | succ k =>
      have hz : (((k + 1 : Nat) : Int) - 1) = (k : Int) := by omega
      rw [hz]
      have hkP : k < P.length := by omega
      have rk := fun d : Ext (fun _ => False) wr => (show d.world.cell? ⟨lb, lo + k, none⟩ = some (.int .i64 ((P.getD k 0 : Nat) : Int)) from by
        obtain ⟨ad, e, hc⟩ := ((hrL.rd.same hs (fun _ _ c => c)).same d.same (fun _ _ c => c)).at_ (i := k) (by omega)
        injection e with e
        subst e
        rw [Addr.add_lit, hxj k hkP] at hc
        exact hc)
      have hq := hPlt k hkP
      rw [take_rev P k 0 hkP] at hres
      generalize P.getD k 0 = q at *
      have hkx : decide (k < xs.length) = true := by simp; omega
      have hkx2 : k < xs.length := by omega
      by_cases c3 : ((P.length : Int) - k ≤ chain)
      · have e3 : decide ((P.length : Int) - k ≤ chain) = true := by simpa using c3
        by_cases c4 : ((at_ : Int) - q ≤ far)
        · have e4 : decide ((at_ : Int) - q ≤ far) = true := by simpa using c4
          rw [findR_more bs M far chain good at_ q _ _ b dd _ (by omega) c4 rfl] at hres
          have HRES := Lib.hid hres
          clear hres c3 c4 hxj hPlt
          go_wp2_with fail
          refine wp_region_ext (fun _ => False) (by kernel_rfl) (by kernel_rfl) ?_
          repeat (go_big_quiet_step (fail))
          refine wpQuiet_nil ?_
          rintro _ ⟨d, rfl⟩
          have rk1 := rk d
          have hF1 := hF.kept d.same (fun c => c) (fun _ _ c => c)
          have hs1 := hs.then d.same
          go_wp2_with fail
          refine (match_alike hF1 hwf q at_ hq (by omega) hl hM).mono ?_
          rintro e w4 ⟨rfl, hs4⟩
          have hs5 := hs1.then hs4
          have hF5 := hF1.kept hs4 (fun c => c) (fun _ _ c => c)
          have hmm := alk_le bs M q at_
          have g4 := hF5.pb.cell 4
          have rk5 := hs4.cell rk1 (fun c => c)
          have hres := HRES.out
          clear HRES rk1 rk c2 c5
          generalize alk bs M q at_ = mm at *
          by_cases c5 : b < mm
          · have e5 : decide (b < mm) = true := by simpa using c5
            have rk6 := fun d : Ext (fun _ => False) w4 => d.same.cell rk5 (fun c => c)
            have g6 := fun d : Ext (fun _ => False) w4 => (hF5.pb.same d.same (fun c => c)).cell 4
            rw [if_pos c5] at hres
            have hsub : (at_ : Int) - q = ((at_ - q : Nat) : Int) := by omega
            have hdq : at_ - q ≤ 100000 := by omega
            have HRES := Lib.hid hres
            clear c5 hres g4
            generalize at_ - q = dq at *
            go_wp2_with fail
            refine wp_region_ext (fun _ => False) (by kernel_rfl) (by kernel_rfl) ?_
            repeat (go_big_quiet_step (fail))
            refine wpQuiet_nil ?_
            rintro _ ⟨d, rfl⟩
            have hsd := hs5.then d.same
            have g7 := g6 d
            have hres := HRES.out
            clear g6 rk6 HRES
            by_cases c4 : good ≤ ((mm : Nat) : Int)
            · have e4 : decide (good ≤ ((mm : Nat) : Int)) = true := by simpa using c4
              rw [if_pos c4] at hres
              clear c4
              go_wp2_with fail
              go_ret2
              rw [hres]
              exact ⟨rfl, hsd⟩
            · have e4 : decide (good ≤ ((mm : Nat) : Int)) = false := by simpa using c4
              rw [if_neg c4] at hres
              have HRES := Lib.hid hres
              clear c4 hres
              go_wp2_with fail
              go_roundg (gk - 1)
              case measure => omega
              case rel => exact ⟨⟨k, mm, dq, by omega, by omega, by omega, by omega, by go_num, by go_num, by go_num, by rw [HRES.out, show P.length - (k + 1) + 1 = P.length - k from by omega], hsd⟩⟩
          · have e5 : decide (b < mm) = false := by simpa using c5
            rw [if_neg c5] at hres
            have hsd := hs5
            clear c5
            by_cases c4 : good ≤ ((b : Nat) : Int)
            · have e4 : decide (good ≤ ((b : Nat) : Int)) = true := by simpa using c4
              rw [if_pos c4] at hres
              clear c4
              go_wp2_with fail
              go_ret2
              rw [hres]
              exact ⟨rfl, hsd⟩
            · have e4 : decide (good ≤ ((b : Nat) : Int)) = false := by simpa using c4
              rw [if_neg c4] at hres
              have HRES := Lib.hid hres
              clear c4 hres
              go_wp2_with fail
              go_roundg (gk - 1)
              case measure => omega
              case rel => exact ⟨⟨k, b, dd, by omega, by omega, by omega, by omega, by go_num, by go_num, by go_num, by rw [HRES.out, show P.length - (k + 1) + 1 = P.length - k from by omega], hsd⟩⟩
        · have e4 : decide ((at_ : Int) - q ≤ far) = false := by simpa using c4
          rw [findR, if_neg (fun c => c4 c.2)] at hres
          clear c3 c4 hxj hPlt
          go_wp2_with fail
          refine wp_region_ext (fun _ => False) (by kernel_rfl) (by kernel_rfl) ?_
          repeat (go_big_quiet_step (fail))
          refine wpQuiet_nil ?_
          rintro _ ⟨d, rfl⟩
          go_wp2_with fail
          go_ret2
          rw [hres]
          exact ⟨rfl, hs.then d.same⟩
      · have e3 : decide ((P.length : Int) - k ≤ chain) = false := by simpa using c3
        rw [findR, if_neg (fun c => c3 (by omega))] at hres
        clear c3 hxj hPlt
        go_wp2_with fail
        refine wp_region_ext (fun _ => False) (by kernel_rfl) (by kernel_rfl) ?_
        repeat (go_big_quiet_step (fail))
        refine wpQuiet_nil ?_
        rintro _ ⟨d, rfl⟩
        go_wp2_with fail
        go_ret2
        rw [hres]
        exact ⟨rfl, hs.then d.same⟩
end Go.Proofs.Ytnnjpbghnfohaaa
