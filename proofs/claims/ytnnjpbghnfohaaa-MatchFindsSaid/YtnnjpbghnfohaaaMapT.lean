import Derived.Test.YtnnjpbghnfohaaaMapF
namespace Go.Proofs.Ytnnjpbghnfohaaa
set_option linter.unusedVariables false
set_option linter.unusedSimpArgs false
open Go.RowKit Go.MapKept
attribute [local go_sem] max2i min2i max2t min2t

set_option maxHeartbeats 1600000 in
set_option maxRecDepth 100000 in
theorem match_find_out {w : World} {base f m cf : Nat} {Af : Option Addr} {bs : List Int} {store lazy : Bool} {chain good far most : Int} (h : FinB w base f Af cf bs store lazy chain good far most m)
    (at_ : Int) (hat : at_ < 0 ∨ (bs.length : Int) - 3 < at_) (hl : bs.length ≤ 100000) :
    Calls Try.prog 11 #[.pointer (some ⟨f, 0, none⟩), .int .i64 at_] w fun e w' => e = .returned (.tuple #[.int .i64 0, .int .i64 0]) ∧ w' = w := by
  have q0 := h.pb.cell 0
  by_cases h0 : at_ < 0
  · have e1 : decide (at_ < 0) = true := by simpa using h0
    go_enter Try.func11, Try.ntmps11
    go_wp2_with fail
    go_ret2
    simp
  · have e1 : decide (at_ < 0) = false := by simpa using h0
    have e2 : decide ((bs.length : Int) - 3 < at_) = true := by have := hat.resolve_left h0; simpa using this
    go_enter Try.func11, Try.ntmps11
    go_wp2_with fail
    go_ret2
    simp
def findQ (bs : List Int) (M : Nat) (far chain good : Int) (at_ : Nat) : Nat × Nat := if at_ + 3 ≤ bs.length then findP bs M far chain good at_ else (0, 0)
theorem findR_le (bs : List Int) (M : Nat) (far chain good : Int) (at_ : Nat) : ∀ (qs : List Nat) (s : Nat) (r : Nat × Nat), r.1 ≤ M → r.2 ≤ at_ → (findR bs M far chain good at_ qs s r).1 ≤ M ∧ (findR bs M far chain good at_ qs s r).2 ≤ at_
  | [], s, r, h1, h2 => ⟨h1, h2⟩
  | q :: qs, s, r, h1, h2 => by
    have ha := alk_le bs M q at_
    rw [findR]
    split
    · have hr : (if r.1 < alk bs M q at_ then (alk bs M q at_, at_ - q) else r).1 ≤ M ∧ (if r.1 < alk bs M q at_ then (alk bs M q at_, at_ - q) else r).2 ≤ at_ := by
        split
        · exact ⟨ha, Nat.sub_le _ _⟩
        · exact ⟨h1, h2⟩
      dsimp only
      generalize (if r.1 < alk bs M q at_ then (alk bs M q at_, at_ - q) else r) = r' at *
      split
      · exact hr
      · exact findR_le bs M far chain good at_ qs (s + 1) _ hr.1 hr.2
    · exact ⟨h1, h2⟩
theorem findQ_le (bs : List Int) (M : Nat) (far chain good : Int) (at_ : Nat) : (findQ bs M far chain good at_).1 ≤ M ∧ (findQ bs M far chain good at_).2 ≤ at_ := by
  unfold findQ
  split
  · exact findR_le _ _ _ _ _ _ _ _ _ (Nat.zero_le _) (Nat.zero_le _)
  · exact ⟨Nat.zero_le _, Nat.zero_le _⟩
theorem match_findQ {w : World} {base f m cf : Nat} {Af : Option Addr} {bs : List Int} {store lazy : Bool} {chain good far : Int} {M : Nat} {es : Array MapEntry} {clock : Nat} (h : FinB w base f Af cf bs store lazy chain good far (M : Nat) m) (hE : MapE w base m bs (bs.length - 2) es clock)
    (hwf : ∀ x ∈ bs, (Lit.int .u8 x).wf = true) (at_ : Nat) (hl : bs.length ≤ 100000) (hM : M ≤ 100000) :
    Calls Try.prog 11 #[.pointer (some ⟨f, 0, none⟩), .int .i64 at_] w fun e w' => e = .returned (.tuple #[.int .i64 (findQ bs M far chain good at_).1, .int .i64 (findQ bs M far chain good at_).2]) ∧ Same (fun _ => False) w w' := by
  by_cases hat : at_ + 3 ≤ bs.length
  · unfold findQ
    rw [if_pos hat]
    exact match_find h hE hwf at_ hat hl hM
  · unfold findQ
    rw [if_neg hat]
    refine (match_find_out h (at_ : Int) (.inr (by omega)) hl).mono ?_
    rintro e w' ⟨rfl, rfl⟩
    exact ⟨rfl, Same.refl _⟩
structure Tk where
  n : Nat
  d : Nat
  c : Int
def Tk.enc (x : Tk) : List Value := [.int .i64 x.n, .int .i64 x.d, .int .u8 x.c]
def lazyN (bs : List Int) (M : Nat) (far chain good : Int) (lazy : Bool) (at_ : Nat) : Nat :=
  if 0 < (findQ bs M far chain good at_).1 ∧ lazy = true ∧ ((findQ bs M far chain good at_).1 : Int) < good ∧ (findQ bs M far chain good at_).1 < (findQ bs M far chain good (at_ + 1)).1 then 0 else (findQ bs M far chain good at_).1
def tokF (bs : List Int) (M : Nat) (far chain good : Int) (lazy : Bool) : Nat → Nat → List Tk
  | 0, _ => []
  | k + 1, at_ => if at_ < bs.length then
      (if lazyN bs M far chain good lazy at_ = 0 then ⟨0, 0, bs.getD at_ 0⟩ :: tokF bs M far chain good lazy k (at_ + 1) else ⟨lazyN bs M far chain good lazy at_, (findQ bs M far chain good at_).2, 0⟩ :: tokF bs M far chain good lazy k (at_ + lazyN bs M far chain good lazy at_))
    else []
theorem tokF_fuel (bs : List Int) (M : Nat) (far chain good : Int) (lazy : Bool) : ∀ k k' at_, bs.length - at_ ≤ k → bs.length - at_ ≤ k' → tokF bs M far chain good lazy k at_ = tokF bs M far chain good lazy k' at_
  | 0, 0, at_, _, _ => rfl
  | 0, k' + 1, at_, h, _ => by rw [tokF, tokF, if_neg (by omega)]
  | k + 1, 0, at_, _, h => by rw [tokF, tokF, if_neg (by omega)]
  | k + 1, k' + 1, at_, h, h' => by
    rw [tokF, tokF]
    split
    · split
      · rw [tokF_fuel bs M far chain good lazy k k' (at_ + 1) (by omega) (by omega)]
      · rw [tokF_fuel bs M far chain good lazy k k' _ (by omega) (by omega)]
    · rfl
def tokL (bs : List Int) (M : Nat) (far chain good : Int) (lazy : Bool) (at_ : Nat) : List Tk := tokF bs M far chain good lazy (bs.length - at_) at_
theorem tokL_end {bs : List Int} {M : Nat} {far chain good : Int} {lazy : Bool} {at_ : Nat} (h : bs.length ≤ at_) : tokL bs M far chain good lazy at_ = [] := by
  unfold tokL
  rw [show bs.length - at_ = 0 from by omega, tokF]
theorem tokL_byte {bs : List Int} {M : Nat} {far chain good : Int} {lazy : Bool} {at_ : Nat} (h : at_ < bs.length) (hn : lazyN bs M far chain good lazy at_ = 0) : tokL bs M far chain good lazy at_ = ⟨0, 0, bs.getD at_ 0⟩ :: tokL bs M far chain good lazy (at_ + 1) := by
  unfold tokL
  rw [show bs.length - at_ = (bs.length - (at_ + 1)) + 1 from by omega, tokF, if_pos h, if_pos hn]
theorem tokL_match {bs : List Int} {M : Nat} {far chain good : Int} {lazy : Bool} {at_ n : Nat} (h : at_ < bs.length) (hn : lazyN bs M far chain good lazy at_ = n) (h0 : n ≠ 0) : tokL bs M far chain good lazy at_ = ⟨n, (findQ bs M far chain good at_).2, 0⟩ :: tokL bs M far chain good lazy (at_ + n) := by
  unfold tokL
  rw [show bs.length - at_ = (bs.length - (at_ + 1)) + 1 from by omega, tokF, if_pos h, hn, if_neg h0, tokF_fuel bs M far chain good lazy _ (bs.length - (at_ + n)) _ (by omega) (by omega)]
theorem Try.tokinfo : (Try.prog.info? 45).map (fun i => (i.zero, i.size, i.bytes)) = some (some (.agg #[.int .i64 0, .int .i64 0, .int .u8 0]), 3, 24) := by kernel_rfl
section
variable {P : Program} {ops : Array Oper} {rest : List Oper} {o : Oper} {a : Act} {Q : Exit → Act → World → Prop}
/-- append(v, x), x a token in a row of its own. -/
theorem wpList_tok {w : World} (base : Nat) (hgd : o.guard = none) (s x : Operand) (t e : TypeId) (g : Nat)
    (ho : o.op = .call { callee := .builtin .append, args := #[s, x], argTypes := #[t, t] })
    (ht : P.underlying t = some (.slice e)) (hinfo : (P.info? e).map (fun i => (i.zero, i.size, i.bytes)) = some (some (.agg #[.int .i64 0, .int .i64 0, .int .u8 0]), 3, 24))
    (v : Value) (xs : List Tk) (y : Tk) (hs : a.eval s = v) (hx : a.eval x = .slice (some ⟨g, 0, none⟩) 1 1) (hb : Blk w g e #[.int .i64 y.n, .int .i64 y.d, .int .u8 y.c])
    (HO : w.ownsRow base e 3 v xs.length (xs.flatMap Tk.enc)) (hbase : base ≤ w.heap.size) (hl : xs.length ≤ 1000000)
    (h : ∀ v1 w1, w1.ownsRow base e 3 v1 (xs ++ [y]).length ((xs ++ [y]).flatMap Tk.enc) → Same (fun k => v.ownBlock = some k) w w1 → (v1.ownBlock = v.ownBlock ∨ v1.ownBlock = some w.heap.size) → wpList P ops Q rest (a.put o.dst v1) w1) :
    wpList P ops Q (o :: rest) a w :=
  wpList_appN base hgd s x t e _ 3 24 ho ht hinfo rfl (by omega) v xs.length _ (some ⟨g, 0, none⟩) 1 1 y.enc hs hx rfl (fun j u hj => ⟨g, 0, rfl, by
    rw [hb.cell]
    rw [Nat.zero_add]
    have e : (#[Value.int .i64 y.n, .int .i64 y.d, .int .u8 y.c] : Array Value)[j]? = y.enc[j]? := by
      rw [← Array.getElem?_toList]
      rfl
    rw [e]; exact hj⟩) (by simp) (fun u hu => by
      simp [Tk.enc] at hu
      rcases hu with rfl | rfl | rfl <;> rfl) HO hbase (by omega) (by omega) (fun v1 w1 h1 h2 h3 => h v1 w1 (by rw [List.length_append, List.flatMap_append, List.flatMap_singleton]; exact h1) h2 h3)
end
structure TkRel (w1 : World) (bs : List Int) (lazy : Bool) (chain good far : Int) (M : Nat) (gk : Nat) (s7 s11 : Value) (wr : World) : Prop where mk ::
  out_ : ∃ (at_ : Nat) (acc : List Tk), at_ ≤ bs.length + 100000 ∧ acc.length ≤ at_ ∧ gk = bs.length - at_ ∧ s11 = .int .i64 at_ ∧ tokL bs M far chain good lazy 0 = acc ++ tokL bs M far chain good lazy at_ ∧ wr.ownsRow w1.heap.size 45 3 s7 acc.length (acc.flatMap Tk.enc) ∧ Below w1.heap.size w1 wr
theorem own3_kept {w w' : World} {base : Nat} {e : TypeId} {v : Value} {n : Nat} {xs : List Value} (h : w.ownsRow base e 3 v n xs) (hs : Same (fun _ => False) w w') : w'.ownsRow base e 3 v n xs := by
  refine ⟨h.1, ?_⟩
  rcases h.2 with h2 | ⟨g, cap, cur, h1, h2, h3, h4⟩
  · exact .inl h2
  · exact .inr ⟨g, cap, cur, h1, h2, (hs.block g (Array.getElem?_eq_some_iff.1 h3).1 (fun c => c)).trans h3, h4⟩
theorem own3_ge {w : World} {base : Nat} {e : TypeId} {v : Value} {n : Nat} {xs : List Value} (h : w.ownsRow base e 3 v n xs) (k : Nat) (hk : v.ownBlock = some k) : base ≤ k := by
  rcases h.2 with ⟨rfl, _⟩ | ⟨g, cap, cur, rfl, hb, _⟩
  · simp [Value.ownBlock] at hk
  · simp [Value.ownBlock] at hk; omega
set_option maxHeartbeats 1600000 in
set_option maxRecDepth 100000 in
theorem match_tokens (A : Option Addr) (c : Nat) (bs : List Int) (lazy wide : Bool) (chain good : Int) (M : Nat) (far : Int) (hM : M = if wide then 65538 else 258) (hfar : far = if wide then 65536 else 32768) (w : World) (hr : RowOf w .u8 A c bs) (hl : bs.length ≤ 100000) :
    Calls Try.prog 14 #[.slice A bs.length c, .agg #[.bool false, .int .i64 chain, .bool lazy, .int .i64 good], .bool wide] w fun e w' => ∃ v base, e = .returned v ∧ w.heap.size ≤ base ∧ w'.ownsRow base 45 3 v (tokL bs M far chain (max good 1) lazy 0).length ((tokL bs M far chain (max good 1) lazy 0).flatMap Tk.enc) ∧ Below w.heap.size w w' := by
  have hm := hr.most
  have hcap := hr.cap
  have hB0 := (Below.refl w.heap.size w).alloc (Nat.le_refl _) (.cells #[.bool false, .int .i64 chain, .bool lazy, .int .i64 good] 24)
  have hr0 := hr.belo hB0
  have hbx := Blk.new w 24 #[.bool false, .int .i64 chain, .bool lazy, .int .i64 good]
  obtain ⟨G, hG⟩ : ∃ G, max good 1 = G := ⟨_, rfl⟩
  rw [hG]
  have HG := Lib.hid hG
  clear hG
  go_enter Try.func14, Try.ntmps14
  go_wp2_with fail
  generalize w.alloc (.cells #[.bool false, .int .i64 chain, .bool lazy, .int .i64 good] 24) = w0 at *
  have b0 := hbx.cell 0
  have b1 := hbx.cell 1
  have b2 := hbx.cell 2
  have b3 := hbx.cell 3
  go_wp2_with fail
  refine (match_new A c bs false lazy wide chain good w0 hr0 hl).mono ?_
  rintro e w1 ⟨f, rfl, ⟨base, m, Af, cf, es, clock, hbase, hF, hE, hB1⟩⟩
  rw [← hfar] at hF
  rw [show (if wide = true then (65538 : Int) else 258) = ((M : Nat) : Int) from by rw [hM]; cases wide <;> rfl] at hF
  have hM1 : M ≤ 65538 := by rw [hM]; cases wide <;> simp
  have hz01 := hB1.size
  have hz0 := hB0.size
  have hwf := hr.wf
  clear hM hfar b0 b1 b2 b3
  rw [HG.out] at hF
  go_wp2_with fail
  go_loopg [7, 11] bs.length (TkRel w1 bs lazy chain G far M)
  case atStart => exact ⟨⟨0, [], by omega, by simp, by omega, rfl, by simp, ⟨rfl, .inl ⟨rfl, rfl⟩⟩, Below.refl _ _⟩⟩
  case round =>
    obtain ⟨at_, acc, hat, hacc, hg, rfl, htok, ho, hb⟩ := hrel.out_
    clear hrel
    by_cases hlt : at_ < bs.length
    · have e1 : decide (at_ < bs.length) = true := by simpa using hlt
      have hF1 := hF.kept (Same.of_below (S := fun _ => False) hb) (fun c => c) (fun _ _ c => c)
      have hE1 := hE.kept (Same.of_below (S := fun _ => False) hb) (fun c => c) (fun _ _ _ _ c => c)
      have hx1 := hbx.below (hB1.trans (hb.mono hz01)) hbx.lt
      have C1 := match_findQ hF1 hE1 hwf at_ hl (by omega)
      obtain ⟨hn1, hd1⟩ := findQ_le bs M far chain G at_
      obtain ⟨n1, hn1'⟩ : ∃ n1, (findQ bs M far chain G at_).1 = n1 := ⟨_, rfl⟩
      obtain ⟨d1, hd1'⟩ : ∃ d1, (findQ bs M far chain G at_).2 = d1 := ⟨_, rfl⟩
      have hlz : lazyN bs M far chain G lazy at_ = if 0 < n1 ∧ lazy = true ∧ (n1 : Int) < G ∧ n1 < (findQ bs M far chain G (at_ + 1)).1 then 0 else n1 := by unfold lazyN; rw [hn1']
      rw [hn1'] at C1 hn1
      rw [hd1'] at C1 hd1
      clear hn1'
      go_wp2_with fail
      refine C1.mono ?_
      rintro e w2 ⟨rfl, hs2⟩
      have hb2 := hs2.below_of hb hb.size (fun _ _ c => c)
      have hF2 := hF1.kept hs2 (fun c => c) (fun _ _ c => c)
      have ho2 := own3_kept ho hs2
      have hx2 := hx1.same hs2 (fun c => c)
      have f4 := hF2.pb.cell 4
      have l2 := hx2.cell 2
      clear C1 hF1 hE1 hx1 hb
      by_cases c0 : 0 < n1
      · have hn0 : n1 ≠ 0 := by omega
        have e2 : decide (0 < n1) = true := by simpa using c0
        have e3 : decide ((0 : Int) < n1) = true := by simpa using c0
        cases lazy
        · have hln : lazyN bs M far chain G false at_ = n1 := by rw [hlz, if_neg (fun c => by simp at c)]
          clear hlz
          have bt := Blk.new w2 45 #[.int .i64 (n1 : Int), .int .i64 (d1 : Int), .int .u8 0]
          have ho2' := own3_kept ho2 ((Same.refl (S := fun _ => False) w2).alloc (.cells #[.int .i64 (n1 : Int), .int .i64 (d1 : Int), .int .u8 0] 45))
          have hz2 := hb2.size
          have hb3 := hb2.alloc hz2 (.cells #[.int .i64 (n1 : Int), .int .i64 (d1 : Int), .int .u8 0] 45)
          have hstep := tokL_match hlt hln hn0
          rw [hd1'] at hstep
          have HSTEP := Lib.hid hstep
          have HT := Lib.hid htok
          have en0 : ((n1 : Int) == 0) = false := by simp; omega
          have en1 : (n1 == 0) = false := by simp; omega
          clear hstep htok hln hd1' ho
          go_wp2_with (at_builtin; refine wpList_tok w1.heap.size rfl (.tmp 82) (.tmp 86) 36 45 (w2).heap.size rfl Try.underlying36 Try.tokinfo _ acc ⟨n1, d1, 0⟩ rfl rfl bt ho2' hb3.size (by omega) ?_; intro v9 w9 ho9 hs9 _)
          have hb9 := hs9.below_of hb3 hb3.size (fun k hk e => by have := own3_ge ho2' k e; omega)
          go_roundg (gk - n1)
          case measure => omega
          case rel => exact ⟨⟨at_ + n1, acc ++ [⟨n1, d1, 0⟩], by omega, by simp; omega, by omega, by go_num, by rw [HT.out, HSTEP.out, List.append_assoc]; rfl, ho9, hb9⟩⟩
        · by_cases c1 : (n1 : Int) < G
          · have e4 : decide ((n1 : Int) < G) = true := by simpa using c1
            have C2 := match_findQ hF2 (hE.kept (Same.of_below (S := fun _ => False) hb2) (fun c => c) (fun _ _ _ _ c => c)) hwf (at_ + 1) hl (by omega)
            rw [show ((at_ + 1 : Nat) : Int) = (at_ : Int) + 1 from by omega] at C2
            obtain ⟨hn2, _⟩ := findQ_le bs M far chain G (at_ + 1)
            generalize (findQ bs M far chain G (at_ + 1)).1 = n2 at *
            generalize (findQ bs M far chain G (at_ + 1)).2 = d2 at *
            go_wp2_with fail
            refine C2.mono ?_
            rintro e w3 ⟨rfl, hs3⟩
            have hb2 := hs3.below_of hb2 hb2.size (fun _ _ c => c)
            have ho2 := own3_kept ho2 hs3
            clear C2 hF2 hx2 f4 l2
            by_cases c2 : n1 < n2
            · have e5 : decide (n1 < n2) = true := by simpa using c2
              have hln : lazyN bs M far chain G true at_ = 0 := by rw [hlz, if_pos ⟨c0, by simp, c1, c2⟩]
              clear hlz c2
              have hr2 := hr0.belo (hB1.trans (hb2.mono hB1.size))
              obtain ⟨ba, bo, hA⟩ := hr2.addr3 (fun e => by rw [e] at hlt; simp at hlt)
              subst hA
              obtain ⟨ad, ead, rb⟩ := hr2.rd.at_ (i := at_) hlt
              injection ead with ead
              subst ead
              rw [Addr.add_lit] at rb
              have bt := Blk.new w3 45 #[.int .i64 ((0 : Nat) : Int), .int .i64 ((0 : Nat) : Int), .int .u8 (bs.getD at_ 0)]
              have ho2' := own3_kept ho2 ((Same.refl (S := fun _ => False) w3).alloc (.cells #[.int .i64 ((0 : Nat) : Int), .int .i64 ((0 : Nat) : Int), .int .u8 (bs.getD at_ 0)] 45))
              have hz2 := hb2.size
              have hb3 := hb2.alloc hz2 (.cells #[.int .i64 ((0 : Nat) : Int), .int .i64 ((0 : Nat) : Int), .int .u8 (bs.getD at_ 0)] 45)
              have hstep := tokL_byte hlt hln
              have HSTEP := Lib.hid hstep
              have HT := Lib.hid htok
              have hbs : bs.getD at_ 0 = bs.getD at_ 0 := rfl
              clear hstep htok hbs hln ho
              generalize bs.getD at_ 0 = bb at *
              go_wp2_with (at_builtin; refine wpList_tok w1.heap.size rfl (.tmp 72) (.tmp 78) 36 45 (w3).heap.size rfl Try.underlying36 Try.tokinfo _ acc ⟨0, 0, bb⟩ rfl rfl bt ho2' hb3.size (by omega) ?_; intro v9 w9 ho9 hs9 _)
              have hb9 := hs9.below_of hb3 hb3.size (fun k hk e => by have := own3_ge ho2' k e; omega)
              go_roundg (gk - 1)
              case measure => omega
              case rel => exact ⟨⟨at_ + 1, acc ++ [⟨0, 0, bb⟩], by omega, by simp; omega, by omega, by go_num, by rw [HT.out, HSTEP.out, List.append_assoc]; rfl, ho9, hb9⟩⟩
            · have e5 : decide (n1 < n2) = false := by simpa using c2
              have hln : lazyN bs M far chain G true at_ = n1 := by rw [hlz, if_neg (fun c => c2 c.2.2.2)]
              clear hlz c2
              have bt := Blk.new w3 45 #[.int .i64 (n1 : Int), .int .i64 (d1 : Int), .int .u8 0]
              have ho2' := own3_kept ho2 ((Same.refl (S := fun _ => False) w3).alloc (.cells #[.int .i64 (n1 : Int), .int .i64 (d1 : Int), .int .u8 0] 45))
              have hz2 := hb2.size
              have hb3 := hb2.alloc hz2 (.cells #[.int .i64 (n1 : Int), .int .i64 (d1 : Int), .int .u8 0] 45)
              have hstep := tokL_match hlt hln hn0
              rw [hd1'] at hstep
              have HSTEP := Lib.hid hstep
              have HT := Lib.hid htok
              have en0 : ((n1 : Int) == 0) = false := by simp; omega
              have en1 : (n1 == 0) = false := by simp; omega
              clear hstep htok hln hd1' ho
              go_wp2_with (at_builtin; refine wpList_tok w1.heap.size rfl (.tmp 82) (.tmp 86) 36 45 (w3).heap.size rfl Try.underlying36 Try.tokinfo _ acc ⟨n1, d1, 0⟩ rfl rfl bt ho2' hb3.size (by omega) ?_; intro v9 w9 ho9 hs9 _)
              have hb9 := hs9.below_of hb3 hb3.size (fun k hk e => by have := own3_ge ho2' k e; omega)
              go_roundg (gk - n1)
              case measure => omega
              case rel => exact ⟨⟨at_ + n1, acc ++ [⟨n1, d1, 0⟩], by omega, by simp; omega, by omega, by go_num, by rw [HT.out, HSTEP.out, List.append_assoc]; rfl, ho9, hb9⟩⟩
          · have e4 : decide ((n1 : Int) < G) = false := by simpa using c1
            have hln : lazyN bs M far chain G true at_ = n1 := by rw [hlz, if_neg (fun c => c1 c.2.2.1)]
            clear hlz c1
            have bt := Blk.new w2 45 #[.int .i64 (n1 : Int), .int .i64 (d1 : Int), .int .u8 0]
            have ho2' := own3_kept ho2 ((Same.refl (S := fun _ => False) w2).alloc (.cells #[.int .i64 (n1 : Int), .int .i64 (d1 : Int), .int .u8 0] 45))
            have hz2 := hb2.size
            have hb3 := hb2.alloc hz2 (.cells #[.int .i64 (n1 : Int), .int .i64 (d1 : Int), .int .u8 0] 45)
            have hstep := tokL_match hlt hln hn0
            rw [hd1'] at hstep
            have HSTEP := Lib.hid hstep
            have HT := Lib.hid htok
            have en0 : ((n1 : Int) == 0) = false := by simp; omega
            have en1 : (n1 == 0) = false := by simp; omega
            clear hstep htok hln hd1' ho
            go_wp2_with (at_builtin; refine wpList_tok w1.heap.size rfl (.tmp 82) (.tmp 86) 36 45 (w2).heap.size rfl Try.underlying36 Try.tokinfo _ acc ⟨n1, d1, 0⟩ rfl rfl bt ho2' hb3.size (by omega) ?_; intro v9 w9 ho9 hs9 _)
            have hb9 := hs9.below_of hb3 hb3.size (fun k hk e => by have := own3_ge ho2' k e; omega)
            go_roundg (gk - n1)
            case measure => omega
            case rel => exact ⟨⟨at_ + n1, acc ++ [⟨n1, d1, 0⟩], by omega, by simp; omega, by omega, by go_num, by rw [HT.out, HSTEP.out, List.append_assoc]; rfl, ho9, hb9⟩⟩
      · have hn0 : n1 = 0 := by omega
        subst hn0
        have hln : lazyN bs M far chain G lazy at_ = 0 := by rw [hlz, if_neg (fun c => c0 c.1)]
        clear hlz c0
        have hr2 := hr0.belo (hB1.trans (hb2.mono hB1.size))
        obtain ⟨ba, bo, hA⟩ := hr2.addr3 (fun e => by rw [e] at hlt; simp at hlt)
        subst hA
        obtain ⟨ad, ead, rb⟩ := hr2.rd.at_ (i := at_) hlt
        injection ead with ead
        subst ead
        rw [Addr.add_lit] at rb
        have bt := Blk.new w2 45 #[.int .i64 ((0 : Nat) : Int), .int .i64 ((0 : Nat) : Int), .int .u8 (bs.getD at_ 0)]
        have ho2' := own3_kept ho2 ((Same.refl (S := fun _ => False) w2).alloc (.cells #[.int .i64 ((0 : Nat) : Int), .int .i64 ((0 : Nat) : Int), .int .u8 (bs.getD at_ 0)] 45))
        have hz2 := hb2.size
        have hb3 := hb2.alloc hz2 (.cells #[.int .i64 ((0 : Nat) : Int), .int .i64 ((0 : Nat) : Int), .int .u8 (bs.getD at_ 0)] 45)
        have hstep := tokL_byte hlt hln
        have HSTEP := Lib.hid hstep
        have HT := Lib.hid htok
        have hbs : bs.getD at_ 0 = bs.getD at_ 0 := rfl
        clear hstep htok hbs hln ho
        generalize bs.getD at_ 0 = bb at *
        go_wp2_with (at_builtin; refine wpList_tok w1.heap.size rfl (.tmp 72) (.tmp 78) 36 45 (w2).heap.size rfl Try.underlying36 Try.tokinfo _ acc ⟨0, 0, bb⟩ rfl rfl bt ho2' hb3.size (by omega) ?_; intro v9 w9 ho9 hs9 _)
        have hb9 := hs9.below_of hb3 hb3.size (fun k hk e => by have := own3_ge ho2' k e; omega)
        go_roundg (gk - 1)
        case measure => omega
        case rel => exact ⟨⟨at_ + 1, acc ++ [⟨0, 0, bb⟩], by omega, by simp; omega, by omega, by go_num, by rw [HT.out, HSTEP.out, List.append_assoc]; rfl, ho9, hb9⟩⟩
    · have e1 : decide (at_ < bs.length) = false := by simpa using hlt
      rw [tokL_end (at_ := at_) (by omega), List.append_nil] at htok
      rw [← htok] at ho
      go_wp2_with fail
      go_ret
      exact ⟨_, w1.heap.size, rfl, by omega, ho, (hB0.trans (hB1.mono hz0)).trans (hb.mono (by omega))⟩
end Go.Proofs.Ytnnjpbghnfohaaa
