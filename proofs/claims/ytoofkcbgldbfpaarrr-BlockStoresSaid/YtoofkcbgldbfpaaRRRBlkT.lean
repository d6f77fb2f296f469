import Derived.Test.YtoofkcbgldbfpaaRRRBitY
import Derived.Test.YtoofkcbgldbfpaaRRRBlkF
namespace Go.Proofs.YtoofkcbgldbfpaaRRR
set_option linter.unusedVariables false
set_option linter.unusedSimpArgs false
open Go.RowKit
attribute [local go_sem] max2i min2i max2t min2t

def finN (b : Bool) : Int := if b then 1 else 0
/-- A stored block. -/
def blkT (t b : List Int) (fin : Bool) : List Int := alignT (t ++ [finN fin] ++ [0, 0]) ++ bitT (b.length : Nat) 16 ++ bitT ((65535 - b.length : Nat) : Int) 16 ++ ofB b
def storeT (last : Bool) : Nat → List Int → List Int → List Int
  | 0, t, b => blkT t b last
  | f + 1, t, b => if b.length ≤ 65535 then blkT t b last else storeT last f (blkT t (b.take 65535) false) (b.drop 65535)
theorem storeT_small (last : Bool) (f : Nat) (t b : List Int) (h : b.length ≤ 65535) : storeT last f t b = blkT t b last := by
  cases f with
  | zero => rfl
  | succ f => rw [storeT, if_pos h]
theorem blkT_length (t b : List Int) (fin : Bool) : (blkT t b fin).length ≤ t.length + 8 * b.length + 42 := by
  unfold blkT
  rw [List.length_append, List.length_append, List.length_append, bitT_length, bitT_length, ofB_length, alignT_length]
  simp
  omega
theorem RowOf.take_ {w : World} {k : IntKind} {A : Option Addr} {c : Nat} {xs : List Int} (h : RowOf w k A c xs) (n : Nat) : RowOf w k A c (xs.take n) :=
  ⟨h.rd.take n, by have := h.cap; rw [List.length_take]; omega, h.most, fun x hx => h.wf x (List.mem_of_mem_take hx), h.nil⟩
theorem RowOf.drop_ {w : World} {k : IntKind} {A : Option Addr} {c : Nat} {xs : List Int} (h : RowOf w k A c xs) (n : Nat) (hn : n ≤ xs.length) : RowOf w k (if c = n then A else A.map (fun x => x.add n)) (c - n) (xs.drop n) := by
  have hc := h.cap
  refine ⟨fun i x hx => ?_, by rw [List.length_drop]; omega, by have := h.most; omega, fun x hx => h.wf x (List.mem_of_mem_drop hx), fun e => ?_⟩
  · rw [List.getElem?_drop] at hx
    obtain ⟨ad, e, hcell⟩ := h.rd _ x hx
    have hlt := (List.getElem?_eq_some_iff.1 hx).1
    rw [if_neg (by omega)]
    refine ⟨ad.add n, by rw [e]; rfl, ?_⟩
    rw [Go.Deep.add_add]; exact hcell
  · split at e
    · have := h.nil e; omega
    · cases hA : A with
      | none => have := h.nil hA; omega
      | some ad => rw [hA] at e; cases e
theorem RowOf.addr {w : World} {k : IntKind} {A : Option Addr} {c : Nat} {xs : List Int} (h : RowOf w k A c xs) (hx : xs ≠ []) : ∃ b o, A = some ⟨b, o, none⟩ := by
  have h0 : 0 < xs.length := List.length_pos_iff.2 hx
  obtain ⟨ad, e, hc⟩ := h.rd 0 _ (List.getElem?_eq_getElem h0)
  have hs := (cell_plain hc).2 rfl
  exact ⟨ad.block, ad.off, by rw [e]; cases ad; simp at hs; subst hs; rfl⟩
set_option maxHeartbeats 1600000 in
set_option maxRecDepth 100000 in
theorem blk_bit (b : Bool) (w : World) : Calls Try.prog 30 #[.bool b] w fun e w' => e = .returned (.int .u32 (finN b)) ∧ w' = w := by
  cases b with
  | true =>
    go_enter Try.func30, Try.ntmps30
    go_wp2_with fail
    go_ret
    exact ⟨rfl, rfl⟩
  | false =>
    go_enter Try.func30, Try.ntmps30
    go_wp2_with fail
    go_ret
    exact ⟨rfl, rfl⟩
theorem xor_65535 {n : Nat} (h : n ≤ 65535) : bits .xor .u32 (n : Int) 65535 = ((65535 - n : Nat) : Int) := by
  have key : ∀ m : Nat, m < 65536 → m ^^^ 65535 = 65535 - m := fun m hm => by
    apply Nat.eq_of_testBit_eq
    intro i
    rw [Nat.testBit_xor, show 65535 = 2 ^ 16 - 1 from rfl, Nat.testBit_two_pow_sub_one]
    have h2 : 2 ^ 16 - 1 - m = 2 ^ 16 - (m + 1) := by omega
    rw [h2, Nat.testBit_two_pow_sub_succ (by omega)]
    by_cases hi : i < 16
    · simp [hi]
    · have : m.testBit i = false := Nat.testBit_lt_two_pow (Nat.lt_of_lt_of_le hm (Nat.pow_le_pow_right (n := 2) (by decide) (show 16 ≤ i by omega)))
      simp [hi, this]
  show IntKind.u32.wrap ((BitVec.ofInt 32 (n : Int) ^^^ BitVec.ofInt 32 65535).toNat : Int) = _
  have e1 : (BitVec.ofInt 32 (n : Int)).toNat = n := by rw [BitVec.ofInt_natCast, BitVec.toNat_ofNat]; exact Nat.mod_eq_of_lt (by omega)
  have e2 : (BitVec.ofInt 32 (65535 : Int)).toNat = 65535 := by decide
  rw [BitVec.toNat_xor, e1, e2, key n (by omega), IntKind.wrap_u32]
  omega
theorem blk_lens (t : List Int) (f : Int) (n m : Nat) : (alignT (t ++ [f] ++ [0, 0])).length ≤ t.length + 10 ∧ (alignT (t ++ [f] ++ [0, 0]) ++ bitT n 16).length ≤ t.length + 26 ∧ (alignT (t ++ [f] ++ [0, 0]) ++ bitT n 16 ++ bitT m 16).length ≤ t.length + 42 ∧ (alignT (t ++ [f] ++ [0, 0]) ++ bitT n 16 ++ bitT m 16).length % 8 = 0 := by
  simp only [List.length_append, bitT_length, alignT_length, List.length_cons, List.length_nil]
  omega
structure StRel (w : World) (base p : Nat) (v : Value) (last : Bool) (R : List Int) (bound : Nat) (A0 : Option Addr) (g : Nat) (v1 : Value) (wr : World) : Prop where mk ::
  out_ : ∃ (f : Nat) (t b : List Int) (v' : Value) (A : Option Addr) (c : Nat), v1 = .slice A b.length c ∧ RowOf wr .u8 A c b ∧ WrTo w wr base p v v' t ∧ b.length ≤ 65535 * (f + 1) ∧ f ≤ g ∧ storeT last f t b = R ∧ t.length + 9 * b.length ≤ bound ∧
    (∀ ad, A = some ad → b ≠ [] → ∃ ad0, A0 = some ad0 ∧ ad.block = ad0.block)
set_option maxHeartbeats 1600000 in
set_option maxRecDepth 100000 in
theorem blk_store {base p : Nat} {v : Value} {t : List Int} {w : World} {A : Option Addr} {c : Nat} {bs : List Int} (last : Bool) (h : WrAt w base p v t) (hr : RowOf w .u8 A c bs)
    (hA : ∀ ad, A = some ad → bs ≠ [] → ad.block ≠ p ∧ v.ownBlock ≠ some ad.block) (hbase : base ≤ w.heap.size) (hl : t.length + 9 * bs.length + 1000 ≤ 1099511627776) :
    Calls Try.prog 19 #[.pointer (some ⟨p, 0, none⟩), .slice A bs.length c, .bool last] w fun e w' => e = .returned (.tuple #[]) ∧ ∃ v', WrTo w w' base p v v' (storeT last bs.length t bs) := by
  cases last with
  | true =>
    have hA' : ∀ ad0, A = some ad0 → bs ≠ [] → ad0.block ≠ p ∧ v.ownBlock ≠ some ad0.block ∧ ad0.block < w.heap.size := fun ad e hne => ⟨(hA ad e hne).1, (hA ad e hne).2, hr.lt hne ad e⟩
    have HA := Lib.hid hA'
    have hF : bs.length ≤ 65535 * (bs.length + 1) := by omega
    have HR := Lib.hid (show storeT true bs.length t bs = storeT true bs.length t bs from rfl)
    generalize hRR : storeT true bs.length t bs = R at *
    have HRR := Lib.hid hRR
    clear hRR hA hA' HR
    have hAbs : bs = [] → ∀ ad, A = some ad → True := fun _ _ _ => trivial
    go_enter Try.func19, Try.ntmps19
    go_wp2_with fail
    go_loopg [1] bs.length (StRel w base p v true R (t.length + 9 * bs.length) (if bs = [] then none else A))
    case atStart => exact ⟨bs.length, t, bs, v, A, c, rfl, hr, WrTo.refl h, hF, Nat.le_refl _, HRR.out, Nat.le_refl _, fun ad e hne => ⟨ad, by rw [if_neg hne]; exact e, rfl⟩⟩
    case round =>
      clear hr h hF hAbs
      obtain ⟨f, t1, b, v1, A1, c1, rfl, hr, hw, hlen, hfg, hst, hbd, had⟩ := hrel
      have hm := hr.most
      have hcap := hr.cap
      have hz := hw.size
      have hst2 := Lib.hid hst
      have hblk : ∀ ad, A1 = some ad → b ≠ [] → ad.block ≠ p ∧ v.ownBlock ≠ some ad.block ∧ ad.block < w.heap.size := fun ad e hne => by
        obtain ⟨ad0, e0, eb⟩ := had ad e hne
        by_cases hbs : bs = []
        · rw [if_pos hbs] at e0; cases e0
        · rw [if_neg hbs] at e0; rw [eb]; exact HA.out ad0 e0 hbs
      clear hst
      by_cases hsm : b.length ≤ 65535
      · have hmin : min (b.length : Int) 65535 = b.length := by omega
        have hmin2 : min b.length 65535 = b.length := by omega
        have heq : ((b.length : Int) == b.length) = true := by simp
        have hnb : b.length ≤ 65535 := hsm
        have hres : R = blkT t1 b true := by rw [← hst2.out]; exact storeT_small true f t1 b hsm
        have HRES := Lib.hid hres
        clear hres
        have hx : bits .xor .u32 ((b.length : Nat) : Int) 65535 = ((65535 - b.length : Nat) : Int) := xor_65535 (n := b.length) (by omega)
        have hno : ∀ v2, (v2 : Value).ownBlock = v1.ownBlock ∨ (∃ g, v2.ownBlock = some g ∧ wr.heap.size ≤ g) → ∀ ad, A1 = some ad → b ≠ [] → ad.block ≠ p ∧ v2.ownBlock ≠ some ad.block := fun v2 h2 ad e hne => by
          obtain ⟨q1, q2, q3⟩ := hblk ad e hne
          refine ⟨q1, fun e2 => ?_⟩
          have key : v1.ownBlock = some ad.block → False := fun e3 => by
            rcases hw.own with e4 | ⟨g, e4, hg⟩
            · rw [e4] at e3; exact q2 e3
            · rw [e4] at e3; injection e3 with e3; omega
          rcases h2 with e3 | ⟨g, e3, hg⟩
          · rw [e3] at e2; exact key e2
          · rw [e3] at e2; injection e2 with e2; omega
        have HNO := Lib.hid hno
        clear hno hblk
        obtain ⟨l1, l2, l3, l4⟩ := blk_lens t1 (finN true) b.length (65535 - b.length)
        have HL4 := Lib.hid l4
        clear l4
        rw [show finN true = 1 from rfl] at l1 l2 l3 HL4
        go_wp2_with fail
        refine (blk_bit true _).mono ?_
        rintro e w2 ⟨rfl, hww⟩
        subst hww
        rw [show finN true = 1 from rfl]
        go_wp2_with fail
        refine (wr_put 1 1 hw.at_ (Nat.le_trans hbase hz) (by omega) (by omega) (by omega)).mono ?_
        rintro e w3 ⟨rfl, v3, h3⟩
        rw [show putT 1 1 = [1] from rfl] at h3
        go_wp2_with fail
        refine (wr_put 0 2 h3.at_ (Nat.le_trans hbase (Nat.le_trans hz h3.size)) (by omega) (by omega) (by rw [List.length_append]; simp; omega)).mono ?_
        rintro e w4 ⟨rfl, v4, h4⟩
        rw [show putT 0 2 = [0, 0] from rfl] at h4
        have h4 := h3.trans h4
        clear h3
        go_wp2_with fail
        refine (wr_align h4.at_ (by simp; omega)).mono ?_
        rintro e w5 ⟨rfl, h5⟩
        have h5 := h4.trans h5
        clear h4
        have hz5 := h5.size
        go_wp2_with fail
        refine (wr_put _ _ h5.at_ (by omega) (by omega) (by omega) (by omega)).mono ?_
        rintro e w6 ⟨rfl, v6, h6⟩
        have e16 : putT ((b.length : Nat) : Int) 16 = bitT (b.length : Nat) 16 := putT_ok _ (n := 16) (by omega) (by omega)
        rw [e16] at h6
        clear e16
        have h6 := h5.trans h6
        clear h5
        have hz6 := h6.size
        go_wp2_with fail
        refine (wr_put _ _ h6.at_ (by omega) (by omega) (by omega) (by omega)).mono ?_
        rintro e w7 ⟨rfl, v7, h7⟩
        have e16 : putT ((65535 - b.length : Nat) : Int) 16 = bitT ((65535 - b.length : Nat) : Int) 16 := putT_ok _ (n := 16) (by omega) (by omega)
        rw [e16] at h7
        clear e16
        have h7 := h6.trans h7
        clear h6
        have hz7 := h7.size
        have hr7 : RowOf w7 .u8 A1 c1 b := by
          by_cases hbe : b = []
          · subst hbe; exact hr.empty
          · exact hr.same h7.same (fun ad e => by have h9 := HNO.out v1 (.inl rfl) ad e hbe; rintro (h | h); exact h9.1 h; exact h9.2 h)
        go_wp2_with fail
        refine (wr_raw h7.at_ hr7 (HNO.out v7 h7.own) (by omega) (by omega)).mono ?_
        rintro e w8 ⟨rfl, v8, h8⟩
        rw [alignT_of HL4.out] at h8
        have h8 := hw.trans (h7.trans h8)
        clear h7
        go_wp2_with fail
        all_goals
          ((try simp only [Exit.inBlock, Exit.then]); first | refine bodyPost_end (results_none rfl _ _ _) rfl ?_ | refine bodyPost_ret (results_none rfl _ _ _) rfl ?_)
          exact ⟨rfl, v8, by rw [HRES.out]; exact h8⟩
      · have hmin : min (b.length : Int) 65535 = 65535 := by omega
        have hmin2 : min b.length 65535 = 65535 := by omega
        have heq : ((65535 : Int) == b.length) = false := by rw [beq_eq_false_iff_ne]; omega
        have hnb : 65535 < b.length := by omega
        obtain ⟨f, rfl⟩ : ∃ f', f = f' + 1 := ⟨f - 1, by omega⟩
        obtain ⟨bb, oo, rfl⟩ := hr.addr (fun h => by rw [h] at hnb; simp at hnb)
        have hstep : storeT true f (blkT t1 (b.take 65535) false) (b.drop 65535) = R := by rw [← hst2.out, storeT, if_neg (by omega)]
        have HSTEP := Lib.hid hstep
        clear hstep hst2 hsm
        have htk : (b.take 65535).length = 65535 := by rw [List.length_take]; omega
        have HTK := Lib.hid htk
        clear htk
        have hx : bits .xor .u32 (65535 : Int) 65535 = (0 : Int) := xor_65535 (n := 65535) (by omega)
        have hno : ∀ v2, (v2 : Value).ownBlock = v1.ownBlock ∨ (∃ g, v2.ownBlock = some g ∧ wr.heap.size ≤ g) → ∀ ad, (some (⟨bb, oo, none⟩ : Addr)) = some ad → b ≠ [] → ad.block ≠ p ∧ v2.ownBlock ≠ some ad.block := fun v2 h2 ad e hne => by
          obtain ⟨q1, q2, q3⟩ := hblk ad e hne
          refine ⟨q1, fun e2 => ?_⟩
          have key : v1.ownBlock = some ad.block → False := fun e3 => by
            rcases hw.own with e4 | ⟨g, e4, hg⟩
            · rw [e4] at e3; exact q2 e3
            · rw [e4] at e3; injection e3 with e3; omega
          rcases h2 with e3 | ⟨g, e3, hg⟩
          · rw [e3] at e2; exact key e2
          · rw [e3] at e2; injection e2 with e2; omega
        have HNO := Lib.hid hno
        clear hno hblk
        obtain ⟨l1, l2, l3, l4⟩ := blk_lens t1 (finN false) 65535 (65535 - 65535)
        have HL4 := Lib.hid l4
        clear l4
        rw [show finN false = 0 from rfl] at l1 l2 l3 HL4
        go_wp2_with fail
        refine (blk_bit false _).mono ?_
        rintro e w2 ⟨rfl, hww⟩
        subst hww
        rw [show finN false = 0 from rfl]
        go_wp2_with fail
        refine (wr_put 0 1 hw.at_ (Nat.le_trans hbase hz) (by omega) (by omega) (by omega)).mono ?_
        rintro e w3 ⟨rfl, v3, h3⟩
        rw [show putT 0 1 = [0] from rfl] at h3
        go_wp2_with fail
        refine (wr_put 0 2 h3.at_ (Nat.le_trans hbase (Nat.le_trans hz h3.size)) (by omega) (by omega) (by rw [List.length_append]; simp; omega)).mono ?_
        rintro e w4 ⟨rfl, v4, h4⟩
        rw [show putT 0 2 = [0, 0] from rfl] at h4
        have h4 := h3.trans h4
        clear h3
        go_wp2_with fail
        refine (wr_align h4.at_ (by simp; omega)).mono ?_
        rintro e w5 ⟨rfl, h5⟩
        have h5 := h4.trans h5
        clear h4
        have hz5 := h5.size
        go_wp2_with fail
        refine (wr_put _ _ h5.at_ (by omega) (by omega) (by omega) (by omega)).mono ?_
        rintro e w6 ⟨rfl, v6, h6⟩
        have e16 : putT (65535 : Int) 16 = bitT (65535 : Nat) 16 := putT_ok _ (n := 16) (by omega) (by omega)
        rw [e16] at h6
        clear e16
        have h6 := h5.trans h6
        clear h5
        have hz6 := h6.size
        go_wp2_with fail
        refine (wr_put _ _ h6.at_ (by omega) (by omega) (by omega) (by omega)).mono ?_
        rintro e w7 ⟨rfl, v7, h7⟩
        have e16 : putT (0 : Int) 16 = bitT ((65535 - 65535 : Nat) : Int) 16 := putT_ok _ (n := 16) (by omega) (by omega)
        rw [e16] at h7
        clear e16
        have h7 := h6.trans h7
        clear h6
        have hz7 := h7.size
        have hr7 : RowOf w7 .u8 (some (⟨bb, oo, none⟩ : Addr)) c1 b := by
          by_cases hbe : b = []
          · subst hbe; exact hr.empty
          · exact hr.same h7.same (fun ad e => by have h9 := HNO.out v1 (.inl rfl) ad e hbe; rintro (h | h); exact h9.1 h; exact h9.2 h)
        have hr8 := hr7.take_ 65535
        have hA8 : ∀ ad, (some (⟨bb, oo, none⟩ : Addr)) = some ad → b.take 65535 ≠ [] → ad.block ≠ p ∧ v7.ownBlock ≠ some ad.block := fun ad e hne => HNO.out v7 h7.own ad e (fun h => by rw [h] at hne; exact hne rfl)
        have HRAW := Lib.hid (wr_raw h7.at_ hr8 hA8 (by omega) (by rw [HTK.out]; omega))
        rw [HTK.out, alignT_of HL4.out] at HRAW
        go_wp2_with fail
        refine HRAW.out.mono ?_
        rintro e w8 ⟨rfl, v8, h8⟩
        have h8' := h7.trans h8
        have h9 := hw.trans h8'
        have hr9 : RowOf w8 .u8 (some (⟨bb, oo, none⟩ : Addr)) c1 b := hr7.same h8.same (fun ad e => by have h9 := HNO.out v7 h7.own ad e (fun h => by rw [h] at hnb; simp at hnb); rintro (h | h); exact h9.1 h; exact h9.2 h)
        have hrd := hr9.drop_ 65535 (by omega)
        have hbl := blkT_length t1 (b.take 65535) false
        have htt : blkT t1 (b.take 65535) false = alignT (t1 ++ [0] ++ [0, 0]) ++ bitT ((65535 : Nat) : Int) 16 ++ bitT ((65535 - 65535 : Nat) : Int) 16 ++ ofB (b.take 65535) := by unfold blkT; rw [HTK.out]; rfl
        rw [← htt] at h9
        rw [HTK.out] at hbl
        have HTT := Lib.hid htt
        clear h7 h8 h8' hr7 hr8 hr9 htt HRAW
        have hbne : b ≠ [] := fun h => by rw [h] at hnb; simp at hnb
        have hdl : (b.drop 65535).length = b.length - 65535 := List.length_drop
        have HDL := Lib.hid hdl
        clear hdl
        by_cases hcc : c1 = 65535
        · omega
        · rw [if_neg hcc, Option.map_some, Addr.add_lit] at hrd
          have hc65 : 65535 ≤ c1 := by omega
          go_wp2_with fail
          go_roundg (gk - 1)
          case measure => omega
          case rel =>
            refine ⟨f, _, b.drop 65535, v8, some ⟨bb, oo + 65535, none⟩, c1 - 65535, ?_, hrd, h9, by rw [HDL.out]; omega, by omega, HSTEP.out, by rw [HDL.out]; omega, fun ad e _ => ?_⟩
            · rw [HDL.out]
            · obtain ⟨ad0, e0, eb⟩ := had _ rfl hbne
              refine ⟨ad0, e0, ?_⟩
              injection e with e
              subst e
              exact eb
  | false =>
    have hA' : ∀ ad0, A = some ad0 → bs ≠ [] → ad0.block ≠ p ∧ v.ownBlock ≠ some ad0.block ∧ ad0.block < w.heap.size := fun ad e hne => ⟨(hA ad e hne).1, (hA ad e hne).2, hr.lt hne ad e⟩
    have HA := Lib.hid hA'
    have hF : bs.length ≤ 65535 * (bs.length + 1) := by omega
    have HR := Lib.hid (show storeT false bs.length t bs = storeT false bs.length t bs from rfl)
    generalize hRR : storeT false bs.length t bs = R at *
    have HRR := Lib.hid hRR
    clear hRR hA hA' HR
    have hAbs : bs = [] → ∀ ad, A = some ad → True := fun _ _ _ => trivial
    go_enter Try.func19, Try.ntmps19
    go_wp2_with fail
    go_loopg [1] bs.length (StRel w base p v false R (t.length + 9 * bs.length) (if bs = [] then none else A))
    case atStart => exact ⟨bs.length, t, bs, v, A, c, rfl, hr, WrTo.refl h, hF, Nat.le_refl _, HRR.out, Nat.le_refl _, fun ad e hne => ⟨ad, by rw [if_neg hne]; exact e, rfl⟩⟩
    case round =>
      clear hr h hF hAbs
      obtain ⟨f, t1, b, v1, A1, c1, rfl, hr, hw, hlen, hfg, hst, hbd, had⟩ := hrel
      have hm := hr.most
      have hcap := hr.cap
      have hz := hw.size
      have hst2 := Lib.hid hst
      have hblk : ∀ ad, A1 = some ad → b ≠ [] → ad.block ≠ p ∧ v.ownBlock ≠ some ad.block ∧ ad.block < w.heap.size := fun ad e hne => by
        obtain ⟨ad0, e0, eb⟩ := had ad e hne
        by_cases hbs : bs = []
        · rw [if_pos hbs] at e0; cases e0
        · rw [if_neg hbs] at e0; rw [eb]; exact HA.out ad0 e0 hbs
      clear hst
      by_cases hsm : b.length ≤ 65535
      · have hmin : min (b.length : Int) 65535 = b.length := by omega
        have hmin2 : min b.length 65535 = b.length := by omega
        have heq : ((b.length : Int) == b.length) = true := by simp
        have hnb : b.length ≤ 65535 := hsm
        have hres : R = blkT t1 b false := by rw [← hst2.out]; exact storeT_small false f t1 b hsm
        have HRES := Lib.hid hres
        clear hres
        have hx : bits .xor .u32 ((b.length : Nat) : Int) 65535 = ((65535 - b.length : Nat) : Int) := xor_65535 (n := b.length) (by omega)
        have hno : ∀ v2, (v2 : Value).ownBlock = v1.ownBlock ∨ (∃ g, v2.ownBlock = some g ∧ wr.heap.size ≤ g) → ∀ ad, A1 = some ad → b ≠ [] → ad.block ≠ p ∧ v2.ownBlock ≠ some ad.block := fun v2 h2 ad e hne => by
          obtain ⟨q1, q2, q3⟩ := hblk ad e hne
          refine ⟨q1, fun e2 => ?_⟩
          have key : v1.ownBlock = some ad.block → False := fun e3 => by
            rcases hw.own with e4 | ⟨g, e4, hg⟩
            · rw [e4] at e3; exact q2 e3
            · rw [e4] at e3; injection e3 with e3; omega
          rcases h2 with e3 | ⟨g, e3, hg⟩
          · rw [e3] at e2; exact key e2
          · rw [e3] at e2; injection e2 with e2; omega
        have HNO := Lib.hid hno
        clear hno hblk
        obtain ⟨l1, l2, l3, l4⟩ := blk_lens t1 (finN false) b.length (65535 - b.length)
        have HL4 := Lib.hid l4
        clear l4
        rw [show finN false = 0 from rfl] at l1 l2 l3 HL4
        go_wp2_with fail
        refine (blk_bit false _).mono ?_
        rintro e w2 ⟨rfl, hww⟩
        subst hww
        rw [show finN false = 0 from rfl]
        go_wp2_with fail
        refine (wr_put 0 1 hw.at_ (Nat.le_trans hbase hz) (by omega) (by omega) (by omega)).mono ?_
        rintro e w3 ⟨rfl, v3, h3⟩
        rw [show putT 0 1 = [0] from rfl] at h3
        go_wp2_with fail
        refine (wr_put 0 2 h3.at_ (Nat.le_trans hbase (Nat.le_trans hz h3.size)) (by omega) (by omega) (by rw [List.length_append]; simp; omega)).mono ?_
        rintro e w4 ⟨rfl, v4, h4⟩
        rw [show putT 0 2 = [0, 0] from rfl] at h4
        have h4 := h3.trans h4
        clear h3
        go_wp2_with fail
        refine (wr_align h4.at_ (by simp; omega)).mono ?_
        rintro e w5 ⟨rfl, h5⟩
        have h5 := h4.trans h5
        clear h4
        have hz5 := h5.size
        go_wp2_with fail
        refine (wr_put _ _ h5.at_ (by omega) (by omega) (by omega) (by omega)).mono ?_
        rintro e w6 ⟨rfl, v6, h6⟩
        have e16 : putT ((b.length : Nat) : Int) 16 = bitT (b.length : Nat) 16 := putT_ok _ (n := 16) (by omega) (by omega)
        rw [e16] at h6
        clear e16
        have h6 := h5.trans h6
        clear h5
        have hz6 := h6.size
        go_wp2_with fail
        refine (wr_put _ _ h6.at_ (by omega) (by omega) (by omega) (by omega)).mono ?_
        rintro e w7 ⟨rfl, v7, h7⟩
        have e16 : putT ((65535 - b.length : Nat) : Int) 16 = bitT ((65535 - b.length : Nat) : Int) 16 := putT_ok _ (n := 16) (by omega) (by omega)
        rw [e16] at h7
        clear e16
        have h7 := h6.trans h7
        clear h6
        have hz7 := h7.size
        have hr7 : RowOf w7 .u8 A1 c1 b := by
          by_cases hbe : b = []
          · subst hbe; exact hr.empty
          · exact hr.same h7.same (fun ad e => by have h9 := HNO.out v1 (.inl rfl) ad e hbe; rintro (h | h); exact h9.1 h; exact h9.2 h)
        go_wp2_with fail
        refine (wr_raw h7.at_ hr7 (HNO.out v7 h7.own) (by omega) (by omega)).mono ?_
        rintro e w8 ⟨rfl, v8, h8⟩
        rw [alignT_of HL4.out] at h8
        have h8 := hw.trans (h7.trans h8)
        clear h7
        go_wp2_with fail
        all_goals
          ((try simp only [Exit.inBlock, Exit.then]); first | refine bodyPost_end (results_none rfl _ _ _) rfl ?_ | refine bodyPost_ret (results_none rfl _ _ _) rfl ?_)
          exact ⟨rfl, v8, by rw [HRES.out]; exact h8⟩
      · have hmin : min (b.length : Int) 65535 = 65535 := by omega
        have hmin2 : min b.length 65535 = 65535 := by omega
        have heq : ((65535 : Int) == b.length) = false := by rw [beq_eq_false_iff_ne]; omega
        have hnb : 65535 < b.length := by omega
        obtain ⟨f, rfl⟩ : ∃ f', f = f' + 1 := ⟨f - 1, by omega⟩
        obtain ⟨bb, oo, rfl⟩ := hr.addr (fun h => by rw [h] at hnb; simp at hnb)
        have hstep : storeT false f (blkT t1 (b.take 65535) false) (b.drop 65535) = R := by rw [← hst2.out, storeT, if_neg (by omega)]
        have HSTEP := Lib.hid hstep
        clear hstep hst2 hsm
        have htk : (b.take 65535).length = 65535 := by rw [List.length_take]; omega
        have HTK := Lib.hid htk
        clear htk
        have hx : bits .xor .u32 (65535 : Int) 65535 = (0 : Int) := xor_65535 (n := 65535) (by omega)
        have hno : ∀ v2, (v2 : Value).ownBlock = v1.ownBlock ∨ (∃ g, v2.ownBlock = some g ∧ wr.heap.size ≤ g) → ∀ ad, (some (⟨bb, oo, none⟩ : Addr)) = some ad → b ≠ [] → ad.block ≠ p ∧ v2.ownBlock ≠ some ad.block := fun v2 h2 ad e hne => by
          obtain ⟨q1, q2, q3⟩ := hblk ad e hne
          refine ⟨q1, fun e2 => ?_⟩
          have key : v1.ownBlock = some ad.block → False := fun e3 => by
            rcases hw.own with e4 | ⟨g, e4, hg⟩
            · rw [e4] at e3; exact q2 e3
            · rw [e4] at e3; injection e3 with e3; omega
          rcases h2 with e3 | ⟨g, e3, hg⟩
          · rw [e3] at e2; exact key e2
          · rw [e3] at e2; injection e2 with e2; omega
        have HNO := Lib.hid hno
        clear hno hblk
        obtain ⟨l1, l2, l3, l4⟩ := blk_lens t1 (finN false) 65535 (65535 - 65535)
        have HL4 := Lib.hid l4
        clear l4
        rw [show finN false = 0 from rfl] at l1 l2 l3 HL4
        go_wp2_with fail
        refine (blk_bit false _).mono ?_
        rintro e w2 ⟨rfl, hww⟩
        subst hww
        rw [show finN false = 0 from rfl]
        go_wp2_with fail
        refine (wr_put 0 1 hw.at_ (Nat.le_trans hbase hz) (by omega) (by omega) (by omega)).mono ?_
        rintro e w3 ⟨rfl, v3, h3⟩
        rw [show putT 0 1 = [0] from rfl] at h3
        go_wp2_with fail
        refine (wr_put 0 2 h3.at_ (Nat.le_trans hbase (Nat.le_trans hz h3.size)) (by omega) (by omega) (by rw [List.length_append]; simp; omega)).mono ?_
        rintro e w4 ⟨rfl, v4, h4⟩
        rw [show putT 0 2 = [0, 0] from rfl] at h4
        have h4 := h3.trans h4
        clear h3
        go_wp2_with fail
        refine (wr_align h4.at_ (by simp; omega)).mono ?_
        rintro e w5 ⟨rfl, h5⟩
        have h5 := h4.trans h5
        clear h4
        have hz5 := h5.size
        go_wp2_with fail
        refine (wr_put _ _ h5.at_ (by omega) (by omega) (by omega) (by omega)).mono ?_
        rintro e w6 ⟨rfl, v6, h6⟩
        have e16 : putT (65535 : Int) 16 = bitT (65535 : Nat) 16 := putT_ok _ (n := 16) (by omega) (by omega)
        rw [e16] at h6
        clear e16
        have h6 := h5.trans h6
        clear h5
        have hz6 := h6.size
        go_wp2_with fail
        refine (wr_put _ _ h6.at_ (by omega) (by omega) (by omega) (by omega)).mono ?_
        rintro e w7 ⟨rfl, v7, h7⟩
        have e16 : putT (0 : Int) 16 = bitT ((65535 - 65535 : Nat) : Int) 16 := putT_ok _ (n := 16) (by omega) (by omega)
        rw [e16] at h7
        clear e16
        have h7 := h6.trans h7
        clear h6
        have hz7 := h7.size
        have hr7 : RowOf w7 .u8 (some (⟨bb, oo, none⟩ : Addr)) c1 b := by
          by_cases hbe : b = []
          · subst hbe; exact hr.empty
          · exact hr.same h7.same (fun ad e => by have h9 := HNO.out v1 (.inl rfl) ad e hbe; rintro (h | h); exact h9.1 h; exact h9.2 h)
        have hr8 := hr7.take_ 65535
        have hA8 : ∀ ad, (some (⟨bb, oo, none⟩ : Addr)) = some ad → b.take 65535 ≠ [] → ad.block ≠ p ∧ v7.ownBlock ≠ some ad.block := fun ad e hne => HNO.out v7 h7.own ad e (fun h => by rw [h] at hne; exact hne rfl)
        have HRAW := Lib.hid (wr_raw h7.at_ hr8 hA8 (by omega) (by rw [HTK.out]; omega))
        rw [HTK.out, alignT_of HL4.out] at HRAW
        go_wp2_with fail
        refine HRAW.out.mono ?_
        rintro e w8 ⟨rfl, v8, h8⟩
        have h8' := h7.trans h8
        have h9 := hw.trans h8'
        have hr9 : RowOf w8 .u8 (some (⟨bb, oo, none⟩ : Addr)) c1 b := hr7.same h8.same (fun ad e => by have h9 := HNO.out v7 h7.own ad e (fun h => by rw [h] at hnb; simp at hnb); rintro (h | h); exact h9.1 h; exact h9.2 h)
        have hrd := hr9.drop_ 65535 (by omega)
        have hbl := blkT_length t1 (b.take 65535) false
        have htt : blkT t1 (b.take 65535) false = alignT (t1 ++ [0] ++ [0, 0]) ++ bitT ((65535 : Nat) : Int) 16 ++ bitT ((65535 - 65535 : Nat) : Int) 16 ++ ofB (b.take 65535) := by unfold blkT; rw [HTK.out]; rfl
        rw [← htt] at h9
        rw [HTK.out] at hbl
        have HTT := Lib.hid htt
        clear h7 h8 h8' hr7 hr8 hr9 htt HRAW
        have hbne : b ≠ [] := fun h => by rw [h] at hnb; simp at hnb
        have hdl : (b.drop 65535).length = b.length - 65535 := List.length_drop
        have HDL := Lib.hid hdl
        clear hdl
        by_cases hcc : c1 = 65535
        · omega
        · rw [if_neg hcc, Option.map_some, Addr.add_lit] at hrd
          have hc65 : 65535 ≤ c1 := by omega
          go_wp2_with fail
          go_roundg (gk - 1)
          case measure => omega
          case rel =>
            refine ⟨f, _, b.drop 65535, v8, some ⟨bb, oo + 65535, none⟩, c1 - 65535, ?_, hrd, h9, by rw [HDL.out]; omega, by omega, HSTEP.out, by rw [HDL.out]; omega, fun ad e _ => ?_⟩
            · rw [HDL.out]
            · obtain ⟨ad0, e0, eb⟩ := had _ rfl hbne
              refine ⟨ad0, e0, ?_⟩
              injection e with e
              subst e
              exact eb
end Go.Proofs.YtoofkcbgldbfpaaRRR
