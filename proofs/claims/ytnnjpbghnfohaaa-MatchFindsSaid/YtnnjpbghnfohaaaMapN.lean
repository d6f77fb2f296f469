import Derived.Test.YtnnjpbghnfohaaaMapI
import Derived.Deep.Cut
import Derived.Deep.DeepCutAuto
import Derived.Deep.CutBlock
import Derived.Deep.RegionWith
namespace Go.Proofs.Ytnnjpbghnfohaaa
set_option linter.unusedVariables false
set_option linter.unusedSimpArgs false
open Go.RowKit Go.MapKept
open Go.ChangeMaps (setBlock heap_setBlock_same)
attribute [local go_sem] max2i min2i max2t min2t

section
variable {P : Program} {ops : Array Oper} {o : Oper} {a : Act} {w : World} {K : Act → World → Prop} {Q : Exit → Act → World → Prop} {E : Prop}
/-- append(v, src...), integers, as one step of a region that draws. -/
theorem step_cat (k : IntKind) (base : Nat) (hgd : o.guard = none) (s x : Operand) (t e : TypeId) (bytes : Nat)
    (ho : o.op = .call { callee := .builtin .append, args := #[s, x], argTypes := #[t, t] })
    (ht : P.underlying t = some (.slice e)) (hinfo : (P.info? e).map (fun i => (i.zero, i.size, i.bytes)) = some (some (.int k 0), 1, bytes))
    (v : Value) (xs : List Int) (A : Option Addr) (n c : Nat) (ys : List Int) (hn : ys.length = n) (hs : a.eval s = v) (hx : a.eval x = .slice A n c) (HO : Own w base e v (ints k xs)) (hr : RdN w A (ints k ys)) (hnil : A = none → n = 0 ∧ c = 0) (hbase : base ≤ w.heap.size)
    (hlb : (xs.length + n) * bytes ≤ 140737488355328) (hlm : xs.length + n ≤ 140737488355328)
    (h : ∀ v1 w1, Own w1 base e v1 (ints k (xs ++ ys)) → Same (fun k => v.ownBlock = some k) w w1 → (v1.ownBlock = v.ownBlock ∨ v1.ownBlock = some w.heap.size) → K (a.put o.dst v1) w1) :
    if Region.wanted o (yielded ops a.tmps) = true then Oper.wp P o a w K Q else E := by
  have hw : Region.wanted o (yielded ops a.tmps) = true := by simp [Region.wanted, hgd]
  rw [if_pos hw]
  obtain ⟨i0, hi, hzz⟩ := Option.map_eq_some_iff.1 hinfo
  simp only [Prod.mk.injEq] at hzz
  obtain ⟨hz0, hz1, hz2⟩ := hzz
  subst hn
  have HO' : w.ownsRow base e 1 v xs.length (ints k xs) := by unfold Own at HO; rwa [ints_length] at HO
  cases A with
  | none =>
    obtain ⟨h1, rfl⟩ := hnil rfl
    have hy : ys = [] := List.eq_nil_of_length_eq_zero h1
    subst hy
    have hrun := run_append_owned_none (P := P) (w := w) base t o.type e i0 1 ht hi v xs.length (ints k xs) HO'
    unfold Oper.wp
    simp only [List.length_nil] at hx
    simp [execOp, ho, resolve, invoke, builtin, hs, hx, hrun, Result.andThen]
    exact h v w (by simpa using HO) (Same.refl w) (.inl rfl)
  | some ad =>
    obtain ⟨v', w', hr', h2, h3, h4, h5⟩ := run_append_own_at (P := P) w base t o.type e i0 (.int k 0) 1 bytes ht hi hz0 hz1 hz2 rfl (by omega) v xs.length (ints k xs) HO' ad ys.length c (ints k ys) (by simp [ints]) (fun j u hu => by
      obtain ⟨b, off, e, hc⟩ := hr j u hu
      injection e with e
      subst e
      rw [Addr.add_lit]
      exact hc) (ints_one _ _) (by simp only [maxLen]; omega) hlb hbase
    unfold Oper.wp execOp
    simp only [ho, resolve, invoke, builtin, Sem.run_bind, Sem.run_pure, Result.andThen_ok, List.map_toArray, List.map_cons, List.map_nil, hs, hx, hr']
    refine h v' w' ?_ ⟨h3.os, h3.tape, h3.output, h3.size, fun k hk hS => h3.block k hk (fun e => hS e.symm)⟩ h5
    unfold Own
    rw [ints_length, ints_append, List.length_append]
    exact h2
end
theorem Try.u8inf : (Try.prog.info? 5).map (fun i => (i.zero, i.size, i.bytes)) = some (some (.int .u8 0), 1, 1) := by kernel_rfl
theorem Try.intinfo : (Try.prog.info? 3).map (fun i => (i.zero, i.size, i.bytes)) = some (some (.int .i64 0), 1, 8) := by kernel_rfl
theorem RowOf.addr3 {w : World} {k : IntKind} {A : Option Addr} {c : Nat} {xs : List Int} (h : RowOf w k A c xs) (hx : xs ≠ []) : ∃ b o, A = some ⟨b, o, none⟩ := by
  have h0 : 0 < xs.length := List.length_pos_iff.2 hx
  obtain ⟨ad, e, hc⟩ := h.rd 0 _ (List.getElem?_eq_getElem h0)
  have hs := (cell_plain hc).2 rfl
  exact ⟨ad.block, ad.off, by rw [e]; cases ad; simp at hs; subst hs; rfl⟩
theorem getD_mem3 : ∀ (xs : List Int) (i : Nat) (d : Int), i < xs.length → xs.getD i d ∈ xs
  | x :: xs, 0, d, _ => by simp
  | x :: xs, i + 1, d, h => by
    rw [List.getD_cons_succ]
    exact List.mem_cons_of_mem _ (getD_mem3 xs i d (by simpa using h))
theorem Own.apart {w : World} {base base' : Nat} {e e' : TypeId} {v v' : Value} {xs ys : List Value} (h : Own w base e v xs) (h' : Own w base' e' v' ys) (hne : e ≠ e') {g : Nat} (hg : v.ownBlock = some g) : v'.ownBlock ≠ some g := fun hg' => by
  rcases h.2 with ⟨rfl, _⟩ | ⟨g1, c1, cur1, rfl, _, hh, _⟩
  · simp [Value.ownBlock] at hg
  · rcases h'.2 with ⟨rfl, _⟩ | ⟨g2, c2, cur2, rfl, _, hh', _⟩
    · simp [Value.ownBlock] at hg'
    · simp [Value.ownBlock] at hg hg'
      subst hg
      subst hg'
      rw [hh] at hh'
      injection hh' with hh'
      injection hh' with _ hh'
      exact hne hh'
structure FinB (w : World) (base f : Nat) (Af : Option Addr) (cf : Nat) (bs : List Int) (store lazy : Bool) (chain good : Int) (far most : Int) (m : Nat) : Prop where
  pb : Blk w f 48 #[.slice Af bs.length cf, .bool store, .int .i64 chain, .bool lazy, .int .i64 good, .int .i64 far, .int .i64 most, .map (some m)]
  own : Own w base 5 (.slice Af bs.length cf) (ints .u8 bs)
  fm : f ≠ m
  bf : base ≤ f
  bm : base ≤ m
theorem FinB.kept {w w' : World} {base f m cf : Nat} {Af : Option Addr} {bs : List Int} {store lazy : Bool} {chain good far most : Int} {S : Nat → Prop} (h : FinB w base f Af cf bs store lazy chain good far most m) (hs : Same S w w') (hf : ¬ S f)
    (hr : ∀ g, (Value.slice Af bs.length cf).ownBlock = some g → ¬ S g) : FinB w' base f Af cf bs store lazy chain good far most m :=
  ⟨h.pb.same hs hf, h.own.kept hs hr, h.fm, h.bf, h.bm⟩
structure FnMid (w : World) (bs : List Int) (store lazy : Bool) (chain good : Int) (s7 : Value) (wx : World) : Prop where mk ::
  out_ : ∃ f m Af cf, s7 = .pointer (some ⟨f, 0, none⟩) ∧ FinB wx w.heap.size f Af cf bs store lazy chain good 32768 258 m ∧ wx.heap[m]? = some (.map #[] 0) ∧ Below w.heap.size w wx
theorem FnMid.late {w wA w1 : World} {bs : List Int} {store lazy : Bool} {chain good : Int} {v0 : Value} {A1 : Option Addr} {c1 : Nat} (hb : Below w.heap.size w wA) (ho : Own w1 w.heap.size 5 (.slice A1 bs.length c1) (ints .u8 bs)) (hs : Same (fun k => v0.ownBlock = some k) wA w1)
    (h0 : ∀ k, v0.ownBlock = some k → w.heap.size ≤ k) (hz : w.heap.size ≤ wA.heap.size) :
    FnMid w bs store lazy chain good (.pointer (some ⟨w1.heap.size + 1, 0, none⟩)) ((w1.alloc (.map #[] 0)).alloc (.cells #[.slice A1 bs.length c1, .bool store, .int .i64 chain, .bool lazy, .int .i64 good, .int .i64 32768, .int .i64 258, .map (some w1.heap.size)] 48)) := by
  have hz1 := hs.size
  have hB1 := hs.below_of hb hz (fun k hk e => by have := h0 k e; omega)
  refine ⟨w1.heap.size + 1, w1.heap.size, A1, c1, rfl, ⟨?_, (ho.alloc _).alloc _, by omega, by omega, by omega⟩, ?_, (hB1.alloc (by omega) _).alloc (by simp; omega) _⟩
  · have := Blk.new (w1.alloc (.map #[] 0)) 48 #[.slice A1 bs.length c1, .bool store, .int .i64 chain, .bool lazy, .int .i64 good, .int .i64 32768, .int .i64 258, .map (some w1.heap.size)]
    rwa [show (w1.alloc (.map #[] 0)).heap.size = w1.heap.size + 1 from by simp] at this
  · exact (Below.heap_alloc _ _ w1.heap.size (by simp)).trans (heap_alloc_new w1 _)
theorem FnMid.early {w wA w1 : World} {m : Nat} {bs : List Int} {store lazy : Bool} {chain good : Int} {v0 : Value} {A1 : Option Addr} {c1 : Nat} (hb : Below w.heap.size w wA) (ho : Own w1 w.heap.size 5 (.slice A1 bs.length c1) (ints .u8 bs)) (hs : Same (fun k => v0.ownBlock = some k) wA w1)
    (h0 : ∀ k, v0.ownBlock = some k → w.heap.size ≤ k) (hz : w.heap.size ≤ wA.heap.size) (hm : wA.heap[m]? = some (.map #[] 0)) (hm0 : v0.ownBlock ≠ some m) (hbm : w.heap.size ≤ m) :
    FnMid w bs store lazy chain good (.pointer (some ⟨w1.heap.size, 0, none⟩)) (w1.alloc (.cells #[.slice A1 bs.length c1, .bool store, .int .i64 chain, .bool lazy, .int .i64 good, .int .i64 32768, .int .i64 258, .map (some m)] 48)) := by
  have hz1 := hs.size
  have hml := (Array.getElem?_eq_some_iff.1 hm).1
  have hB1 := hs.below_of hb hz (fun k hk e => by have := h0 k e; omega)
  have hm1 := (hs.block m hml hm0).trans hm
  refine ⟨w1.heap.size, m, A1, c1, rfl, ⟨Blk.new _ _ _, ho.alloc _, by omega, by omega, hbm⟩, ?_, hB1.alloc (by omega) _⟩
  exact (Below.heap_alloc _ _ m (by omega)).trans hm1
theorem FinB.set4 {w : World} {base f m cf : Nat} {Af : Option Addr} {bs : List Int} {store lazy : Bool} {chain good far most : Int} (h : FinB w base f Af cf bs store lazy chain good far most m) (g : Int) :
    FinB (w.setCell ⟨f, 4, none⟩ (.int .i64 g)) base f Af cf bs store lazy chain g far most m :=
  ⟨by simpa using h.pb.set_ 4 (.int .i64 g), h.own.kept ((Same.refl (S := fun k => k = f) w).set_ (p := ⟨f, 4, none⟩) (fun _ => rfl) _) (fun q hq e => h.own.blk_ne h.pb (by decide) (by rw [hq, e])), h.fm, h.bf, h.bm⟩
theorem FinB.set56 {w : World} {base f m cf : Nat} {Af : Option Addr} {bs : List Int} {store lazy : Bool} {chain good far most : Int} (h : FinB w base f Af cf bs store lazy chain good far most m) (x y : Int) :
    FinB ((w.setCell ⟨f, 5, none⟩ (.int .i64 x)).setCell ⟨f, 6, none⟩ (.int .i64 y)) base f Af cf bs store lazy chain good x y m :=
  ⟨by simpa using (h.pb.set_ 5 (.int .i64 x)).set_ 6 (.int .i64 y), h.own.kept (((Same.refl (S := fun k => k = f) w).set_ (p := ⟨f, 5, none⟩) (fun _ => rfl) _).set_ (p := ⟨f, 6, none⟩) (fun _ => rfl) _) (fun q hq e => h.own.blk_ne h.pb (by decide) (by rw [hq, e])), h.fm, h.bf, h.bm⟩
theorem MapE.at_ {w : World} {base m : Nat} {bs : List Int} {i : Nat} {es : Array MapEntry} {clock : Nat} (h : MapE w base m bs i es clock) {t : Int × Int × Int} {v0 : Value}
    (h0 : (∃ e0 ∈ es.toList, e0.key = key3 t ∧ v0 = e0.val) ∨ ((∀ x ∈ es.toList, x.key ≠ key3 t) ∧ v0 = .slice none 0 0)) : Own w base 3 v0 (ints .i64 (nats (poss bs i t))) := by
  rcases h0 with ⟨e0, he, hk, rfl⟩ | ⟨hno, rfl⟩
  · obtain ⟨u, _, b, c, _⟩ := h.rows e0 he
    have : u = t := key3_inj (b.symm.trans hk)
    subst this
    exact c
  · have : poss bs i t = [] := by
      unfold poss
      rw [List.filter_eq_nil_iff]
      intro p hp e
      rw [List.mem_range] at hp
      obtain ⟨x, hx, hxk⟩ := h.all p hp
      exact hno x hx (by rw [hxk, of_decide_eq_true e])
    rw [this]
    exact Own.nil _ _ _
theorem setBlock_size (w : World) (b : Nat) (o : Obj) : (setBlock w b o).heap.size = w.heap.size := by simp [setBlock]
section
variable {P : Program} {ops : Array Oper} {o : Oper} {a : Act} {w : World} {K : Act → World → Prop} {Q : Exit → Act → World → Prop} {E : Prop}
/-- append(v, y), y in a row of its own. -/
theorem step_cat1 (k : IntKind) (base : Nat) (hgd : o.guard = none) (s x : Operand) (t e e' : TypeId) (bytes : Nat)
    (ho : o.op = .call { callee := .builtin .append, args := #[s, x], argTypes := #[t, t] })
    (ht : P.underlying t = some (.slice e)) (hinfo : (P.info? e).map (fun i => (i.zero, i.size, i.bytes)) = some (some (.int k 0), 1, bytes))
    (v : Value) (xs : List Int) (g : Nat) (y : Int) (hs : a.eval s = v) (hx : a.eval x = .slice (some ⟨g, 0, none⟩) 1 1) (HO : Own w base e v (ints k xs)) (hb : Blk w g e' #[.int k y]) (hbase : base ≤ w.heap.size)
    (hlb : (xs.length + 1) * bytes ≤ 140737488355328) (hlm : xs.length + 1 ≤ 140737488355328)
    (h : ∀ v1 w1, Own w1 base e v1 (ints k (xs ++ [y])) → Same (fun k => v.ownBlock = some k) w w1 → (v1.ownBlock = v.ownBlock ∨ v1.ownBlock = some w.heap.size) → K (a.put o.dst v1) w1) :
    if Region.wanted o (yielded ops a.tmps) = true then Oper.wp P o a w K Q else E :=
  step_cat k base hgd s x t e bytes ho ht hinfo v xs (some ⟨g, 0, none⟩) 1 1 [y] rfl hs hx HO (fun j u hj => by
    cases j with
    | zero =>
      simp only [ints, List.map_cons, List.getElem?_cons_zero, Option.some.injEq] at hj
      subst hj
      exact ⟨g, 0, rfl, hb.cell 0⟩
    | succ j => simp [ints] at hj) (by simp) hbase hlb hlm h
end
structure FnRel (w0 : World) (f m : Nat) (Af : Option Addr) (cf : Nat) (bs : List Int) (store lazy : Bool) (chain good far most : Int) (gk : Nat) (s8 : Value) (wr : World) : Prop where mk ::
  out_ : ∃ i es clock, i ≤ bs.length - 2 ∧ gk = bs.length - 2 - i ∧ s8 = .int .i64 (i : Nat) ∧ FinB wr w0.heap.size f Af cf bs store lazy chain good far most m ∧ MapE wr w0.heap.size m bs i es clock ∧ Below w0.heap.size w0 wr
theorem Try.u25zero : ∀ u : World, (zeroValue 25).run Try.prog u = .ok (.slice none 0 0) u := fun u => by
  have hz : Try.t25.zero = some (.slice none 0 0) := by kernel_rfl
  simp [zeroValue, hz]
structure FinOk (w0 w : World) (f : Nat) (bs : List Int) (store lazy : Bool) (chain good far most : Int) : Prop where mk ::
  out_ : ∃ base m Af cf es clock, w0.heap.size ≤ base ∧ FinB w base f Af cf bs store lazy chain good far most m ∧ MapE w base m bs (bs.length - 2) es clock ∧ Below w0.heap.size w0 w
set_option maxHeartbeats 1600000 in
set_option maxRecDepth 100000 in
theorem match_new (A : Option Addr) (c : Nat) (bs : List Int) (store lazy wide : Bool) (chain good : Int) (w : World) (hr : RowOf w .u8 A c bs) (hl : bs.length ≤ 100000) :
    Calls Try.prog 10 #[.slice A bs.length c, .agg #[.bool store, .int .i64 chain, .bool lazy, .int .i64 good], .bool wide] w fun e w' => ∃ f, e = .returned (.pointer (some ⟨f, 0, none⟩)) ∧ FinOk w w' f bs store lazy chain (max good 1) (if wide then 65536 else 32768) (if wide then 65538 else 258) := by
  have hm := hr.most
  have hcap := hr.cap
  have hmm := @run_makeMap Try.prog
  have hB0 := (Below.refl w.heap.size w).alloc (Nat.le_refl _) (.cells #[.bool store, .int .i64 chain, .bool lazy, .int .i64 good] 24)
  have hr0 := hr.belo hB0
  have hbx := Blk.new w 24 #[.bool store, .int .i64 chain, .bool lazy, .int .i64 good]
  go_enter Try.func10, Try.ntmps10
  go_wp2_with fail
  generalize w.alloc (.cells #[.bool store, .int .i64 chain, .bool lazy, .int .i64 good] 24) = w0 at *
  go_upto_region 1 with fail
  go_cut [7] (fun s7 wx => FnMid w0 bs store lazy chain good s7 wx)
  case first =>
    have b0 := hbx.cell 0
    have b1 := hbx.cell 1
    have b2 := hbx.cell 2
    have b3 := hbx.cell 3
    have hz0 := hB0.size
    have bA1 : Below w0.heap.size w0 (w0.alloc (.cells #[] 5)) := (Below.refl _ _).alloc (Nat.le_refl _) _
    have bA2 : Below w0.heap.size w0 ((w0.alloc (.cells #[] 5)).alloc (.map #[] 0)) := bA1.alloc bA1.size _
    have bA3 : Below w0.heap.size w0 ((w0.alloc (.map #[] 0)).alloc (.cells #[] 5)) := ((Below.refl _ _).alloc (Nat.le_refl _) _).alloc (by simp) _
    have oA1 : Own (w0.alloc (.cells #[] 5)) w0.heap.size 5 (.slice (some ⟨w0.heap.size, 0, none⟩) 0 0) (ints .u8 []) := ⟨rfl, .inr ⟨w0.heap.size, 0, #[], rfl, Nat.le_refl _, heap_alloc_new w0 _, Nat.le_refl _, by simp [maxLen], rfl, rfl⟩⟩
    have oA2 := oA1.alloc (.map #[] 0)
    have oA3 : Own ((w0.alloc (.map #[] 0)).alloc (.cells #[] 5)) w0.heap.size 5 (.slice (some ⟨w0.heap.size + 1, 0, none⟩) 0 0) (ints .u8 []) := ⟨rfl, .inr ⟨w0.heap.size + 1, 0, #[], rfl, by omega, by have := heap_alloc_new (w0.alloc (.map #[] 0)) (.cells #[] 5); simpa using this, Nat.le_refl _, by simp [maxLen], rfl, rfl⟩⟩
    have rA1 := (hr0.belo bA1).rdn
    have rA2 := (hr0.belo bA2).rdn
    have rA3 := (hr0.belo bA3).rdn
    have hAn : A = none → bs.length = 0 ∧ c = 0 := fun e => by have := hr0.nil e; omega
    have xA1 := hbx.alloc (.cells #[] 5)
    have xA2 := xA1.alloc (.map #[] 0)
    have xA3 := (hbx.alloc (.map #[] 0)).alloc (.cells #[] 5)
    have hbl := hbx.lt
    have hmp2 : ((w0.alloc (.cells #[] 5)).alloc (.map #[] 0)).heap[w0.heap.size + 1]? = some (.map #[] 0) := by
      have := heap_alloc_new (w0.alloc (.cells #[] 5)) (.map #[] 0)
      rwa [show (w0.alloc (.cells #[] 5)).heap.size = w0.heap.size + 1 from by simp] at this
    have hmp3 : ((w0.alloc (.map #[] 0)).alloc (.cells #[] 5)).heap[w0.heap.size]? = some (.map #[] 0) := (Below.heap_alloc _ _ w0.heap.size (by simp)).trans (heap_alloc_new w0 _)
    have OA1 := Lib.hid oA1
    have OA2 := Lib.hid oA2
    have OA3 := Lib.hid oA3
    have RA1 := Lib.hid rA1
    have RA2 := Lib.hid rA2
    have RA3 := Lib.hid rA3
    have HAN := Lib.hid hAn
    clear oA1 oA2 oA3 rA1 rA2 rA3 hAn
    go_region_law (first
      | (refine step_cat .u8 w0.heap.size rfl (.tmp 10) (.tmp 11) 22 5 1 rfl Try.underlying22 Try.u8inf (.slice (some ⟨w0.heap.size, 0, none⟩) 0 0) [] A bs.length c bs rfl rfl rfl OA1.out RA1.out HAN.out bA1.size (by simp; omega) (by simp; omega) ?_; intro v1 w1 ho1 hs1 hat1; have hs1 := hs1.drew_left; have x1 := Blk.same xA1 hs1 (fun e => by simp [Value.ownBlock] at e; omega); have y0 := x1.cell 0; have y1 := x1.cell 1; have y2 := x1.cell 2; have y3 := x1.cell 3; have x2 := x1.alloc (.map #[] 0); have z0 := x2.cell 0; have z1 := x2.cell 1; have z2 := x2.cell 2; have z3 := x2.cell 3; rw [List.nil_append] at ho1; obtain ⟨A1, c1, rfl, r1, a1⟩ := ho1.row hr.wf)
      | (refine step_cat .u8 w0.heap.size rfl (.tmp 10) (.tmp 11) 22 5 1 rfl Try.underlying22 Try.u8inf (.slice (some ⟨w0.heap.size, 0, none⟩) 0 0) [] A bs.length c bs rfl rfl rfl OA2.out RA2.out HAN.out bA2.size (by simp; omega) (by simp; omega) ?_; intro v1 w1 ho1 hs1 hat1; have hs1 := hs1.drew_left; have x1 := Blk.same xA2 hs1 (fun e => by simp [Value.ownBlock] at e; omega); have y0 := x1.cell 0; have y1 := x1.cell 1; have y2 := x1.cell 2; have y3 := x1.cell 3; have x2 := x1.alloc (.map #[] 0); have z0 := x2.cell 0; have z1 := x2.cell 1; have z2 := x2.cell 2; have z3 := x2.cell 3; rw [List.nil_append] at ho1; obtain ⟨A1, c1, rfl, r1, a1⟩ := ho1.row hr.wf)
      | (refine step_cat .u8 w0.heap.size rfl (.tmp 10) (.tmp 11) 22 5 1 rfl Try.underlying22 Try.u8inf (.slice (some ⟨w0.heap.size + 1, 0, none⟩) 0 0) [] A bs.length c bs rfl rfl rfl OA3.out RA3.out HAN.out bA3.size (by simp; omega) (by simp; omega) ?_; intro v1 w1 ho1 hs1 hat1; have hs1 := hs1.drew_left; have x1 := Blk.same xA3 hs1 (fun e => by simp [Value.ownBlock] at e; omega); have y0 := x1.cell 0; have y1 := x1.cell 1; have y2 := x1.cell 2; have y3 := x1.cell 3; have x2 := x1.alloc (.map #[] 0); have z0 := x2.cell 0; have z1 := x2.cell 1; have z2 := x2.cell 2; have z3 := x2.cell 3; rw [List.nil_append] at ho1; obtain ⟨A1, c1, rfl, r1, a1⟩ := ho1.row hr.wf))
    all_goals
      go_wp2_with fail
      go_meet
      first
      | exact FnMid.late bA1 ho1 hs1 (fun k e => by simp [Value.ownBlock] at e; omega) bA1.size
      | exact FnMid.early bA2 ho1 hs1 (fun k e => by simp [Value.ownBlock] at e; omega) bA2.size hmp2 (by simp [Value.ownBlock]) (by omega)
      | exact FnMid.early bA3 ho1 hs1 (fun k e => by simp [Value.ownBlock] at e; omega) bA3.size hmp3 (by simp [Value.ownBlock]) (by omega)
  case rest =>
    obtain ⟨f, m, Af, cf, rfl, hF, hm0, hb⟩ := hcut.out_
    have hz := hB0.size
    have hbl := hbx.lt
    have hB1 : Below w.heap.size w wc := hB0.trans (hb.mono hz)
    have hE : MapE wc w0.heap.size m bs 0 #[] 0 := ⟨hm0, ⟨by simp, by simp, by simp⟩, by simp, fun p hp => absurd hp (by omega), by simp⟩
    have hbx1 := hbx.below hb hbx.lt
    have q0 := hbx1.cell 3
    clear hcut hm0 hbx
    have hne : w.heap.size ≠ f := by have := hF.bf; omega
    have p4 := hF.pb.cell 4
    have p5 := hF.pb.cell 5
    have p6 := hF.pb.cell 6
    have f2 := hF.pb.frozen 5
    have f3 := hF.pb.frozen 6
    have f4 := hF.pb.frozen 4
    cases wide
    · go_wp2_with fail
      have hF1 := hF.set4 (max good 1)
      have hE1 := hE.kept ((Same.refl (S := fun k => k = f) wc).set_ (p := ⟨f, 4, none⟩) (fun _ => rfl) (.int .i64 (max good 1))) (fun e => hF.fm e.symm) (by simp)
      have hb1 := hb.setCell (p := ⟨f, 4, none⟩) hF.bf (.int .i64 (max good 1))
      clear f2 f3 f4 p4 p5 p6 q0 hF hE hb hB1 hbx1 hcap hmm
      generalize wc.setCell ⟨f, 4, none⟩ (.int .i64 (max good 1)) = w1 at *
      go_loopg [8] (bs.length - 2) (FnRel w0 f m Af cf bs store lazy chain (max good 1) 32768 258)
      case atStart => exact ⟨0, #[], 0, by omega, by omega, rfl, hF1, hE1, hb1⟩
      case round =>
        clear hF1 hE1 hb1
        obtain ⟨i, es, clock, hi, hg, rfl, hF, hE, hb⟩ := hrel.out_
        clear hrel
        by_cases hlt : i + 2 < bs.length
        · have e1 : decide ((i : Int) + 2 < bs.length) = true := by simp; omega
          have hbz := hb.size
          have hb7 := hb.alloc hbz (.cells #[.int .u8 0, .int .u8 0, .int .u8 0] 49)
          have hr1 := (hr0.belo hb7).drew
          have hx7 := (Blk.new wr 49 #[.int .u8 0, .int .u8 0, .int .u8 0]).drew
          have c0 := hx7.cell 0
          have c1 := hx7.cell 1
          have c2 := hx7.cell 2
          have z0 := hx7.frozen 0
          have z1 := hx7.frozen 1
          have z2 := hx7.frozen 2
          have l0 : i < bs.length := by omega
          have l1 : i + 1 < bs.length := by omega
          obtain ⟨ba, bo, rfl⟩ := hr0.addr3 (fun e => by rw [e] at hlt; simp at hlt)
          obtain ⟨ad, ead, r0⟩ := hr1.rd.at_ (i := i) (by omega)
          injection ead with ead
          subst ead
          obtain ⟨ad, ead, r1⟩ := hr1.rd.at_ (i := i + 1) (by omega)
          injection ead with ead
          subst ead
          obtain ⟨ad, ead, r2⟩ := hr1.rd.at_ (i := i + 2) (by omega)
          injection ead with ead
          subst ead
          rw [Addr.add_lit] at r0 r1 r2
          have hr9 := (hr0.belo hb).drew
          obtain ⟨ad, ead, y0⟩ := hr9.rd.at_ (i := i) (by omega)
          injection ead with ead
          subst ead
          obtain ⟨ad, ead, y1⟩ := hr9.rd.at_ (i := i + 1) (by omega)
          injection ead with ead
          subst ead
          obtain ⟨ad, ead, y2⟩ := hr9.rd.at_ (i := i + 2) (by omega)
          injection ead with ead
          subst ead
          rw [Addr.add_lit] at y0 y1 y2
          clear hr9
          have k1 : ((i : Int) + 1).toNat = i + 1 := by omega
          have k2 : ((i : Int) + 2).toNat = i + 2 := by omega
          have k3 : decide ((i : Int) + 1 < bs.length) = true := by simp; omega
          have x0 := getD_mem3 bs i 0 (by omega)
          have x1 := getD_mem3 bs (i + 1) 0 (by omega)
          have x2 := getD_mem3 bs (i + 2) 0 (by omega)
          have hok : ok3 (tri bs i) := ⟨hr.wf _ x0, hr.wf _ x1, hr.wf _ x2⟩
          have hti : tri bs i = (bs.getD i 0, bs.getD (i + 1) 0, bs.getD (i + 2) 0) := rfl
          have HTI := Lib.hid hti
          clear x0 x1 x2 hti hr1
          generalize bs.getD i 0 = b0 at *
          generalize bs.getD (i + 1) 0 = b1 at *
          generalize bs.getD (i + 2) 0 = b2 at *
          go_wp2_with fail
          go_region
          have hsa := ((Same.refl (S := fun _ => False) wr).alloc (.cells #[.int .u8 b0, .int .u8 b1, .int .u8 b2] 49)).drew
          have hF8 := hF.kept hsa (fun c => c) (fun _ _ c => c)
          have hE8 := hE.kept hsa (fun c => c) (fun _ _ _ _ c => c)
          have hb8 := (hb.alloc hbz (.cells #[.int .u8 b0, .int .u8 b1, .int .u8 b2] 49)).drew
          have hX8 := (Blk.new wr 49 #[.int .u8 b0, .int .u8 b1, .int .u8 b2]).drew
          clear hF hE hb hb7 hx7 c0 c1 c2 z0 z1 z2 r0 r1 r2 y0 y1 y2 l0 l1 k1 k2 k3 hsa
          generalize (wr.alloc (.cells #[.int .u8 b0, .int .u8 b1, .int .u8 b2] 49)).drew = w8 at *
          have x0 := hX8.cell 0
          have x1 := hX8.cell 1
          have x2 := hX8.cell 2
          have p7 := hF8.pb.cell 7
          obtain ⟨kl, hkl⟩ := key3_some hok
          rw [HTI.out] at hkl hok
          obtain ⟨v0, st, es1, clock1, hent, h0, hst⟩ := entry_run key3_law Try.underlying46 Try.u25zero hE8.keys hE8.st hkl
          have hA8 := Blk.new w8 3 #[.int .i64 i]
          have sA8 := ((Same.refl (S := fun _ => False) w8).alloc (.cells #[.int .i64 i] 3)).drew
          have hO8 := hE8.at_ h0
          have hO := (hO8.kept sA8 (fun _ _ c => c))
          have hE9 := hE8.kept sA8 (fun c => c) (fun _ _ _ _ c => c)
          have hF9 := hF8.kept sA8 (fun c => c) (fun _ _ c => c)
          have hb9 := (hb8.alloc hb8.size (.cells #[.int .i64 i] 3)).drew
          have hA9 : Blk (w8.alloc (.cells #[.int .i64 i] 3)).drew w8.heap.size 3 #[.int .i64 i] := hA8
          have h78 := sA8.size
          have hX9 := hX8.same sA8 (fun c => c)
          have y0 := hX9.cell 0
          have y1 := hX9.cell 1
          have y2 := hX9.cell 2
          have y7 := hF9.pb.cell 7
          clear hA8 hO8 sA8
          generalize hw9 : (w8.alloc (.cells #[.int .i64 i] 3)).drew = w9 at *
          have hent1 : Sem.run Try.prog (Instr.mapEntry 46 (.map (some m)) (.agg #[.int .u8 b0, .int .u8 b1, .int .u8 b2])) w9 = _ := hent w9 hE9.blk
          have hz9 := hb9.size
          have hvm : v0.ownBlock ≠ some m := fun e => hO.ne_map e hE9.blk rfl
          have hm9 := (Array.getElem?_eq_some_iff.1 hE9.blk).1
          have sB := setBlock_same w9 m (.map es1 clock1)
          have bB := hA9.same sB (fun e => by have e : w8.heap.size = m := e; have := hE9.blk; rw [← e, hA9] at this; cases this)
          have oB := hO.kept sB (fun g hg (e : g = m) => hvm (by rw [hg, e]))
          have mB := heap_setBlock_same hE9.blk (.map es1 clock1)
          have hpl := poss_le bs i (b0, b1, b2)
          have zB := sB.size
          have OB := Lib.hid oB
          have BB := Lib.hid bB
          have MB := Lib.hid mB
          have SB := Lib.hid sB
          have HST := Lib.hid hst
          have H0 := Lib.hid h0
          clear oB bB mB sB hst h0 hent
          go_wp2_with fail
          go_region_law (refine step_cat1 .i64 w0.heap.size rfl (.tmp 58) (.tmp 60) 25 3 3 8 rfl Try.underlying25 Try.intinfo v0 (nats (poss bs i (b0, b1, b2))) w8.heap.size (i : Int) rfl rfl OB.out BB.out (Nat.le_trans hz9 zB) (by rw [nats_length]; omega) (by rw [nats_length]; omega) ?_; intro v9 w10 ho9 hs9 hat9; have hm10 := (hs9.block m (Nat.lt_of_lt_of_le hm9 zB) hvm).trans MB.out; obtain ⟨es2, clock2, hstore, hes⟩ := HST.out v9; have hstore : Sem.run Try.prog (Instr.entryStore 46 (.map (some m)) (.int .i64 (st : Nat)) v9) w10 = _ := hstore w10 hm10)
          all_goals
            have hss := (SB.out.mono (T := fun k => k = m ∨ v0.ownBlock = some k) (fun _ _ e => .inl e)).then (hs9.mono (fun _ _ e => .inr e))
            have ho9' : Own w10 w0.heap.size 3 v9 (ints .i64 (nats (poss bs (i + 1) (b0, b1, b2)))) := by
              rw [poss_succ, if_pos HTI.out, nats_append]
              exact ho9
            have hE11 := hE9.step HTI.out hok H0.out ho9' hss hm10 (hat9.imp id (fun e => ⟨_, e, zB⟩)) hes
            have hs11 := hss.then ((setBlock_same w10 m (.map es2 clock2)).mono (fun _ _ e => .inl e))
            have hF11 := hF9.kept hs11 (fun e => e.elim hF9.fm (hO.blk_ne hF9.pb (by decide))) (fun g hg e => e.elim (hF9.own.ne_map hg hE9.blk) (fun e => hF9.own.apart hO (by decide) hg e))
            have hb11 := hs11.below_of hb9 hz9 (fun k hk e => e.elim (fun e => by have := hF9.bm; omega) (fun e => by have := hO.base_le k e; omega))
            go_wp2_with fail
            go_roundg (gk - 1)
            case measure => omega
            case rel => exact ⟨⟨i + 1, es2, clock2, by omega, by omega, by go_num, hF11, hE11, hb11⟩⟩
        · have e1 : decide ((i : Int) + 2 < bs.length) = false := by simp; omega
          have hi2 : i = bs.length - 2 := by omega
          rw [hi2] at hE
          go_wp2_with fail
          go_ret
          exact ⟨f, rfl, ⟨w0.heap.size, m, Af, cf, es, clock, hz, hF, hE, hB0.trans (hb.mono hz)⟩⟩
    · go_wp2_with fail
      have hF1 := (hF.set56 65536 65538).set4 (max good 1)
      have hE1 := hE.kept ((((Same.refl (S := fun k => k = f) wc).set_ (p := ⟨f, 5, none⟩) (fun _ => rfl) (.int .i64 65536)).set_ (p := ⟨f, 6, none⟩) (fun _ => rfl) (.int .i64 65538)).set_ (p := ⟨f, 4, none⟩) (fun _ => rfl) (.int .i64 (max good 1))) (fun e => hF.fm e.symm) (by simp)
      have hb1 := ((hb.setCell (p := ⟨f, 5, none⟩) hF.bf (.int .i64 65536)).setCell (p := ⟨f, 6, none⟩) hF.bf (.int .i64 65538)).setCell (p := ⟨f, 4, none⟩) hF.bf (.int .i64 (max good 1))
      clear f2 f3 f4 p4 p5 p6 q0 hF hE hb hB1 hbx1 hcap hmm
      generalize ((wc.setCell ⟨f, 5, none⟩ (.int .i64 65536)).setCell ⟨f, 6, none⟩ (.int .i64 65538)).setCell ⟨f, 4, none⟩ (.int .i64 (max good 1)) = w1 at *
      go_loopg [8] (bs.length - 2) (FnRel w0 f m Af cf bs store lazy chain (max good 1) 65536 65538)
      case atStart => exact ⟨0, #[], 0, by omega, by omega, rfl, hF1, hE1, hb1⟩
      case round =>
        clear hF1 hE1 hb1
        obtain ⟨i, es, clock, hi, hg, rfl, hF, hE, hb⟩ := hrel.out_
        clear hrel
        by_cases hlt : i + 2 < bs.length
        · have e1 : decide ((i : Int) + 2 < bs.length) = true := by simp; omega
          have hbz := hb.size
          have hb7 := hb.alloc hbz (.cells #[.int .u8 0, .int .u8 0, .int .u8 0] 49)
          have hr1 := (hr0.belo hb7).drew
          have hx7 := (Blk.new wr 49 #[.int .u8 0, .int .u8 0, .int .u8 0]).drew
          have c0 := hx7.cell 0
          have c1 := hx7.cell 1
          have c2 := hx7.cell 2
          have z0 := hx7.frozen 0
          have z1 := hx7.frozen 1
          have z2 := hx7.frozen 2
          have l0 : i < bs.length := by omega
          have l1 : i + 1 < bs.length := by omega
          obtain ⟨ba, bo, rfl⟩ := hr0.addr3 (fun e => by rw [e] at hlt; simp at hlt)
          obtain ⟨ad, ead, r0⟩ := hr1.rd.at_ (i := i) (by omega)
          injection ead with ead
          subst ead
          obtain ⟨ad, ead, r1⟩ := hr1.rd.at_ (i := i + 1) (by omega)
          injection ead with ead
          subst ead
          obtain ⟨ad, ead, r2⟩ := hr1.rd.at_ (i := i + 2) (by omega)
          injection ead with ead
          subst ead
          rw [Addr.add_lit] at r0 r1 r2
          have hr9 := (hr0.belo hb).drew
          obtain ⟨ad, ead, y0⟩ := hr9.rd.at_ (i := i) (by omega)
          injection ead with ead
          subst ead
          obtain ⟨ad, ead, y1⟩ := hr9.rd.at_ (i := i + 1) (by omega)
          injection ead with ead
          subst ead
          obtain ⟨ad, ead, y2⟩ := hr9.rd.at_ (i := i + 2) (by omega)
          injection ead with ead
          subst ead
          rw [Addr.add_lit] at y0 y1 y2
          clear hr9
          have k1 : ((i : Int) + 1).toNat = i + 1 := by omega
          have k2 : ((i : Int) + 2).toNat = i + 2 := by omega
          have k3 : decide ((i : Int) + 1 < bs.length) = true := by simp; omega
          have x0 := getD_mem3 bs i 0 (by omega)
          have x1 := getD_mem3 bs (i + 1) 0 (by omega)
          have x2 := getD_mem3 bs (i + 2) 0 (by omega)
          have hok : ok3 (tri bs i) := ⟨hr.wf _ x0, hr.wf _ x1, hr.wf _ x2⟩
          have hti : tri bs i = (bs.getD i 0, bs.getD (i + 1) 0, bs.getD (i + 2) 0) := rfl
          have HTI := Lib.hid hti
          clear x0 x1 x2 hti hr1
          generalize bs.getD i 0 = b0 at *
          generalize bs.getD (i + 1) 0 = b1 at *
          generalize bs.getD (i + 2) 0 = b2 at *
          go_wp2_with fail
          go_region
          have hsa := ((Same.refl (S := fun _ => False) wr).alloc (.cells #[.int .u8 b0, .int .u8 b1, .int .u8 b2] 49)).drew
          have hF8 := hF.kept hsa (fun c => c) (fun _ _ c => c)
          have hE8 := hE.kept hsa (fun c => c) (fun _ _ _ _ c => c)
          have hb8 := (hb.alloc hbz (.cells #[.int .u8 b0, .int .u8 b1, .int .u8 b2] 49)).drew
          have hX8 := (Blk.new wr 49 #[.int .u8 b0, .int .u8 b1, .int .u8 b2]).drew
          clear hF hE hb hb7 hx7 c0 c1 c2 z0 z1 z2 r0 r1 r2 y0 y1 y2 l0 l1 k1 k2 k3 hsa
          generalize (wr.alloc (.cells #[.int .u8 b0, .int .u8 b1, .int .u8 b2] 49)).drew = w8 at *
          have x0 := hX8.cell 0
          have x1 := hX8.cell 1
          have x2 := hX8.cell 2
          have p7 := hF8.pb.cell 7
          obtain ⟨kl, hkl⟩ := key3_some hok
          rw [HTI.out] at hkl hok
          obtain ⟨v0, st, es1, clock1, hent, h0, hst⟩ := entry_run key3_law Try.underlying46 Try.u25zero hE8.keys hE8.st hkl
          have hA8 := Blk.new w8 3 #[.int .i64 i]
          have sA8 := ((Same.refl (S := fun _ => False) w8).alloc (.cells #[.int .i64 i] 3)).drew
          have hO8 := hE8.at_ h0
          have hO := (hO8.kept sA8 (fun _ _ c => c))
          have hE9 := hE8.kept sA8 (fun c => c) (fun _ _ _ _ c => c)
          have hF9 := hF8.kept sA8 (fun c => c) (fun _ _ c => c)
          have hb9 := (hb8.alloc hb8.size (.cells #[.int .i64 i] 3)).drew
          have hA9 : Blk (w8.alloc (.cells #[.int .i64 i] 3)).drew w8.heap.size 3 #[.int .i64 i] := hA8
          have h78 := sA8.size
          have hX9 := hX8.same sA8 (fun c => c)
          have y0 := hX9.cell 0
          have y1 := hX9.cell 1
          have y2 := hX9.cell 2
          have y7 := hF9.pb.cell 7
          clear hA8 hO8 sA8
          generalize hw9 : (w8.alloc (.cells #[.int .i64 i] 3)).drew = w9 at *
          have hent1 : Sem.run Try.prog (Instr.mapEntry 46 (.map (some m)) (.agg #[.int .u8 b0, .int .u8 b1, .int .u8 b2])) w9 = _ := hent w9 hE9.blk
          have hz9 := hb9.size
          have hvm : v0.ownBlock ≠ some m := fun e => hO.ne_map e hE9.blk rfl
          have hm9 := (Array.getElem?_eq_some_iff.1 hE9.blk).1
          have sB := setBlock_same w9 m (.map es1 clock1)
          have bB := hA9.same sB (fun e => by have e : w8.heap.size = m := e; have := hE9.blk; rw [← e, hA9] at this; cases this)
          have oB := hO.kept sB (fun g hg (e : g = m) => hvm (by rw [hg, e]))
          have mB := heap_setBlock_same hE9.blk (.map es1 clock1)
          have hpl := poss_le bs i (b0, b1, b2)
          have zB := sB.size
          have OB := Lib.hid oB
          have BB := Lib.hid bB
          have MB := Lib.hid mB
          have SB := Lib.hid sB
          have HST := Lib.hid hst
          have H0 := Lib.hid h0
          clear oB bB mB sB hst h0 hent
          go_wp2_with fail
          go_region_law (refine step_cat1 .i64 w0.heap.size rfl (.tmp 58) (.tmp 60) 25 3 3 8 rfl Try.underlying25 Try.intinfo v0 (nats (poss bs i (b0, b1, b2))) w8.heap.size (i : Int) rfl rfl OB.out BB.out (Nat.le_trans hz9 zB) (by rw [nats_length]; omega) (by rw [nats_length]; omega) ?_; intro v9 w10 ho9 hs9 hat9; have hm10 := (hs9.block m (Nat.lt_of_lt_of_le hm9 zB) hvm).trans MB.out; obtain ⟨es2, clock2, hstore, hes⟩ := HST.out v9; have hstore : Sem.run Try.prog (Instr.entryStore 46 (.map (some m)) (.int .i64 (st : Nat)) v9) w10 = _ := hstore w10 hm10)
          all_goals
            have hss := (SB.out.mono (T := fun k => k = m ∨ v0.ownBlock = some k) (fun _ _ e => .inl e)).then (hs9.mono (fun _ _ e => .inr e))
            have ho9' : Own w10 w0.heap.size 3 v9 (ints .i64 (nats (poss bs (i + 1) (b0, b1, b2)))) := by
              rw [poss_succ, if_pos HTI.out, nats_append]
              exact ho9
            have hE11 := hE9.step HTI.out hok H0.out ho9' hss hm10 (hat9.imp id (fun e => ⟨_, e, zB⟩)) hes
            have hs11 := hss.then ((setBlock_same w10 m (.map es2 clock2)).mono (fun _ _ e => .inl e))
            have hF11 := hF9.kept hs11 (fun e => e.elim hF9.fm (hO.blk_ne hF9.pb (by decide))) (fun g hg e => e.elim (hF9.own.ne_map hg hE9.blk) (fun e => hF9.own.apart hO (by decide) hg e))
            have hb11 := hs11.below_of hb9 hz9 (fun k hk e => e.elim (fun e => by have := hF9.bm; omega) (fun e => by have := hO.base_le k e; omega))
            go_wp2_with fail
            go_roundg (gk - 1)
            case measure => omega
            case rel => exact ⟨⟨i + 1, es2, clock2, by omega, by omega, by go_num, hF11, hE11, hb11⟩⟩
        · have e1 : decide ((i : Int) + 2 < bs.length) = false := by simp; omega
          have hi2 : i = bs.length - 2 := by omega
          rw [hi2] at hE
          go_wp2_with fail
          go_ret
          exact ⟨f, rfl, ⟨w0.heap.size, m, Af, cf, es, clock, hz, hF, hE, hB0.trans (hb.mono hz)⟩⟩
end Go.Proofs.Ytnnjpbghnfohaaa
