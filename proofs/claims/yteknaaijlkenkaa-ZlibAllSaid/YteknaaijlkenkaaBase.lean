import Derived.Below
import Derived.Laws.OwnMore
import Derived.Deep.Draws
import Derived.Laws.Rows
import Derived.Laws.MakeOwn
import Derived.Deep.AppendLies
import Derived.Maps.AppendAt
import Derived.Laws.AppendOwnNone
import Derived.OwnWalk
import Derived.Lib.Hide
import Derived.Deep.LoopGhost
import Derived.Deep.QuietTactic
import Derived.BigQuiet
import Derived.RegionTactic
import Derived.Lib.ConvBytes
import Derived.Laws.BytesArg
import Derived.Deep.Slices
import Derived.Deep.Fields
import Derived.ChangeSame
import Derived.ChangeSlices
import Derived.SliceStrings
import Derived.RowKit2
import Derived.ChangeArms
import Derived.WideShapes
import Derived.WalkKit
import Derived.KernelRfl
namespace Go.Proofs.Yteknaaijlkenkaa
set_option linter.unusedVariables false
set_option linter.unusedSimpArgs false
open Go.RowKit

/-- Block g holds just the cells cs, of element type t; none is frozen. -/
def Blk (w : World) (g : Nat) (t : TypeId) (cs : Array Value) : Prop := w.heap[g]? = some (.cells cs t (0, 0))

/-- The world w' is w but for new blocks and for the blocks of S. -/
structure Same (S : Nat → Prop) (w w' : World) : Prop where
  os : w'.os = w.os
  tape : w'.tape = w.tape
  output : w'.output = w.output
  size : w.heap.size ≤ w'.heap.size
  block : ∀ k, k < w.heap.size → ¬ S k → w'.heap[k]? = w.heap[k]?

section
variable {w w' w'' : World} {g : Nat} {t : TypeId} {cs : Array Value} {S T : Nat → Prop}
theorem Blk.lt (h : Blk w g t cs) : g < w.heap.size := by
  rcases Nat.lt_or_ge g w.heap.size with hlt | hge
  · exact hlt
  · unfold Blk at h; rw [Array.getElem?_eq_none hge] at h; cases h
theorem Blk.cell (h : Blk w g t cs) (i : Nat) : w.cell? ⟨g, i, none⟩ = cs[i]? := cell_of_row w g i cs t (0, 0) h
theorem Blk.frozen (h : Blk w g t cs) (i : Nat) : w.frozen? ⟨g, i, none⟩ = false := by
  unfold Blk at h
  simp [World.frozen?, h]
theorem Blk.new (w : World) (t : TypeId) (cs : Array Value) : Blk (w.alloc (.cells cs t)) w.heap.size t cs := heap_alloc_new w _
theorem Blk.drew (h : Blk w g t cs) : Blk w.drew g t cs := h
theorem Blk.drewN (h : Blk w g t cs) (n : Nat) : Blk (w.drewN n) g t cs := h
theorem Blk.alloc (h : Blk w g t cs) (o : Obj) : Blk (w.alloc o) g t cs := (Below.heap_alloc w o g h.lt).trans h
theorem Blk.set_ (h : Blk w g t cs) (i : Nat) (u : Value) : Blk (w.setCell ⟨g, i, none⟩ u) g t (cs.setIfInBounds i u) := by
  unfold Blk at h ⊢
  simp [World.setCell, Array.getElem?_modify, h]
theorem Blk.far (h : Blk w g t cs) {p : Addr} (hp : g ≠ p.block) (u : Value) : Blk (w.setCell p u) g t cs := (Below.heap_setCell w p u g hp).trans h
theorem Blk.below {B : Nat} (h : Blk w g t cs) (hb : Below B w w') (hg : g < B) : Blk w' g t cs := (hb.block g hg).trans h
theorem Blk.grown {row : Option Nat} (h : Blk w g t cs) (hb : w.grownBy w' row) (hg : some g ≠ row) : Blk w' g t cs := (hb.block g h.lt hg).trans h
theorem Blk.same (h : Blk w g t cs) (hb : Same S w w') (hg : ¬ S g) : Blk w' g t cs := (hb.block g h.lt hg).trans h
theorem Blk.ne_ {g' : Nat} {t' : TypeId} {cs' : Array Value} (h : Blk w g t cs) (h' : Blk w g' t' cs') (hne : t ≠ t') : g ≠ g' := by
  rintro rfl
  unfold Blk at h h'
  rw [h] at h'
  injection h' with h'
  injection h' with _ ht
  exact hne ht

theorem Same.refl (w : World) : Same S w w := ⟨rfl, rfl, rfl, Nat.le_refl _, fun _ _ _ => rfl⟩
theorem Same.trans (h : Same S w w') (k : Same T w' w'') (hT : ∀ i, i < w.heap.size → T i → S i) : Same S w w'' :=
  ⟨k.os.trans h.os, k.tape.trans h.tape, k.output.trans h.output, Nat.le_trans h.size k.size, fun i hi hS =>
    (k.block i (Nat.lt_of_lt_of_le hi h.size) (fun c => hS (hT i hi c))).trans (h.block i hi hS)⟩
theorem Same.then (h : Same S w w') (k : Same S w' w'') : Same S w w'' := h.trans k (fun _ _ c => c)
theorem Same.any (h : Same (fun _ => False) w w') : Same S w w' := ⟨h.os, h.tape, h.output, h.size, fun i hi _ => h.block i hi (fun c => c)⟩
theorem Same.mono (h : Same S w w') (hS : ∀ i, i < w.heap.size → S i → T i) : Same T w w' :=
  ⟨h.os, h.tape, h.output, h.size, fun i hi hT => h.block i hi (fun c => hT (hS i hi c))⟩
theorem Same.drew (h : Same S w w') : Same S w w'.drew := ⟨h.os, h.tape, h.output, h.size, h.block⟩
theorem Same.drew_left (h : Same S w.drew w') : Same S w w' := ⟨h.os, h.tape, h.output, h.size, h.block⟩
theorem Same.drewN_left {n : Nat} (h : Same S (w.drewN n) w') : Same S w w' := ⟨h.os, h.tape, h.output, h.size, h.block⟩
theorem Same.alloc_left {o : Obj} (h : Same S (w.alloc o) w') : Same S w w' :=
  ⟨h.os, h.tape, h.output, Nat.le_trans (by simp) h.size, fun k hk hS => (h.block k (by simp; omega) hS).trans (Below.heap_alloc w o k hk)⟩
theorem Same.drewN (h : Same S w w') (n : Nat) : Same S w (w'.drewN n) := ⟨h.os, h.tape, h.output, h.size, h.block⟩
theorem Same.alloc (h : Same S w w') (o : Obj) : Same S w (w'.alloc o) :=
  ⟨h.os, h.tape, h.output, Nat.le_trans h.size (by simp), fun i hi hS => (Below.heap_alloc w' o i (Nat.lt_of_lt_of_le hi h.size)).trans (h.block i hi hS)⟩
theorem Same.set_ (h : Same S w w') {p : Addr} (hp : p.block < w.heap.size → S p.block) (u : Value) : Same S w (w'.setCell p u) :=
  ⟨h.os, h.tape, h.output, by simpa [World.setCell] using h.size, fun i hi hS => (Below.heap_setCell w' p u i (by rintro rfl; exact hS (hp hi))).trans (h.block i hi hS)⟩
theorem Same.grown {row : Option Nat} (h : Same S w w') (hg : w'.grownBy w'' row) (hr : ∀ k, row = some k → k < w.heap.size → S k) : Same S w w'' :=
  ⟨hg.os.trans h.os, hg.tape.trans h.tape, hg.output.trans h.output, Nat.le_trans h.size hg.size, fun i hi hS =>
    (hg.block i (Nat.lt_of_lt_of_le hi h.size) (fun e => hS (hr i e.symm hi))).trans (h.block i hi hS)⟩
theorem Same.of_below (h : Below w.heap.size w w') : Same S w w' := ⟨h.os, h.tape, h.output, h.size, fun i hi _ => h.block i hi⟩
theorem Same.below (h : Same S w w') (hS : ∀ k, k < w.heap.size → ¬ S k) : Below w.heap.size w w' := ⟨h.os, h.tape, h.output, h.size, fun i hi => h.block i hi (hS i hi)⟩
/-- From the begin of a call on: what lies below B is as it was. -/
theorem Same.below_of {B : Nat} {w0 : World} (h : Same S w w') (hb : Below B w0 w) (hB : B ≤ w.heap.size) (hS : ∀ k, k < B → ¬ S k) : Below B w0 w' :=
  hb.trans ⟨h.os, h.tape, h.output, h.size, fun i hi => h.block i (by omega) (hS i hi)⟩
theorem Same.cell (h : Same S w w') {a : Addr} {v : Value} (hc : w.cell? a = some v) (hS : ¬ S a.block) : w'.cell? a = some v :=
  (World.cell?_of_block (w := w) (h.block a.block (World.block_lt_of_cell? w a hc) hS)).trans hc
theorem below_drewN {B : Nat} {a w : World} (h : Below B a w) (n : Nat) : Below B a (w.drewN n) := ⟨h.os, h.tape, h.output, h.size, h.block⟩
end

/-! ### rows of the call's own -/
/-- The slice v owns a row (from block base on) that holds xs, elements of one cell, of type e. -/
def Own (w : World) (base : Nat) (e : TypeId) (v : Value) (xs : List Value) : Prop := w.ownsRow base e 1 v xs.length xs
def ints (k : IntKind) (xs : List Int) : List Value := xs.map (Value.int k)
theorem ints_length (k : IntKind) (xs : List Int) : (ints k xs).length = xs.length := by simp [ints]
theorem ints_append (k : IntKind) (xs ys : List Int) : ints k (xs ++ ys) = ints k xs ++ ints k ys := by simp [ints]
theorem ints_at (k : IntKind) (xs : List Int) (i : Nat) : (ints k xs)[i]? = xs[i]?.map (Value.int k) := by simp [ints]
section
variable {w w' w'' : World} {base : Nat} {e : TypeId} {v : Value} {xs : List Value}
theorem Own.nil (w : World) (base : Nat) (e : TypeId) : Own w base e (.slice none 0 0) [] := ⟨by simp, .inl ⟨rfl, rfl⟩⟩
theorem Own.drewN (h : Own w base e v xs) (n : Nat) : Own (w.drewN n) base e v xs := h
theorem Own.drew (h : Own w base e v xs) : Own w.drew base e v xs := h
theorem Own.alloc (h : Own w base e v xs) (o : Obj) : Own (w.alloc o) base e v xs := World.ownsRow.alloc h o
theorem Own.kept (h : Own w base e v xs) {S : Nat → Prop} (hs : Same S w w') (hv : ∀ g, v.ownBlock = some g → ¬ S g) : Own w' base e v xs := by
  obtain ⟨h1, h2⟩ := h
  refine ⟨h1, ?_⟩
  rcases h2 with h2 | ⟨g, cap, cur, rfl, hb, hh, r⟩
  · exact .inl h2
  · exact .inr ⟨g, cap, cur, rfl, hb, (hs.block g (Array.getElem?_eq_some_iff.1 hh).1 (hv g rfl)).trans hh, r⟩
theorem Own.base_le (h : Own w base e v xs) (g : Nat) (hg : v.ownBlock = some g) : base ≤ g := by
  rcases h.2 with ⟨rfl, _⟩ | ⟨g', cap, cur, rfl, hb, _⟩
  · simp [Value.ownBlock] at hg
  · have : g' = g := by simpa [Value.ownBlock] using hg
    omega
theorem Own.lt (h : Own w base e v xs) (g : Nat) (hg : v.ownBlock = some g) : g < w.heap.size := by
  rcases h.2 with ⟨rfl, _⟩ | ⟨g', cap, cur, rfl, hb, hh, _⟩
  · simp [Value.ownBlock] at hg
  · have : g' = g := by simpa [Value.ownBlock] using hg
    subst this
    exact (Array.getElem?_eq_some_iff.1 hh).1
theorem Own.blk_ne {g : Nat} {t : TypeId} {cs : Array Value} (h : Own w base e v xs) (hg : Blk w g t cs) (hne : e ≠ t) : v.ownBlock ≠ some g := by
  rcases h.2 with ⟨rfl, _⟩ | ⟨g', cap, cur, rfl, _, hh, _⟩
  · simp [Value.ownBlock]
  · intro he
    have : g' = g := by simpa [Value.ownBlock] using he
    subst this
    exact Blk.ne_ (t := e) hh hg hne rfl
/-- The shape of whatever is owned, and its cells. -/
theorem Own.shape (h : Own w base e v xs) : ∃ A c, v = .slice A xs.length c ∧ xs.length ≤ c ∧ c ≤ maxLen ∧ (∀ ad, A = some ad → ∃ g, ad = ⟨g, 0, none⟩ ∧ v.ownBlock = some g) ∧ (A = none → xs = []) ∧
    ∀ ad, A = some ad → ∀ j u, xs[j]? = some u → w.cell? (ad.add j) = some u := by
  rcases h.2 with ⟨rfl, hn⟩ | ⟨g, cap, cur, rfl, _, hh, hnc, hcm, _, ht⟩
  · have : xs = [] := List.eq_nil_of_length_eq_zero hn
    subst this
    exact ⟨none, 0, rfl, by simp, by simp [maxLen], by simp, by simp, by simp⟩
  · refine ⟨_, cap, rfl, hnc, hcm, ?_, by simp, ?_⟩
    · rintro ad e; injection e with e; subst e; exact ⟨g, rfl, rfl⟩
    · rintro ad e j u hu
      injection e with e; subst e
      exact World.ownsRow.cells h (g := g) rfl j u hu
end

section
variable {P : Program} {ops : Array Oper} {rest : List Oper} {o : Oper} {a : Act} {Q : Exit → Act → World → Prop}
/-- append(v, y): y stands in a box of one cell. -/
theorem wpList_app1 {w : World} (base : Nat) (hgd : o.guard = none) (s x : Operand) (t e : TypeId) (z : Value) (bytes : Nat)
    (ho : o.op = .call { callee := .builtin .append, args := #[s, x], argTypes := #[t, t] })
    (ht : P.underlying t = some (.slice e)) (hinfo : (P.info? e).map (fun i => (i.zero, i.size, i.bytes)) = some (some z, 1, bytes)) (hz : z.cells.size = 1)
    (v : Value) (xs : List Value) (y : Value) (ad : Addr) (c : Nat) (hs : a.eval s = v) (hx : a.eval x = .slice (some ad) 1 c) (hy : w.cell? ad = some y) (h1 : y.oneCell' = true)
    (HO : Own w base e v xs) (hbase : base ≤ w.heap.size) (hl : (xs.length + 1) * bytes ≤ 140737488355328) (hlm : xs.length + 1 ≤ 140737488355328)
    (h : ∀ v1 w1, Own w1 base e v1 (xs ++ [y]) → Same (fun k => v.ownBlock = some k) w w1 → (v1.ownBlock = v.ownBlock ∨ v1.ownBlock = some w.heap.size) → wpList P ops Q rest (a.put o.dst v1) w1) :
    wpList P ops Q (o :: rest) a w := by
  obtain ⟨i0, hi, hzz⟩ := Option.map_eq_some_iff.1 hinfo
  simp only [Prod.mk.injEq] at hzz
  obtain ⟨hz0, hz1, hz2⟩ := hzz
  refine wpList_append_own_at w hgd s x t ho base e i0 z 1 bytes ht hi hz0 hz1 hz2 hz (by omega) v xs.length xs hs HO ad 1 c [y] hx rfl
    (by intro j u hu; match j, hu with | 0, hu => simp at hu; subst hu; simpa [Addr.add_zero'] using hy) (by simpa using h1) (by simp only [maxLen]; omega) hl hbase ?_
  intro v1 w1 hown hg _ hat
  exact h v1 w1 (by unfold Own; simpa using hown) ⟨hg.os, hg.tape, hg.output, hg.size, fun k hk hS => hg.block k hk (fun e => hS e.symm)⟩ hat
end

/-- A slice's cells, wherever it lies. -/
def RdN (w : World) (A : Option Addr) (cs : List Value) : Prop := ∀ j u, cs[j]? = some u → ∃ b off, A = some ⟨b, off, none⟩ ∧ w.cell? ⟨b, off + j, none⟩ = some u
section
variable {P : Program} {ops : Array Oper} {rest : List Oper} {o : Oper} {a : Act} {Q : Exit → Act → World → Prop}
/-- append(v, src...), onto a row of the call's own. -/
theorem wpList_appN {w : World} (base : Nat) (hgd : o.guard = none) (s x : Operand) (t e : TypeId) (z : Value) (size bytes : Nat)
    (ho : o.op = .call { callee := .builtin .append, args := #[s, x], argTypes := #[t, t] })
    (ht : P.underlying t = some (.slice e)) (hinfo : (P.info? e).map (fun i => (i.zero, i.size, i.bytes)) = some (some z, size, bytes)) (hz : z.cells.size = size) (hsz : 0 < size)
    (v : Value) (n : Nat) (xs : List Value) (A : Option Addr) (m c : Nat) (news : List Value) (hs : a.eval s = v) (hx : a.eval x = .slice A m c) (hl : news.length = m * size) (hr : RdN w A news) (hnil : A = none → m = 0 ∧ c = 0) (h1 : ∀ u ∈ news, u.oneCell' = true)
    (HO : w.ownsRow base e size v n xs) (hbase : base ≤ w.heap.size) (hlb : (n + m) * bytes ≤ 140737488355328) (hlm : n + m ≤ 140737488355328)
    (h : ∀ v1 w1, w1.ownsRow base e size v1 (n + m) (xs ++ news) → Same (fun k => v.ownBlock = some k) w w1 → (v1.ownBlock = v.ownBlock ∨ v1.ownBlock = some w.heap.size) → wpList P ops Q rest (a.put o.dst v1) w1) :
    wpList P ops Q (o :: rest) a w := by
  obtain ⟨i0, hi, hzz⟩ := Option.map_eq_some_iff.1 hinfo
  simp only [Prod.mk.injEq] at hzz
  obtain ⟨hz0, hz1, hz2⟩ := hzz
  cases A with
  | none =>
    obtain ⟨rfl, rfl⟩ := hnil rfl
    have hn : news = [] := List.eq_nil_of_length_eq_zero (by simpa using hl)
    subst hn
    refine wpList_append_own_none hgd s x t ho base e i0 size ht hi v n xs hs HO hx ?_
    exact h v w (by simpa using HO) (Same.refl w) (.inl rfl)
  | some ad =>
    refine wpList_append_own_at w hgd s x t ho base e i0 z size bytes ht hi hz0 hz1 hz2 hz hsz v n xs hs HO ad m c news hx hl (fun j u hu => ?_) h1 (by simp only [maxLen]; omega) hlb hbase ?_
    · obtain ⟨b, off, e, hc⟩ := hr j u hu
      injection e with e
      subst e
      rw [Addr.add_lit]
      exact hc
    · intro v1 w1 hown hg _ hat
      exact h v1 w1 hown ⟨hg.os, hg.tape, hg.output, hg.size, fun k hk hS => hg.block k hk (fun e => hS e.symm)⟩ hat
end
/-- make([]T, l, c), T of one cell. -/
theorem run_make1 {P : Program} (t e : TypeId) (z : Value) (bytes : Nat) (ht : P.underlying t = some (.slice e)) (hinfo : (P.info? e).map (fun i => (i.zero, i.size, i.bytes)) = some (some z, 1, bytes)) (hz : z.cells = #[z])
    (l c : Nat) (hlc : l ≤ c) (hb : bytes * c ≤ 281474976710656) (hc : c ≤ 9223372036854775807) (w : World) :
    (Instr.makeSlice t (.int .i64 (l : Int)) (.int .i64 (c : Int))).run P w = .ok (.slice (some ⟨w.heap.size, 0, none⟩) l c) (w.alloc (.cells (madeCells #[z] c) e)) := by
  obtain ⟨i0, hi, hz0, hz1, hz2⟩ := info_parts hinfo
  have hb' : (i0.bytes : Int) * (c : Int) ≤ 281474976710656 := by
    have h : ((i0.bytes * c : Nat) : Int) ≤ 281474976710656 := by rw [hz2]; omega
    rwa [Int.natCast_mul] at h
  have := run_make (P := P) w t e i0 z ht hi hz0 .i64 .i64 l c (by omega) (by omega) hb' (by omega)
  simpa [hz1, hz] using this
theorem run_make0 {P : Program} (t e : TypeId) (z : Value) (bytes : Nat) (ht : P.underlying t = some (.slice e)) (hinfo : (P.info? e).map (fun i => (i.zero, i.size, i.bytes)) = some (some z, 1, bytes)) (hz : z.cells = #[z])
    (c : Nat) (hb : bytes * c ≤ 281474976710656) (hc : c ≤ 9223372036854775807) (w : World) :
    (Instr.makeSlice t (.int .i64 0) (.int .i64 (c : Int))).run P w = .ok (.slice (some ⟨w.heap.size, 0, none⟩) 0 c) (w.alloc (.cells (madeCells #[z] c) e)) :=
  run_make1 t e z bytes ht hinfo hz 0 c (Nat.zero_le _) hb hc w
theorem made_ints (k : IntKind) (n : Nat) : madeCells #[Value.int k 0] n = (ints k (List.replicate n 0)).toArray := by
  apply Array.ext
  · simp [ints, madeCells]
  · intro i h1 h2
    simp [ints, madeCells, Nat.mod_one]
theorem Own.made (w : World) (base : Nat) (e : TypeId) (z : Value) (l c : Nat) (hb : base ≤ w.heap.size) (hlc : l ≤ c) (hc : c ≤ 9223372036854775807) :
    Own (w.alloc (.cells (madeCells #[z] c) e)) base e (.slice (some ⟨w.heap.size, 0, none⟩) l c) (List.replicate l z) := by
  refine ⟨by simp, .inr ⟨w.heap.size, c, _, by simp, hb, heap_alloc_new w _, by simpa using hlc, by simpa [maxLen] using hc, by simp [madeCells], ?_⟩⟩
  apply List.ext_getElem
  · simp [madeCells]; omega
  · intro i h1 h2
    simp [madeCells, Nat.mod_one]

theorem Own.to_string {P : Program} {w : World} {base : Nat} {e' src dst e : TypeId} {v : Value} {xs : List Int} (h : Own w base e' v (ints .u8 xs))
    (hs : P.underlying src = some (.slice e)) (he : P.underlying e = some (.int .u8)) (hd : P.underlying dst = some .string) : (convert src dst v).run P w = .ok (.string (strOfNums xs)) w := by
  rcases h.2 with ⟨rfl, hn⟩ | ⟨g, cap, cur, rfl, _⟩
  · have : xs = [] := List.eq_nil_of_length_eq_zero (by simpa [ints] using hn)
    subst this
    exact run_convert_bytes_nil w src e hs he 0 0 dst hd
  · refine run_convert_bytes_arg w src e hs he g 0 _ cap xs (by simp [ints]) (fun i hi => ?_) dst hd
    have hl : i < xs.length := by simpa [ints] using hi
    have := World.ownsRow.cells h (g := g) rfl i (.int .u8 (xs.getD i 0)) (by simp [ints, List.getElem?_eq_getElem hl, List.getD_eq_getElem?_getD])
    rwa [Addr.add_lit] at this

/-! ### reading numbers out of a slice, wherever it lies -/
def RdI (w : World) (k : IntKind) (A : Option Addr) (xs : List Int) : Prop := ∀ i x, xs[i]? = some x → ∃ ad, A = some ad ∧ w.cell? (ad.add i) = some (.int k x)
section
variable {w w' : World} {k : IntKind} {A : Option Addr} {xs : List Int}
theorem RdI.at_ (h : RdI w k A xs) {i : Nat} (hi : i < xs.length) : ∃ ad, A = some ad ∧ w.cell? (ad.add i) = some (.int k (xs.getD i 0)) := by
  have := h i xs[i] (List.getElem?_eq_getElem hi)
  rwa [List.getD_eq_getElem?_getD, List.getElem?_eq_getElem hi]
theorem RdI.below {B : Nat} (h : RdI w k A xs) (hb : Below B w w') (hB : w.heap.size ≤ B) : RdI w' k A xs := fun i x hx => by
  obtain ⟨ad, e, hc⟩ := h i x hx
  exact ⟨ad, e, (hb.cell (Nat.lt_of_lt_of_le (World.block_lt_of_cell? w _ hc) hB)).trans hc⟩
theorem RdI.same {S : Nat → Prop} (h : RdI w k A xs) (hs : Same S w w') (hA : ∀ ad, A = some ad → ¬ S ad.block) : RdI w' k A xs := fun i x hx => by
  obtain ⟨ad, e, hc⟩ := h i x hx
  exact ⟨ad, e, hs.cell hc (by have := hA ad e; unfold Addr.add; split <;> simpa using this)⟩
theorem RdI.take (h : RdI w k A xs) (n : Nat) : RdI w k A (xs.take n) := fun i x hx => h i x (by rw [List.getElem?_take] at hx; split at hx <;> simp_all)
theorem RdI.nil_ : RdI w k A [] := fun i x hx => by simp at hx
theorem Own.rd {base : Nat} {e : TypeId} {v : Value} (h : Own w base e v (ints k xs)) : ∃ A c, v = .slice A xs.length c ∧ xs.length ≤ c ∧ RdI w k A xs := by
  obtain ⟨A, c, rfl, hc, _, _, hn, hr⟩ := h.shape
  rw [ints_length] at *
  refine ⟨A, c, rfl, hc, fun i x hx => ?_⟩
  cases A with
  | none => have := hn rfl; have : xs = [] := by simpa [ints] using this
            subst this; simp at hx
  | some ad => exact ⟨ad, rfl, hr ad rfl i _ (by rw [ints_at, hx]; rfl)⟩
end
theorem uint_rem (a : Int) (m : Nat) (h0 : 0 < m) (h : m ≤ 2147483648) : ∃ D : Nat, D < m ∧ wrap64 ((IntKind.u64.wrap a).tmod (m : Int)) = (D : Int) := by
  have hw := wrap_u64_nonneg a
  have h1 := Int.emod_nonneg (IntKind.u64.wrap a) (b := (m : Int)) (by omega)
  have h2 := Int.emod_lt_of_pos (IntKind.u64.wrap a) (b := (m : Int)) (by omega)
  refine ⟨(IntKind.u64.wrap a % (m : Int)).toNat, by omega, ?_⟩
  rw [Int.tmod_eq_emod_of_nonneg hw, IntWalk.wrap64_in _ (by omega)]
  omega
theorem uint_rem1 (a : Int) (m : Nat) (h0 : 0 < m) (h : m ≤ 2147483648) : ∃ D : Nat, 1 ≤ D ∧ D ≤ m ∧ wrap64 (1 + wrap64 ((IntKind.u64.wrap a).tmod (m : Int))) = (D : Int) := by
  obtain ⟨D, h1, h2⟩ := uint_rem a m h0 h
  exact ⟨D + 1, by omega, by omega, by rw [h2, IntWalk.wrap64_in _ (by omega)]; omega⟩
theorem take_next {α : Type} (xs : List α) (k : Nat) (d : α) (h : k < xs.length) : xs.take (k + 1) = xs.take k ++ [xs.getD k d] := by
  rw [List.take_succ_eq_append_getElem h, List.getD_eq_getElem?_getD, List.getElem?_eq_getElem h]; rfl
theorem exists_list {α : Type} {P : Nat → α → Prop} : ∀ n : Nat, (∀ i, i < n → ∃ x, P i x) → ∃ l : List α, l.length = n ∧ ∀ i x, l[i]? = some x → P i x
  | 0, _ => ⟨[], rfl, fun i x h => by simp at h⟩
  | n + 1, h => by
    obtain ⟨l, hl, hp⟩ := exists_list n (fun i hi => h i (by omega))
    obtain ⟨x, hx⟩ := h n (by omega)
    refine ⟨l ++ [x], by simp [hl], fun i y hy => ?_⟩
    by_cases hi : i < n
    · rw [List.getElem?_append_left (by omega)] at hy; exact hp i y hy
    · rw [List.getElem?_append_right (by omega)] at hy
      match hd : i - l.length, hy with
      | 0, hy => simp at hy; subst hy; have : i = n := by omega
                 subst this; exact hx
      | m + 1, hy => simp at hy

/-! ### bytes of a slice, as a text -/
def RdB (w : World) (A : Option Addr) (xs : List Int) : Prop :=
  (A = none ∧ xs = []) ∨ ∃ b off, A = some ⟨b, off, none⟩ ∧ ∀ i, i < xs.length → w.cell? ⟨b, off + i, none⟩ = some (.int .u8 (xs.getD i 0))
section
variable {w w' : World} {A : Option Addr} {xs : List Int}
theorem RdB.nil_ : RdB w none [] := .inl ⟨rfl, rfl⟩
theorem RdB.to_string {P : Program} {src dst e : TypeId} {n c : Nat} (h : RdB w A xs) (hn : n = xs.length) (hs : P.underlying src = some (.slice e)) (he : P.underlying e = some (.int .u8)) (hd : P.underlying dst = some .string) :
    (convert src dst (.slice A n c)).run P w = .ok (.string (strOfNums xs)) w := by
  subst hn
  rcases h with ⟨rfl, rfl⟩ | ⟨b, off, rfl, hc⟩
  · exact run_convert_bytes_nil w src e hs he 0 c dst hd
  · exact run_convert_bytes_arg w src e hs he b off _ c xs rfl (fun i hi => hc i hi) dst hd
theorem RdB.same {S : Nat → Prop} (h : RdB w A xs) (hs : Same S w w') (hA : ∀ ad, A = some ad → ¬ S ad.block) : RdB w' A xs := by
  rcases h with h | ⟨b, off, rfl, hc⟩
  · exact .inl h
  · exact .inr ⟨b, off, rfl, fun i hi => hs.cell (hc i hi) (hA ⟨b, off, none⟩ rfl)⟩
theorem RdB.cut (h : RdB w A xs) (k cap : Nat) (hk : k ≤ xs.length) (hc : xs.length ≤ cap) : RdB w (if cap = k then A else A.map (fun x => x.add k)) (xs.drop k) := by
  rcases h with ⟨rfl, rfl⟩ | ⟨b, off, rfl, hcell⟩
  · exact .inl ⟨by simp, by simp⟩
  · split
    · rename_i e
      refine .inr ⟨b, off, rfl, fun i hi => ?_⟩
      simp at hi; omega
    · refine .inr ⟨b, off + k, by simp [Addr.add_lit], fun i hi => ?_⟩
      simp only [List.length_drop] at hi
      have := hcell (k + i) (by omega)
      rw [Nat.add_assoc, this]
      simp [List.getD_eq_getElem?_getD]
theorem Own.rdb {base : Nat} {e : TypeId} {v : Value} (h : Own w base e v (ints .u8 xs)) : ∃ A c, v = .slice A xs.length c ∧ xs.length ≤ c ∧ c ≤ 9223372036854775807 ∧ RdB w A xs ∧ ∀ ad, A = some ad → v.ownBlock = some ad.block := by
  obtain ⟨A, c, rfl, hc, hm, hg, hn, hr⟩ := h.shape
  rw [ints_length] at *
  refine ⟨A, c, rfl, hc, by simpa [maxLen] using hm, ?_, ?_⟩
  · cases A with
    | none => exact .inl ⟨rfl, by simpa [ints] using hn rfl⟩
    | some ad =>
      obtain ⟨g, rfl, _⟩ := hg ad rfl
      refine .inr ⟨g, 0, rfl, fun i hi => ?_⟩
      have := hr _ rfl i (.int .u8 (xs.getD i 0)) (by rw [ints_at, List.getD_eq_getElem?_getD, List.getElem?_eq_getElem hi]; rfl)
      rwa [Addr.add_lit] at this
  · rintro ad rfl
    rfl
end

/-! ### a region that draws its order, whose operations read old memory, and whose calls leave it (but for the blocks of S): one walk in the text's order -/
structure Ext (S : Nat → Prop) (W : World) where
  world : World
  same : Same S W world
instance (S : Nat → Prop) (W : World) : Nonempty (Ext S W) := ⟨⟨W, Same.refl W⟩⟩
theorem wp_region_ext (S : Nat → Prop) {P : Program} {id : Nat} {Q : Exit → Act → World → Prop} {a : Act} {W : World} {l : List Oper} (hm : P.follows .mixedOrders = true) (hB : Region.lexB .any l.toArray = true)
    (h : wpQuiet P l.toArray (fun u => ∃ d : Ext S W, u = d.world) (fun a' => ∀ u, (∃ d : Ext S W, u = d.world) → Q .normal a' u) l a) : (Code.region id l.toArray true).wp P Q a W :=
  wp_region_quiet (C := fun u => ∃ d : Ext S W, u = d.world) hm hB ⟨⟨W.drew, (Same.refl W).drew⟩, rfl⟩ (by simpa using h)
/-- A callee's contract inside such a region. -/
theorem ext_call {S : Nat → Prop} {P : Program} {f : FuncId} {args : Array Value} {W : World} {d : Ext S W} {v : Value}
    (h : Calls P f args d.world fun e w' => e = .returned v ∧ Same S d.world w') : Calls P f args d.world fun e u => e = .returned v ∧ ∃ d' : Ext S W, u = d'.world :=
  h.mono fun _ u ⟨he, hs⟩ => ⟨he, ⟨u, d.same.then hs⟩, rfl⟩
theorem ext_call_below {S : Nat → Prop} {P : Program} {f : FuncId} {args : Array Value} {W : World} {d : Ext S W} {v : Value}
    (h : Calls P f args d.world fun e w' => e = .returned v ∧ Below d.world.heap.size d.world w') : Calls P f args d.world fun e u => e = .returned v ∧ ∃ d' : Ext S W, u = d'.world :=
  ext_call (h.mono fun _ _ ⟨he, hs⟩ => ⟨he, Same.of_below hs⟩)

/-! ### x & (2^j - 1) of an int -/
theorem and_mask (x : Int) (j : Nat) (hj : j ≤ 62) : bits .and .i64 x ((2 ^ j - 1 : Nat) : Int) = x % ((2 ^ j : Nat) : Int) := by
  have hp : 2 ^ j ≤ 2 ^ 62 := Nat.pow_le_pow_right (by omega) hj
  have hp0 : 0 < 2 ^ j := Nat.pow_pos (by omega)
  have e1 : (BitVec.ofInt 64 ((2 ^ j - 1 : Nat) : Int)).toNat = 2 ^ j - 1 := by
    rw [BitVec.ofInt_natCast, BitVec.toNat_ofNat]; exact Nat.mod_eq_of_lt (by omega)
  have e2 : (((BitVec.ofInt 64 x).toNat : Nat) : Int) = x % 18446744073709551616 := by
    rw [BitVec.toNat_ofInt]; omega
  show IntKind.i64.wrap ((BitVec.ofInt 64 x &&& BitVec.ofInt 64 ((2 ^ j - 1 : Nat) : Int)).toNat : Int) = _
  rw [BitVec.toNat_and, e1, Nat.and_two_pow_sub_one_eq_mod, IntKind.wrap_i64]
  have hd : (((2 ^ j : Nat) : Int)) ∣ 18446744073709551616 := by
    have : (2 ^ j) ∣ 2 ^ 64 := Nat.pow_dvd_pow 2 (by omega)
    have h2 := Int.natCast_dvd_natCast.2 this
    exact h2
  have e3 : (((BitVec.ofInt 64 x).toNat % 2 ^ j : Nat) : Int) = x % ((2 ^ j : Nat) : Int) := by
    rw [Int.natCast_emod, e2, Int.emod_emod_of_dvd _ hd]
  have h1 := Int.emod_nonneg x (b := ((2 ^ j : Nat) : Int)) (by omega)
  have h2 := Int.emod_lt_of_pos x (b := ((2 ^ j : Nat) : Int)) (by omega)
  rw [e3]
  generalize x % ((2 ^ j : Nat) : Int) = y at *
  omega
theorem and_63 (x : Int) : bits .and .i64 x 63 = x % 64 := and_mask x 6 (by omega)
theorem and_15 (x : Int) : bits .and .i64 x 15 = x % 16 := and_mask x 4 (by omega)
theorem and_1023 (x : Int) : bits .and .i64 x 1023 = x % 1024 := and_mask x 10 (by omega)
theorem and_127 (x : Int) : bits .and .i64 x 127 = x % 128 := and_mask x 7 (by omega)
theorem and_31 (x : Int) : bits .and .i64 x 31 = x % 32 := and_mask x 5 (by omega)
theorem and_7 (x : Int) : bits .and .i64 x 7 = x % 8 := and_mask x 3 (by omega)
theorem and_3 (x : Int) : bits .and .i64 x 3 = x % 4 := and_mask x 2 (by omega)
theorem nat_of_mod (x : Int) (m : Nat) (h : 0 < m) : ∃ n : Nat, n < m ∧ x % (m : Int) = n := ⟨(x % (m : Int)).toNat, by
  have h1 := Int.emod_nonneg x (b := (m : Int)) (by omega)
  have h2 := Int.emod_lt_of_pos x (b := (m : Int)) (by omega)
  omega, by have h1 := Int.emod_nonneg x (b := (m : Int)) (by omega); omega⟩

/-! ### min, max of two whole numbers: 'attribute [local go_sem] max2i min2i max2t min2t max3t min3t' in a text of walks -/
theorem max2i (k k' : IntKind) (x y : Int) : Builtin.max2 (.int k x) (.int k' y) = pure (.int k (max x y)) := by
  have : max x y = if x < y then y else x := by split <;> omega
  simp only [Builtin.max2, gt_iff_lt, this]
theorem min2i (k k' : IntKind) (x y : Int) : Builtin.min2 (.int k x) (.int k' y) = pure (.int k (min x y)) := by
  have : min x y = if y < x then y else x := by split <;> omega
  simp only [Builtin.min2, this]
theorem max2t (ats : Array TypeId) (ty : TypeId) (a b : Value) : Builtin.max_ ats ty #[a, b] = (Builtin.max2 a b >>= fun s => pure s) := by simp only [Builtin.max_, List.foldlM_cons, List.foldlM_nil]
theorem min2t (ats : Array TypeId) (ty : TypeId) (a b : Value) : Builtin.min_ ats ty #[a, b] = (Builtin.min2 a b >>= fun s => pure s) := by simp only [Builtin.min_, List.foldlM_cons, List.foldlM_nil]
/-! ### arguments: what a slice that came in reads as -/
/-- The slice value with address A, capacity c holds the numbers xs. -/
structure RowOf (w : World) (k : IntKind) (A : Option Addr) (c : Nat) (xs : List Int) : Prop where
  rd : RdI w k A xs
  cap : xs.length ≤ c
  most : c ≤ 9223372036854775807
  wf : ∀ x ∈ xs, (Lit.int k x).wf = true
  nil : A = none → c = 0
/-- The same for structs of m cells each, told by 'enc'. -/
structure RowS {α : Type} (w : World) (m : Nat) (A : Option Addr) (c : Nat) (xs : List α) (enc : α → List Value) (ok : α → Prop) : Prop where
  rd : ∀ i x, xs[i]? = some x → ∃ b off, A = some ⟨b, off, none⟩ ∧ ∀ j v, (enc x)[j]? = some v → w.cell? ⟨b, off + i * m + j, none⟩ = some v
  cap : xs.length ≤ c
  most : c ≤ 9223372036854775807
  ok : ∀ x ∈ xs, ok x
  nil : A = none → c = 0
theorem RowS.nil_ {α : Type} {w : World} {m : Nat} {enc : α → List Value} {ok : α → Prop} : RowS w m none 0 [] enc ok := ⟨fun i x h => by simp at h, by simp, by simp, fun x h => by simp at h, fun _ => rfl⟩
theorem cell_plain {w : World} {a : Addr} {n : Nat} {v : Value} (h : w.cell? (a.add n) = some v) : w.cell? ⟨a.block, a.off + n, none⟩ = some v ∧ (n = 0 → a.spot = none) := by
  unfold Addr.add at h
  split at h
  · rename_i e
    subst e
    have hs : a.spot = none := by
      unfold World.cell? at h
      split at h
      · split at h
        · cases h
        · rename_i hn; simpa using hn
      · cases h
    obtain ⟨b, o, s⟩ := a
    simp only at hs
    subst hs
    exact ⟨h, fun _ => rfl⟩
  · rename_i hn
    exact ⟨h, fun e => absurd e hn⟩
theorem RowS.mk_ {α : Type} {w : World} {m : Nat} {a : Addr} {c : Nat} {xs : List α} {enc : α → List Value} {ok : α → Prop} (hl : xs.length ≤ c) (hm : c ≤ maxLen)
    (h : ∀ i x, xs[i]? = some x → (∀ j v, (enc x)[j]? = some v → w.cell? (a.add (i * m + j)) = some v) ∧ ok x) (h1 : ∀ x, ∃ v, (enc x)[0]? = some v) : RowS w m (some a) c xs enc ok :=
  ⟨fun i x hx => by
    have hs : a.spot = none := by
      have h0 : 0 < xs.length := by have := (List.getElem?_eq_some_iff.1 hx).1; omega
      obtain ⟨v, hv⟩ := h1 xs[0]
      have := (h 0 xs[0] (List.getElem?_eq_getElem h0)).1 0 v hv
      rw [Nat.zero_mul, Nat.zero_add] at this
      exact (cell_plain this).2 rfl
    refine ⟨a.block, a.off, by obtain ⟨b, o, s⟩ := a; simp only at hs; subst hs; rfl, fun j v hv => ?_⟩
    rw [Nat.add_assoc]
    exact (cell_plain ((h i x hx).1 j v hv)).1, hl, by simpa [maxLen] using hm, fun x hx => by obtain ⟨i, hi⟩ := List.getElem?_of_mem hx; exact (h i x hi).2, by simp⟩
section
open Go.ChangeShapes Go.WideShapes Go.Deep
variable {H : Type} {enc : TypeId × Value → H} {P : Program} {w : World} {base : Nat} {spare : Nat → Bool} {held : Bool}
theorem rd_ints {t e : TypeId} {k : IntKind} {fuel : Nat} {cs : List Value} {x : DataW H × List MemPlace} (ht : P.underlying t = some (.slice e)) (he : P.underlying e = some (.int k)) (hc : P.cellsOf e = 1)
    (h : DataW.trod enc P w base spare held fuel t cs = some x) : ∃ A c l, cs = [.slice A (List.length l) c] ∧ RowOf w k A c l := by
  rcases open_ints ht he hc h with ⟨rfl, _⟩ | ⟨a, len, cap, zs, rfl, _, hl, hm, hz, _, hcell, hwf⟩
  · exact ⟨none, 0, [], rfl, RdI.nil_, by simp, by simp, by simp, by simp⟩
  · have hzl : len ≤ zs.length := by rw [hz]; split <;> omega
    have e : (zs.take len).length = len := by rw [List.length_take]; omega
    refine ⟨some a, cap, zs.take len, by rw [e], fun i y hy => ⟨a, rfl, ?_⟩, by rw [e]; exact hl, by simpa [maxLen] using hm, fun y hy => hwf y (List.mem_of_mem_take hy), by simp⟩
    rw [List.getElem?_take] at hy
    split at hy
    · rename_i hi
      rw [hcell i (by omega), List.getD_eq_getElem?_getD, hy]; rfl
    · simp at hy
theorem rd_structs {t e : TypeId} {fs : Array Field} {fuel : Nat} {cs : List Value} {x : DataW H × List MemPlace} (ht : P.underlying t = some (.slice e)) (he : P.underlying e = some (.struct fs))
    (hone : oneCellFields P fs = true) (hC : P.cellsOf e = fs.size) (h : DataW.trod enc P w base spare held fuel t cs = some x) :
    cs = [.slice none 0 0] ∨
    ∃ (a : Addr) (len cap : Nat), cs = [.slice (some a) len cap] ∧ len ≤ cap ∧ cap ≤ maxLen ∧
      ∀ i, i < len → ∀ (j : Nat) (f : Field), fs[j]? = some f → ∃ (v : Value) (y : DataW H × List MemPlace) (n : Nat), w.cell? (a.add (i * fs.size + j)) = some v ∧ DataW.trod enc P w base spare held n f.type [v] = some y := by
  rcases open_slice ht h with h0 | ⟨a, len, cap, m, n, D, Pl, hcs, hb, hl, hm, hmm, hx, hi⟩
  · exact .inl h0.1
  · refine .inr ⟨a, len, cap, hcs, hl, hm, fun i him j f hj => ?_⟩
    obtain ⟨cs', hc, ht'⟩ := hi i (by rw [hmm]; split <;> omega)
    rw [hC] at hc
    obtain ⟨ys, n', hn', hy, hlen, hyl, hf⟩ := DataW.trod_struct he ht'
    obtain ⟨_, hcl, hat⟩ := World.cells?_some hc
    obtain ⟨ho, hk⟩ := hone_of hone j f hj
    have hjl : j < fs.size := (Array.getElem?_eq_some_iff.1 hj).1
    have hcell := hat j hjl
    have hv : cs'[j]? = some (cs'[j]'(by omega)) := List.getElem?_eq_getElem (by omega)
    have h1 := hf j f hj
    rw [ho, hk] at h1
    have hone' : (cs'.drop j).take 1 = [cs'[j]'(by omega)] := by
      rw [List.drop_eq_getElem_cons (by omega)]
      rfl
    rw [hone'] at h1
    have hys : ys[j]? = some (ys[j]'(by omega)) := List.getElem?_eq_getElem (by omega)
    refine ⟨_, _, n', ?_, h1.trans hys⟩
    rw [← Go.Deep.add_add, hcell, hv]
end

end Go.Proofs.Yteknaaijlkenkaa
