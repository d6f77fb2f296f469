import Derived.Test.YtoofkcbgldbfpaaRRRBitX
namespace Go.Proofs.YtoofkcbgldbfpaaRRR
set_option linter.unusedVariables false
set_option linter.unusedSimpArgs false
open Go.RowKit

theorem u8wf {x : Int} (h : 0 ≤ x ∧ x < 256) : (Lit.int .u8 x).wf = true := by
  simp [Lit.wf, IntKind.min, IntKind.max, IntKind.bits, IntKind.signed]; omega
theorem u8_of {x : Int} (h : (Lit.int .u8 x).wf = true) : 0 ≤ x ∧ x < 256 := by
  simp [Lit.wf, IntKind.min, IntKind.max, IntKind.bits, IntKind.signed] at h; omega
theorem packB_wf {t : List Int} (h : bin t) : ∀ x ∈ packB t, (Lit.int .u8 x).wf = true := fun x hx => u8wf (packN_u8 h _ x hx)

set_option maxHeartbeats 1600000 in
set_option maxRecDepth 100000 in
theorem wr_bytes {base p : Nat} {v : Value} {t : List Int} {w : World} (h : WrAt w base p v t) :
    Calls Try.prog 20 #[.pointer (some ⟨p, 0, none⟩)] w fun e w' => ∃ A c, e = .returned (.slice A (packB t).length c) ∧ Own w' w.heap.size 5 (.slice A (packB t).length c) (ints .u8 (packB t)) ∧ RowOf w' .u8 A c (packB t) ∧ Below w.heap.size w w' ∧ (∀ ad, A = some ad → w.heap.size ≤ ad.block ∧ ad.block < w'.heap.size) := by
  obtain ⟨A, c, rfl, hr, _⟩ := h.row.row (packB_wf h.bin)
  have c0 := h.pb.cell 0
  have hpl := h.pb.lt
  have hpne : p ≠ w.heap.size := by omega
  have hl : (packB t).length ≤ 1099511627776 := by rw [packB_length]; have := h.hi; omega
  clear h
  generalize packB t = xs at *
  go_enter Try.func20, Try.ntmps20
  go_wp2_with (at_builtin; go_loud (refine wpList_fresh .u8 rfl (.tmp 5) (.tmp 9) 33 5 1 rfl Try.underlying33 Try.u8inf A c xs rfl rfl hr (by omega) (by omega) ?_); intro A' c' w1 ho hr' hb ha)
  go_ret
  exact ⟨A', c', rfl, ho, hr', hb, ha⟩

set_option maxHeartbeats 1600000 in
set_option maxRecDepth 100000 in
theorem wr_raw {base p : Nat} {v : Value} {t : List Int} {w : World} {A : Option Addr} {c : Nat} {bs : List Int} (h : WrAt w base p v t) (hr : RowOf w .u8 A c bs) (hA : ∀ ad, A = some ad → bs ≠ [] → ad.block ≠ p ∧ v.ownBlock ≠ some ad.block) (hbase : base ≤ w.heap.size) (hl : t.length + 8 * bs.length + 8 ≤ 1099511627776) :
    Calls Try.prog 32 #[.pointer (some ⟨p, 0, none⟩), .slice A bs.length c] w fun e w' => e = .returned (.tuple #[]) ∧ ∃ v', WrTo w w' base p v v' (alignT t ++ ofB bs) := by
  have HA := Lib.hid (wr_align h (by omega))
  have hvp : v.ownBlock ≠ some p := h.row.blk_ne h.pb (by decide)
  have hpl := h.pb.lt
  have hm := hr.most
  go_enter Try.func32, Try.ntmps32
  go_wp2_with fail
  refine HA.out.mono ?_
  rintro e w1 ⟨rfl, ha⟩
  have hat := ha.at_
  have pb := hat.pb
  rw [alignT_length] at pb
  have row := hat.row
  rw [packB_align] at row
  have hr1 : RowOf w1 .u8 A c bs := by
    by_cases hbs : bs = []
    · subst hbs; exact hr.empty
    · exact hr.same ha.same (fun ad e => by have := hA ad e hbs; rintro (h | h); exact this.1 h; exact this.2 h)
  have hz := ha.size
  have hpl1 : p < w1.heap.size := by omega
  have c0 := pb.cell 0
  have f0 := pb.frozen 0
  have hpk := packB_length t
  generalize hn : t.length = n at *
  have HPK := Lib.hid hpk
  have HN := Lib.hid hn
  have hs1 := ha.same
  have hbt := h.bin
  clear hpk hn HA h ha hat
  go_wp2_with (at_builtin; refine wpList_cat .u8 base rfl (.tmp 12) (.tmp 13) 33 5 1 rfl Try.underlying33 Try.u8inf v (packB t) A c bs rfl rfl row hr1 (by omega) ((n + 7) / 8 + bs.length) (by rw [HPK.out]) (by omega) (by omega) (packB_wf hbt) ?_; intro A' c' w2 ho2 hr2 hs2 hat2; have pb2 := pb.same hs2 hvp; clear c0 f0; have c0 := pb2.cell 0; have c1 := pb2.cell 1; have f0 := pb2.frozen 0; have f1 := pb2.frozen 1)
  ((try simp only [Exit.inBlock, Exit.then]); first | refine bodyPost_end (results_none rfl _ _ _) rfl ?_ | refine bodyPost_ret (results_none rfl _ _ _) rfl ?_)
  refine ⟨rfl, .slice A' ((n + 7) / 8 + bs.length) c', ⟨?_, ?_, bin_append (bin_align hbt) (bin_ofB _), ?_⟩, ?_, ?_⟩
  · have hle : (alignT t ++ ofB bs).length = (n + 7) / 8 * 8 + 8 * bs.length := by rw [List.length_append, alignT_length, ofB_length, HN.out]
    have := (pb2.set_ 0 (.slice A' ((n + 7) / 8 + bs.length) c')).set_ 1 (.int .i64 (((n : Int) + 7) / 8 * 8 + 8 * (bs.length : Int)))
    rw [hle, show (((n + 7) / 8 * 8 + 8 * bs.length : Nat) : Int) = ((n : Int) + 7) / 8 * 8 + 8 * (bs.length : Int) from by omega]
    simpa using this
  · rw [packB_raw (fun x hx => u8_of (hr.wf x hx))]
    have hne : ∀ g, (Value.slice A' ((n + 7) / 8 + bs.length) c').ownBlock = some g → g ≠ p := fun g hg e => by
      subst e
      rcases hat2 with e2 | e2
      · rw [hg] at e2; exact hvp e2.symm
      · rw [hg] at e2; injection e2 with e2; omega
    exact ho2.kept ((Same.set_ (S := fun k => k = p) (p := ⟨p, 0, none⟩) (Same.refl _) (fun _ => rfl) _).set_ (p := ⟨p, 1, none⟩) (fun _ => rfl) _) hne
  · rw [List.length_append, alignT_length, ofB_length, HN.out]; omega
  · exact ((hs1.trans hs2 (fun i _ c => .inr c)).set_ (fun _ => .inl rfl) _).set_ (fun _ => .inl rfl) _
  · rcases hat2 with e2 | e2
    · exact .inl e2
    · exact .inr ⟨_, e2, by omega⟩
end Go.Proofs.YtoofkcbgldbfpaaRRR
