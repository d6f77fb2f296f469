import Derived.Test.YtbcngpmgimackaaArgs
import Derived.Test.YtbcngpmgimackaaWin
import Derived.Test.YtbcngpmgimackaaWinT
import Derived.Deep.DeepCutAuto
import Derived.Deep.CutBlock
namespace Go.Proofs.Ytbcngpmgimackaa
open Go.RowKit
attribute [local go_sem] max2i min2i max2t min2t

structure PlayRel (w : World) (B p r n : Nat) (L : Nat) (g : Nat) (v9 v10 : Value) (wr : World) : Prop where mk ::
  out : ∃ k all, k ≤ L ∧ k ≤ 60 ∧ 60 ≤ g + k ∧ v10 = .int .i64 (k : Int) ∧ Win wr p r n all ∧ Own wr B 5 v9 (ints .u8 all) ∧ B ≤ wr.heap.size ∧ all.length ≤ k * 100 ∧ Below w.heap.size w wr

set_option maxHeartbeats 1600000 in
set_option maxRecDepth 100000 in
theorem plays_bad (size : Int) (v : Value) (w : World) (h : size < 1 ∨ 65536 < size) :
    Calls Try.prog 3 #[.int .i64 size, v] w fun e w' => e = .returned (.bool true) ∧ Below w.heap.size w w' := by
  have ht := fun W => Lib.hid (told10 W)
  have hn := fun W => Lib.hid (new_bad (w := W) h)
  by_cases h1 : 65536 < size
  · go_enter Try.func3, Try.ntmps3
    go_wp2_with (first | (go_at_call 11; refine (ht _).out.mono ?_; rintro e w' ⟨rfl, hb⟩) | (go_at_call 10; refine (hn _).out.mono ?_; rintro e w' ⟨rfl, rfl⟩))
    go_ret
    exact ⟨rfl, hb⟩
  · have h2 : size < 1 := by omega
    go_enter Try.func3, Try.ntmps3
    go_wp2_with (first | (go_at_call 11; refine (ht _).out.mono ?_; rintro e w' ⟨rfl, hb⟩) | (go_at_call 10; refine (hn _).out.mono ?_; rintro e w' ⟨rfl, rfl⟩))
    go_ret
    exact ⟨rfl, hb⟩

structure PlayRel2 (w : World) (B p r n : Nat) (all : List Int) (D M : Nat) (g : Nat) (v9 v17 : Value) (wr : World) : Prop where mk ::
  out : ∃ j, j ≤ M ∧ M ≤ g + j ∧ v17 = .int .i64 (j : Int) ∧ Win wr p r n all ∧ Own wr B 5 v9 (ints .u8 (ext all D j)) ∧ B ≤ wr.heap.size ∧ Below w.heap.size w wr
/-- The box of an op. -/
def opBox (x : S30) : Array Value := #[.int .i64 x.f0, .int .i64 x.f1, .int .i64 x.f2, .int .u8 x.f3, .bool x.f4]

set_option maxHeartbeats 1600000 in
set_option maxRecDepth 100000 in
theorem windowPlays_walk (size : Int) (A : Option Addr) (c : Nat) (l : List S30) (w : World) (_ : (Lit.int .i64 size).wf = true) (h00 : RowS w 5 A c l S30.enc (S30.ok w)) :
    Calls Try.prog 3 #[.int .i64 size, .slice A l.length c] w fun e w' => e = .returned (.bool true) ∧ Below w.heap.size w w' := by
  by_cases hsz : size < 1 ∨ 65536 < size
  · exact plays_bad size _ w hsz
  have hsz1 : 1 ≤ size := by omega
  have hsz2 : size ≤ 65536 := by omega
  obtain ⟨n, rfl⟩ : ∃ n : Nat, size = n := ⟨size.toNat, by omega⟩
  clear hsz
  have ht := fun W => Lib.hid (told10 W)
  have hm := h00.most
  have hcap := h00.cap
  have b1 : decide ((65536 : Int) < n) = false := by simp; omega
  have b2 : decide ((n : Int) < 1) = false := by simp; omega
  go_enter Try.func3, Try.ntmps3
  go_wp2_with fail
  refine (win_new (n := n) (by omega) (by omega)).mono ?_
  rintro e w1 ⟨p, r, rfl, hw1, hp, hr, s1⟩
  have B1 : Below w.heap.size w w1 := s1.below (fun _ _ c => c)
  have hpl : p < w1.heap.size := by obtain ⟨_, x⟩ := hw1; exact x.pb.lt
  have hrl : r < w1.heap.size := by obtain ⟨_, x⟩ := hw1; exact x.rb.lt
  go_wp2_with fail
  have hBw := B1.size
  go_loopg [9, 10] 60 (PlayRel w w1.heap.size p r n l.length)
  case atStart => exact ⟨0, [], by omega, by omega, by omega, rfl, hw1, Own.nil _ _ _, Nat.le_refl _, by simp, B1⟩
  case round =>
    generalize w1.heap.size = B at *
    clear hw1 B1 s1
    obtain ⟨k, all, hk, hk6, hg, rfl, hw1, hO, hB, hall, hb⟩ := hrel
    by_cases hlt : k < l.length
    · by_cases h60 : k < 60
      · obtain ⟨x, hx⟩ : ∃ x, l[k]? = some x := ⟨_, List.getElem?_eq_getElem hlt⟩
        obtain ⟨b, off, rfl, c0, c1, c2, c3, c4⟩ := S30.at_ h00 hb hx
        clear hx
        have f3 := Blk.new wr 30 (opBox x)
        have g1 := hw1.kept ((Same.refl (S := fun _ => False) wr).alloc (.cells (opBox x) 30)) (fun c => c) (fun c => c)
        have gO := hO.alloc (.cells (opBox x) 30)
        have gb := hb.alloc hb.size (.cells (opBox x) 30)
        have gs : wr.heap.size < (wr.alloc (.cells (opBox x) 30)).heap.size := by simp
        have gown : ∀ g, u9.ownBlock = some g → g < wr.heap.size := fun g hg => hO.lt g hg
        have gbase : ∀ g, u9.ownBlock = some g → B ≤ g := fun g hg => hO.base_le g hg
        by_cases hkind : (wrap64 (x.f0.tmod 3 + 3)).tmod 3 < 2
        · go_wp2_with fail
          change Calls _ _ _ (wr.alloc (.cells (opBox x) 30)) _
          clear hw1 hO hb c0 c1 c2 c3 c4
          generalize wr.alloc (.cells (opBox x) 30) = W0 at *
          generalize wr.heap.size = o at *
          refine (win_put x.f3 g1 (by omega)).mono ?_
          rintro e w3 ⟨rfl, g3, s3⟩
          have f4 := (f3.same s3 (by rintro (rfl | rfl) <;> omega)).cell 3
          have hb3 := s3.below_of gb gb.size (fun i hi c => by rcases c with rfl | rfl <;> omega)
          have hO3 := gO.kept s3 (fun g hg c => by have := gbase g hg; rcases c with rfl | rfl <;> omega)
          have hz3 := s3.size
          have hf4 : (opBox x)[3]? = some (.int .u8 x.f3) := rfl
          rw [hf4] at f4
          clear g1 gb s3 gO hf4
          go_wp2_with (at_builtin; go_loud (refine wpList_app1 B rfl (.tmp 71) (.tmp 74) 28 5 (.int .u8 0) 1 rfl Try.underlying28 Try.u8info rfl u9 _ (.int .u8 x.f3) ⟨w3.heap.size, 0, none⟩ 1 rfl rfl ?c1 rfl (hO3.alloc _) ?c2 ?c3 ?c4 ?_))
          case c1 => simp
          case c2 => simp; omega
          case c3 => simp [ints]; omega
          case c4 => simp [ints]; omega
          intro v4 w4 hO4 s4 hat
          have g4 := (g3.kept ((Same.refl (S := fun _ => False) w3).alloc _) (fun c => c) (fun c => c)).kept s4 (fun c => by have := gbase p c; omega) (fun c => by have := gbase r c; omega)
          have hb4 := s4.below_of (hb3.alloc hb3.size _) (by simp; omega) (fun i hi c => by have := gbase i c; omega)
          have hO5 : Own w4 B 5 v4 (ints .u8 (all ++ [x.f3])) := by rw [ints_append]; exact hO4
          have hz4 := s4.size
          rw [World.size_alloc] at hz4
          clear hO4 s4 g3 hb3 hO3
          have hlN : (all ++ [x.f3]).length ≤ 100 * k + 100 := by simp; omega
          have e8 : (((min (all ++ [x.f3]).length n : Nat) : Int) != min ((all ++ [x.f3]).length : Int) (n : Int)) = false := by rw [bne_eq_false_iff_eq]; omega
          have e9 : (((all ++ [x.f3]).length : Int) != (all ++ [x.f3]).length) = false := by simp
          obtain ⟨A9, c9, eA, _, _, _, _⟩ := hO5.rdb
          cases eA
          have hO5' := Lib.hid hO5
          clear hO5
          go_wp2_with fail
          refine (win_have g4).mono ?_
          rintro e w8 ⟨rfl, rfl⟩
          go_wp2_with fail
          refine (win_total g4.drew).mono ?_
          rintro e w8 ⟨rfl, rfl⟩
          go_wp2_with fail
          go_roundg (gk - 1)
          case measure => omega
          case rel => exact ⟨k + 1, all ++ [x.f3], by omega, by omega, by omega, by go_num, g4.drew, (by first | exact hO5'.out.drew | simpa using hO5'.out.drew), by simp; omega, by omega, hb4.drew⟩
        · have hk2 : 2 ≤ (wrap64 (x.f0.tmod 3 + 3)).tmod 3 := by omega
          have f1 : ∀ d : Ext (fun _ => False) (wr.alloc (.cells (opBox x) 30)), d.world.cell? ⟨wr.heap.size, 1, none⟩ = some (.int .i64 x.f1) := fun d => d.same.cell (f3.cell 1) (fun c => c)
          have f2 : ∀ d : Ext (fun _ => False) (wr.alloc (.cells (opBox x) 30)), d.world.cell? ⟨wr.heap.size, 2, none⟩ = some (.int .i64 x.f2) := fun d => d.same.cell (f3.cell 2) (fun c => c)
          clear hw1 hO
          have hws := hb.size
          clear hb
          go_wp2_with fail
          change Code.wp _ _ _ _ (wr.alloc (.cells (opBox x) 30))
          refine wp_region_ext (fun _ => False) (by kernel_rfl) (by kernel_rfl) ?_
          repeat (go_big_quiet_step (fail))
          refine wpQuiet_nil ?_
          rintro _ ⟨d, rfl⟩
          clear f1 f2 c0 c1 c2 c3 c4
          have f4 := (f3.same d.same (fun c => c)).cell 4
          have e4 : (opBox x)[4]? = some (.bool x.f4) := rfl
          rw [e4] at f4
          have g2 := g1.kept d.same (fun c => c) (fun c => c)
          have hO2 := gO.kept d.same (fun _ _ c => c)
          have hb2 := d.same.below_of gb gb.size (fun _ _ c => c)
          have hz2 := d.same.size
          clear g1 gO gb f3 e4
          obtain ⟨A9, c9, rfl, _, _, _, _⟩ := hO2.rdb
          generalize d.world = w3 at *
          clear d
          go_upto_if 86 with fail
          have hmm := nat_of_mod x.f2 64 (by omega)
          have h63 := Lib.hid (and_63 x.f2)
          go_cut [12, 13] (fun s12 s13 wx => ∃ d m : Int, s12 = .int .i64 d ∧ s13 = .int .i64 m ∧ (m < 0 ∨ 65538 < m ∨ (0 ≤ m ∧ m ≤ 100)) ∧ w3 = wx)
          case first =>
            go_wp2_with fail
            all_goals (go_meet; refine ⟨_, _, rfl, rfl, ?_, rfl⟩)
            all_goals first | omega | (rw [h63.out]; obtain ⟨q, hq, e⟩ := hmm; omega)
          case rest =>
            obtain ⟨d, m, rfl, rfl, hdm, rfl⟩ := hcut
            clear hmm h63 f4
            go_upto_block 2 with fail
            have hmin : min (all.length : Int) (n : Int) = ((min all.length n : Nat) : Int) := by omega
            have Hmin := Lib.hid hmin
            rw [hmin]
            clear hmin
            generalize hH : min all.length n = H at *
            have HH := Lib.hid hH
            clear hH
            go_cut [15] (fun s15 wx => ∃ cd : Int, s15 = .int .i64 cd ∧ ((cd = 1 ∧ (m < 0 ∨ 65538 < m)) ∨ (cd = 2 ∧ 0 ≤ m ∧ m ≤ 100 ∧ (d < 1 ∨ (H : Int) < d)) ∨ (cd = 0 ∧ 0 ≤ m ∧ m ≤ 100 ∧ 1 ≤ d ∧ d ≤ H)) ∧ w3 = wx)
            case first =>
              by_cases q1 : m < 0
              · go_wp2_with fail
                go_meet
                exact ⟨1, rfl, .inl ⟨rfl, .inl q1⟩, rfl⟩
              · by_cases q2 : 65538 < m
                · go_wp2_with fail
                  go_meet
                  exact ⟨1, rfl, .inl ⟨rfl, .inr q2⟩, rfl⟩
                · by_cases q3 : d < 1
                  · go_wp2_with fail
                    go_meet
                    exact ⟨2, rfl, .inr (.inl ⟨rfl, by omega, by omega, .inl q3⟩), rfl⟩
                  · by_cases q4 : (H : Int) < d
                    · go_wp2_with fail
                      go_meet
                      exact ⟨2, rfl, .inr (.inl ⟨rfl, by omega, by omega, .inr q4⟩), rfl⟩
                    · go_wp2_with fail
                      go_meet
                      exact ⟨0, rfl, .inr (.inr ⟨rfl, by omega, by omega, by omega, by omega⟩), rfl⟩
            case rest =>
              obtain ⟨cd, rfl, hcd, rfl⟩ := hcut
              clear hdm
              have hlr : (all.length : Int) ≤ c9 := by omega
              by_cases q : cd = 0
              · have hdm : 0 ≤ m ∧ m ≤ 100 ∧ 1 ≤ d ∧ d ≤ H := by omega
                subst q
                obtain ⟨D, rfl⟩ : ∃ D : Nat, d = D := ⟨d.toNat, by omega⟩
                obtain ⟨M, rfl⟩ : ∃ M : Nat, m = M := ⟨m.toNat, by omega⟩
                have hD0 : 1 ≤ D := by omega
                have hD1 : D ≤ H := by omega
                have hM1 : M ≤ 100 := by omega
                have hD2 : D ≤ all.length := by have := HH.out; omega
                have hBw3 : B ≤ w3.heap.size := by omega
                clear hcd hdm
                go_wp2_with fail
                go_loopg [9, 17] M (PlayRel2 w B p r n all D M)
                case atStart => exact ⟨0, by omega, by omega, rfl, g2, by simpa [ext] using hO2, hBw3, hb2⟩
                case round =>
                  clear g2 hO2 hb2
                  rename Nat => gq
                  obtain ⟨j, hj, hgj, rfl, g2, hO2, hB2, hb2⟩ := hrel
                  have hL := ext_length all D j
                  obtain ⟨A7, c7, rfl, hc7, hc8, hR, hA7⟩ := hO2.rdb
                  generalize hcur : ext all D j = cur at *
                  have Hcur := Lib.hid hcur
                  have HL := Lib.hid hL
                  have hcl : cur.length ≤ 6200 := by omega
                  have hclD : D ≤ cur.length := by omega
                  have hcl2 : all.length ≤ cur.length := by omega
                  clear hcur hL
                  by_cases hjM : j < M
                  · rcases hR with ⟨rfl, rfl⟩ | ⟨b7, o7, rfl, hcell⟩
                    · simp at hclD; omega
                    have hc9 := hcell (cur.length - D) (by omega)
                    have hb7 := hA7 _ rfl
                    clear hcell
                    have hO2' := Lib.hid hO2
                    go_wp2_with (at_builtin; go_loud (refine wpList_app1 B rfl (.tmp 129) (.tmp 137) 28 5 (.int .u8 0) 1 rfl Try.underlying28 Try.u8info rfl (.slice (some ⟨b7, o7, none⟩) cur.length c7) _ (.int .u8 (cur.getD (cur.length - D) 0)) ⟨wr.heap.size, 0, none⟩ 1 rfl rfl ?d1 rfl (hO2'.out.alloc _) ?d2 ?d3 ?d4 ?_))
                    case d2 => first | omega | (simp; omega)
                    case d3 => simp [ints]; omega
                    case d4 => simp [ints]; omega
                    intro v8 w8 hO8 s8 hat
                    have hz8 := s8.size
                    rw [World.size_alloc] at hz8
                    have hbs : B ≤ b7 := hO2'.out.base_le _ rfl
                    have g8 := (g2.kept ((Same.refl (S := fun _ => False) wr).alloc _) (fun c => c) (fun c => c)).kept s8 (fun c => by have c2 : b7 = p := (by first | exact c | simpa [Value.ownBlock] using c); omega) (fun c => by have c2 : b7 = r := (by first | exact c | simpa [Value.ownBlock] using c); omega)
                    have hb8 := s8.below_of (hb2.alloc hb2.size _) (by simp; omega) (fun i hi c => by have c2 : b7 = i := (by first | exact c | simpa [Value.ownBlock] using c); omega)
                    have hO9 : Own w8 B 5 v8 (ints .u8 (ext all D (j + 1))) := by
                      rw [ext, Hcur.out, ints_append]; exact hO8
                    clear g2 hb2 s8 hO8
                    go_wp2_with fail
                    go_roundg (gq - 1)
                    case measure => omega
                    case rel => exact ⟨j + 1, by omega, by omega, by go_num, g8, hO9, by omega, hb8⟩
                  · have hjM2 : j = M := by omega
                    subst hjM2
                    go_wp2_with fail
                    refine (win_copy (d := D) (n := j) g2 (by omega) hD0 (by have := HH.out; omega) (by omega)).mono ?_
                    rintro e w5 ⟨vb, rfl, g5, o5, s5⟩
                    have hO5 := hO2.kept s5 (fun g hg c => by have := hO2.base_le g hg; rcases c with rfl | rfl <;> omega)
                    have hb5 := s5.below_of hb2 hb2.size (fun i hi c => by rcases c with rfl | rfl <;> omega)
                    have hR5 := hR.same s5 (fun ad e c => by have := hO2.base_le _ (hA7 ad e); rcases c with c | c <;> omega)
                    have hz5 := s5.size
                    rw [Hcur.out] at g5 o5
                    obtain ⟨A6, c6, rfl, hc6, _, hR6, _⟩ := o5.rdb
                    have t1 : ∀ u : Ext (fun _ => False) w5, (convert 28 9 (.slice A6 (cur.drop all.length).length c6)).run Try.prog u.world = .ok (.string (strOfNums (cur.drop all.length))) u.world :=
                      fun u => (hR6.same u.same (fun _ _ c => c)).to_string rfl Try.underlying28 Try.underlying5 Try.underlying9
                    have t2 : ∀ u : Ext (fun _ => False) w5, (convert 28 9 (.slice (if c7 = all.length then A7 else A7.map (fun x => x.add all.length)) (cur.length - all.length) (c7 - all.length))).run Try.prog u.world = .ok (.string (strOfNums (cur.drop all.length))) u.world :=
                      fun u => ((hR5.cut all.length c7 hcl2 hc7).same u.same (fun _ _ c => c)).to_string (by simp) Try.underlying28 Try.underlying5 Try.underlying9
                    generalize hst : strOfNums (cur.drop all.length) = st at *
                    clear hst hR hR6 hR5 o5 hO2 g2 hb2 s5
                    go_wp2_with fail
                    have t1' : (cur.drop all.length).length = cur.length - all.length := by simp
                    rw [t1'] at t1
                    generalize hq : cur.length - all.length = q at *
                    clear t1'
                    refine wp_region_ext (fun _ => False) (by kernel_rfl) (by kernel_rfl) ?_
                    repeat (go_big_quiet_step (fail))
                    refine wpQuiet_nil ?_
                    rintro _ ⟨d, rfl⟩
                    have g6 := g5.kept d.same (fun c => c) (fun c => c)
                    have hO6 := hO5.kept d.same (fun _ _ c => c)
                    have hb6 := d.same.below_of hb5 hb5.size (fun _ _ c => c)
                    have hz6 := d.same.size
                    clear t1 t2 g5 hO5 hb5
                    generalize (if c7 = all.length then A7 else A7.map (fun x => x.add all.length)) = AX
                    generalize d.world = w6 at *
                    clear d
                    have hlN : (cur).length ≤ 100 * k + 100 := by have := HL.out; omega
                    have e8 : (((min (cur).length n : Nat) : Int) != min ((cur).length : Int) (n : Int)) = false := by rw [bne_eq_false_iff_eq]; omega
                    have e9 : (((cur).length : Int) != (cur).length) = false := by simp
                    obtain ⟨A9, c9, eA, _, _, _, _⟩ := hO6.rdb
                    cases eA
                    have hO6' := Lib.hid hO6
                    clear hO6
                    go_wp2_with fail
                    refine (win_have g6).mono ?_
                    rintro e w8 ⟨rfl, rfl⟩
                    go_wp2_with fail
                    refine (win_total g6.drew).mono ?_
                    rintro e w8 ⟨rfl, rfl⟩
                    go_wp2_with fail
                    go_roundg (gk - 1)
                    case measure => omega
                    case rel => exact ⟨k + 1, cur, by omega, by omega, by omega, by go_num, g6.drew, (by first | exact hO6'.out.drew | simpa using hO6'.out.drew), by simp; omega, by omega, hb6.drew⟩
              · have hcd0 : (cd == 0) = false := by rw [beq_eq_false_iff_ne]; exact q
                go_wp2_with fail
                go_loopg [9, 17] 0 (fun g v9 v17 wx => v9 = .slice A9 all.length c9 ∧ v17 = .int .i64 0 ∧ w3 = wx)
                case atStart => exact ⟨rfl, rfl, rfl⟩
                case round =>
                  rename Nat => gq
                  obtain ⟨rfl, rfl, rfl⟩ := hrel
                  have hlow : ((min all.length n : Nat) : Int) = H := by have := HH.out; omega
                  have HLO := Lib.hid hlow
                  clear hlow
                  obtain ⟨res, hres⟩ : ∃ res : World → Prop, (∀ u, res u ↔ Same (fun _ => False) w3 u) := ⟨_, fun _ => Iff.rfl⟩
                  have hcopy : Calls Try.prog 13 #[.pointer (some ⟨p, 0, none⟩), .int .i64 d, .int .i64 m] w3 fun e u => e = .returned (.tuple #[.slice none 0 0, .int .i64 cd]) ∧ Same (fun _ => False) w3 u := by
                    rcases hcd with ⟨h1, h2⟩ | ⟨h1, h2, h3, h4⟩ | ⟨h1, _⟩
                    · subst h1
                      refine (copy_arg h2).mono ?_
                      rintro e u ⟨rfl, rfl⟩
                      exact ⟨rfl, Same.refl _⟩
                    · subst h1
                      exact win_form g2 h2 (by omega) (by rw [HLO.out]; exact h4)
                    · omega
                  have HC := Lib.hid hcopy
                  clear hcopy hres res
                  have hlow : ∀ u : World, RdB u A9 all → True := fun _ _ => trivial
                  by_cases hm0 : 0 < m
                  · go_wp2_with fail
                    refine HC.out.mono ?_
                    rintro e w5 ⟨rfl, s5⟩
                    have g5 := g2.kept s5 (fun c => c) (fun c => c)
                    have hO5 := hO2.kept s5 (fun _ _ c => c)
                    have hb5 := s5.below_of hb2 hb2.size (fun _ _ c => c)
                    have hz5 := s5.size
                    have hR0 := (hO5.rdb)
                    obtain ⟨A8, c8, e8, hc8, _, hR8, _⟩ := hR0
                    cases e8
                    have t1 : ∀ u : Ext (fun _ => False) w5, (convert 28 9 (.slice none 0 0)).run Try.prog u.world = .ok (.string (strOfNums [])) u.world :=
                      fun u => RdB.nil_.to_string rfl Try.underlying28 Try.underlying5 Try.underlying9
                    have t2 : ∀ u : Ext (fun _ => False) w5, (convert 28 9 (.slice (if c9 = all.length then A9 else A9.map (fun x => x.add all.length)) 0 (c9 - all.length))).run Try.prog u.world = .ok (.string (strOfNums [])) u.world := fun u => by
                      have := ((hR8.cut all.length c9 (Nat.le_refl _) hc8).same u.same (fun _ _ c => c)).to_string (P := Try.prog) (n := 0) (c := c9 - all.length) (by simp) Try.underlying28 Try.underlying5 Try.underlying9
                      rwa [List.drop_length] at this
                    generalize hst : strOfNums [] = st at *
                    clear hst hR8 hO2 g2 hb2 s5
                    have ecd : (cd != cd) = false := by simp
                    go_wp2_with fail
                    refine wp_region_ext (fun _ => False) (by kernel_rfl) (by kernel_rfl) ?_
                    repeat (go_big_quiet_step (fail))
                    refine wpQuiet_nil ?_
                    rintro _ ⟨d, rfl⟩
                    have g6 := g5.kept d.same (fun c => c) (fun c => c)
                    have hO6 := hO5.kept d.same (fun _ _ c => c)
                    have hb6 := d.same.below_of hb5 hb5.size (fun _ _ c => c)
                    have hz6 := d.same.size
                    clear t1 t2 g5 hO5 hb5
                    generalize (if c9 = all.length then A9 else A9.map (fun x => x.add all.length)) = AX
                    generalize d.world = w6 at *
                    clear d
                    have hlN : (all).length ≤ 100 * k + 100 := by omega
                    have e8 : (((min (all).length n : Nat) : Int) != min ((all).length : Int) (n : Int)) = false := by rw [bne_eq_false_iff_eq]; omega
                    have e9 : (((all).length : Int) != (all).length) = false := by simp
                    obtain ⟨A9, c9, eA, _, _, _, _⟩ := hO6.rdb
                    cases eA
                    have hO6' := Lib.hid hO6
                    clear hO6
                    go_wp2_with fail
                    refine (win_have g6).mono ?_
                    rintro e w8 ⟨rfl, rfl⟩
                    go_wp2_with fail
                    refine (win_total g6.drew).mono ?_
                    rintro e w8 ⟨rfl, rfl⟩
                    go_wp2_with fail
                    go_roundg (gk - 1)
                    case measure => omega
                    case rel => exact ⟨k + 1, all, by omega, by omega, by omega, by go_num, g6.drew, (by first | exact hO6'.out.drew | simpa using hO6'.out.drew), by simp; omega, by omega, hb6.drew⟩
                  · go_wp2_with fail
                    refine HC.out.mono ?_
                    rintro e w5 ⟨rfl, s5⟩
                    have g5 := g2.kept s5 (fun c => c) (fun c => c)
                    have hO5 := hO2.kept s5 (fun _ _ c => c)
                    have hb5 := s5.below_of hb2 hb2.size (fun _ _ c => c)
                    have hz5 := s5.size
                    have hR0 := (hO5.rdb)
                    obtain ⟨A8, c8, e8, hc8, _, hR8, _⟩ := hR0
                    cases e8
                    have t1 : ∀ u : Ext (fun _ => False) w5, (convert 28 9 (.slice none 0 0)).run Try.prog u.world = .ok (.string (strOfNums [])) u.world :=
                      fun u => RdB.nil_.to_string rfl Try.underlying28 Try.underlying5 Try.underlying9
                    have t2 : ∀ u : Ext (fun _ => False) w5, (convert 28 9 (.slice (if c9 = all.length then A9 else A9.map (fun x => x.add all.length)) 0 (c9 - all.length))).run Try.prog u.world = .ok (.string (strOfNums [])) u.world := fun u => by
                      have := ((hR8.cut all.length c9 (Nat.le_refl _) hc8).same u.same (fun _ _ c => c)).to_string (P := Try.prog) (n := 0) (c := c9 - all.length) (by simp) Try.underlying28 Try.underlying5 Try.underlying9
                      rwa [List.drop_length] at this
                    generalize hst : strOfNums [] = st at *
                    clear hst hR8 hO2 g2 hb2 s5
                    have ecd : (cd != cd) = false := by simp
                    go_wp2_with fail
                    refine wp_region_ext (fun _ => False) (by kernel_rfl) (by kernel_rfl) ?_
                    repeat (go_big_quiet_step (fail))
                    refine wpQuiet_nil ?_
                    rintro _ ⟨d, rfl⟩
                    have g6 := g5.kept d.same (fun c => c) (fun c => c)
                    have hO6 := hO5.kept d.same (fun _ _ c => c)
                    have hb6 := d.same.below_of hb5 hb5.size (fun _ _ c => c)
                    have hz6 := d.same.size
                    clear t1 t2 g5 hO5 hb5
                    generalize (if c9 = all.length then A9 else A9.map (fun x => x.add all.length)) = AX
                    generalize d.world = w6 at *
                    clear d
                    have hlN : (all).length ≤ 100 * k + 100 := by omega
                    have e8 : (((min (all).length n : Nat) : Int) != min ((all).length : Int) (n : Int)) = false := by rw [bne_eq_false_iff_eq]; omega
                    have e9 : (((all).length : Int) != (all).length) = false := by simp
                    obtain ⟨A9, c9, eA, _, _, _, _⟩ := hO6.rdb
                    cases eA
                    have hO6' := Lib.hid hO6
                    clear hO6
                    go_wp2_with fail
                    refine (win_have g6).mono ?_
                    rintro e w8 ⟨rfl, rfl⟩
                    go_wp2_with fail
                    refine (win_total g6.drew).mono ?_
                    rintro e w8 ⟨rfl, rfl⟩
                    go_wp2_with fail
                    go_roundg (gk - 1)
                    case measure => omega
                    case rel => exact ⟨k + 1, all, by omega, by omega, by omega, by go_num, g6.drew, (by first | exact hO6'.out.drew | simpa using hO6'.out.drew), by simp; omega, by omega, hb6.drew⟩
      · have hx60 : ¬ (k : Int) < 60 := by omega
        go_wp2_with (go_at_call 11; refine (ht _).out.mono ?_; rintro e w' ⟨rfl, hb'⟩)
        go_ret
        exact ⟨rfl, hb.trans (hb'.mono hb.size)⟩
    · have hxl : ¬ (k : Int) < l.length := by omega
      go_wp2_with (go_at_call 11; refine (ht _).out.mono ?_; rintro e w' ⟨rfl, hb'⟩)
      go_ret
      exact ⟨rfl, hb.trans (hb'.mono hb.size)⟩
end Go.Proofs.Ytbcngpmgimackaa
