import Derived.Test.YtbcngpmgimackaaWin
namespace Go.Proofs.Ytbcngpmgimackaa
open Go.RowKit

set_option maxHeartbeats 800000 in
theorem told10 (w : World) : Calls Try.prog 11 #[] w fun e w' => e = .returned (.bool true) ∧ Below w.heap.size w w' := by
  go_enter Try.func11, Try.ntmps11
  go_wp2_with fail
  refine (new_win (n := 4) (by omega) (by omega)).mono ?_
  rintro e w1 ⟨p, r, ring, rfl, h1, hp, hr, s1⟩
  go_wp2_with fail
  refine (new_bad (n := 0) (by omega)).mono ?_
  rintro e w2 ⟨rfl, rfl⟩
  go_wp2_with fail
  refine (put_win 97 h1 (by simp)).mono ?_
  rintro e w3 ⟨rfl, h3, s3⟩
  go_wp2_with fail
  refine (put_win 98 h3 (by simp)).mono ?_
  rintro e w4 ⟨rfl, h4, s4⟩
  go_wp2_with fail
  refine (copy_ok (d := 2) (n := 5) h4 (by omega) (by omega) (by simp) (by simp)).mono ?_
  rintro e w5 ⟨v, ring5, rfl, h5, o5, s5⟩
  go_wp2_with fail
  refine (copy_form h5 (by omega) (by omega) (by simp [ext])).mono ?_
  rintro e w6 ⟨rfl, s6⟩
  have o6 := o5.kept s6 (fun _ _ c => c)
  have h6 := h5.kept s6 (fun c => c) (fun c => c)
  have hstr := o6.to_string (P := Try.prog) Try.underlying28 Try.underlying5 Try.underlying9
  rw [show ext ([] ++ [97] ++ [98]) 2 5 = [97, 98, 97, 98, 97, 98, 97] from by decide] at h6
  rw [show strOfNums ((ext ([] ++ [97] ++ [98]) 2 5).drop ([] ++ [97] ++ [98] : List Int).length) = ⟨#[97, 98, 97, 98, 97]⟩ from by decide] at hstr
  have B : Below w.heap.size w w6 := by
    exact (((((s1.any).then s3).then s4).then s5).then s6.any).below (fun k hk c => by rcases c with rfl | rfl <;> omega)
  clear h1 h3 h4 h5 o5 o6 s1 s3 s4 s5 s6
  go_wp2_with fail
  refine (have_win h6).mono ?_
  rintro e w7 ⟨rfl, rfl⟩
  go_wp2_with fail
  refine (total_win h6.drew).mono ?_
  rintro e w7 ⟨rfl, rfl⟩
  go_wp2_with fail
  go_ret
  exact ⟨rfl, B.drew⟩
end Go.Proofs.Ytbcngpmgimackaa
