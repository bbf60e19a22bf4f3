/-
  The chapter's example (works) of layer 13.
-/
import Derived.Test.YtdkjifnhhkdmbaaRto
namespace Go.Proofs.Ytdkjifnhhkdmbaa
open Go.RowKit Go.Pm


set_option maxHeartbeats 400000 in
theorem works_any (w : World) : Calls Try.prog 8 #[] w fun e w' => e = .returned (.bool true) ∧ Only [] w w' := by
  go_enter Try.func8, Try.ntmps8
  go_wp2_with fail
  refine (new_any _).mono ?_
  rintro e w1 ⟨rfl, hb, ho⟩
  have hs1 := hb.lt
  go_wp2_with fail
  refine (wait_any _ _ _ hb Est.zero_ok).mono ?_
  rintro e w2 ⟨rfl, n1, rfl⟩
  rw [show Est.zero.wait = 30 by decide]
  go_wp2_with fail
  refine (measure_any _ _ _ Est.zero_ok 10 (hb.drewN _) (by omega) (by omega)).mono ?_
  rintro e w3 ⟨rfl, hb3, ho3⟩
  go_wp2_with fail
  refine (wait_any _ _ _ hb3 (Est.step_ok Est.zero_ok (by omega) (by omega))).mono ?_
  rintro e w2 ⟨rfl, n2, rfl⟩
  rw [show (Est.zero.step 10).wait = 30 by decide]
  go_wp2_with fail
  refine (back_any _ _ _ (Est.step_ok Est.zero_ok (by omega) (by omega)) (hb3.drewN _) (by decide)).mono ?_
  rintro e w4 ⟨rfl, hb4, ho4⟩
  go_wp2_with fail
  refine (state_any _ _ _ hb4).mono ?_
  rintro e w5 ⟨rfl, n5, rfl⟩
  dsimp only
  rw [show (Est.zero.step 10).s = 80 by decide, show (Est.zero.step 10).v = 20 by decide]
  go_wp2_with fail
  refine (wait_any _ _ _ (hb4.drewN _) ⟨by decide, by decide, by decide, by decide, by decide, by decide⟩).mono ?_
  rintro e w6 ⟨rfl, n6, rfl⟩
  rw [show (Est.wait { Est.zero.step 10 with t := (Est.zero.step 10).t + 1 }) = 60 by decide]
  go_wp2_with fail
  go_ret
  refine ⟨rfl, ?_⟩
  refine Only.drewN ?_ _
  refine Only.trans (Only.drewN ?_ _) ho4 (by simp)
  exact Only.trans (ho.drewN _) ho3 (by simp)
end Go.Proofs.Ytdkjifnhhkdmbaa
