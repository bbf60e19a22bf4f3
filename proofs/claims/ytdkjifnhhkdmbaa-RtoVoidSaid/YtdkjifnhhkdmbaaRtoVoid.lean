/-
  RtoVoid: for every integer the law returns true and leaves its argument alone (no condition).
-/
import Derived.Test.YtdkjifnhhkdmbaaRtoWorks
import Derived.Test.YtdkjifnhhkdmbaaArgs
import Derived.ShutString
namespace Go.Proofs.Ytdkjifnhhkdmbaa
open Go.RowKit Go.Pm


theorem noEst_nil (w : World) : NoEst w (.pointer none) := is_nil w
theorem noEst_zero (w : World) (b : Nat) (h : w.cell? ⟨b, 4, none⟩ = some (.bool false)) : NoEst w (.pointer (some ⟨b, 0, none⟩)) := is_any b w false h

set_option maxHeartbeats 400000 in
theorem void_walk (r : Int) (w : World) :
    Calls Try.prog 7 #[.int .i64 r] w fun e w' => e = .returned (.bool true) ∧ Only [] w w' := by
  go_enter Try.func7, Try.ntmps7
  go_wp2_with fail
  refine (works_any _).mono ?_
  rintro e w1 ⟨rfl, ho1⟩
  go_wp2_with fail
  refine (void_good _ _ (noEst_nil _)).mono ?_
  rintro e w2 ⟨rfl, rfl⟩
  have hz : ∀ W : World, W = w1.alloc (.cells #[.int .i64 0, .int .i64 0, .int .i64 0, .bool false, .bool false] 43) → NoEst W (.pointer (some ⟨w1.heap.size, 0, none⟩)) := by
    rintro W rfl
    exact noEst_zero _ _ (by simp)
  go_wp2_with fail
  refine (void_good _ _ (hz _ rfl)).mono ?_
  rintro e w2 ⟨rfl, rfl⟩
  go_wp2_with fail
  refine (void_state _ _ (noEst_nil _)).mono ?_
  rintro e w2 ⟨rfl, rfl⟩
  go_wp2_with fail
  refine (void_state _ _ (hz _ rfl)).mono ?_
  rintro e w2 ⟨rfl, rfl⟩
  go_wp2_with fail
  refine (void_measure _ _ (noEst_nil _) _).mono ?_
  rintro e w2 ⟨rfl, rfl⟩
  go_wp2_with fail
  refine (void_measure _ _ (hz _ rfl) _).mono ?_
  rintro e w2 ⟨rfl, rfl⟩
  go_wp2_with fail
  refine (void_back _ _ (noEst_nil _)).mono ?_
  rintro e w2 ⟨rfl, rfl⟩
  go_wp2_with fail
  refine (void_back _ _ (hz _ rfl)).mono ?_
  rintro e w2 ⟨rfl, rfl⟩
  go_wp2_with fail
  refine (void_wait _ _ (noEst_nil _)).mono ?_
  rintro e w2 ⟨rfl, rfl⟩
  go_wp2_with fail
  refine (void_wait _ _ (hz _ rfl)).mono ?_
  rintro e w2 ⟨rfl, rfl⟩
  go_wp2_with fail
  refine (void_tries _ _ (noEst_nil _)).mono ?_
  rintro e w2 ⟨rfl, rfl⟩
  go_wp2_with fail
  refine (void_tries _ _ (hz _ rfl)).mono ?_
  rintro e w2 ⟨rfl, rfl⟩
  go_wp2_with fail
  go_ret
  exact ⟨rfl, ho1.alloc _⟩

namespace rtoVoid
theorem walk {W : World} (n0 : Nat) {a0 : Int} (_ : Rd Try.prog W n0 3 [.int .i64 a0]) :
    Calls Try.prog 7 #[.int .i64 a0] W fun e w' => e = .returned (.bool true) ∧ Only [] W w' := void_walk a0 W
end rtoVoid
namespace rtoVoid
open Go.ChangeShapes Go.WideShapes Go.ChangeAt
set_option linter.unusedVariables false

theorem own : ownKnob Try.prog.godebug = none := by kernel_rfl
theorem laidOut : laidOutB Try.prog = true := by kernel_rfl

set_option maxRecDepth 100000 in
theorem lifted (os : Os) (started : os.Started) (H : Type) (enc : TypeId × Value → H) :
    ReturnsInHanded {} Try.checked os 7 .any (Rows.rtoVoidSpec.pre6 enc Try.prog Try.f7 Rows.rtoVoidRow.domain false) (Rows.rtoVoidSpec.post enc Try.prog Try.f7 false true false false) := by
  refine returnsInHanded_of_change (C := Try.checked) own started (by kernel_rfl) Try.func7
    (ChangeSpec.witness6 (enc := enc) (C := Try.checked) false ⟨#[], #[.int .i64 0], []⟩ 8 (by kernel_rfl) (by kernel_rfl) (by kernel_rfl) (by kernel_rfl)) ?_
  intro W base args ds gs before hval0 hW hcnd hreach
  have hval : ∀ (j : Nat) t v, Try.f7.params[j]? = some t → args[j]? = some v → Value.okWide Try.prog W .any base t v := hval0
  have hW' := hW
  obtain ⟨p, q, hA0, hV, rfl, hfz, hnd⟩ := hW
  have hA : DataW.TrodAll enc Try.prog W 0 (fun _ => true) true Try.f7.params.toList args.toList ds p := hA0
  rw [Try.params7] at hA hval
  obtain ⟨v0, vs0, d0, ds0, p0, q0, hargs, rfl, rfl, h0, r0⟩ := trodAll_cons hA
  obtain ⟨rfl, rfl, rfl⟩ := trodAll_nil r0
  obtain rfl : args = #[v0] := by cases args; simp_all
  obtain ⟨rfl, rfl⟩ := trodVars_none hV
  have k0 := h0
  have lt0 : ∀ x ∈ p0, x.block < W.heap.size := by obtain ⟨m, hm⟩ := k0; exact DataW.trod_lt m _ _ _ hm
  obtain ⟨n0, g0⟩ := Rd.ofTrod' h0
  obtain ⟨a0, rfl⟩ := okWide_int Try.underlying3 (hval 0 3 v0 rfl rfl)
  refine (walk n0 g0).mono fun e W' ⟨he, hg⟩ => ?_
  subst he
  have bel := hg.belowNil
  exact ⟨_, rfl, _, _, _, [], _, [], hW', trodAll_mk1 (shut_bool Try.underlying4 _), (trodAll_cons_mk (Below.trod laidOut (by kernel_rfl) (of_decide_eq_true (by kernel_rfl)) k0 bel lt0) trodAll_mk0), rfl, bel.frame _, fun h => by cases h⟩

theorem over : Rows.rtoVoidRow.holds Try.pinned (OpenSpec.ofChange Rows.rtoVoidSpec) :=
  OpenClaim.holds_of_wide 7 Try.f7 rfl rfl rfl rfl rfl rfl rfl ⟨rfl, rfl, rfl, rfl, rfl⟩ rfl rfl rfl rfl rfl (by kernel_rfl) Try.func7 (by kernel_rfl)
    (of_decide_eq_true (by kernel_rfl)) (by unfold Func.isWrapper; first | (rw [if_pos (by decide +kernel)]; kernel_rfl) | (rw [if_neg (by decide +kernel)]; exact ⟨rfl, rfl⟩))
    (fun os started H enc _ => lifted os started H enc)

/-- The statement. -/
theorem proved : Rows.RtoVoidSaid := over
#print axioms proved
end rtoVoid
end Go.Proofs.Ytdkjifnhhkdmbaa
