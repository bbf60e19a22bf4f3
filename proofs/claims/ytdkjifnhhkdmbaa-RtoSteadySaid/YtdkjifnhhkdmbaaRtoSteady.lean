/-
  RtoSteady: for every two integers the law returns true and leaves its arguments alone (no condition).
-/
import Derived.Test.YtdkjifnhhkdmbaaRtoWorks
import Derived.Test.YtdkjifnhhkdmbaaArgs
import Derived.ShutString
namespace Go.Proofs.Ytdkjifnhhkdmbaa
open Go.RowKit Go.Pm


/-- What holds of an estimate that was measured r each time. -/
def SteadyAt (r : Int) (x : Est) : Prop := (x.any = false ∧ x = Est.zero) ∨ (x.any = true ∧ x.s = 8 * r ∧ 0 ≤ x.v ∧ x.v ≤ 2 * r ∧ x.t = 0)

theorem clamp_le (w : Int) : clamp w ≤ 5 ∨ clamp w ≤ w := by unfold clamp; omega

theorem SteadyAt.step {r : Int} {x : Est} (h : SteadyAt r x) (h0 : 0 ≤ r) : SteadyAt r (x.step r) ∧ (x.step r).wait ≤ max 5 (3 * r + 1) := by
  obtain ⟨s, v, t, a⟩ := x
  have key : ∀ v' : Int, 0 ≤ v' → v' ≤ 2 * r → Est.wait ⟨8 * r, v', 0, true⟩ ≤ max 5 (3 * r + 1) := by
    intro v' h1 h2
    have : Est.wait ⟨8 * r, v', 0, true⟩ = clamp (8 * r / 8 + (if v' ≤ 1 then 1 else v')) := rfl
    rw [this]
    have := clamp_le (8 * r / 8 + (if v' ≤ 1 then 1 else v'))
    by_cases hv : v' ≤ 1
    · rw [if_pos hv] at *; omega
    · rw [if_neg hv] at *; omega
  rcases h with ⟨h1, h2⟩ | ⟨h1, h2, h3, h4, h5⟩
  · cases h2
    have e : Est.step ⟨0, 0, 0, false⟩ r = ⟨8 * r, 4 * r / 2, 0, true⟩ := rfl
    show SteadyAt r (Est.step ⟨0, 0, 0, false⟩ r) ∧ (Est.step ⟨0, 0, 0, false⟩ r).wait ≤ _
    rw [e]
    exact ⟨.inr ⟨rfl, rfl, by dsimp; omega, by dsimp; omega, rfl⟩, key _ (by omega) (by omega)⟩
  · dsimp only at h1 h2 h3 h4 h5
    subst h1 h2 h5
    have e : Est.step ⟨8 * r, v, 0, true⟩ r = ⟨8 * r + (r - 8 * r / 8), v + (absI (8 * r / 8 - r) - v / 4), 0, true⟩ := rfl
    have e1 : 8 * r / 8 = r := by omega
    have e2 : absI (r - r) = 0 := by unfold absI; split <;> omega
    rw [e, e1, e2, show 8 * r + (r - r) = 8 * r by omega]
    exact ⟨.inr ⟨rfl, rfl, by dsimp; omega, by dsimp; omega, rfl⟩, key _ (by omega) (by omega)⟩

set_option maxHeartbeats 400000 in
theorem steady_walk (r n : Int) (hr : -9223372036854775808 ≤ r) (hr' : r ≤ 9223372036854775807) (hn : -9223372036854775808 ≤ n) (hn' : n ≤ 9223372036854775807) (w : World) :
    Calls Try.prog 3 #[.int .i64 r, .int .i64 n] w fun e w' => e = .returned (.bool true) ∧ Only [] w w' := by
  go_enter Try.func3, Try.ntmps3
  go_wp2_with fail
  refine (works_any _).mono ?_
  rintro e w1 ⟨rfl, ho1⟩
  go_wp2_with fail
  refine (new_any _).mono ?_
  rintro e w2 ⟨rfl, hb2, ho2⟩
  go_wp2_with fail
  refine (among_any r 100001 _ (by omega) (by omega) hr hr').mono ?_
  rintro e w3 ⟨rfl, rfl⟩
  obtain ⟨ra, rb⟩ := amongI_bd r 100001 (by omega)
  obtain ⟨na, nb⟩ := amongI_bd n 100 (by omega)
  generalize amongI r 100001 = R at *
  go_wp2_with fail
  have hlt := hb2.lt
  have hle := ho1.size
  have HO : Only [] w w2 := ho1.then ho2
  generalize hB : w1.heap.size = B at *
  clear hB
  go_loopw [6] (fun i wr => ∃ k : Nat, k ≤ 100 ∧ i = .int .i64 k ∧ ∃ x : Est, Blk wr B x.cells 43 ∧ x.Ok ∧ SteadyAt R x ∧ Only [] w wr) (fun i _ => 101 - (intOf i).toNat)
  case atStart => exact ⟨0, by omega, rfl, Est.zero, hb2, Est.zero_ok, .inl ⟨rfl, rfl⟩, HO⟩
  case round =>
    obtain ⟨k, hk, rfl, x, hb, hx, hs, hoo⟩ := hrel
    have HS := Lib.hid (hs.step ra); clear hs
    have HX2 := Lib.hid (Est.step_ok hx ra (by omega))
    have HO2 := Lib.hid hoo; clear hoo HO ho1 ho2
    have HB := Lib.hid hb; clear hb
    go_wp2_with fail
    refine (among_any n 100 _ (by omega) (by omega) hn hn').mono ?_
    rintro e w3 ⟨rfl, rfl⟩
    by_cases hlt2 : (k : Int) < 1 + amongI n 100
    · generalize amongI n 100 = N at *
      go_wp2_with fail
      refine (measure_any _ _ _ hx R HB.out ra (by omega)).mono ?_
      rintro e w4 ⟨rfl, hb4, ho4⟩
      go_wp2_with fail
      refine (wait_any _ _ _ hb4 HX2.out).mono ?_
      rintro e w5 ⟨rfl, n5, rfl⟩
      have hw := HS.out.2
      generalize hW : Est.wait (x.step R) = W at *
      clear hW
      go_wp2_with fail
      exact ⟨⟨k + 1, by omega, by go_num, x.step R, hb4.drewN _, HX2.out, HS.out.1, (HO2.out.trans ho4 (by simp; omega)).drewN _⟩, by simp [intOf]; omega⟩
    · generalize amongI n 100 = N at *
      go_wp2_with fail
      go_ret
      exact ⟨rfl, HO2.out⟩

namespace rtoSteady
theorem walk {W : World} (n0 : Nat) (a0 : Int) (g0 : Rd Try.prog W n0 3 [.int .i64 a0]) (n1 : Nat) (a1 : Int) (g1 : Rd Try.prog W n1 3 [.int .i64 a1]) :
    Calls Try.prog 3 #[.int .i64 a0, .int .i64 a1] W fun e w' => e = .returned (.bool true) ∧ Only [] W w' := by
  have h0 := g0.i64 Try.underlying3
  have h1 := g1.i64 Try.underlying3
  exact steady_walk a0 a1 h0.1 h0.2 h1.1 h1.2 W
end rtoSteady
namespace rtoSteady
open Go.ChangeShapes Go.WideShapes Go.ChangeAt
set_option linter.unusedVariables false

theorem own : ownKnob Try.prog.godebug = none := by kernel_rfl
theorem laidOut : laidOutB Try.prog = true := by kernel_rfl

set_option maxRecDepth 100000 in
theorem lifted (os : Os) (started : os.Started) (H : Type) (enc : TypeId × Value → H) :
    ReturnsInHanded {} Try.checked os 3 .any (Rows.rtoSteadySpec.pre6 enc Try.prog Try.f3 Rows.rtoSteadyRow.domain false) (Rows.rtoSteadySpec.post enc Try.prog Try.f3 false true false false) := by
  refine returnsInHanded_of_change (C := Try.checked) own started (by kernel_rfl) Try.func3
    (ChangeSpec.witness6 (enc := enc) (C := Try.checked) false ⟨#[], #[.int .i64 0, .int .i64 0], []⟩ 8 (by kernel_rfl) (by kernel_rfl) (by kernel_rfl) (by kernel_rfl)) ?_
  intro W base args ds gs before hval0 hW hcnd hreach
  have hval : ∀ (j : Nat) t v, Try.f3.params[j]? = some t → args[j]? = some v → Value.okWide Try.prog W .any base t v := hval0
  have hW' := hW
  obtain ⟨p, q, hA0, hV, rfl, hfz, hnd⟩ := hW
  have hA : DataW.TrodAll enc Try.prog W 0 (fun _ => true) true Try.f3.params.toList args.toList ds p := hA0
  rw [Try.params3] at hA hval
  obtain ⟨v0, vs0, d0, ds0, p0, q0, hargs, rfl, rfl, h0, r0⟩ := trodAll_cons hA
  obtain ⟨v1, vs1, d1, ds1, p1, q1, rfl, rfl, rfl, h1, r1⟩ := trodAll_cons r0
  obtain ⟨rfl, rfl, rfl⟩ := trodAll_nil r1
  obtain rfl : args = #[v0, v1] := by cases args; simp_all
  obtain ⟨rfl, rfl⟩ := trodVars_none hV
  have k0 := h0
  have lt0 : ∀ x ∈ p0, x.block < W.heap.size := by obtain ⟨m, hm⟩ := k0; exact DataW.trod_lt m _ _ _ hm
  obtain ⟨n0, g0⟩ := Rd.ofTrod' h0
  obtain ⟨a0, rfl⟩ := okWide_int Try.underlying3 (hval 0 3 v0 rfl rfl)
  have k1 := h1
  have lt1 : ∀ x ∈ p1, x.block < W.heap.size := by obtain ⟨m, hm⟩ := k1; exact DataW.trod_lt m _ _ _ hm
  obtain ⟨n1, g1⟩ := Rd.ofTrod' h1
  obtain ⟨a1, rfl⟩ := okWide_int Try.underlying3 (hval 1 3 v1 rfl rfl)
  refine (walk n0 _ g0 n1 _ g1).mono fun e W' ⟨he, hg⟩ => ?_
  subst he
  have bel := hg.belowNil
  exact ⟨_, rfl, _, _, _, [], _, [], hW', trodAll_mk1 (shut_bool Try.underlying4 _), (trodAll_cons_mk (Below.trod laidOut (by kernel_rfl) (of_decide_eq_true (by kernel_rfl)) k0 bel lt0) (trodAll_cons_mk (Below.trod laidOut (by kernel_rfl) (of_decide_eq_true (by kernel_rfl)) k1 bel lt1) trodAll_mk0)), rfl, bel.frame _, fun h => by cases h⟩

theorem over : Rows.rtoSteadyRow.holds Try.pinned (OpenSpec.ofChange Rows.rtoSteadySpec) :=
  OpenClaim.holds_of_wide 3 Try.f3 rfl rfl rfl rfl rfl rfl rfl ⟨rfl, rfl, rfl, rfl, rfl⟩ rfl rfl rfl rfl rfl (by kernel_rfl) Try.func3 (by kernel_rfl)
    (of_decide_eq_true (by kernel_rfl)) (by unfold Func.isWrapper; first | (rw [if_pos (by decide +kernel)]; kernel_rfl) | (rw [if_neg (by decide +kernel)]; exact ⟨rfl, rfl⟩))
    (fun os started H enc _ => lifted os started H enc)

/-- The statement. -/
theorem proved : Rows.RtoSteadySaid := over
#print axioms proved
end rtoSteady
end Go.Proofs.Ytdkjifnhhkdmbaa
