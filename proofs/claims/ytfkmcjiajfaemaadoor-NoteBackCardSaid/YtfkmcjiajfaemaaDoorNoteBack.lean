/-
  NoteBack: what was built is read back. The listed package-level variables (tables of Go's library, for numbers of many digits) are not looked into on this road.
-/
import Derived.Test.YtfkmcjiajfaemaaDoorNt4
import Derived.Test.YtfkmcjiajfaemaaDoorLaw
import Derived.Test.YtfkmcjiajfaemaaDoorCards
import Derived.Test.YtfkmcjiajfaemaaDoorTie
import Derived.HandedShaped
import Derived.ProofKit
import Derived.LaidMore
import Derived.SevenTiedAt
namespace Go.Proofs.YtfkmcjiajfaemaaDoor
set_option linter.unusedSimpArgs false
set_option linter.unusedVariables false
open Go.RowKit Go.Pm

theorem byte_el (W : World) : ∀ m d, d.length = 1 → Rs Tryd.prog W m 5 d → ∃ x, d = byC x ∧ True := by
  intro m d _ h
  obtain ⟨y, e, _⟩ := (Rs.rd _ _ _ h).int Tryd.underlying5
  exact ⟨y, e, trivial⟩
namespace noteBack
theorem walk {W : World} (n0 : Nat) {cs0 : Array Value} (g0 : Rs Tryd.prog W n0 24 (Value.agg cs0).cells.toList) :
    Calls Tryd.prog 3 #[.agg cs0] W fun e w' => e = .returned (.bool true) ∧ Only [] W w' := by
  have hL := leaf_of 5 24 [3, 3, 22] n0 _ (by kernel_rfl) g0
  obtain ⟨z0, r0, e0, h0, hL⟩ := hL.i64 Tryd.underlying3
  obtain ⟨z1, r1, rfl, h1, hL⟩ := hL.i64 Tryd.underlying3
  obtain ⟨a, l, c, r2, rfl, ⟨m2, hs⟩, hL⟩ := hL.sl Tryd.underlying22
  obtain rfl := hL.nil'
  have e1 : cs0.toList = [.int .i64 z0, .int .i64 z1, .slice a l c] := e0
  obtain rfl : cs0 = #[.int .i64 z0, .int .i64 z1, .slice a l c] := by rw [← Array.toArray_toList (xs := cs0), e1]
  obtain ⟨S, rfl, k1, k2, k3, k4, _⟩ := Rs.list (e := 5) (sz := 1) (b := 1) (enc := byC) (ok := fun _ => True) hs Tryd.underlying22 (by kernel_rfl) (by kernel_rfl) (byte_el W)
  simp only [reachBytes] at k3
  exact (back_s z0 z1 a c S ⟨k1, by omega⟩).law (vwKn k4)
end noteBack
namespace noteBack
open Go.ChangeShapes Go.WideShapes Go.ChangeAt
set_option linter.unusedVariables false

theorem own : ownKnob Tryd.prog.godebug = none := by kernel_rfl
theorem laidOut : laidOutB Tryd.prog = true := by kernel_rfl
theorem door_met (os : Os) (args : Array Value) : laidMetH Tryd.prog Rows.noteBackRow.laid ((World.doorLaid Tryd.prog 24 os).forCall (fun _ _ => 0) ⟨#[], args, []⟩).memory :=
  laidMetH_of_parts3 (fuel := 8) (laidMet_of_run' 8 (by kernel_rfl) (by kernel_rfl)) (by kernel_rfl) (by kernel_rfl)

set_option maxRecDepth 100000 in
theorem lifted (os : Os) (started : os.Started) (H : Type) (enc : TypeId × Value → H) :
    ReturnsInHanded {} Tryd.checked os 3 .any (fun w args => (Rows.noteBackSpec.pre enc Tryd.prog Tryd.f3 [] false w args ∧ laidMetH Tryd.prog Rows.noteBackRow.laid w) ∧ sizedMet enc Tryd.prog Tryd.f3 (OpenSpec.ofChange Rows.noteBackSpec) false w args)
      (Rows.noteBackSpec.post enc Tryd.prog Tryd.f3 false true false false) := by
  refine returnsInHanded_of_change_and (C := Tryd.checked) (X := fun w _ => laidMetH Tryd.prog Rows.noteBackRow.laid w) (fun _ _ _ hh h => h.of_heap hh) own started (by kernel_rfl) Tryd.func3
    (ChangeSpec.witness_shaped (enc := enc) (C := Tryd.checked) (os := os) (X := fun w _ => laidMetH Tryd.prog Rows.noteBackRow.laid w) false (World.doorLaid Tryd.prog 24 os) #[.agg #[.int .i64 0, .int .i64 0, .slice none 0 0]] 8 rfl (World.shaped_of_RefB (by kernel_rfl) (by kernel_rfl)) (by kernel_rfl) (by kernel_rfl) (by kernel_rfl) (door_met os _)) ?_
  intro W base args ds gs before hval0 hW hcnd hsz hL hreach
  have hval : ∀ (j : Nat) t v, Tryd.f3.params[j]? = some t → args[j]? = some v → Value.okWide Tryd.prog W .any base t v := hval0
  have hW' := hW
  obtain ⟨p, q, hA0, hV, rfl, hfz, hnd⟩ := hW
  have hA : DataW.TrodAll enc Tryd.prog W 0 (fun _ => true) true Tryd.f3.params.toList args.toList ds p := hA0
  rw [Tryd.params3] at hA hval
  obtain ⟨v0, vs0, d0, ds0, p0, q0, hargs, rfl, rfl, h0, r0⟩ := trodAll_cons hA
  obtain ⟨rfl, rfl, rfl⟩ := trodAll_nil r0
  obtain rfl : args = #[v0] := by cases args; simp_all
  obtain ⟨rfl, rfl⟩ := trodVars_none hV
  have k0 := h0
  have lt0 : ∀ x ∈ p0, x.block < W.heap.size := by obtain ⟨m, hm⟩ := k0; exact DataW.trod_lt m _ _ _ hm
  obtain ⟨n0, g0⟩ := Rs.of_weights hsz 0 (by first | rfl | (simp [Tryd.params3])) rfl h0
  obtain ⟨cs0, rfl, hs0⟩ := okWide_struct Tryd.underlying24 (hval 0 24 v0 rfl rfl)
  refine (walk n0 g0).mono fun e W' ⟨he, hg⟩ => ?_
  subst he
  have bel := hg.belowNil
  exact ⟨_, rfl, _, _, _, [], _, [], hW', trodAll_mk1 (shut_bool Tryd.underlying4 _), (trodAll_cons_mk (Below.trod laidOut (by kernel_rfl) (of_decide_eq_true (by kernel_rfl)) k0 bel lt0) trodAll_mk0), rfl, bel.frame _, fun h => by cases h⟩

theorem over : Rows.noteBackRow.holds Tryd.pinned (OpenSpec.ofChange Rows.noteBackSpec) :=
  OpenClaim.holds_of_wide 3 Tryd.f3 rfl rfl rfl rfl rfl rfl rfl ⟨rfl, rfl, rfl, rfl, rfl⟩ rfl rfl rfl rfl rfl (by kernel_rfl) Tryd.func3 (by kernel_rfl)
    (of_decide_eq_true (by kernel_rfl)) (by unfold Func.isWrapper; first | (rw [if_pos (by decide +kernel)]; kernel_rfl) | (rw [if_neg (by decide +kernel)]; exact ⟨rfl, rfl⟩))
    (fun os started H enc _ => lifted os started H enc)

/-- The statement. -/
theorem proved : Rows.NoteBackCardSaid :=
  Claim7.holds_tied_plain_at .later [] [.data, .data, .data] true (true, "557e1bf39e8c964de4f408e99da6f83295a4d9fd1c010b435dde7ec36c347543") false
    over (fun _ h => by cases h) (by kernel_rfl) (fun _ h => by cases h) noteBack_row_tie rfl ⟨rfl, rfl⟩ (by kernel_rfl) rfl
    (fun f fn hf hfn => by
      obtain rfl : f = 3 := Option.some.inj ((show Tryd.prog.funcNamed "pointsman/pointsmanlaw22.NoteBack" = some 3 by kernel_rfl).symm.trans hf) |>.symm
      obtain rfl : fn = Tryd.f3 := (Option.some.inj (Tryd.func3.symm.trans hfn)).symm
      exact ⟨by kernel_rfl, fun j t ht => by
        rw [Tryd.params3] at ht
        have hm : t ∈ [24] := by simpa using Array.mem_of_getElem? ht
        have hall : ([24].all fun u => !Tryd.prog.wantsStandIn u) = true := by kernel_rfl
        exact (show Tryd.prog.wantsStandIn t = false by simpa using List.all_eq_true.1 hall t hm)⟩)
    (by kernel_rfl)
#print axioms proved
end noteBack
end Go.Proofs.YtfkmcjiajfaemaaDoor
