/-
  NoteBuilds: any fault is built and named, and any bytes read as one, and as a refresh, as the document says, or refused. The library's table of powers of ten is met as the row lists it.
-/
import Derived.Test.YtfkmcjiajfaemaaDoorNt10
import Derived.Test.YtfkmcjiajfaemaaDoorLaw
import Derived.Test.YtfkmcjiajfaemaaDoorCards
import Derived.Test.YtfkmcjiajfaemaaDoorTie
import Derived.HandedShaped
import Derived.ProofKit
import Derived.LaidMore
import Derived.SevenTiedAt
import Derived.MakeChecks
import Derived.Stop.LaidErr
import Derived.Lib.LaidTab
namespace Go.Proofs.YtfkmcjiajfaemaaDoor
set_option linter.unusedSimpArgs false
set_option linter.unusedVariables false
open Go.RowKit Go.Pm

theorem byte_el (W : World) : ∀ m d, d.length = 1 → Rs Tryd.prog W m 5 d → ∃ x, d = byC x ∧ (0 ≤ x ∧ x ≤ 255) := by
  intro m d _ h
  obtain ⟨y, e, h2⟩ := (Rs.rd _ _ _ h).int Tryd.underlying5
  exact ⟨y, e, bounds_u8 h2⟩
theorem tabKn {W : World} (h : Tab W) : Kn (World.all W) Tab := fun w i => by
  unfold Tab Lib.TabIs World.var? at *
  cases hg : Tryd.prog.globalNamed tabName with
  | none => rw [hg] at h; cases h
  | some g =>
    rw [hg] at h
    simp only [Option.bind_some] at h ⊢
    cases hb : W.heap[g]? with
    | none => rw [hb] at h; cases h
    | some o =>
      rw [hb] at h
      rw [i g o hb]
      exact h
theorem tab_of {W : World} (h : laidMetH Tryd.prog Rows.noteBuildsRow.laid W) : Tab W := by
  rw [MakeChecks.laidMetH_plain _ _ _ (by kernel_rfl)] at h
  have h1 : laidMet Tryd.prog ((tabName, Lib.tabData .u64 Lib.pow10Tab) :: []) W := h.tail.tail
  exact Lib.tabIs_of_head (g := 0) (t := 55) (e := 48) (n := 20) (by kernel_rfl) (by kernel_rfl) (by kernel_rfl) (by kernel_rfl) (by kernel_rfl) (by kernel_rfl) h1
namespace noteBuilds
theorem walk {W : World} (hT : Tab W) (n0 : Nat) {cs0 : Array Value} (g0 : Rs Tryd.prog W n0 24 (Value.agg cs0).cells.toList) (n1 : Nat) {a1 : Option Addr} {l1 c1 : Nat} (g1 : Rs Tryd.prog W n1 22 (Value.slice a1 l1 c1).cells.toList) :
    Calls Tryd.prog 4 #[.agg cs0, .slice a1 l1 c1] W fun e w' => e = .returned (.bool true) ∧ Only [] W w' := by
  have hL := leaf_of 5 24 [3, 3, 22] n0 _ (by kernel_rfl) g0
  obtain ⟨z0, r0, e0, h0, hL⟩ := hL.i64 Tryd.underlying3
  obtain ⟨z1, r1, rfl, h1, hL⟩ := hL.i64 Tryd.underlying3
  obtain ⟨a, l, c, r2, rfl, ⟨m2, hs⟩, hL⟩ := hL.sl Tryd.underlying22
  obtain rfl := hL.nil'
  have e1 : cs0.toList = [.int .i64 z0, .int .i64 z1, .slice a l c] := e0
  obtain rfl : cs0 = #[.int .i64 z0, .int .i64 z1, .slice a l c] := by rw [← Array.toArray_toList (xs := cs0), e1]
  obtain ⟨S, rfl, k1, k2, k3, k4, k5⟩ := Rs.list (e := 5) (sz := 1) (b := 1) (enc := byC) (ok := fun x => 0 ≤ x ∧ x ≤ 255) hs Tryd.underlying22 (by kernel_rfl) (by kernel_rfl) (byte_el W)
  obtain ⟨S', rfl, j1, j2, j3, j4, j5⟩ := Rs.list (e := 5) (sz := 1) (b := 1) (enc := byC) (ok := fun x => 0 ≤ x ∧ x ≤ 255) g1 Tryd.underlying22 (by kernel_rfl) (by kernel_rfl) (byte_el W)
  simp only [reachBytes] at k3 j3
  exact (builds_s z0 z1 h0 h1 a c S k5 ⟨k1, by omega⟩ a1 c1 S' j5 ⟨j1, by omega⟩).law (((vwKn k4).and (vwKn j4)).and (tabKn hT))
end noteBuilds
namespace noteBuilds
open Go.ChangeShapes Go.WideShapes Go.ChangeAt
set_option linter.unusedVariables false

theorem own : ownKnob Tryd.prog.godebug = none := by kernel_rfl
theorem laidOut : laidOutB Tryd.prog = true := by kernel_rfl
theorem door_met (os : Os) (args : Array Value) : laidMetH Tryd.prog Rows.noteBuildsRow.laid ((World.doorLaid Tryd.prog 24 os).forCall (fun _ _ => 0) ⟨#[], args, []⟩).memory :=
  laidMetH_of_parts3 (fuel := 8) (laidMet_of_run' 8 (by kernel_rfl) (by kernel_rfl)) (by kernel_rfl) (by kernel_rfl)

set_option maxRecDepth 100000 in
theorem lifted (os : Os) (started : os.Started) (H : Type) (enc : TypeId × Value → H) :
    ReturnsInHanded {} Tryd.checked os 4 .any (fun w args => (Rows.noteBuildsSpec.pre enc Tryd.prog Tryd.f4 [] false w args ∧ laidMetH Tryd.prog Rows.noteBuildsRow.laid w) ∧ sizedMet enc Tryd.prog Tryd.f4 (OpenSpec.ofChange Rows.noteBuildsSpec) false w args)
      (Rows.noteBuildsSpec.post enc Tryd.prog Tryd.f4 false true false false) := by
  refine returnsInHanded_of_change_and (C := Tryd.checked) (X := fun w _ => laidMetH Tryd.prog Rows.noteBuildsRow.laid w) (fun _ _ _ hh h => h.of_heap hh) own started (by kernel_rfl) Tryd.func4
    (ChangeSpec.witness_shaped (enc := enc) (C := Tryd.checked) (os := os) (X := fun w _ => laidMetH Tryd.prog Rows.noteBuildsRow.laid w) false (World.doorLaid Tryd.prog 24 os) #[.agg #[.int .i64 0, .int .i64 0, .slice none 0 0], .slice none 0 0] 8 rfl (World.shaped_of_RefB (by kernel_rfl) (by kernel_rfl)) (by kernel_rfl) (by kernel_rfl) (by kernel_rfl) (door_met os _)) ?_
  intro W base args ds gs before hval0 hW hcnd hsz hL hreach
  have hval : ∀ (j : Nat) t v, Tryd.f4.params[j]? = some t → args[j]? = some v → Value.okWide Tryd.prog W .any base t v := hval0
  have hW' := hW
  obtain ⟨p, q, hA0, hV, rfl, hfz, hnd⟩ := hW
  have hA : DataW.TrodAll enc Tryd.prog W 0 (fun _ => true) true Tryd.f4.params.toList args.toList ds p := hA0
  rw [Tryd.params4] at hA hval
  obtain ⟨v0, vs0, d0, ds0, p0, q0, hargs, rfl, rfl, h0, r0⟩ := trodAll_cons hA
  obtain ⟨v1, vs1, d1, ds1, p1, q1, rfl, rfl, rfl, h1, r1⟩ := trodAll_cons r0
  obtain ⟨rfl, rfl, rfl⟩ := trodAll_nil r1
  obtain rfl : args = #[v0, v1] := by cases args; simp_all
  obtain ⟨rfl, rfl⟩ := trodVars_none hV
  have k0 := h0
  have lt0 : ∀ x ∈ p0, x.block < W.heap.size := by obtain ⟨m, hm⟩ := k0; exact DataW.trod_lt m _ _ _ hm
  obtain ⟨n0, g0⟩ := Rs.of_weights hsz 0 (by first | rfl | (simp [Tryd.params4])) rfl h0
  obtain ⟨cs0, rfl, hs0⟩ := okWide_struct Tryd.underlying24 (hval 0 24 v0 rfl rfl)
  have k1 := h1
  have lt1 : ∀ x ∈ p1, x.block < W.heap.size := by obtain ⟨m, hm⟩ := k1; exact DataW.trod_lt m _ _ _ hm
  obtain ⟨n1, g1⟩ := Rs.of_weights hsz 1 (by first | rfl | (simp [Tryd.params4])) rfl h1
  obtain ⟨a1, l1, c1, rfl⟩ := okWide_slice Tryd.underlying22 (hval 1 22 v1 rfl rfl)
  refine (walk (tab_of hL) n0 g0 n1 g1).mono fun e W' ⟨he, hg⟩ => ?_
  subst he
  have bel := hg.belowNil
  exact ⟨_, rfl, _, _, _, [], _, [], hW', trodAll_mk1 (shut_bool Tryd.underlying4 _), (trodAll_cons_mk (Below.trod laidOut (by kernel_rfl) (of_decide_eq_true (by kernel_rfl)) k0 bel lt0) (trodAll_cons_mk (Below.trod laidOut (by kernel_rfl) (of_decide_eq_true (by kernel_rfl)) k1 bel lt1) trodAll_mk0)), rfl, bel.frame _, fun h => by cases h⟩

theorem over : Rows.noteBuildsRow.holds Tryd.pinned (OpenSpec.ofChange Rows.noteBuildsSpec) :=
  OpenClaim.holds_of_wide 4 Tryd.f4 rfl rfl rfl rfl rfl rfl rfl ⟨rfl, rfl, rfl, rfl, rfl⟩ rfl rfl rfl rfl rfl (by kernel_rfl) Tryd.func4 (by kernel_rfl)
    (of_decide_eq_true (by kernel_rfl)) (by unfold Func.isWrapper; first | (rw [if_pos (by decide +kernel)]; kernel_rfl) | (rw [if_neg (by decide +kernel)]; exact ⟨rfl, rfl⟩))
    (fun os started H enc _ => lifted os started H enc)

/-- The statement. -/
theorem proved : Rows.NoteBuildsCardSaid :=
  Claim7.holds_tied_plain_at .later [] [.data, .data, .data] true (true, "557e1bf39e8c964de4f408e99da6f83295a4d9fd1c010b435dde7ec36c347543") false
    over (fun _ h => by cases h) (by kernel_rfl) (fun _ h => by cases h) noteBuilds_row_tie rfl ⟨rfl, rfl⟩ (by kernel_rfl) rfl
    (fun f fn hf hfn => by
      obtain rfl : f = 4 := Option.some.inj ((show Tryd.prog.funcNamed "pointsman/pointsmanlaw22.NoteBuilds" = some 4 by kernel_rfl).symm.trans hf) |>.symm
      obtain rfl : fn = Tryd.f4 := (Option.some.inj (Tryd.func4.symm.trans hfn)).symm
      exact ⟨by kernel_rfl, fun j t ht => by
        rw [Tryd.params4] at ht
        have hm : t ∈ [24, 22] := by simpa using Array.mem_of_getElem? ht
        have hall : ([24, 22].all fun u => !Tryd.prog.wantsStandIn u) = true := by kernel_rfl
        exact (show Tryd.prog.wantsStandIn t = false by simpa using List.all_eq_true.1 hall t hm)⟩)
    (by kernel_rfl)
#print axioms proved
end noteBuilds
end Go.Proofs.YtfkmcjiajfaemaaDoor
