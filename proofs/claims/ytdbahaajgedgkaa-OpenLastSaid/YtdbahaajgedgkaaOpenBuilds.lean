/-
  OpenBuilds: for every OPEN the law returns true and leaves its argument alone (no condition).
-/
import Derived.Test.YtdbahaajgedgkaaOpenRBuild
import Derived.ShutString
namespace Go.Proofs.Ytdbahaajgedgkaa
open Go.RowKit Go.Pm


def exO : Opn := ⟨65001, 90, 167772161, true, false, false, false, 0, false, false⟩
theorem openB_ex : openB exO = [4, 253, 233, 0, 90, 10, 0, 0, 1, 8, 2, 6, 1, 4, 0, 1, 0, 1] := by decide

set_option maxHeartbeats 1000000 in
theorem works_any (w : World) : Calls Try.prog 9 #[] w fun e w' => e = .returned (.bool true) ∧ Only [] w w' := by
  have HB := Lib.hid openB_ex
  have HY : Hid (Byte [4, 253, 233, 0, 90, 10, 0, 0, 1, 8, 2, 6, 1, 4, 0, 1, 0, 1]) := by unfold Hid Byte; decide
  have HS : Hid (sameB [4, 253, 233, 0, 90, 10, 0, 0, 1, 8, 2, 6, 1, 4, 0, 1, 0, 1] [4, 253, 233, 0, 90, 10, 0, 0, 1, 8, 2, 6, 1, 4, 0, 1, 0, 1] = true) := by unfold Hid; decide
  go_enter Try.func9, Try.ntmps9
  go_wp2_with fail
  refine (build_yes _ exO ⟨by decide, by decide, by decide, by decide⟩ (by decide)).mono ?_
  rintro e w1 ⟨v, rfl, ho, hw⟩
  rw [HB.out] at ho
  have HO := Lib.hid ho; clear ho
  have HW := Lib.hid hw; clear hw
  go_wp2_with fail
  refine (same_any _ _ _ [4, 253, 233, 0, 90, 10, 0, 0, 1, 8, 2, 6, 1, 4, 0, 1, 0, 1] [4, 253, 233, 0, 90, 10, 0, 0, 1, 8, 2, 6, 1, 4, 0, 1, 0, 1] (HO.out.vw.only ((Only.refl _ _).alloc _)) (VwB.litAt _ rfl rfl (by decide) (by simp)) HY.out HY.out).mono ?_
  rintro e w2 ⟨rfl, rfl⟩
  rw [HS.out]
  go_wp2_with fail
  go_ret
  exact ⟨rfl, HW.out.alloc _⟩

theorem byte_be16 (k : Int) : Byte (be16 k) := by
  intro n hn
  simp only [be16, List.mem_cons, List.not_mem_nil, or_false] at hn
  rcases hn with rfl | rfl <;> omega
theorem byte_be32 (k : Int) : Byte (be32 k) := by
  intro n hn
  simp only [be32, List.mem_cons, List.not_mem_nil, or_false] at hn
  rcases hn with rfl | rfl | rfl | rfl <;> omega
theorem byte_flag (b : Bool) : 0 ≤ flagI b 128 ∧ flagI b 128 < 256 := by unfold flagI; split <;> omega
theorem byte_caps (o : Opn) : Byte (caps o) := by
  have h1 : Byte (capM o) := by unfold capM; split <;> (unfold Byte; decide)
  have h2 : Byte (capR o) := by unfold capR; split <;> (unfold Byte; decide)
  have h3 : Byte (capG o) := by
    unfold capG
    split
    · refine (Byte.append (Byte.append (by unfold Byte; decide) (byte_be16 _)) ?_)
      intro n hn
      have := byte_flag o.keeps
      simp only [List.mem_cons, List.not_mem_nil, or_false] at hn
      rcases hn with rfl | rfl | rfl | rfl <;> omega
    · unfold Byte; decide
  have h4 : Byte (capF o) := by
    unfold capF
    split
    · exact Byte.append (by unfold Byte; decide) (byte_be32 _)
    · unfold Byte; decide
  exact ((h1.append h2).append h3).append h4
theorem byte_openB (o : Opn) : Byte (openB o) := by
  have hh : Byte (headB o) := (((show Byte [4] by unfold Byte; decide).append (byte_be16 _)).append (byte_be16 _)).append (byte_be32 _)
  unfold openB
  split
  · exact hh.append (by unfold Byte; decide)
  · have := caps_len o
    refine (hh.append ?_).append (byte_caps o)
    intro n hn
    simp only [List.mem_cons, List.not_mem_nil, or_false] at hn
    rcases hn with rfl | rfl | rfl <;> omega

set_option maxHeartbeats 1000000 in
theorem builds_walk (o : Opn) (hf : o.Fits) (w : World) :
    Calls Try.prog 3 #[.agg o.cells] w fun e w' => e = .returned (.bool true) ∧ Only [] w w' := by
  have HS : Hid (sameB (openB o) (openB o) = true) := by simp [Hid, sameB]
  have HN : Hid (sameB [] [] = true) := by simp [Hid, sameB]
  have HF := Lib.hid hf; clear hf
  by_cases hr : o.Right
  · have HR := Lib.hid hr; clear hr
    go_enter Try.func3, Try.ntmps3
    unfold Opn.cells
    go_wp2_with fail
    refine (build_yes _ o HF.out HR.out).mono ?_
    rintro e w1 ⟨v, rfl, ho, hw⟩
    have hb := (boxed w o hw).cell
    have b0 := hb 0
    have b1 := hb 1
    have b2 := hb 2
    have b3 := hb 3
    have b4 := hb 4
    have b5 := hb 5
    have b6 := hb 6
    have b7 := hb 7
    have b8 := hb 8
    have b9 := hb 9
    simp only [Opn.cells, List.getElem?_toArray, List.getElem?_cons_zero, List.getElem?_cons_succ] at b0 b1 b2 b3 b4 b5 b6 b7 b8 b9
    have HO := Lib.hid ho; clear ho hb
    have HW := Lib.hid hw; clear hw
    go_wp2_with fail
    refine (rbuild_yes _ o HF.out HR.out).mono ?_
    rintro e w2 ⟨v2, rfl, ho2, hw2⟩
    have HO2 := Lib.hid ho2; clear ho2
    have HW2 := Lib.hid hw2; clear hw2
    clear b0 b1 b2 b3 b4 b5 b6 b7 b8 b9
    go_wp2_with fail
    refine (same_any _ _ _ (openB o) (openB o) (HO.out.vw.only HW2.out) HO2.out.vw (byte_openB o) (byte_openB o)).mono ?_
    rintro e w3 ⟨rfl, rfl⟩
    rw [HS.out]
    go_wp2_with fail
    refine (works_any _).mono ?_
    rintro e w4 ⟨rfl, hw4⟩
    go_wp2_with fail
    go_ret
    exact ⟨rfl, ((((Only.refl _ _).alloc _).then HW.out).then HW2.out).then hw4⟩
  · have HR := Lib.hid hr; clear hr
    go_enter Try.func3, Try.ntmps3
    unfold Opn.cells
    go_wp2_with fail
    refine (build_no _ o HR.out).mono ?_
    rintro e w1 ⟨rfl, hw⟩
    have hb := (boxed w o hw).cell
    have b0 := hb 0
    have b1 := hb 1
    have b2 := hb 2
    have b3 := hb 3
    have b4 := hb 4
    have b5 := hb 5
    have b6 := hb 6
    have b7 := hb 7
    have b8 := hb 8
    have b9 := hb 9
    simp only [Opn.cells, List.getElem?_toArray, List.getElem?_cons_zero, List.getElem?_cons_succ] at b0 b1 b2 b3 b4 b5 b6 b7 b8 b9
    have HW := Lib.hid hw; clear hw hb
    go_wp2_with fail
    refine (rbuild_no _ o HR.out).mono ?_
    rintro e w2 ⟨rfl, hw2⟩
    have HW2 := Lib.hid hw2; clear hw2
    clear b0 b1 b2 b3 b4 b5 b6 b7 b8 b9
    go_wp2_with fail
    refine (same_any _ _ _ [] [] (VwB.nil _) (VwB.nil _) (by simp [Byte]) (by simp [Byte])).mono ?_
    rintro e w3 ⟨rfl, rfl⟩
    rw [HN.out]
    go_wp2_with fail
    refine (works_any _).mono ?_
    rintro e w4 ⟨rfl, hw4⟩
    go_wp2_with fail
    go_ret
    exact ⟨rfl, ((((Only.refl _ _).alloc _).then HW.out).then HW2.out).then hw4⟩

/-- What an OPEN looks like, that came in. -/
theorem open_arg {W : World} {n : Nat} {cs : List Value} (h : Rd Try.prog W n 25 cs) : ∃ o : Opn, cs = o.cells.toList ∧ o.Fits := by
  obtain ⟨hl, hf⟩ := h.struct Try.underlying25
  have hc : Try.prog.cellsOf 25 = 10 := by kernel_rfl
  rw [hc] at hl
  match cs, hl with
  | [c0, c1, c2, c3, c4, c5, c6, c7, c8, c9], _ =>
    obtain ⟨m0, r0⟩ := h.field Try.underlying25 0 22 0 1 (by kernel_rfl) (by kernel_rfl)
    obtain ⟨m1, r1⟩ := h.field Try.underlying25 1 3 1 1 (by kernel_rfl) (by kernel_rfl)
    obtain ⟨m2, r2⟩ := h.field Try.underlying25 2 23 2 1 (by kernel_rfl) (by kernel_rfl)
    obtain ⟨m3, r3⟩ := h.field Try.underlying25 3 4 3 1 (by kernel_rfl) (by kernel_rfl)
    obtain ⟨m4, r4⟩ := h.field Try.underlying25 4 4 4 1 (by kernel_rfl) (by kernel_rfl)
    obtain ⟨m5, r5⟩ := h.field Try.underlying25 5 4 5 1 (by kernel_rfl) (by kernel_rfl)
    obtain ⟨m6, r6⟩ := h.field Try.underlying25 6 4 6 1 (by kernel_rfl) (by kernel_rfl)
    obtain ⟨m7, r7⟩ := h.field Try.underlying25 7 3 7 1 (by kernel_rfl) (by kernel_rfl)
    obtain ⟨m8, r8⟩ := h.field Try.underlying25 8 4 8 1 (by kernel_rfl) (by kernel_rfl)
    obtain ⟨m9, r9⟩ := h.field Try.underlying25 9 4 9 1 (by kernel_rfl) (by kernel_rfl)
    obtain ⟨a0, e0, f0⟩ := r0.u32 Try.underlying22
    obtain ⟨a1, e1, f1⟩ := r1.int64 Try.underlying3
    obtain ⟨a2, e2, f2⟩ := r2.u32 Try.underlying23
    obtain ⟨a3, e3⟩ := r3.bool Try.underlying4
    obtain ⟨a4, e4⟩ := r4.bool Try.underlying4
    obtain ⟨a5, e5⟩ := r5.bool Try.underlying4
    obtain ⟨a6, e6⟩ := r6.bool Try.underlying4
    obtain ⟨a7, e7, f7⟩ := r7.int64 Try.underlying3
    obtain ⟨a8, e8⟩ := r8.bool Try.underlying4
    obtain ⟨a9, e9⟩ := r9.bool Try.underlying4
    simp at e0 e1 e2 e3 e4 e5 e6 e7 e8 e9
    subst e0 e1 e2 e3 e4 e5 e6 e7 e8 e9
    exact ⟨⟨a0, a1, a2, a3, a4, a5, a6, a7, a8, a9⟩, rfl, ⟨f0.1, f0.2, f2.1, f2.2⟩⟩

namespace openBuilds
theorem walk {W : World} (n0 : Nat) {cs0 : Array Value} (g0 : Rd Try.prog W n0 25 (Value.agg cs0).cells.toList) :
    Calls Try.prog 3 #[.agg cs0] W fun e w' => e = .returned (.bool true) ∧ Only [] W w' := by
  obtain ⟨o, h1, h2⟩ := open_arg g0
  have : cs0 = o.cells := by
    apply Array.toList_inj.1
    exact h1
  subst this
  exact builds_walk o h2 W
end openBuilds
namespace openBuilds
open Go.ChangeShapes Go.WideShapes Go.ChangeAt
set_option linter.unusedVariables false

theorem own : ownKnob Try.prog.godebug = none := by kernel_rfl
theorem laidOut : laidOutB Try.prog = true := by kernel_rfl

set_option maxRecDepth 100000 in
theorem lifted (os : Os) (started : os.Started) (H : Type) (enc : TypeId × Value → H) :
    ReturnsInHanded {} Try.checked os 3 .any (Rows.openBuildsSpec.pre6 enc Try.prog Try.f3 Rows.openBuildsRow.domain false) (Rows.openBuildsSpec.post enc Try.prog Try.f3 false true false false) := by
  refine returnsInHanded_of_change (C := Try.checked) own started (by kernel_rfl) Try.func3
    (ChangeSpec.witness6 (enc := enc) (C := Try.checked) false ⟨#[], #[.agg #[.int .u32 0, .int .i64 0, .int .u32 0, .bool false, .bool false, .bool false, .bool false, .int .i64 0, .bool false, .bool false]], []⟩ 8 (by kernel_rfl) (by kernel_rfl) (by kernel_rfl) (by kernel_rfl)) ?_
  intro W base args ds gs before hval0 hW hcnd hreach
  have hval : ∀ (j : Nat) t v, Try.f3.params[j]? = some t → args[j]? = some v → Value.okWide Try.prog W .any base t v := hval0
  have hW' := hW
  obtain ⟨p, q, hA0, hV, rfl, hfz, hnd⟩ := hW
  have hA : DataW.TrodAll enc Try.prog W 0 (fun _ => true) true Try.f3.params.toList args.toList ds p := hA0
  rw [Try.params3] at hA hval
  obtain ⟨v0, vs0, d0, ds0, p0, q0, hargs, rfl, rfl, h0, r0⟩ := trodAll_cons hA
  obtain ⟨rfl, rfl, rfl⟩ := trodAll_nil r0
  obtain rfl : args = #[v0] := by cases args; simp_all
  obtain ⟨rfl, rfl⟩ := trodVars_none hV
  have k0 := h0
  have lt0 : ∀ x ∈ p0, x.block < W.heap.size := by obtain ⟨m, hm⟩ := k0; exact DataW.trod_lt m _ _ _ hm
  obtain ⟨n0, g0⟩ := Rd.ofTrod' h0
  obtain ⟨cs0, rfl, hs0⟩ := okWide_struct Try.underlying25 (hval 0 25 v0 rfl rfl)
  refine (walk n0 g0).mono fun e W' ⟨he, hg⟩ => ?_
  subst he
  have bel := hg.belowNil
  exact ⟨_, rfl, _, _, _, [], _, [], hW', trodAll_mk1 (shut_bool Try.underlying4 _), (trodAll_cons_mk (Below.trod laidOut (by kernel_rfl) (of_decide_eq_true (by kernel_rfl)) k0 bel lt0) trodAll_mk0), rfl, bel.frame _, fun h => by cases h⟩

theorem over : Rows.openBuildsRow.holds Try.pinned (OpenSpec.ofChange Rows.openBuildsSpec) :=
  OpenClaim.holds_of_wide 3 Try.f3 rfl rfl rfl rfl rfl rfl rfl ⟨rfl, rfl, rfl, rfl, rfl⟩ rfl rfl rfl rfl rfl (by kernel_rfl) Try.func3 (by kernel_rfl)
    (of_decide_eq_true (by kernel_rfl)) (by unfold Func.isWrapper; first | (rw [if_pos (by decide +kernel)]; kernel_rfl) | (rw [if_neg (by decide +kernel)]; exact ⟨rfl, rfl⟩))
    (fun os started H enc _ => lifted os started H enc)

/-- The statement. -/
theorem proved : Rows.OpenBuildsSaid := over
#print axioms proved
end openBuilds
end Go.Proofs.Ytdbahaajgedgkaa
