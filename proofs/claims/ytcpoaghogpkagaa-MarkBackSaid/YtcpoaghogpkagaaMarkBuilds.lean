/-
  MarkBuilds: for every kind and all bytes the law returns true and leaves its arguments alone (no condition).
-/
import Derived.Test.YtcpoaghogpkagaaMarkWorks
import Derived.ShutString
namespace Go.Proofs.Ytcpoaghogpkagaa
set_option linter.unusedSimpArgs false
set_option linter.unusedVariables false
open Go.RowKit Go.Pm


theorem bodyL_twice (l : List Int) : bodyL (bodyL l) = bodyL l := by
  unfold bodyL
  by_cases h : 4077 < l.length
  · rw [if_pos h, if_pos (by rw [List.length_replicate]; omega)]
  · rw [if_neg h, if_neg (by simp; omega), List.take_take]
    simp
theorem bodyL_len (l : List Int) : (bodyL l).length ≤ 4078 := by
  unfold bodyL
  split
  · rw [List.length_replicate]; omega
  · rw [List.length_take]; omega
theorem byte_bodyL {l : List Int} (h : Byte l) : Byte (bodyL l) := by
  unfold bodyL
  split
  · intro n hn
    have := List.eq_of_mem_replicate hn
    omega
  · exact fun n hn => h n (List.take_subset _ _ hn)
theorem byte_msgB (k : Int) (l : List Int) (h : Byte l) (hl : l.length ≤ 4096) (hk : 0 ≤ k ∧ k < 256) : Byte (msgB k l) := by
  unfold msgB
  refine Byte.append (Byte.append ?_ ?_) h
  · intro n hn
    have := List.eq_of_mem_replicate hn
    omega
  · intro n hn
    simp only [List.mem_cons, List.not_mem_nil, or_false] at hn
    rcases hn with rfl | rfl | rfl <;> omega
theorem fits_kind {k n : Int} (h : fitsB k n = true) : 1 ≤ k ∧ k ≤ 5 := by
  unfold fitsB known at h
  simp at h
  omega

set_option maxHeartbeats 1000000 in
theorem builds_walk (W : World) (k : Int) (v : Value) (l : List Int) (hv : VwB W v l) (hy : Byte l) :
    Calls Try.prog 3 #[.int .i64 k, v] W fun e w' => e = .returned (.bool true) ∧ Only [] W w' := by
  have HV := Lib.hid hv
  have HL := Lib.hid (bodyL_len l)
  have HT := Lib.hid (bodyL_twice l)
  have HY := Lib.hid (byte_bodyL hy)
  clear hv hy
  generalize hB : bodyL l = B at *
  have HB := Lib.hid hB
  clear hB
  go_enter Try.func3, Try.ntmps3
  go_wp2_with fail
  refine (body_any W _ (Only.refl _ _) _ _ HV.out).mono ?_
  rintro e w1 ⟨v1, rfl, ho1, hw1⟩
  rw [HB.out] at ho1
  have HO1 := Lib.hid ho1
  have HW1 := Lib.hid hw1
  clear ho1 hw1
  go_wp2_with fail
  refine (body_any w1 _ (Only.refl _ _) _ _ HO1.out.vw).mono ?_
  rintro e w2 ⟨v2, rfl, ho2, hw2⟩
  rw [HT.out] at ho2
  have HO2 := Lib.hid ho2
  have HW2 := Lib.hid hw2
  obtain ⟨a1, c1, rfl, _, _⟩ := HO1.out.vw.shape
  obtain ⟨a2, c2, rfl, _, _⟩ := ho2.vw.shape
  clear ho2 hw2
  by_cases hf : B.length ≤ 4096 ∧ fitsB k (19 + B.length) = true
  · obtain ⟨hn, hf⟩ := hf
    have HF := Lib.hid hf
    have hk := fits_kind hf
    have HM := Lib.hid (byte_msgB k B HY.out hn (by omega))
    have HS : Hid (sameB (msgB k B) (msgB k B) = true) := decide_eq_true rfl
    clear hf hk
    go_wp2_with fail
    refine (build_yes w2 _ (Only.refl _ _) k _ B HO2.out.vw hn HF.out).mono ?_
    rintro e w3 ⟨v3, rfl, ho3, hw3⟩
    have HO3 := Lib.hid ho3
    have HW3 := Lib.hid hw3
    clear ho3 hw3
    go_wp2_with fail
    refine (rbuild_yes w1 _ (HW2.out.then HW3.out) k _ B HO1.out.vw hn HF.out).mono ?_
    rintro e w4 ⟨v4, rfl, ho4, hw4⟩
    have HO4 := Lib.hid ho4
    have HW4 := Lib.hid hw4
    clear ho4 hw4
    go_wp2_with fail
    refine (same_any w4 _ (Only.refl _ _) _ _ _ _ (HO3.out.vw.only HW4.out) HO4.out.vw HM.out HM.out).mono ?_
    rintro e w5 ⟨rfl, rfl⟩
    rw [HS.out]
    go_wp2_with fail
    refine (works_any _).mono ?_
    rintro e w6 ⟨rfl, hw6⟩
    go_wp2_with fail
    go_ret
    exact ⟨rfl, (((HW1.out.then HW2.out).then HW3.out).then HW4.out).then hw6⟩
  · have HF := Lib.hid hf
    have HS : Hid (sameB [] [] = true) := decide_eq_true rfl
    have hl := HL.out
    clear hf
    go_wp2_with fail
    refine (build_no _ k _ _ _ (by omega) HF.out).mono ?_
    rintro e w3 ⟨rfl, rfl⟩
    go_wp2_with fail
    refine (rbuild_no _ k _ _ _ (by omega) HF.out).mono ?_
    rintro e w3 ⟨rfl, rfl⟩
    go_wp2_with fail
    refine (same_any _ _ (Only.refl _ _) _ _ [] [] (VwB.nil _) (VwB.nil _) (by simp [Byte]) (by simp [Byte])).mono ?_
    rintro e w5 ⟨rfl, rfl⟩
    rw [HS.out]
    go_wp2_with fail
    refine (works_any _).mono ?_
    rintro e w6 ⟨rfl, hw6⟩
    go_wp2_with fail
    go_ret
    exact ⟨rfl, (HW1.out.then HW2.out).then hw6⟩

namespace markBuilds
theorem walk {W : World} (n0 : Nat) {a0 : Int} (g0 : Rd Try.prog W n0 3 (Value.int .i64 a0).cells.toList) (n1 : Nat) {a1 : Option Addr} {l1 c1 : Nat} (g1 : Rd Try.prog W n1 22 (Value.slice a1 l1 c1).cells.toList) :
    Calls Try.prog 3 #[.int .i64 a0, .slice a1 l1 c1] W fun e w' => e = .returned (.bool true) ∧ Only [] W w' := by
  obtain ⟨m, _, hm, hmb⟩ := Rd.bytes (show Rd Try.prog W n1 22 [.slice a1 l1 c1] from g1) Try.underlying22 Try.underlying5 (by kernel_rfl)
  exact builds_walk W a0 _ m hm hmb
end markBuilds
namespace markBuilds
open Go.ChangeShapes Go.WideShapes Go.ChangeAt
set_option linter.unusedVariables false

theorem own : ownKnob Try.prog.godebug = none := by kernel_rfl
theorem laidOut : laidOutB Try.prog = true := by kernel_rfl

set_option maxRecDepth 100000 in
theorem lifted (os : Os) (started : os.Started) (H : Type) (enc : TypeId × Value → H) :
    ReturnsInHanded {} Try.checked os 3 .any (Rows.markBuildsSpec.pre6 enc Try.prog Try.f3 Rows.markBuildsRow.domain false) (Rows.markBuildsSpec.post enc Try.prog Try.f3 false true false false) := by
  refine returnsInHanded_of_change (C := Try.checked) own started (by kernel_rfl) Try.func3
    (ChangeSpec.witness6 (enc := enc) (C := Try.checked) false ⟨#[], #[.int .i64 0, .slice none 0 0], []⟩ 8 (by kernel_rfl) (by kernel_rfl) (by kernel_rfl) (by kernel_rfl)) ?_
  intro W base args ds gs before hval0 hW hcnd hreach
  have hval : ∀ (j : Nat) t v, Try.f3.params[j]? = some t → args[j]? = some v → Value.okWide Try.prog W .any base t v := hval0
  have hW' := hW
  obtain ⟨p, q, hA0, hV, rfl, hfz, hnd⟩ := hW
  have hA : DataW.TrodAll enc Try.prog W 0 (fun _ => true) true Try.f3.params.toList args.toList ds p := hA0
  rw [Try.params3] at hA hval
  obtain ⟨v0, vs0, d0, ds0, p0, q0, hargs, rfl, rfl, h0, r0⟩ := trodAll_cons hA
  obtain ⟨v1, vs1, d1, ds1, p1, q1, rfl, rfl, rfl, h1, r1⟩ := trodAll_cons r0
  obtain ⟨rfl, rfl, rfl⟩ := trodAll_nil r1
  obtain rfl : args = #[v0, v1] := by cases args; simp_all
  obtain ⟨rfl, rfl⟩ := trodVars_none hV
  have k0 := h0
  have lt0 : ∀ x ∈ p0, x.block < W.heap.size := by obtain ⟨m, hm⟩ := k0; exact DataW.trod_lt m _ _ _ hm
  obtain ⟨n0, g0⟩ := Rd.ofTrod' h0
  obtain ⟨a0, rfl⟩ := okWide_int Try.underlying3 (hval 0 3 v0 rfl rfl)
  have k1 := h1
  have lt1 : ∀ x ∈ p1, x.block < W.heap.size := by obtain ⟨m, hm⟩ := k1; exact DataW.trod_lt m _ _ _ hm
  obtain ⟨n1, g1⟩ := Rd.ofTrod' h1
  obtain ⟨a1, l1, c1, rfl⟩ := okWide_slice Try.underlying22 (hval 1 22 v1 rfl rfl)
  refine (walk n0 g0 n1 g1).mono fun e W' ⟨he, hg⟩ => ?_
  subst he
  have bel := hg.belowNil
  exact ⟨_, rfl, _, _, _, [], _, [], hW', trodAll_mk1 (shut_bool Try.underlying4 _), (trodAll_cons_mk (Below.trod laidOut (by kernel_rfl) (of_decide_eq_true (by kernel_rfl)) k0 bel lt0) (trodAll_cons_mk (Below.trod laidOut (by kernel_rfl) (of_decide_eq_true (by kernel_rfl)) k1 bel lt1) trodAll_mk0)), rfl, bel.frame _, fun h => by cases h⟩

theorem over : Rows.markBuildsRow.holds Try.pinned (OpenSpec.ofChange Rows.markBuildsSpec) :=
  OpenClaim.holds_of_wide 3 Try.f3 rfl rfl rfl rfl rfl rfl rfl ⟨rfl, rfl, rfl, rfl, rfl⟩ rfl rfl rfl rfl rfl (by kernel_rfl) Try.func3 (by kernel_rfl)
    (of_decide_eq_true (by kernel_rfl)) (by unfold Func.isWrapper; first | (rw [if_pos (by decide +kernel)]; kernel_rfl) | (rw [if_neg (by decide +kernel)]; exact ⟨rfl, rfl⟩))
    (fun os started H enc _ => lifted os started H enc)

/-- The statement. -/
theorem proved : Rows.MarkBuildsSaid := over
#print axioms proved
end markBuilds
end Go.Proofs.Ytcpoaghogpkagaa
