/-
  SendEnds: if all that is sent is acknowledged, with a window, all that was written is sent and acknowledged.
-/
import Derived.Test.YtocdmefajlillaaSn11
import Derived.HandedShaped
namespace Go.Proofs.Ytocdmefajlillaa
set_option linter.unusedSimpArgs false
set_option linter.unusedVariables false
open Go.RowKit Go.Pm

theorem byte_el (W : World) : ∀ m d, d.length = 1 → Rs Try.prog W m 5 d → ∃ x, d = byC x ∧ True := by
  intro m d _ h
  obtain ⟨y, e, _⟩ := (Rs.rd _ _ _ h).int Try.underlying5
  exact ⟨y, e, trivial⟩
theorem int_el (W : World) : ∀ m d, d.length = 1 → Rs Try.prog W m 3 d → ∃ x, d = iC x ∧ I64 x := by
  intro m d _ h
  obtain ⟨y, e, h3⟩ := (Rs.rd _ _ _ h).int Try.underlying3
  exact ⟨y, e, bounds_i64 h3⟩
namespace sendEnds
theorem walk {W : World} (n0 : Nat) {a0 : Int} (g0 : Rs Try.prog W n0 22 (Value.int .u32 a0).cells.toList) (n1 : Nat) {a1 : Option Addr} {l1 c1 : Nat} (g1 : Rs Try.prog W n1 23 (Value.slice a1 l1 c1).cells.toList) (n2 : Nat) {a2 : Int} (g2 : Rs Try.prog W n2 3 (Value.int .i64 a2).cells.toList) (n3 : Nat) {a3 : Option Addr} {l3 c3 : Nat} (g3 : Rs Try.prog W n3 24 (Value.slice a3 l3 c3).cells.toList) (n4 : Nat) {a4 : Int} (g4 : Rs Try.prog W n4 3 (Value.int .i64 a4).cells.toList) :
    Calls Try.prog 3 #[.int .u32 a0, .slice a1 l1 c1, .int .i64 a2, .slice a3 l3 c3, .int .i64 a4] W fun e w' => e = .returned (.bool true) ∧ Only [] W w' := by
  obtain ⟨S, rfl, h1, h2, h3, h4, _⟩ := Rs.list (e := 5) (sz := 1) (b := 1) (enc := byC) (ok := fun _ => True) g1 Try.underlying23 (by kernel_rfl) (by kernel_rfl) (byte_el W)
  obtain ⟨ws, rfl, k1, k2, k3, k4, k5⟩ := Rs.list (e := 3) (sz := 1) (b := 8) (enc := iC) (ok := I64) g3 Try.underlying24 (by kernel_rfl) (by kernel_rfl) (int_el W)
  have e0 : U32 a0 := u32Arg Try.underlying22 g0
  have e2 : I64 a2 := i64Arg Try.underlying3 g2
  have e4 : I64 a4 := i64Arg Try.underlying3 g4
  simp only [reachBytes] at h3 k3
  exact (ends_s a0 a2 a4 a1 a3 c1 c3 S ws e0 e2 e4 ⟨h1, by omega⟩ (by omega) k5).law (Kn.and (vwKn h4) (vwKn k4))
end sendEnds
namespace sendEnds
open Go.ChangeShapes Go.WideShapes Go.ChangeAt
set_option linter.unusedVariables false

theorem own : ownKnob Try.prog.godebug = none := by kernel_rfl
theorem laidOut : laidOutB Try.prog = true := by kernel_rfl

set_option maxRecDepth 100000 in
theorem lifted (os : Os) (started : os.Started) (H : Type) (enc : TypeId × Value → H) :
    ReturnsInHanded {} Try.checked os 3 .any (Rows.sendEndsSpec.pre6 enc Try.prog Try.f3 Rows.sendEndsRow.domain false) (Rows.sendEndsSpec.post enc Try.prog Try.f3 false true false false) := by
  refine returnsInHanded_of_change_sized (C := Try.checked) own started (by kernel_rfl) Try.func3
    (ChangeSpec.witness6 (enc := enc) (C := Try.checked) false ⟨#[], #[.int .u32 0, .slice none 0 0, .int .i64 0, .slice none 0 0, .int .i64 0], []⟩ 8 (by kernel_rfl) (by kernel_rfl) (by kernel_rfl) (by kernel_rfl)) ?_
  intro W base args ds gs before hval0 hW hcnd hsz hreach
  have hval : ∀ (j : Nat) t v, Try.f3.params[j]? = some t → args[j]? = some v → Value.okWide Try.prog W .any base t v := hval0
  have hW' := hW
  obtain ⟨p, q, hA0, hV, rfl, hfz, hnd⟩ := hW
  have hA : DataW.TrodAll enc Try.prog W 0 (fun _ => true) true Try.f3.params.toList args.toList ds p := hA0
  rw [Try.params3] at hA hval
  obtain ⟨v0, vs0, d0, ds0, p0, q0, hargs, rfl, rfl, h0, r0⟩ := trodAll_cons hA
  obtain ⟨v1, vs1, d1, ds1, p1, q1, rfl, rfl, rfl, h1, r1⟩ := trodAll_cons r0
  obtain ⟨v2, vs2, d2, ds2, p2, q2, rfl, rfl, rfl, h2, r2⟩ := trodAll_cons r1
  obtain ⟨v3, vs3, d3, ds3, p3, q3, rfl, rfl, rfl, h3, r3⟩ := trodAll_cons r2
  obtain ⟨v4, vs4, d4, ds4, p4, q4, rfl, rfl, rfl, h4, r4⟩ := trodAll_cons r3
  obtain ⟨rfl, rfl, rfl⟩ := trodAll_nil r4
  obtain rfl : args = #[v0, v1, v2, v3, v4] := by cases args; simp_all
  obtain ⟨rfl, rfl⟩ := trodVars_none hV
  have k0 := h0
  have lt0 : ∀ x ∈ p0, x.block < W.heap.size := by obtain ⟨m, hm⟩ := k0; exact DataW.trod_lt m _ _ _ hm
  obtain ⟨n0, g0⟩ := Rs.of_weights hsz 0 (by first | rfl | (simp [Try.params3])) rfl h0
  obtain ⟨a0, rfl⟩ := okWide_int Try.underlying22 (hval 0 22 v0 rfl rfl)
  have k1 := h1
  have lt1 : ∀ x ∈ p1, x.block < W.heap.size := by obtain ⟨m, hm⟩ := k1; exact DataW.trod_lt m _ _ _ hm
  obtain ⟨n1, g1⟩ := Rs.of_weights hsz 1 (by first | rfl | (simp [Try.params3])) rfl h1
  obtain ⟨a1, l1, c1, rfl⟩ := okWide_slice Try.underlying23 (hval 1 23 v1 rfl rfl)
  have k2 := h2
  have lt2 : ∀ x ∈ p2, x.block < W.heap.size := by obtain ⟨m, hm⟩ := k2; exact DataW.trod_lt m _ _ _ hm
  obtain ⟨n2, g2⟩ := Rs.of_weights hsz 2 (by first | rfl | (simp [Try.params3])) rfl h2
  obtain ⟨a2, rfl⟩ := okWide_int Try.underlying3 (hval 2 3 v2 rfl rfl)
  have k3 := h3
  have lt3 : ∀ x ∈ p3, x.block < W.heap.size := by obtain ⟨m, hm⟩ := k3; exact DataW.trod_lt m _ _ _ hm
  obtain ⟨n3, g3⟩ := Rs.of_weights hsz 3 (by first | rfl | (simp [Try.params3])) rfl h3
  obtain ⟨a3, l3, c3, rfl⟩ := okWide_slice Try.underlying24 (hval 3 24 v3 rfl rfl)
  have k4 := h4
  have lt4 : ∀ x ∈ p4, x.block < W.heap.size := by obtain ⟨m, hm⟩ := k4; exact DataW.trod_lt m _ _ _ hm
  obtain ⟨n4, g4⟩ := Rs.of_weights hsz 4 (by first | rfl | (simp [Try.params3])) rfl h4
  obtain ⟨a4, rfl⟩ := okWide_int Try.underlying3 (hval 4 3 v4 rfl rfl)
  refine (walk n0 g0 n1 g1 n2 g2 n3 g3 n4 g4).mono fun e W' ⟨he, hg⟩ => ?_
  subst he
  have bel := hg.belowNil
  exact ⟨_, rfl, _, _, _, [], _, [], hW', trodAll_mk1 (shut_bool Try.underlying4 _), (trodAll_cons_mk (Below.trod laidOut (by kernel_rfl) (of_decide_eq_true (by kernel_rfl)) k0 bel lt0) (trodAll_cons_mk (Below.trod laidOut (by kernel_rfl) (of_decide_eq_true (by kernel_rfl)) k1 bel lt1) (trodAll_cons_mk (Below.trod laidOut (by kernel_rfl) (of_decide_eq_true (by kernel_rfl)) k2 bel lt2) (trodAll_cons_mk (Below.trod laidOut (by kernel_rfl) (of_decide_eq_true (by kernel_rfl)) k3 bel lt3) (trodAll_cons_mk (Below.trod laidOut (by kernel_rfl) (of_decide_eq_true (by kernel_rfl)) k4 bel lt4) trodAll_mk0))))), rfl, bel.frame _, fun h => by cases h⟩

theorem over : Rows.sendEndsRow.holds Try.pinned (OpenSpec.ofChange Rows.sendEndsSpec) :=
  OpenClaim.holds_of_wide 3 Try.f3 rfl rfl rfl rfl rfl rfl rfl ⟨rfl, rfl, rfl, rfl, rfl⟩ rfl rfl rfl rfl rfl (by kernel_rfl) Try.func3 (by kernel_rfl)
    (of_decide_eq_true (by kernel_rfl)) (by unfold Func.isWrapper; first | (rw [if_pos (by decide +kernel)]; kernel_rfl) | (rw [if_neg (by decide +kernel)]; exact ⟨rfl, rfl⟩))
    (fun os started H enc _ => lifted os started H enc)

/-- The statement. -/
theorem proved : Rows.SendEndsSaid := over
#print axioms proved
end sendEnds
end Go.Proofs.Ytocdmefajlillaa
