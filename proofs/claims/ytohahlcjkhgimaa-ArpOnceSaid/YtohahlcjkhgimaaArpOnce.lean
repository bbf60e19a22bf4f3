/-
  ArpOnce: each packet that waits comes out once, by learning, in order, or by ageing.
-/
import Derived.Test.YtohahlcjkhgimaaAr30
import Derived.HandedShaped
namespace Go.Proofs.Ytohahlcjkhgimaa
set_option linter.unusedSimpArgs false
set_option linter.unusedVariables false
open Go.RowKit Go.Pm

theorem act_el {w : World} (m : Nat) (d : List Value) (_ : d.length = 10) (h : Rs Try.prog w m 35 d) : ∃ x : Ac, d = acC x ∧ (I64 x.t ∧ I64 x.d) := by
  have h0 := leaf_of 5 35 [3, 3, 24, 5, 5, 5, 5, 5, 5, 33] m d (by kernel_rfl) h
  obtain ⟨z, r, e, bz, h1⟩ := h0.i64 Try.underlying3
  subst e
  obtain ⟨t, r, e, bt, h2⟩ := h1.i64 Try.underlying3
  subst e
  obtain ⟨a, r, e, _, h3⟩ := h2.u32 Try.underlying24
  subst e
  obtain ⟨mc, r2, e2, h4⟩ := mac_leaf h3
  subst e2
  obtain ⟨ba, bl, bc, r, e, _, h5⟩ := h4.sl Try.underlying33
  subst e
  cases h5
  exact ⟨⟨z, t, a, mc, ba, bl, bc⟩, rfl, bt, bz⟩
theorem acts_arg {W : World} {n : Nat} {a : Option Addr} {l c : Nat} (h : Rs Try.prog W n 22 [.slice a l c]) : ∃ es : List Ac, es.length = l ∧ es.length ≤ 140737488355328 ∧ (∀ x ∈ es, I64 x.t ∧ I64 x.d) ∧ Kn (World.all W) (fun w => Vw w (.slice a es.length c) 10 es.length (flat acC es)) := by
  obtain ⟨es, rfl, h1, h2, h3, h4, h5⟩ := h.list (sz := 10) (b := 56) (enc := acC) (ok := fun x => I64 x.t ∧ I64 x.d) Try.underlying22 (by kernel_rfl) (by kernel_rfl) act_el
  exact ⟨es, rfl, by simp only [reachBytes] at h3; omega, h5, vwKn h4⟩
namespace arpOnce
theorem walk {W : World} (n0 : Nat) {a0 : Option Addr} {l0 c0 : Nat} (g0 : Rs Try.prog W n0 22 (Value.slice a0 l0 c0).cells.toList) :
    Calls Try.prog 7 #[.slice a0 l0 c0] W fun e w' => e = .returned (.bool true) ∧ Only [] W w' := by
  obtain ⟨es, rfl, hl, ht, hK⟩ := acts_arg g0
  exact (once_s a0 c0 es.length es rfl hl ht).law hK
end arpOnce
namespace arpOnce
open Go.ChangeShapes Go.WideShapes Go.ChangeAt
set_option linter.unusedVariables false

theorem own : ownKnob Try.prog.godebug = none := by kernel_rfl
theorem laidOut : laidOutB Try.prog = true := by kernel_rfl

set_option maxRecDepth 100000 in
theorem lifted (os : Os) (started : os.Started) (H : Type) (enc : TypeId × Value → H) :
    ReturnsInHanded {} Try.checked os 7 .any (Rows.arpOnceSpec.pre6 enc Try.prog Try.f7 Rows.arpOnceRow.domain false) (Rows.arpOnceSpec.post enc Try.prog Try.f7 false true false false) := by
  refine returnsInHanded_of_change_sized (C := Try.checked) own started (by kernel_rfl) Try.func7
    (ChangeSpec.witness6 (enc := enc) (C := Try.checked) false ⟨#[], #[.slice none 0 0], []⟩ 8 (by kernel_rfl) (by kernel_rfl) (by kernel_rfl) (by kernel_rfl)) ?_
  intro W base args ds gs before hval0 hW hcnd hsz hreach
  have hval : ∀ (j : Nat) t v, Try.f7.params[j]? = some t → args[j]? = some v → Value.okWide Try.prog W .any base t v := hval0
  have hW' := hW
  obtain ⟨p, q, hA0, hV, rfl, hfz, hnd⟩ := hW
  have hA : DataW.TrodAll enc Try.prog W 0 (fun _ => true) true Try.f7.params.toList args.toList ds p := hA0
  rw [Try.params7] at hA hval
  obtain ⟨v0, vs0, d0, ds0, p0, q0, hargs, rfl, rfl, h0, r0⟩ := trodAll_cons hA
  obtain ⟨rfl, rfl, rfl⟩ := trodAll_nil r0
  obtain rfl : args = #[v0] := by cases args; simp_all
  obtain ⟨rfl, rfl⟩ := trodVars_none hV
  have k0 := h0
  have lt0 : ∀ x ∈ p0, x.block < W.heap.size := by obtain ⟨m, hm⟩ := k0; exact DataW.trod_lt m _ _ _ hm
  obtain ⟨n0, g0⟩ := Rs.of_weights hsz 0 (by first | rfl | (simp [Try.params7])) rfl h0
  obtain ⟨a0, l0, c0, rfl⟩ := okWide_slice Try.underlying22 (hval 0 22 v0 rfl rfl)
  refine (walk n0 g0).mono fun e W' ⟨he, hg⟩ => ?_
  subst he
  have bel := hg.belowNil
  exact ⟨_, rfl, _, _, _, [], _, [], hW', trodAll_mk1 (shut_bool Try.underlying4 _), (trodAll_cons_mk (Below.trod laidOut (by kernel_rfl) (of_decide_eq_true (by kernel_rfl)) k0 bel lt0) trodAll_mk0), rfl, bel.frame _, fun h => by cases h⟩

theorem over : Rows.arpOnceRow.holds Try.pinned (OpenSpec.ofChange Rows.arpOnceSpec) :=
  OpenClaim.holds_of_wide 7 Try.f7 rfl rfl rfl rfl rfl rfl rfl ⟨rfl, rfl, rfl, rfl, rfl⟩ rfl rfl rfl rfl rfl (by kernel_rfl) Try.func7 (by kernel_rfl)
    (of_decide_eq_true (by kernel_rfl)) (by unfold Func.isWrapper; first | (rw [if_pos (by decide +kernel)]; kernel_rfl) | (rw [if_neg (by decide +kernel)]; exact ⟨rfl, rfl⟩))
    (fun os started H enc _ => lifted os started H enc)

/-- The statement. -/
theorem proved : Rows.ArpOnceSaid := over
#print axioms proved
end arpOnce
end Go.Proofs.Ytohahlcjkhgimaa
