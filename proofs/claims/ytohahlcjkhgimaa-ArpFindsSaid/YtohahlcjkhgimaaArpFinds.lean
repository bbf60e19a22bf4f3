/-
  ArpFinds: an address is found once it is learned, and till its time.
-/
import Derived.Test.YtohahlcjkhgimaaAr26
import Derived.HandedShaped
namespace Go.Proofs.Ytohahlcjkhgimaa
set_option linter.unusedSimpArgs false
set_option linter.unusedVariables false
open Go.RowKit Go.Pm

theorem act_el {w : World} (m : Nat) (d : List Value) (_ : d.length = 10) (h : Rs Try.prog w m 35 d) : ∃ x : Ac, d = acC x ∧ I64 x.t := by
  have h0 := leaf_of 5 35 [3, 3, 24, 5, 5, 5, 5, 5, 5, 33] m d (by kernel_rfl) h
  obtain ⟨z, r, e, _, h1⟩ := h0.i64 Try.underlying3
  subst e
  obtain ⟨t, r, e, bt, h2⟩ := h1.i64 Try.underlying3
  subst e
  obtain ⟨a, r, e, _, h3⟩ := h2.u32 Try.underlying24
  subst e
  obtain ⟨mc, r2, e2, h4⟩ := mac_leaf h3
  subst e2
  obtain ⟨ba, bl, bc, r, e, _, h5⟩ := h4.sl Try.underlying33
  subst e
  cases h5
  exact ⟨⟨z, t, a, mc, ba, bl, bc⟩, rfl, bt⟩
theorem acts_arg {W : World} {n : Nat} {a : Option Addr} {l c : Nat} (h : Rs Try.prog W n 22 [.slice a l c]) : ∃ es : List Ac, es.length = l ∧ es.length ≤ 140737488355328 ∧ (∀ x ∈ es, I64 x.t) ∧ Kn (World.all W) (fun w => Vw w (.slice a es.length c) 10 es.length (flat acC es)) := by
  obtain ⟨es, rfl, h1, h2, h3, h4, h5⟩ := h.list (sz := 10) (b := 56) (enc := acC) (ok := fun x => I64 x.t) Try.underlying22 (by kernel_rfl) (by kernel_rfl) act_el
  exact ⟨es, rfl, by simp only [reachBytes] at h3; omega, h5, vwKn h4⟩
namespace arpFinds
theorem walk {W : World} (n0 : Nat) {a0 : Option Addr} {l0 c0 : Nat} (g0 : Rs Try.prog W n0 22 (Value.slice a0 l0 c0).cells.toList) (n1 : Nat) {a1 : Int} (g1 : Rs Try.prog W n1 24 (Value.int .u32 a1).cells.toList) (n2 : Nat) {cs2 : Array Value} (g2 : Rs Try.prog W n2 26 (Value.agg cs2).cells.toList) (n3 : Nat) {a3 : Int} (g3 : Rs Try.prog W n3 3 (Value.int .i64 a3).cells.toList) (n4 : Nat) {a4 : Int} (g4 : Rs Try.prog W n4 3 (Value.int .i64 a4).cells.toList) :
    Calls Try.prog 3 #[.slice a0 l0 c0, .int .u32 a1, .agg cs2, .int .i64 a3, .int .i64 a4] W fun e w' => e = .returned (.bool true) ∧ Only [] W w' := by
  obtain ⟨es, rfl, hl, ht, hK⟩ := acts_arg g0
  obtain ⟨m, rfl⟩ := mac_arg g2
  have h3 : I64 a3 := i64Arg Try.underlying3 g3
  have h4 : I64 a4 := i64Arg Try.underlying3 g4
  exact (finds_s a0 c0 es.length es a1 m a3 a4 rfl hl h3 h4 ht).law hK
end arpFinds
namespace arpFinds
open Go.ChangeShapes Go.WideShapes Go.ChangeAt
set_option linter.unusedVariables false

theorem own : ownKnob Try.prog.godebug = none := by kernel_rfl
theorem laidOut : laidOutB Try.prog = true := by kernel_rfl

set_option maxRecDepth 100000 in
theorem lifted (os : Os) (started : os.Started) (H : Type) (enc : TypeId × Value → H) :
    ReturnsInHanded {} Try.checked os 3 .any (Rows.arpFindsSpec.pre6 enc Try.prog Try.f3 Rows.arpFindsRow.domain false) (Rows.arpFindsSpec.post enc Try.prog Try.f3 false true false false) := by
  refine returnsInHanded_of_change_sized (C := Try.checked) own started (by kernel_rfl) Try.func3
    (ChangeSpec.witness6 (enc := enc) (C := Try.checked) false ⟨#[], #[.slice none 0 0, .int .u32 0, .agg #[.int .u8 0, .int .u8 0, .int .u8 0, .int .u8 0, .int .u8 0, .int .u8 0], .int .i64 0, .int .i64 0], []⟩ 8 (by kernel_rfl) (by kernel_rfl) (by kernel_rfl) (by kernel_rfl)) ?_
  intro W base args ds gs before hval0 hW hcnd hsz hreach
  have hval : ∀ (j : Nat) t v, Try.f3.params[j]? = some t → args[j]? = some v → Value.okWide Try.prog W .any base t v := hval0
  have hW' := hW
  obtain ⟨p, q, hA0, hV, rfl, hfz, hnd⟩ := hW
  have hA : DataW.TrodAll enc Try.prog W 0 (fun _ => true) true Try.f3.params.toList args.toList ds p := hA0
  rw [Try.params3] at hA hval
  obtain ⟨v0, vs0, d0, ds0, p0, q0, hargs, rfl, rfl, h0, r0⟩ := trodAll_cons hA
  obtain ⟨v1, vs1, d1, ds1, p1, q1, rfl, rfl, rfl, h1, r1⟩ := trodAll_cons r0
  obtain ⟨v2, vs2, d2, ds2, p2, q2, rfl, rfl, rfl, h2, r2⟩ := trodAll_cons r1
  obtain ⟨v3, vs3, d3, ds3, p3, q3, rfl, rfl, rfl, h3, r3⟩ := trodAll_cons r2
  obtain ⟨v4, vs4, d4, ds4, p4, q4, rfl, rfl, rfl, h4, r4⟩ := trodAll_cons r3
  obtain ⟨rfl, rfl, rfl⟩ := trodAll_nil r4
  obtain rfl : args = #[v0, v1, v2, v3, v4] := by cases args; simp_all
  obtain ⟨rfl, rfl⟩ := trodVars_none hV
  have k0 := h0
  have lt0 : ∀ x ∈ p0, x.block < W.heap.size := by obtain ⟨m, hm⟩ := k0; exact DataW.trod_lt m _ _ _ hm
  obtain ⟨n0, g0⟩ := Rs.of_weights hsz 0 (by first | rfl | (simp [Try.params3])) rfl h0
  obtain ⟨a0, l0, c0, rfl⟩ := okWide_slice Try.underlying22 (hval 0 22 v0 rfl rfl)
  have k1 := h1
  have lt1 : ∀ x ∈ p1, x.block < W.heap.size := by obtain ⟨m, hm⟩ := k1; exact DataW.trod_lt m _ _ _ hm
  obtain ⟨n1, g1⟩ := Rs.of_weights hsz 1 (by first | rfl | (simp [Try.params3])) rfl h1
  obtain ⟨a1, rfl⟩ := okWide_int Try.underlying24 (hval 1 24 v1 rfl rfl)
  have k2 := h2
  have lt2 : ∀ x ∈ p2, x.block < W.heap.size := by obtain ⟨m, hm⟩ := k2; exact DataW.trod_lt m _ _ _ hm
  obtain ⟨n2, g2⟩ := Rs.of_weights hsz 2 (by first | rfl | (simp [Try.params3])) rfl h2
  obtain ⟨cs2, rfl, hs2⟩ := okWide_array Try.underlying26 (hval 2 26 v2 rfl rfl)
  have k3 := h3
  have lt3 : ∀ x ∈ p3, x.block < W.heap.size := by obtain ⟨m, hm⟩ := k3; exact DataW.trod_lt m _ _ _ hm
  obtain ⟨n3, g3⟩ := Rs.of_weights hsz 3 (by first | rfl | (simp [Try.params3])) rfl h3
  obtain ⟨a3, rfl⟩ := okWide_int Try.underlying3 (hval 3 3 v3 rfl rfl)
  have k4 := h4
  have lt4 : ∀ x ∈ p4, x.block < W.heap.size := by obtain ⟨m, hm⟩ := k4; exact DataW.trod_lt m _ _ _ hm
  obtain ⟨n4, g4⟩ := Rs.of_weights hsz 4 (by first | rfl | (simp [Try.params3])) rfl h4
  obtain ⟨a4, rfl⟩ := okWide_int Try.underlying3 (hval 4 3 v4 rfl rfl)
  refine (walk n0 g0 n1 g1 n2 g2 n3 g3 n4 g4).mono fun e W' ⟨he, hg⟩ => ?_
  subst he
  have bel := hg.belowNil
  exact ⟨_, rfl, _, _, _, [], _, [], hW', trodAll_mk1 (shut_bool Try.underlying4 _), (trodAll_cons_mk (Below.trod laidOut (by kernel_rfl) (of_decide_eq_true (by kernel_rfl)) k0 bel lt0) (trodAll_cons_mk (Below.trod laidOut (by kernel_rfl) (of_decide_eq_true (by kernel_rfl)) k1 bel lt1) (trodAll_cons_mk (Below.trod laidOut (by kernel_rfl) (of_decide_eq_true (by kernel_rfl)) k2 bel lt2) (trodAll_cons_mk (Below.trod laidOut (by kernel_rfl) (of_decide_eq_true (by kernel_rfl)) k3 bel lt3) (trodAll_cons_mk (Below.trod laidOut (by kernel_rfl) (of_decide_eq_true (by kernel_rfl)) k4 bel lt4) trodAll_mk0))))), rfl, bel.frame _, fun h => by cases h⟩

theorem over : Rows.arpFindsRow.holds Try.pinned (OpenSpec.ofChange Rows.arpFindsSpec) :=
  OpenClaim.holds_of_wide 3 Try.f3 rfl rfl rfl rfl rfl rfl rfl ⟨rfl, rfl, rfl, rfl, rfl⟩ rfl rfl rfl rfl rfl (by kernel_rfl) Try.func3 (by kernel_rfl)
    (of_decide_eq_true (by kernel_rfl)) (by unfold Func.isWrapper; first | (rw [if_pos (by decide +kernel)]; kernel_rfl) | (rw [if_neg (by decide +kernel)]; exact ⟨rfl, rfl⟩))
    (fun os started H enc _ => lifted os started H enc)

/-- The statement. -/
theorem proved : Rows.ArpFindsSaid := over
#print axioms proved
end arpFinds
end Go.Proofs.Ytohahlcjkhgimaa
