/-
  ViewForeign: a client without a policy is never told what it told, nor a path with its system, and next hop, MED and path are those of the candidate.
-/
import Derived.Test.YtdnokmpnemaoaaaGreatZViewForeign30
import Derived.HandedShaped
namespace Go.Proofs.YtdnokmpnemaoaaaGreat
set_option linter.unusedSimpArgs false
set_option linter.unusedVariables false
open Go.RowKit Go.Pm

theorem cand_el {w : World} (m : Nat) (d : List Value) (_ : d.length = 17) (h : Rs Tryz.prog w m 47 d) : ∃ x : B.Cd, d = B.cdC x ∧ CnN x ∧ AtV w x.toAt := by
  have h0 := leaf_of 5 47 (3 :: 22 :: 26 :: 26 :: [3, 31, 26, 4, 22, 4, 22, 4, 4, 22, 26, 32, 33]) m d (by kernel_rfl) h
  obtain ⟨pe, r, e, b0, h1⟩ := h0.i64 Tryz.underlying3
  subst e
  obtain ⟨sy, r, e, b1, h2⟩ := h1.u32 Tryz.underlying22
  subst e
  obtain ⟨ia, r, e, b2, h3⟩ := h2.u32 Tryz.underlying26
  subst e
  obtain ⟨aa, r, e, b3, h4⟩ := h3.u32 Tryz.underlying26
  subst e
  obtain ⟨d, rfl, hd, hv⟩ := attrs_leaf h4
  exact ⟨⟨d, pe, sy, ia, aa⟩, rfl, ⟨b0, b1, b2, b3, hd⟩, hv⟩
theorem cands_arg {W : World} {n : Nat} {a : Option Addr} {l c : Nat} (h : Rs Tryz.prog W n 29 [.slice a l c]) : ∃ cs : List B.Cd, cs.length = l ∧ cs.length ≤ 140737488355328 ∧ (∀ x ∈ cs, CnN x) ∧ Kn (World.all W) (fun w => Vw w (.slice a cs.length c) 17 cs.length (flat B.cdC cs) ∧ cnV cs w) := by
  obtain ⟨es, rfl, h1, h2, h3, h4, h5⟩ := h.list (sz := 17) (b := 136) (enc := B.cdC) (ok := fun x => CnN x ∧ AtV W x.toAt) Tryz.underlying29 (by kernel_rfl) (by kernel_rfl) cand_el
  exact ⟨es, rfl, by simp only [reachBytes] at h3; omega, fun x hx => (h5 x hx).1, kn_keep (fun hc h => ⟨vwKeep hc h.1, fun x hx => (h.2 x hx).keep hc⟩) ⟨h4, fun x hx => (h5 x hx).2⟩⟩
theorem client_arg {W : World} {n : Nat} {cs : Array Value} (h : Rs Tryz.prog W n 25 (Value.agg cs).cells.toList) : ∃ pe sy oa on oc m, cs = (clC pe sy oa on oc).toArray ∧ I64 pe ∧ U32 sy ∧ Rs Tryz.prog W m 23 [.slice oa on oc] := by
  have h0 := leaf_of 5 25 [3, 22, 23] n _ (by kernel_rfl) h
  obtain ⟨pe, r, e, b0, h1⟩ := h0.i64 Tryz.underlying3
  obtain ⟨sy, r2, e2, b1, h2⟩ := h1.u32 Tryz.underlying22
  obtain ⟨oa, on, oc, r3, e3, ⟨m, hm⟩, h3⟩ := h2.sl Tryz.underlying23
  obtain rfl := h3.nil'
  subst e3 e2
  have e4 : cs.toList = clC pe sy oa on oc := e
  exact ⟨pe, sy, oa, on, oc, m, by rw [← Array.toArray_toList (xs := cs), e4], b0, b1, hm⟩
theorem vpf_arg {W : World} {m : Nat} {cs : Array Value} (h : Rs Tryz.prog W m 28 (Value.agg cs).cells.toList) : ∃ p : T.Pf, cs = (T.pfC p).toArray ∧ T.PfN p := by
  have h0 := leaf_of 5 28 [26, 3] m _ (by kernel_rfl) h
  obtain ⟨a, r, e, b1, h1⟩ := h0.u32 Tryz.underlying26
  obtain ⟨l, r2, e2, b2, h2⟩ := h1.i64 Tryz.underlying3
  obtain rfl := h2.nil'
  subst e2
  have e3 : cs.toList = [.int .u32 a, .int .i64 l] := e
  exact ⟨(a, l), by rw [← Array.toArray_toList (xs := cs), e3], b1, b2⟩
end Go.Proofs.YtdnokmpnemaoaaaGreat
namespace Go.Proofs.YtdnokmpnemaoaaaGreat
set_option linter.unusedSimpArgs false
set_option linter.unusedVariables false
open Go.RowKit Go.Pm

namespace viewForeign
theorem walk {W : World} (n0 : Nat) {c0 : Array Value} (g0 : Rs Tryz.prog W n0 25 (Value.agg c0).cells.toList) (n1 : Nat) {c1 : Array Value} (g1 : Rs Tryz.prog W n1 28 (Value.agg c1).cells.toList) (n2 : Nat) {a2 : Option Addr} {l2 c2 : Nat} (g2 : Rs Tryz.prog W n2 29 (Value.slice a2 l2 c2).cells.toList) :
    Calls Tryz.prog 4 #[.agg c0, .agg c1, .slice a2 l2 c2] W fun e w' => e = .returned (.bool true) ∧ Only [] W w' := by
  obtain ⟨pe, sy, oa, on, oc, m, rfl, _, _, _⟩ := client_arg g0
  obtain ⟨p, rfl, _⟩ := vpf_arg g1
  obtain ⟨cs, rfl, h1, h2, h3⟩ := cands_arg g2
  exact (foreign_s pe sy oa on oc p a2 c2 cs h2 h1).law h3
end viewForeign
namespace viewForeign
open Go.ChangeShapes Go.WideShapes Go.ChangeAt
set_option linter.unusedVariables false

theorem own : ownKnob Tryz.prog.godebug = none := by kernel_rfl
theorem laidOut : laidOutB Tryz.prog = true := by kernel_rfl

set_option maxRecDepth 100000 in
theorem lifted (os : Os) (started : os.Started) (H : Type) (enc : TypeId × Value → H) :
    ReturnsInHanded {} Tryz.checked os 4 .any (Rows.viewForeignSpec.pre6 enc Tryz.prog Tryz.f4 Rows.viewForeignRow.domain false) (Rows.viewForeignSpec.post enc Tryz.prog Tryz.f4 false true false false) := by
  refine returnsInHanded_of_change_sized (C := Tryz.checked) own started (by kernel_rfl) Tryz.func4
    (ChangeSpec.witness6 (enc := enc) (C := Tryz.checked) false ⟨#[], #[.agg #[.int .i64 0, .int .u32 0, .slice none 0 0], .agg #[.int .u32 0, .int .i64 0], .slice none 0 0], []⟩ 8 (by kernel_rfl) (by kernel_rfl) (by kernel_rfl) (by kernel_rfl)) ?_
  intro W base args ds gs before hval0 hW hcnd hsz hreach
  have hval : ∀ (j : Nat) t v, Tryz.f4.params[j]? = some t → args[j]? = some v → Value.okWide Tryz.prog W .any base t v := hval0
  have hW' := hW
  obtain ⟨p, q, hA0, hV, rfl, hfz, hnd⟩ := hW
  have hA : DataW.TrodAll enc Tryz.prog W 0 (fun _ => true) true Tryz.f4.params.toList args.toList ds p := hA0
  rw [Tryz.params4] at hA hval
  obtain ⟨v0, vs0, d0, ds0, p0, q0, hargs, rfl, rfl, h0, r0⟩ := trodAll_cons hA
  obtain ⟨v1, vs1, d1, ds1, p1, q1, rfl, rfl, rfl, h1, r1⟩ := trodAll_cons r0
  obtain ⟨v2, vs2, d2, ds2, p2, q2, rfl, rfl, rfl, h2, r2⟩ := trodAll_cons r1
  obtain ⟨rfl, rfl, rfl⟩ := trodAll_nil r2
  obtain rfl : args = #[v0, v1, v2] := by cases args; simp_all
  obtain ⟨rfl, rfl⟩ := trodVars_none hV
  have k0 := h0
  have lt0 : ∀ x ∈ p0, x.block < W.heap.size := by obtain ⟨m, hm⟩ := k0; exact DataW.trod_lt m _ _ _ hm
  obtain ⟨n0, g0⟩ := Rs.of_weights hsz 0 (by first | rfl | (simp [Tryz.params4])) rfl h0
  obtain ⟨cs0, rfl, hs0⟩ := okWide_struct Tryz.underlying25 (hval 0 25 v0 rfl rfl)
  have k1 := h1
  have lt1 : ∀ x ∈ p1, x.block < W.heap.size := by obtain ⟨m, hm⟩ := k1; exact DataW.trod_lt m _ _ _ hm
  obtain ⟨n1, g1⟩ := Rs.of_weights hsz 1 (by first | rfl | (simp [Tryz.params4])) rfl h1
  obtain ⟨cs1, rfl, hs1⟩ := okWide_struct Tryz.underlying28 (hval 1 28 v1 rfl rfl)
  have k2 := h2
  have lt2 : ∀ x ∈ p2, x.block < W.heap.size := by obtain ⟨m, hm⟩ := k2; exact DataW.trod_lt m _ _ _ hm
  obtain ⟨n2, g2⟩ := Rs.of_weights hsz 2 (by first | rfl | (simp [Tryz.params4])) rfl h2
  obtain ⟨a2, l2, c2, rfl⟩ := okWide_slice Tryz.underlying29 (hval 2 29 v2 rfl rfl)
  refine (walk n0 g0 n1 g1 n2 g2).mono fun e W' ⟨he, hg⟩ => ?_
  subst he
  have bel := hg.belowNil
  exact ⟨_, rfl, _, _, _, [], _, [], hW', trodAll_mk1 (shut_bool Tryz.underlying4 _), (trodAll_cons_mk (Below.trod laidOut (by kernel_rfl) (of_decide_eq_true (by kernel_rfl)) k0 bel lt0) (trodAll_cons_mk (Below.trod laidOut (by kernel_rfl) (of_decide_eq_true (by kernel_rfl)) k1 bel lt1) (trodAll_cons_mk (Below.trod laidOut (by kernel_rfl) (of_decide_eq_true (by kernel_rfl)) k2 bel lt2) trodAll_mk0))), rfl, bel.frame _, fun h => by cases h⟩

theorem over : Rows.viewForeignRow.holds Tryz.pinned (OpenSpec.ofChange Rows.viewForeignSpec) :=
  OpenClaim.holds_of_wide 4 Tryz.f4 rfl rfl rfl rfl rfl rfl rfl ⟨rfl, rfl, rfl, rfl, rfl⟩ rfl rfl rfl rfl rfl (by kernel_rfl) Tryz.func4 (by kernel_rfl)
    (of_decide_eq_true (by kernel_rfl)) (by unfold Func.isWrapper; first | (rw [if_pos (by decide +kernel)]; kernel_rfl) | (rw [if_neg (by decide +kernel)]; exact ⟨rfl, rfl⟩))
    (fun os started H enc _ => lifted os started H enc)

theorem proved : Rows.ViewForeignSaid := over
#print axioms proved
end viewForeign
end Go.Proofs.YtdnokmpnemaoaaaGreat
