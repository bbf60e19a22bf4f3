/-
  SendVoid: an outbox that no call made has and does nothing.
-/
import Derived.Test.YtocdmefajlillaaSn9
import Derived.Test.YtocdmefajlillaaLaw
import Derived.HandedShaped
namespace Go.Proofs.Ytocdmefajlillaa
set_option linter.unusedSimpArgs false
set_option linter.unusedVariables false
set_option maxRecDepth 20000
set_option maxHeartbeats 4000000
open Go.RowKit Go.Pm

theorem void_s (t : Int) (a : Option Addr) (n c : Nat) (k : Int) : Pact Try.prog 4 #[.int .i64 t, .slice a n c, .int .u32 k] (fun _ => True) [] (ret0 (.bool true)) := by
  refine pact Try.func4 rfl Try.ntmps4 rfl ?_
  intro W K _
  (repeat' (first | ((with_reducible apply gJ); (first | refine J_seq ?_ | refine J_reg ?_ | refine J_skip ?_ | refine J_block ?_ | refine J_blk ?_ | refine J_exit rfl ?_ | refine J_goto rfl ?_ | ((with_reducible apply gJ_if); (first | refine J_ift rfl ?_ | refine J_iff rfl ?_ | (refine J_if xR ?_ ?_ <;> intro _ <;> (try (exfalso; first | contradiction | omega))) | (refine J_ifb xR ?_ ?_ <;> (intro hgb; subst hgb)) | (refine J_ifb xR ?_ ?_ <;> intro _) | fail)) | refine J_label ?_ | fail)) | ((with_reducible apply gL); (first | (with_reducible apply gL_app) | (with_reducible apply gL_app0) | refine JL_nil ?_ | ((with_reducible apply gL_gd); (first | refine JL_skip xR xR ?_ | fail)) | refine L_move ?_ | refine L_assign ?_ | refine L_pick ?_ | refine L_extract ?_ | refine L_un_not ?_ | refine L_bin_eql ?_ | refine L_bin_add_i64 ?_ | refine L_bin_add_u32 ?_ | refine L_bin_add_r ?_ | ((with_reducible apply gL_alloc); (first | (refine JL_mc rfl xR xR (al_alloc xN xK) ?_; intro _) | fail)) | ((with_reducible apply gL_go); (first | (refine JL_goq (works_s) (hφ := xF) (h := ?_); rintro _ _ ⟨rfl, rfl⟩; try simp only [List.cons_append, List.nil_append]) | fail)) | ((with_reducible apply gL_gd); (first | (refine JL_guard xR xR ?_ ?_ <;> intro _ <;> (try (exfalso; first | contradiction | omega))) | (refine JL_guardb xR xR ?_ ?_ <;> (intro hgb; subst hgb)) | (refine JL_guardb xR xR ?_ ?_ <;> (intro hgb; fail_if_success (have : type_of% hgb := rfl))) | fail)) | fail)) | fail))
  rename_i b
  (repeat' (first | ((with_reducible apply gJ); (first | refine J_seq ?_ | refine J_reg ?_ | refine J_skip ?_ | refine J_block ?_ | refine J_blk ?_ | refine J_exit rfl ?_ | refine J_goto rfl ?_ | ((with_reducible apply gJ_if); (first | refine J_ift rfl ?_ | refine J_iff rfl ?_ | (refine J_if xR ?_ ?_ <;> intro _ <;> (try (exfalso; first | contradiction | omega))) | (refine J_ifb xR ?_ ?_ <;> (intro hgb; subst hgb)) | (refine J_ifb xR ?_ ?_ <;> intro _) | fail)) | refine J_label ?_ | fail)) | ((with_reducible apply gL); (first | (with_reducible apply gL_app) | (with_reducible apply gL_app0) | refine JL_nil ?_ | ((with_reducible apply gL_gd); (first | refine JL_skip xR xR ?_ | fail)) | refine L_move ?_ | refine L_assign ?_ | refine L_pick ?_ | refine L_extract ?_ | refine L_un_not ?_ | refine L_bin_eql ?_ | refine L_bin_add_i64 ?_ | refine L_bin_add_u32 ?_ | refine L_bin_add_r ?_ | ((with_reducible apply gL_alloc); (first | (refine JL_mc rfl xR xR (al_alloc xN xK) ?_; intro _) | fail)) | ((with_reducible apply gL_go); (first | (refine JL_goq (sendnil_s t) (hφ := xF) (h := ?_); rintro _ _ ⟨rfl, rfl⟩; try simp only [List.cons_append, List.nil_append]) | (refine JL_goq (sendvoid_s b _ t) (hφ := xF) (h := ?_); rintro _ _ ⟨rfl, rfl⟩; try simp only [List.cons_append, List.nil_append]) | (refine JL_goq (againnil_s t) (hφ := xF) (h := ?_); rintro _ _ ⟨rfl, rfl⟩; try simp only [List.cons_append, List.nil_append]) | (refine JL_goq (probevoid_s b _ t) (hφ := xF) (h := ?_); rintro _ _ ⟨rfl, rfl⟩; try simp only [List.cons_append, List.nil_append]) | (refine JL_goq (acknil_s t k 1) (hφ := xF) (h := ?_); rintro _ _ ⟨rfl, rfl⟩; try simp only [List.cons_append, List.nil_append]) | (refine JL_goq (ackvoid_s b _ t k 1) (hφ := xF) (h := ?_); rintro _ _ ⟨rfl, rfl⟩; try simp only [List.cons_append, List.nil_append]) | fail)) | ((with_reducible apply gL_gd); (first | (refine JL_guard xR xR ?_ ?_ <;> intro _ <;> (try (exfalso; first | contradiction | omega))) | (refine JL_guardb xR xR ?_ ?_ <;> (intro hgb; subst hgb)) | (refine JL_guardb xR xR ?_ ?_ <;> (intro hgb; fail_if_success (have : type_of% hgb := rfl))) | fail)) | fail)) | fail))
  (repeat' (first | ((with_reducible apply gJ); (first | refine J_seq ?_ | refine J_reg ?_ | refine J_skip ?_ | refine J_block ?_ | refine J_blk ?_ | refine J_exit rfl ?_ | refine J_goto rfl ?_ | ((with_reducible apply gJ_if); (first | refine J_ift rfl ?_ | refine J_iff rfl ?_ | (refine J_if xR ?_ ?_ <;> intro _ <;> (try (exfalso; first | contradiction | omega))) | (refine J_ifb xR ?_ ?_ <;> (intro hgb; subst hgb)) | (refine J_ifb xR ?_ ?_ <;> intro _) | fail)) | refine J_label ?_ | fail)) | ((with_reducible apply gL); (first | (with_reducible apply gL_app) | (with_reducible apply gL_app0) | refine JL_nil ?_ | ((with_reducible apply gL_gd); (first | refine JL_skip xR xR ?_ | fail)) | refine L_move ?_ | refine L_assign ?_ | refine L_pick ?_ | refine L_extract ?_ | refine L_un_not ?_ | refine L_bin_eql ?_ | refine L_bin_add_i64 ?_ | refine L_bin_add_u32 ?_ | refine L_bin_add_r ?_ | ((with_reducible apply gL_alloc); (first | (refine JL_mc rfl xR xR (al_alloc xN xK) ?_; intro _) | fail)) | ((with_reducible apply gL_go); (first | (refine JL_goq (writenil_s a n c) (hφ := xF) (h := ?_); rintro _ _ ⟨rfl, rfl⟩; try simp only [List.cons_append, List.nil_append]) | (refine JL_goq (writevoid_s b _ a n c) (hφ := xF) (h := ?_); rintro _ _ ⟨rfl, rfl⟩; try simp only [List.cons_append, List.nil_append]) | (refine JL_goq (flightnil_s) (hφ := xF) (h := ?_); rintro _ _ ⟨rfl, rfl⟩; try simp only [List.cons_append, List.nil_append]) | (refine JL_goq (flightvoid_s b _) (hφ := xF) (h := ?_); rintro _ _ ⟨rfl, rfl⟩; try simp only [List.cons_append, List.nil_append]) | (refine JL_goq (queuednil_s) (hφ := xF) (h := ?_); rintro _ _ ⟨rfl, rfl⟩; try simp only [List.cons_append, List.nil_append]) | (refine JL_goq (queuedvoid_s b _) (hφ := xF) (h := ?_); rintro _ _ ⟨rfl, rfl⟩; try simp only [List.cons_append, List.nil_append]) | (refine JL_goq (windownil_s) (hφ := xF) (h := ?_); rintro _ _ ⟨rfl, rfl⟩; try simp only [List.cons_append, List.nil_append]) | (refine JL_goq (windowvoid_s b _) (hφ := xF) (h := ?_); rintro _ _ ⟨rfl, rfl⟩; try simp only [List.cons_append, List.nil_append]) | (refine JL_goq (waitonil_s) (hφ := xF) (h := ?_); rintro _ _ ⟨rfl, rfl⟩; try simp only [List.cons_append, List.nil_append]) | (refine JL_goq (waitovoid_s b _) (hφ := xF) (h := ?_); rintro _ _ ⟨rfl, rfl⟩; try simp only [List.cons_append, List.nil_append]) | (refine JL_goq (unanil_s) (hφ := xF) (h := ?_); rintro _ _ ⟨rfl, rfl⟩; try simp only [List.cons_append, List.nil_append]) | (refine JL_goq (unavoid_s b _) (hφ := xF) (h := ?_); rintro _ _ ⟨rfl, rfl⟩; try simp only [List.cons_append, List.nil_append]) | (refine JL_goq (nextnil_s) (hφ := xF) (h := ?_); rintro _ _ ⟨rfl, rfl⟩; try simp only [List.cons_append, List.nil_append]) | (refine JL_goq (nextvoid_s b _) (hφ := xF) (h := ?_); rintro _ _ ⟨rfl, rfl⟩; try simp only [List.cons_append, List.nil_append]) | fail)) | ((with_reducible apply gL_gd); (first | (refine JL_guard xR xR ?_ ?_ <;> intro _ <;> (try (exfalso; first | contradiction | omega))) | (refine JL_guardb xR xR ?_ ?_ <;> (intro hgb; subst hgb)) | (refine JL_guardb xR xR ?_ ?_ <;> (intro hgb; fail_if_success (have : type_of% hgb := rfl))) | fail)) | fail)) | fail))
  exact J_ret1 rfl (by rfl) fun w H => ⟨[], ⟨rfl, rfl⟩, H.sel .nil⟩
namespace sendVoid
theorem walk {W : World} (n0 : Nat) {a0 : Int} (g0 : Rs Try.prog W n0 3 (Value.int .i64 a0).cells.toList) (n1 : Nat) {a1 : Option Addr} {l1 c1 : Nat} (g1 : Rs Try.prog W n1 23 (Value.slice a1 l1 c1).cells.toList) (n2 : Nat) {a2 : Int} (g2 : Rs Try.prog W n2 22 (Value.int .u32 a2).cells.toList) :
    Calls Try.prog 4 #[.int .i64 a0, .slice a1 l1 c1, .int .u32 a2] W fun e w' => e = .returned (.bool true) ∧ Only [] W w' :=
  (void_s a0 a1 l1 c1 a2).law Kn.true
end sendVoid
namespace sendVoid
open Go.ChangeShapes Go.WideShapes Go.ChangeAt
set_option linter.unusedVariables false

theorem own : ownKnob Try.prog.godebug = none := by kernel_rfl
theorem laidOut : laidOutB Try.prog = true := by kernel_rfl

set_option maxRecDepth 100000 in
theorem lifted (os : Os) (started : os.Started) (H : Type) (enc : TypeId × Value → H) :
    ReturnsInHanded {} Try.checked os 4 .any (Rows.sendVoidSpec.pre6 enc Try.prog Try.f4 Rows.sendVoidRow.domain false) (Rows.sendVoidSpec.post enc Try.prog Try.f4 false true false false) := by
  refine returnsInHanded_of_change_sized (C := Try.checked) own started (by kernel_rfl) Try.func4
    (ChangeSpec.witness6 (enc := enc) (C := Try.checked) false ⟨#[], #[.int .i64 0, .slice none 0 0, .int .u32 0], []⟩ 8 (by kernel_rfl) (by kernel_rfl) (by kernel_rfl) (by kernel_rfl)) ?_
  intro W base args ds gs before hval0 hW hcnd hsz hreach
  have hval : ∀ (j : Nat) t v, Try.f4.params[j]? = some t → args[j]? = some v → Value.okWide Try.prog W .any base t v := hval0
  have hW' := hW
  obtain ⟨p, q, hA0, hV, rfl, hfz, hnd⟩ := hW
  have hA : DataW.TrodAll enc Try.prog W 0 (fun _ => true) true Try.f4.params.toList args.toList ds p := hA0
  rw [Try.params4] at hA hval
  obtain ⟨v0, vs0, d0, ds0, p0, q0, hargs, rfl, rfl, h0, r0⟩ := trodAll_cons hA
  obtain ⟨v1, vs1, d1, ds1, p1, q1, rfl, rfl, rfl, h1, r1⟩ := trodAll_cons r0
  obtain ⟨v2, vs2, d2, ds2, p2, q2, rfl, rfl, rfl, h2, r2⟩ := trodAll_cons r1
  obtain ⟨rfl, rfl, rfl⟩ := trodAll_nil r2
  obtain rfl : args = #[v0, v1, v2] := by cases args; simp_all
  obtain ⟨rfl, rfl⟩ := trodVars_none hV
  have k0 := h0
  have lt0 : ∀ x ∈ p0, x.block < W.heap.size := by obtain ⟨m, hm⟩ := k0; exact DataW.trod_lt m _ _ _ hm
  obtain ⟨n0, g0⟩ := Rs.of_weights hsz 0 (by first | rfl | (simp [Try.params4])) rfl h0
  obtain ⟨a0, rfl⟩ := okWide_int Try.underlying3 (hval 0 3 v0 rfl rfl)
  have k1 := h1
  have lt1 : ∀ x ∈ p1, x.block < W.heap.size := by obtain ⟨m, hm⟩ := k1; exact DataW.trod_lt m _ _ _ hm
  obtain ⟨n1, g1⟩ := Rs.of_weights hsz 1 (by first | rfl | (simp [Try.params4])) rfl h1
  obtain ⟨a1, l1, c1, rfl⟩ := okWide_slice Try.underlying23 (hval 1 23 v1 rfl rfl)
  have k2 := h2
  have lt2 : ∀ x ∈ p2, x.block < W.heap.size := by obtain ⟨m, hm⟩ := k2; exact DataW.trod_lt m _ _ _ hm
  obtain ⟨n2, g2⟩ := Rs.of_weights hsz 2 (by first | rfl | (simp [Try.params4])) rfl h2
  obtain ⟨a2, rfl⟩ := okWide_int Try.underlying22 (hval 2 22 v2 rfl rfl)
  refine (walk n0 g0 n1 g1 n2 g2).mono fun e W' ⟨he, hg⟩ => ?_
  subst he
  have bel := hg.belowNil
  exact ⟨_, rfl, _, _, _, [], _, [], hW', trodAll_mk1 (shut_bool Try.underlying4 _), (trodAll_cons_mk (Below.trod laidOut (by kernel_rfl) (of_decide_eq_true (by kernel_rfl)) k0 bel lt0) (trodAll_cons_mk (Below.trod laidOut (by kernel_rfl) (of_decide_eq_true (by kernel_rfl)) k1 bel lt1) (trodAll_cons_mk (Below.trod laidOut (by kernel_rfl) (of_decide_eq_true (by kernel_rfl)) k2 bel lt2) trodAll_mk0))), rfl, bel.frame _, fun h => by cases h⟩

theorem over : Rows.sendVoidRow.holds Try.pinned (OpenSpec.ofChange Rows.sendVoidSpec) :=
  OpenClaim.holds_of_wide 4 Try.f4 rfl rfl rfl rfl rfl rfl rfl ⟨rfl, rfl, rfl, rfl, rfl⟩ rfl rfl rfl rfl rfl (by kernel_rfl) Try.func4 (by kernel_rfl)
    (of_decide_eq_true (by kernel_rfl)) (by unfold Func.isWrapper; first | (rw [if_pos (by decide +kernel)]; kernel_rfl) | (rw [if_neg (by decide +kernel)]; exact ⟨rfl, rfl⟩))
    (fun os started H enc _ => lifted os started H enc)

/-- The statement. -/
theorem proved : Rows.SendVoidSaid := over
#print axioms proved
end sendVoid
end Go.Proofs.Ytocdmefajlillaa
