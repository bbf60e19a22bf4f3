/-
  Cq2: merged.
-/
import Derived.Test.YtdnokmpnemaoaaaGreatZViewChooses16
namespace Go.Proofs.YtdnokmpnemaoaaaGreat.C
set_option linter.unusedSimpArgs false
set_option linter.unusedVariables false
set_option maxRecDepth 20000
set_option maxHeartbeats 4000000
open Go.RowKit Go.Pm

theorem test_s (op n : Int) (p : Pf) (hp : PfN p) : Pact Tryz.prog 150 #[.int .i64 op, .int .i64 n, .agg (pfC p).toArray] (fun _ => True) [] (ret0 (.bool (decide (TestOk op n p)))) := by
  refine pact Tryz.func150 rfl Tryz.ntmps150 rfl ?_
  intro W K _
  unfold TestOk
  by_cases hr : Rt p
  · (repeat' (first | (refine gL ?_; first | refine yL0 ?_ | refine yL ?_ | (refine gL_go ?_; first | (refine JL_goq (right_b p hp true (decide_eq_true hr)) (hφ := xF) (h := ?_); rintro _ _ ⟨rfl, rfl⟩; try simp only [cAp, nAp]) | (refine JL_goq (word_s n) (hφ := xF) (h := ?_); rintro _ _ ⟨rfl, rfl⟩; try simp only [cAp, nAp])) | (refine yM ?_; intro _)) | refine yJ ?_ | (refine yI ?_ ?_ <;> intro _ <;> try exact xX) | (refine yK ?_ ?_ <;> intro hgb <;> first | subst hgb | fail_if_success have : type_of% hgb := rfl) | fail))
    all_goals (refine J_ret1 rfl (by rfl) fun w H => ⟨[], ⟨?_, rfl⟩, H.sel .nil⟩; refine congrArg Value.bool ?_; rw [Bool.eq_iff_iff]; simp only [decide_eq_true_eq, true_iff, Bool.false_eq_true, false_iff, hr, true_and]; omega)
  · (repeat' (first | (refine gL ?_; first | refine yL0 ?_ | refine yL ?_ | (refine gL_go ?_; first | (refine JL_goq (right_b p hp false (decide_eq_false hr)) (hφ := xF) (h := ?_); rintro _ _ ⟨rfl, rfl⟩; try simp only [cAp, nAp]) | (refine JL_goq (word_s n) (hφ := xF) (h := ?_); rintro _ _ ⟨rfl, rfl⟩; try simp only [cAp, nAp])) | (refine yM ?_; intro _)) | refine yJ ?_ | (refine yI ?_ ?_ <;> intro _ <;> try exact xX) | (refine yK ?_ ?_ <;> intro hgb <;> first | subst hgb | fail_if_success have : type_of% hgb := rfl) | fail))
    all_goals (refine J_ret1 rfl (by rfl) fun w H => ⟨[], ⟨?_, rfl⟩, H.sel .nil⟩; refine congrArg Value.bool ?_; rw [Bool.eq_iff_iff]; simp only [decide_eq_true_eq, true_iff, Bool.false_eq_true, false_iff, hr, false_and, and_false, false_or]; omega)
theorem rtest_s (op n : Int) (p : Pf) (hp : PfN p) : Pact Tryz.prog 56 #[.int .i64 op, .int .i64 n, .agg (pfC p).toArray] (fun _ => True) [] (ret0 (.bool (decide (TestOk op n p)))) := by
  refine pact Tryz.func56 rfl Tryz.ntmps56 rfl ?_
  intro W K _
  unfold TestOk
  by_cases hr : Rt p
  · (repeat' (first | (refine gL ?_; first | refine yL0 ?_ | refine yL ?_ | (refine gL_go ?_; first | (refine JL_goq (rright_b p hp true (decide_eq_true hr)) (hφ := xF) (h := ?_); rintro _ _ ⟨rfl, rfl⟩; try simp only [cAp, nAp]) | (refine JL_goq (rword_s n) (hφ := xF) (h := ?_); rintro _ _ ⟨rfl, rfl⟩; try simp only [cAp, nAp]) | (refine JL_goq (rbare_s p) (hφ := xF) (h := ?_); rintro _ _ ⟨rfl, rfl⟩; try simp only [cAp, nAp])) | (refine yM ?_; intro _)) | refine yJ ?_ | (refine yI ?_ ?_ <;> intro _ <;> try exact xX) | (refine yK ?_ ?_ <;> intro hgb <;> first | subst hgb | fail_if_success have : type_of% hgb := rfl) | fail))
    all_goals (refine J_ret1 rfl (by rfl) fun w H => ⟨[], ⟨?_, rfl⟩, H.sel .nil⟩; refine congrArg Value.bool ?_; rw [Bool.eq_iff_iff]; simp only [decide_eq_true_eq, true_iff, Bool.false_eq_true, false_iff, hr, true_and]; omega)
  · (repeat' (first | (refine gL ?_; first | refine yL0 ?_ | refine yL ?_ | (refine gL_go ?_; first | (refine JL_goq (rright_b p hp false (decide_eq_false hr)) (hφ := xF) (h := ?_); rintro _ _ ⟨rfl, rfl⟩; try simp only [cAp, nAp]) | (refine JL_goq (rword_s n) (hφ := xF) (h := ?_); rintro _ _ ⟨rfl, rfl⟩; try simp only [cAp, nAp]) | (refine JL_goq (rbare_s p) (hφ := xF) (h := ?_); rintro _ _ ⟨rfl, rfl⟩; try simp only [cAp, nAp])) | (refine yM ?_; intro _)) | refine yJ ?_ | (refine yI ?_ ?_ <;> intro _ <;> try exact xX) | (refine yK ?_ ?_ <;> intro hgb <;> first | subst hgb | fail_if_success have : type_of% hgb := rfl) | fail))
    all_goals (refine J_ret1 rfl (by rfl) fun w H => ⟨[], ⟨?_, rfl⟩, H.sel .nil⟩; refine congrArg Value.bool ?_; rw [Bool.eq_iff_iff]; simp only [decide_eq_true_eq, true_iff, Bool.false_eq_true, false_iff, hr, false_and, and_false, false_or]; omega)
theorem act_s (op n m : Int) : Pact Tryz.prog 151 #[.int .i64 op, .int .i64 n, .int .i64 m] (fun _ => True) [] (ret0 (.bool (decide (ActOk op n m)))) := by
  refine pact Tryz.func151 rfl Tryz.ntmps151 rfl ?_
  intro W K _
  (repeat' (first | (refine gL ?_; first | refine yL0 ?_ | refine yL ?_ | (refine gL_go ?_; (refine JL_goq (word_s n) (hφ := xF) (h := ?_); rintro _ _ ⟨rfl, rfl⟩; try simp only [cAp, nAp]))) | refine yJ ?_ | (refine yI ?_ ?_ <;> intro _ <;> try exact xX) | (refine yK ?_ ?_ <;> intro hgb <;> first | subst hgb | fail_if_success have : type_of% hgb := rfl) | fail))
  all_goals (refine J_ret1 rfl (by rfl) fun w H => ⟨[], ⟨?_, rfl⟩, H.sel .nil⟩; refine congrArg Value.bool ?_; rw [Bool.eq_iff_iff]; simp only [decide_eq_true_eq, true_iff, Bool.false_eq_true, false_iff]; unfold ActOk; omega)
theorem ract_s (op n m : Int) : Pact Tryz.prog 58 #[.int .i64 op, .int .i64 n, .int .i64 m] (fun _ => True) [] (ret0 (.bool (decide (ActOk op n m)))) := by
  refine pact Tryz.func58 rfl Tryz.ntmps58 rfl ?_
  intro W K _
  (repeat' (first | (refine gL ?_; first | refine yL0 ?_ | refine yL ?_ | (refine gL_go ?_; (refine JL_goq (rword_s n) (hφ := xF) (h := ?_); rintro _ _ ⟨rfl, rfl⟩; try simp only [cAp, nAp]))) | refine yJ ?_ | (refine yI ?_ ?_ <;> intro _ <;> try exact xX) | (refine yK ?_ ?_ <;> intro hgb <;> first | subst hgb | fail_if_success have : type_of% hgb := rfl) | fail))
  all_goals (refine J_ret1 rfl (by rfl) fun w H => ⟨[], ⟨?_, rfl⟩, H.sel .nil⟩; refine congrArg Value.bool ?_; rw [Bool.eq_iff_iff]; simp only [decide_eq_true_eq, true_iff, Bool.false_eq_true, false_iff]; unfold ActOk; omega)
end Go.Proofs.YtdnokmpnemaoaaaGreat.C
