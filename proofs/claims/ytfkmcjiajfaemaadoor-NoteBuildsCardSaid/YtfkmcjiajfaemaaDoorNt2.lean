/-
  A fault's name; the example.
-/
import Derived.Test.YtfkmcjiajfaemaaDoorNt1
import Derived.Test.YtfkmcjiajfaemaaDoorJv
namespace Go.Proofs.YtfkmcjiajfaemaaDoor
set_option linter.unusedSimpArgs false
set_option linter.unusedVariables false
set_option maxRecDepth 20000
set_option maxHeartbeats 4000000
open Go.RowKit Go.Pm

def two : ByteArray := ⟨#[50]⟩
def sp2 : ByteArray := ⟨#[32, 50]⟩
def cease : ByteArray := ⟨#[99, 101, 97, 115, 101]⟩
def cease2 : ByteArray := ⟨#[99, 101, 97, 115, 101, 32, 50]⟩
theorem small2_s : Pact Tryd.prog 28 #[.int .i64 2] (fun _ => True) [] (ret0 (.string two)) := by
  refine pact Tryd.func28 rfl Tryd.ntmps28 rfl ?_
  intro W K _
  (repeat' (first | ((with_reducible apply gJ); (first | refine J_seq ?_ | refine J_reg ?_ | refine J_skip ?_ | refine J_block ?_ | refine J_blk ?_ | refine J_exit rfl ?_ | refine J_goto rfl ?_ | ((with_reducible apply gJ_if); (first | refine J_ift rfl ?_ | refine J_iff rfl ?_ | (refine J_if xR ?_ ?_ <;> intro _ <;> (try (exfalso; first | contradiction | omega))) | (refine J_ifb xR ?_ ?_ <;> (intro hgb; subst hgb)) | (refine J_ifb xR ?_ ?_ <;> intro _) | fail)) | refine J_label ?_ | fail)) | ((with_reducible apply gL); (first | refine JL_nil ?_ | ((with_reducible apply gL_slice); (first | refine JL_p rfl xR xR (pe_strSl (r := two) xR xR xR xC (by omega) (by omega) (by decide) (by decide +kernel)) ?_ | fail)) | refine L_move ?_ | refine L_assign ?_ | refine L_bin_lss ?_ | refine L_slice ?_ | refine L_bin_add_i64 ?_ | refine L_bin_add_r ?_ | refine L_bin_mul_i64 ?_ | refine L_bin_mul_r ?_ | fail)) | fail))
  exact J_ret1 rfl (by rfl) fun w H => ⟨_, ⟨rfl, rfl⟩, H.sel .nil⟩
theorem format2_s : Pact Tryd.prog 27 #[.int .i64 2, .int .i64 10] (fun _ => True) [] (ret0 (.string two)) := by
  refine pact Tryd.func27 rfl Tryd.ntmps27 rfl ?_
  intro W K _
  (repeat' (first | ((with_reducible apply gJ); (first | refine J_seq ?_ | refine J_reg ?_ | refine J_skip ?_ | refine J_block ?_ | refine J_blk ?_ | refine J_exit rfl ?_ | refine J_goto rfl ?_ | ((with_reducible apply gJ_if); (first | refine J_ift rfl ?_ | refine J_iff rfl ?_ | (refine J_if xR ?_ ?_ <;> intro _ <;> (try (exfalso; first | contradiction | omega))) | (refine J_ifb xR ?_ ?_ <;> (intro hgb; subst hgb)) | (refine J_ifb xR ?_ ?_ <;> intro _) | fail)) | refine J_label ?_ | fail)) | ((with_reducible apply gL); (first | refine JL_nil ?_ | ((with_reducible apply gL_gd); (first | refine JL_skip xR xR ?_ | fail)) | refine L_move ?_ | refine L_assign ?_ | refine L_pick ?_ | refine L_indexAddr ?_ | refine L_extract ?_ | refine L_bin_eql ?_ | refine L_bin_lss ?_ | refine L_bin_leq ?_ | refine L_slice ?_ | refine L_bin_add_i64 ?_ | refine L_bin_add_u64 ?_ | refine L_bin_add_r ?_ | refine L_un_neg_i64 ?_ | refine L_un_neg_u64 ?_ | refine L_un_neg_r ?_ | refine L_convert_i64 ?_ | refine L_convert_u64 ?_ | refine L_convert_r ?_ | ((with_reducible apply gL_alloc); (first | (refine JL_mc rfl xR xR (al_alloc xN xK) ?_; intro _) | fail)) | ((with_reducible apply gL_store); (first | refine JL_st xR xR xT xC xR xE xR ?_ | refine JL_stW xR xR xT xW xR xR xR ?_ | refine JL_stS xR xR xT xW xP xR xR ?_ | refine JL_stEl xR xR xT xR xL xR (tabS stab_ok xR) xR xR xO ?_ | fail)) | ((with_reducible apply gL_go); (first | (refine JL_goq (small2_s) (hφ := xF) (h := ?_); rintro _ _ ⟨rfl, rfl⟩; try simp only [List.cons_append, List.nil_append]) | fail)) | ((with_reducible apply gL_gd); (first | (refine JL_guard xR xR ?_ ?_ <;> intro _ <;> (try (exfalso; first | contradiction | omega))) | (refine JL_guardb xR xR ?_ ?_ <;> (intro hgb; subst hgb)) | (refine JL_guardb xR xR ?_ ?_ <;> (intro hgb; fail_if_success (have : type_of% hgb := rfl))) | fail)) | fail)) | fail))
  all_goals (first | (exfalso; omega) | skip)
  exact J_ret1 rfl (by rfl) fun w H => ⟨_, ⟨rfl, rfl⟩, H.sel .nil⟩
theorem iitoa2_s : Pact Tryd.prog 26 #[.int .i64 2] (fun _ => True) [] (ret0 (.string two)) := by
  refine pact Tryd.func26 rfl Tryd.ntmps26 rfl ?_
  intro W K _
  (repeat' (first | ((with_reducible apply gJ); (first | refine J_seq ?_ | refine J_reg ?_ | refine J_skip ?_ | refine J_block ?_ | refine J_blk ?_ | refine J_exit rfl ?_ | refine J_goto rfl ?_ | ((with_reducible apply gJ_if); (first | refine J_ift rfl ?_ | refine J_iff rfl ?_ | (refine J_if xR ?_ ?_ <;> intro _ <;> (try (exfalso; first | contradiction | omega))) | (refine J_ifb xR ?_ ?_ <;> (intro hgb; subst hgb)) | (refine J_ifb xR ?_ ?_ <;> intro _) | fail)) | refine J_label ?_ | fail)) | ((with_reducible apply gL); (first | refine JL_nil ?_ | refine L_move ?_ | refine L_assign ?_ | ((with_reducible apply gL_go); (first | (refine JL_goq (format2_s) (hφ := xF) (h := ?_); rintro _ _ ⟨rfl, rfl⟩; try simp only [List.cons_append, List.nil_append]) | fail)) | fail)) | fail))
  exact J_ret1 rfl (by rfl) fun w H => ⟨_, ⟨rfl, rfl⟩, H.sel .nil⟩
theorem itoa2_s : Pact Tryd.prog 23 #[.int .i64 2] (fun _ => True) [] (ret0 (.string two)) := by
  refine pact Tryd.func23 rfl Tryd.ntmps23 rfl ?_
  intro W K _
  (repeat' (first | ((with_reducible apply gJ); (first | refine J_seq ?_ | refine J_reg ?_ | refine J_skip ?_ | refine J_block ?_ | refine J_blk ?_ | refine J_exit rfl ?_ | refine J_goto rfl ?_ | ((with_reducible apply gJ_if); (first | refine J_ift rfl ?_ | refine J_iff rfl ?_ | (refine J_if xR ?_ ?_ <;> intro _ <;> (try (exfalso; first | contradiction | omega))) | (refine J_ifb xR ?_ ?_ <;> (intro hgb; subst hgb)) | (refine J_ifb xR ?_ ?_ <;> intro _) | fail)) | refine J_label ?_ | fail)) | ((with_reducible apply gL); (first | refine JL_nil ?_ | refine L_move ?_ | refine L_assign ?_ | ((with_reducible apply gL_go); (first | (refine JL_goq (iitoa2_s) (hφ := xF) (h := ?_); rintro _ _ ⟨rfl, rfl⟩; try simp only [List.cons_append, List.nil_append]) | fail)) | fail)) | fail))
  exact J_ret1 rfl (by rfl) fun w H => ⟨_, ⟨rfl, rfl⟩, H.sel .nil⟩
theorem name2_s : Pact Tryd.prog 18 #[.agg #[.int .i64 6, .int .i64 2, .slice none 0 0]] (fun _ => True) [] (ret0 (.string cease2)) := by
  refine pact Tryd.func18 rfl Tryd.ntmps18 rfl ?_
  intro W K _
  (repeat' (first | ((with_reducible apply gJ); (first | refine J_seq ?_ | refine J_reg ?_ | refine J_skip ?_ | refine J_block ?_ | refine J_blk ?_ | refine J_exit rfl ?_ | refine J_goto rfl ?_ | ((with_reducible apply gJ_if); (first | refine J_ift rfl ?_ | refine J_iff rfl ?_ | (refine J_if xR ?_ ?_ <;> intro _ <;> (try (exfalso; first | contradiction | omega))) | (refine J_ifb xR ?_ ?_ <;> (intro hgb; subst hgb)) | (refine J_ifb xR ?_ ?_ <;> intro _) | fail)) | refine J_label ?_ | fail)) | ((with_reducible apply gL); (first | refine JL_nil ?_ | ((with_reducible apply gL_gd); (first | refine JL_skip xR xR ?_ | fail)) | ((with_reducible apply gL_bin_add); (first | (first | refine JL_p rfl xR xR (pe_strAdd (c := sp2) xR xR (by decide) (by decide +kernel)) ?_ | refine JL_p rfl xR xR (pe_strAdd (c := cease2) xR xR (by decide) (by decide +kernel)) ?_) | fail)) | refine L_move ?_ | refine L_assign ?_ | refine L_fieldAddr ?_ | refine L_load ?_ | refine L_pick ?_ | refine L_indexAddr ?_ | refine L_build ?_ | refine L_bin_neq ?_ | refine L_bin_lss ?_ | refine L_bin_gtr ?_ | refine L_bin_add_i64 ?_ | refine L_bin_add_r ?_ | ((with_reducible apply gL_box); (first | (refine JL_mc rfl xR xR (al_boxA xR) ?_; intro _) | (refine JL_mc rfl xR xR (al_boxC xR xR) ?_; intro _) | fail)) | ((with_reducible apply gL_alloc); (first | (refine JL_mc rfl xR xR (al_alloc xN xK) ?_; intro _) | fail)) | ((with_reducible apply gL_store); (first | refine JL_st xR xR xT xC xR xE xR ?_ | refine JL_stW xR xR xT xW xR xR xR ?_ | refine JL_stS xR xR xT xW xP xR xR ?_ | refine JL_stEl xR xR xT xR xL xR (tabS stab_ok xR) xR xR xO ?_ | fail)) | ((with_reducible apply gL_go); (first | (refine JL_goq (itoa2_s) (hφ := xF) (h := ?_); rintro _ _ ⟨rfl, rfl⟩; try simp only [List.cons_append, List.nil_append]) | fail)) | ((with_reducible apply gL_gd); (first | (refine JL_guard xR xR ?_ ?_ <;> intro _ <;> (try (exfalso; first | contradiction | omega))) | (refine JL_guardb xR xR ?_ ?_ <;> (intro hgb; subst hgb)) | (refine JL_guardb xR xR ?_ ?_ <;> (intro hgb; fail_if_success (have : type_of% hgb := rfl))) | fail)) | fail)) | fail))
  all_goals (first | (exfalso; omega) | skip)
  exact J_ret1 rfl (by rfl) fun w H => ⟨_, ⟨rfl, rfl⟩, H.sel .nil⟩
theorem works_s : Pact Tryd.prog 5 #[] (fun _ => True) [] (ret0 (.bool true)) := by
  refine pact Tryd.func5 rfl Tryd.ntmps5 rfl ?_
  intro W K _
  (repeat' (first | ((with_reducible apply gJ); (first | refine J_seq ?_ | refine J_reg ?_ | refine J_skip ?_ | refine J_block ?_ | refine J_blk ?_ | refine J_exit rfl ?_ | refine J_goto rfl ?_ | ((with_reducible apply gJ_if); (first | refine J_ift rfl ?_ | refine J_iff rfl ?_ | (refine J_if xR ?_ ?_ <;> intro _ <;> (try (exfalso; first | contradiction | omega))) | (refine J_ifb xR ?_ ?_ <;> (intro hgb; subst hgb)) | (refine J_ifb xR ?_ ?_ <;> intro _) | fail)) | refine J_label ?_ | fail)) | ((with_reducible apply gL); (first | refine JL_nil ?_ | ((with_reducible apply gL_bin_eql); (first | refine JL_p rfl xR xR (pe_eqStr (c := true) xR xR xC (by decide +kernel)) ?_ | fail)) | refine L_assign ?_ | refine L_build ?_ | refine L_bin_eql ?_ | ((with_reducible apply gL_go); (first | (refine JL_goq (name2_s) (hφ := xF) (h := ?_); rintro _ _ ⟨rfl, rfl⟩; try simp only [List.cons_append, List.nil_append]) | fail)) | fail)) | fail))
  exact J_ret1 rfl (by rfl) fun w H => ⟨_, ⟨rfl, rfl⟩, H.sel .nil⟩
end Go.Proofs.YtfkmcjiajfaemaaDoor
