/-
  A message that is handed in; the law of Build.
-/
import Derived.Test.YtohahlcjkhgimaaAr12
import Derived.Test.YtohahlcjkhgimaaAr14
namespace Go.Proofs.Ytohahlcjkhgimaa
set_option linter.unusedSimpArgs false
set_option linter.unusedVariables false
set_option maxRecDepth 20000
set_option maxHeartbeats 4000000
open Go.RowKit Go.Pm Go.Sort

theorem msg_arg {W : World} {n : Nat} {cs : Array Value} (h : Rs Try.prog W n 45 (Value.agg cs).cells.toList) : ∃ m : Ms, cs = (msC m).toArray ∧ U32 m.fa ∧ U32 m.ta ∧ I64 m.k := by
  have h0 := leaf_of 4 45 [3, 5, 5, 5, 5, 5, 5, 24, 5, 5, 5, 5, 5, 5, 24] n cs.toList (by kernel_rfl) h
  obtain ⟨k, r, e, bk, h1⟩ := h0.i64 Try.underlying3
  obtain ⟨f, r2, e2, h2⟩ := mac_leaf h1
  subst e2
  obtain ⟨fa, r3, e3, bf, h3⟩ := h2.u32 Try.underlying24
  subst e3
  obtain ⟨t, r4, e4, h4⟩ := mac_leaf h3
  subst e4
  obtain ⟨ta, r5, e5, bt, h5⟩ := h4.u32 Try.underlying24
  subst e5
  cases h5
  exact ⟨⟨k, f, fa, t, ta⟩, by
    have e6 : cs = cs.toList.toArray := by simp
    rw [e6, e]
    rfl, bf, bt, bk⟩
theorem msB_src {K : Hl} {L R : List HP} {v : Value} {m : Ms} {e : TypeId} (t : Tk L (Ar e 1 byC v (msB m)) R) {w : World} (hr : Rdw K L w) : Vw w v 1 28 (flat byC (msB m)) := by
  have h := Src.ar (K := K) t w hr
  exact h
theorem builds_s (m : Ms) (hf : U32 m.fa) (ht : U32 m.ta) : Pact Try.prog 5 #[.agg (msC m).toArray] (fun _ => True) [] (ret0 (.bool true)) := by
  refine pact Try.func5 rfl Try.ntmps5 rfl ?_
  intro W K _
  by_cases hk : m.k = 1 ∨ m.k = 2
  · (repeat' (first | ((with_reducible apply gJ); (first | refine J_seq ?_ | refine J_reg ?_ | refine J_skip ?_ | refine J_block ?_ | refine J_blk ?_ | refine J_exit rfl ?_ | refine J_goto rfl ?_ | ((with_reducible apply gJ_if); (first | refine J_ift rfl ?_ | refine J_iff rfl ?_ | (refine J_if xR ?_ ?_ <;> intro _ <;> (try (exfalso; first | contradiction | omega))) | (refine J_ifb xR ?_ ?_ <;> (intro hgb; subst hgb)) | (refine J_ifb xR ?_ ?_ <;> intro _) | fail)) | refine J_label ?_ | fail)) | ((with_reducible apply gL); (first | refine JL_nil ?_ | ((with_reducible apply gL_gd); (first | refine JL_skip xR xR ?_ | fail)) | refine L_move ?_ | refine L_assign ?_ | refine L_load ?_ | refine L_pick ?_ | refine L_extract ?_ | refine L_bin_eql ?_ | ((with_reducible apply gL_box); (first | (refine JL_mc rfl xR xR (al_boxA xR) ?_; intro _) | (refine JL_mc rfl xR xR (al_boxC xR xR) ?_; intro _) | fail)) | ((with_reducible apply gL_go); (first | (refine JL_goq (build_s m hk hf ht) (hφ := xF) (h := ?_); rintro _ _ ⟨a, c, rfl, rfl⟩; try simp only [List.cons_append, List.nil_append]) | (refine JL_goq (plain_s m) (hφ := xF) (h := ?_); rintro _ _ ⟨rfl, rfl⟩; try simp only [List.cons_append, List.nil_append]) | (refine JL_goq (rbuild_s m hk hf ht) (hφ := xF) (h := ?_); rintro _ _ ⟨a2, c2, rfl, rfl⟩; try simp only [List.cons_append, List.nil_append]) | (refine JL_goq (sameB_s a a2 c c2 28 (msB m) rfl) (hφ := (by (try simp only [List.cons_append, List.nil_append]); exact fun w hr => ⟨msB_src (by (first | ((with_reducible (repeat (first | exact Tk.here | apply Tk.there))); done) | ((simp only [List.cons_append, List.nil_append]); (with_reducible (repeat (first | exact Tk.here | apply Tk.there))); done) | fail)) hr, msB_src (by (first | ((with_reducible (repeat (first | exact Tk.here | apply Tk.there))); done) | ((simp only [List.cons_append, List.nil_append]); (with_reducible (repeat (first | exact Tk.here | apply Tk.there))); done) | fail)) hr⟩)) (h := ?_); rintro _ _ ⟨rfl, rfl⟩; try simp only [List.cons_append, List.nil_append]) | (refine JL_goq (works_s) (hφ := xF) (h := ?_); rintro _ _ ⟨rfl, rfl⟩; try simp only [List.cons_append, List.nil_append]) | fail)) | ((with_reducible apply gL_gd); (first | (refine JL_guard xR xR ?_ ?_ <;> intro _ <;> (try (exfalso; first | contradiction | omega))) | (refine JL_guardb xR xR ?_ ?_ <;> (intro hgb; subst hgb)) | (refine JL_guardb xR xR ?_ ?_ <;> (intro hgb; fail_if_success (have : type_of% hgb := rfl))) | fail)) | fail)) | fail))
    exact J_ret1 rfl (by rfl) fun w H => ⟨_, ⟨rfl, rfl⟩, H.sel .nil⟩
  · (repeat' (first | ((with_reducible apply gJ); (first | refine J_seq ?_ | refine J_reg ?_ | refine J_skip ?_ | refine J_block ?_ | refine J_blk ?_ | refine J_exit rfl ?_ | refine J_goto rfl ?_ | ((with_reducible apply gJ_if); (first | refine J_ift rfl ?_ | refine J_iff rfl ?_ | (refine J_if xR ?_ ?_ <;> intro _ <;> (try (exfalso; first | contradiction | omega))) | (refine J_ifb xR ?_ ?_ <;> (intro hgb; subst hgb)) | (refine J_ifb xR ?_ ?_ <;> intro _) | fail)) | refine J_label ?_ | fail)) | ((with_reducible apply gL); (first | refine JL_nil ?_ | ((with_reducible apply gL_gd); (first | refine JL_skip xR xR ?_ | fail)) | refine L_move ?_ | refine L_assign ?_ | refine L_load ?_ | refine L_pick ?_ | refine L_extract ?_ | refine L_bin_eql ?_ | ((with_reducible apply gL_box); (first | (refine JL_mc rfl xR xR (al_boxA xR) ?_; intro _) | (refine JL_mc rfl xR xR (al_boxC xR xR) ?_; intro _) | fail)) | ((with_reducible apply gL_go); (first | (refine JL_goq (buildbad_s m hk) (hφ := xF) (h := ?_); rintro _ _ ⟨rfl, rfl⟩; try simp only [List.cons_append, List.nil_append]) | (refine JL_goq (plain_s m) (hφ := xF) (h := ?_); rintro _ _ ⟨rfl, rfl⟩; try simp only [List.cons_append, List.nil_append]) | (refine JL_goq (rbuildbad_s m hk) (hφ := xF) (h := ?_); rintro _ _ ⟨rfl, rfl⟩; try simp only [List.cons_append, List.nil_append]) | (refine JL_goq (sameB_s none none 0 0 0 [] rfl) (hφ := (by (try simp only [List.cons_append, List.nil_append]); exact fun w _ => ⟨Vw.nil w 1, Vw.nil w 1⟩)) (h := ?_); rintro _ _ ⟨rfl, rfl⟩; try simp only [List.cons_append, List.nil_append]) | (refine JL_goq (works_s) (hφ := xF) (h := ?_); rintro _ _ ⟨rfl, rfl⟩; try simp only [List.cons_append, List.nil_append]) | fail)) | ((with_reducible apply gL_gd); (first | (refine JL_guard xR xR ?_ ?_ <;> intro _ <;> (try (exfalso; first | contradiction | omega))) | (refine JL_guardb xR xR ?_ ?_ <;> (intro hgb; subst hgb)) | (refine JL_guardb xR xR ?_ ?_ <;> (intro hgb; fail_if_success (have : type_of% hgb := rfl))) | fail)) | fail)) | fail))
    exact J_ret1 rfl (by rfl) fun w H => ⟨_, ⟨rfl, rfl⟩, H.sel .nil⟩
end Go.Proofs.Ytohahlcjkhgimaa
