/-
  Prefixes, on: within, what two have in common; the document's answer; which one is ahead.
-/
import Derived.Test.YtmimfjgnmmfhdaaTr1
namespace Go.Proofs.Ytmimfjgnmmfhdaa
set_option linter.unusedSimpArgs false
set_option linter.unusedVariables false
set_option maxRecDepth 20000
set_option maxHeartbeats 4000000
open Go.RowKit Go.Pm


theorem rt_lo {p : Pf} (h : Rt p) : 0 ≤ p.2 := h.1
theorem rt_hi {p : Pf} (h : Rt p) : p.2 ≤ 32 := h.2.1
theorem within_s (p q : Pf) (hp : PfN p) (hq : PfN q) : Pact Try.prog 35 #[.agg (pfC p).toArray, .agg (pfC q).toArray] (fun _ => True) [] (ret0 (.bool (decide (Wi p q)))) := by
  refine pact Try.func35 rfl Try.ntmps35 rfl ?_
  intro W K _
  (repeat' (first | ((with_reducible apply gJ); (first | refine J_seq ?_ | refine J_reg ?_ | refine J_skip ?_ | refine J_block ?_ | refine J_blk ?_ | refine J_exit rfl ?_ | refine J_goto rfl ?_ | ((with_reducible apply gJ_if); (first | refine J_ift rfl ?_ | refine J_iff rfl ?_ | (refine J_if xR ?_ ?_ <;> intro _ <;> (try (exfalso; first | contradiction | omega))) | (refine J_ifb xR ?_ ?_ <;> (intro hgb; subst hgb)) | (refine J_ifb xR ?_ ?_ <;> intro _) | fail)) | refine J_label ?_ | refine J_draw (id := 1) [0, 1, 2, 3, 4, 5, 6, 7, 8, 9, 10, 11, 12, 13, 14, 15, 16, 17, 19, 20, 18] [21, 22, 23] mixed xC xD xD ?_ | fail)) | ((with_reducible apply gL); (first | refine JL_nil ?_ | refine L_assign ?_ | ((with_reducible apply gL_box); (first | (refine JL_mc rfl xR xR (al_boxA xR) ?_; intro _) | (refine JL_mc rfl xR xR (al_boxC xR xR) ?_; intro _) | fail)) | fail)) | ((with_reducible apply gD); (first | (refine JD_nil ?_; try simp only [List.cons_append, List.nil_append]) | (refine JD_bar ?_; try simp only [List.cons_append, List.nil_append]) | ((with_reducible apply gD_gd); (first | refine JD_skip xR ?_ | fail)) | refine D_move ?_ | refine D_assign ?_ | refine D_fieldAddr ?_ | refine D_load ?_ | refine D_pick ?_ | refine D_bin_eql ?_ | refine D_bin_geq ?_ | ((with_reducible apply gD_load); (first | refine JD_ldM xR xT xC xR xR ?_ | refine JD_ldWM xR xT xW xR ?_ | refine JD_ldSM xR xT (tabS stab_ok xR) xG xC xR ?_ | fail)) | ((with_reducible apply gD_go); (first | (refine JD_goq (right_s p hp) (hφ := xF) (h := ?_); rintro _ _ ⟨rfl, rfl⟩; try simp only [List.cons_append, List.nil_append]) | (refine JD_goq (right_s q hq) (hφ := xF) (h := ?_); rintro _ _ ⟨rfl, rfl⟩; try simp only [List.cons_append, List.nil_append]) | (refine JD_goq (mask_s q.1 p.2 hq.1 (rt_lo (by assumption)) (rt_hi (by assumption))) (hφ := xF) (h := ?_); rintro _ _ ⟨rfl, rfl⟩; try simp only [List.cons_append, List.nil_append]) | fail)) | ((with_reducible apply gD_gd); (first | (refine JD_guard xR xR ?_ ?_ <;> intro _ <;> (try (exfalso; first | contradiction | omega))) | (refine JD_guardb xR xR ?_ ?_ <;> (intro hgb; subst hgb)) | (refine JD_guardb xR xR ?_ ?_ <;> (intro hgb; fail_if_success (have : type_of% hgb := rfl))) | fail)) | fail)) | fail))
  all_goals (refine J_ret1 rfl (by rfl) fun w H => ⟨[], ⟨?_, rfl⟩, H.sel .nil⟩)
  all_goals congr 1
  · rename_i h1 h2 h3
    have := mask_eq (q := q) h1
    simp [Wi, h1, h2, h3, this]
  · rename_i h1 h2 h3
    simp [Wi, h1, h2, h3]
  · rename_i h1 h2
    simp [Wi, h1, h2]
  · rename_i h1
    simp [Wi, h1]
theorem bt_div (a l : Int) (h0 : 0 ≤ l) (h1 : l < 32) : a / pw (l + 1) = 2 * (a / pw l) + bt a l := by
  have h := pw_succ l h0 h1
  have h2 : a / pw l = a / pw (l + 1) / 2 := by
    rw [h, Int.mul_comm, Int.ediv_ediv_of_nonneg (Int.le_of_lt (pw_pos _))]
  unfold bt
  omega
/-- A longest prefix that has both within. -/
def Com (p q : Pf) (v : Value) : Prop := ∃ n : Int, 0 ≤ n ∧ n ≤ p.2 ∧ n ≤ q.2 ∧ p.1 / pw n = q.1 / pw n ∧ (n < p.2 → n < q.2 → bt p.1 n ≠ bt q.1 n) ∧ v = .agg (pfC (p.1 - p.1 % pw n, n)).toArray
theorem common_s (p q : Pf) (hp : PfN p) (hq : PfN q) (rp : Rt p) (rq : Rt q) : Pact Try.prog 42 #[.agg (pfC p).toArray, .agg (pfC q).toArray] (fun _ => True) [] (fun v L' => Com p q v ∧ L' = []) := by
  refine pact Try.func42 rfl Try.ntmps42 rfl ?_
  intro W K _
  have b1 := rp.1
  have b2 := rp.2.1
  have b3 := rq.1
  have b4 := rq.2.1
  (repeat' (first | ((with_reducible apply gJ); (first | refine J_seq ?_ | refine J_reg ?_ | refine J_skip ?_ | refine J_block ?_ | refine J_blk ?_ | refine J_exit rfl ?_ | refine J_goto rfl ?_ | ((with_reducible apply gJ_if); (first | refine J_ift rfl ?_ | refine J_iff rfl ?_ | (refine J_if xR ?_ ?_ <;> intro _ <;> (try (exfalso; first | contradiction | omega))) | (refine J_ifb xR ?_ ?_ <;> (intro hgb; subst hgb)) | (refine J_ifb xR ?_ ?_ <;> intro _) | fail)) | refine J_label ?_ | refine J_draw (id := 2) [0, 1, 2, 3, 4, 5, 6, 7, 8, 9, 10, 12, 13, 14, 11] [15, 16, 17] mixed xC xD xD ?_ | fail)) | ((with_reducible apply gL); (first | refine JL_nil ?_ | refine L_move ?_ | refine L_assign ?_ | refine L_fieldAddr ?_ | refine L_load ?_ | refine L_build ?_ | refine L_bin_add_i64 ?_ | refine L_bin_add_r ?_ | ((with_reducible apply gL_box); (first | (refine JL_mc rfl xR xR (al_boxA xR) ?_; intro _) | (refine JL_mc rfl xR xR (al_boxC xR xR) ?_; intro _) | fail)) | ((with_reducible apply gL_alloc); (first | (refine JL_mc rfl xR xR (al_alloc xN xK) ?_; intro _) | fail)) | ((with_reducible apply gL_store); (first | refine JL_st xR xR xT xC xR xE xR ?_ | refine JL_stW xR xR xT xW xR xR xR ?_ | refine JL_stS xR xR xT xW xP xR xR ?_ | refine JL_stEl xR xR xT xR xL xR (tabS stab_ok xR) xR xR xO ?_ | fail)) | fail)) | ((with_reducible apply gD); (first | (refine JD_nil ?_; try simp only [List.cons_append, List.nil_append]) | (refine JD_bar ?_; try simp only [List.cons_append, List.nil_append]) | ((with_reducible apply gD_gd); (first | refine JD_skip xR ?_ | fail)) | refine D_move ?_ | refine D_fieldAddr ?_ | refine D_load ?_ | refine D_pick ?_ | refine D_bin_eql ?_ | refine D_bin_lss ?_ | refine D_c_min ?_ | ((with_reducible apply gD_load); (first | refine JD_ldM xR xT xC xR xR ?_ | refine JD_ldWM xR xT xW xR ?_ | refine JD_ldSM xR xT (tabS stab_ok xR) xG xC xR ?_ | fail)) | ((with_reducible apply gD_gd); (first | (refine JD_guard xR xR ?_ ?_ <;> intro _ <;> (try (exfalso; first | contradiction | omega))) | (refine JD_guardb xR xR ?_ ?_ <;> (intro hgb; subst hgb)) | (refine JD_guardb xR xR ?_ ?_ <;> (intro hgb; fail_if_success (have : type_of% hgb := rfl))) | fail)) | fail)) | fail))
  rename_i g1 g2 g3
  refine J_loop (α := Nat) 0 (fun k => (min p.2 q.2).toNat - k) (fun k => (k : Int) ≤ p.2 ∧ (k : Int) ≤ q.2 ∧ p.1 / pw k = q.1 / pw k) (fun k => [(2, .pointer (some ⟨g1, 0, none⟩)), (3, .pointer (some ⟨g2, 0, none⟩)), (4, .pointer (some ⟨g3, 0, none⟩)), (5, .int .i64 k)])
    (fun _ => [pts g1 (pfC p) 31, pts g2 (pfC q) 31, pts g3 [.int .u32 0, .int .i64 0] 31]) ⟨b1, b3, ?_⟩ ⟨rfl, rfl, rfl, rfl, trivial⟩ (fun w H => H.sel (by (first | ((with_reducible (repeat (first | exact Sb.nil | apply Sb.cons | exact Tk.here | apply Tk.there))); done) | (repeat (first | exact Sb.nil | apply Sb.cons | exact Tk.here | apply Tk.there))))) ?_
  · have h1 := hp.1
    have h2 := hq.1
    unfold U32 at h1 h2
    show p.1 / pw 0 = q.1 / pw 0
    rw [pw_0]
    omega
  rintro k ⟨hk1, hk2, he⟩
  by_cases hlt : (k : Int) < min p.2 q.2
  · have d1 := bt_div p.1 k (by omega) (by omega)
    have d2 := bt_div q.1 k (by omega) (by omega)
    by_cases hb : bt p.1 k = bt q.1 k
    · (repeat' (first | ((with_reducible apply gJ); (first | refine J_seq ?_ | refine J_reg ?_ | refine J_skip ?_ | refine J_block ?_ | refine J_blk ?_ | refine J_exit rfl ?_ | refine J_goto rfl ?_ | ((with_reducible apply gJ_if); (first | refine J_ift rfl ?_ | refine J_iff rfl ?_ | (refine J_if xR ?_ ?_ <;> intro _ <;> (try (exfalso; first | contradiction | omega))) | (refine J_ifb xR ?_ ?_ <;> (intro hgb; subst hgb)) | (refine J_ifb xR ?_ ?_ <;> intro _) | fail)) | refine J_label ?_ | refine J_draw (id := 2) [0, 1, 2, 3, 4, 5, 6, 7, 8, 9, 10, 12, 13, 14, 11] [15, 16, 17] mixed xC xD xD ?_ | fail)) | ((with_reducible apply gL); (first | refine JL_nil ?_ | refine L_move ?_ | refine L_assign ?_ | refine L_fieldAddr ?_ | refine L_load ?_ | refine L_build ?_ | refine L_bin_add_i64 ?_ | refine L_bin_add_r ?_ | ((with_reducible apply gL_box); (first | (refine JL_mc rfl xR xR (al_boxA xR) ?_; intro _) | (refine JL_mc rfl xR xR (al_boxC xR xR) ?_; intro _) | fail)) | ((with_reducible apply gL_alloc); (first | (refine JL_mc rfl xR xR (al_alloc xN xK) ?_; intro _) | fail)) | ((with_reducible apply gL_store); (first | refine JL_st xR xR xT xC xR xE xR ?_ | refine JL_stW xR xR xT xW xR xR xR ?_ | refine JL_stS xR xR xT xW xP xR xR ?_ | refine JL_stEl xR xR xT xR xL xR (tabS stab_ok xR) xR xR xO ?_ | fail)) | ((with_reducible apply gL_go); (first | (refine JL_goq (bit_s p.1 k hp.1 (by omega) (by omega)) (hφ := xF) (h := ?_); rintro _ _ ⟨rfl, rfl⟩; try simp only [List.cons_append, List.nil_append]) | (refine JL_goq (bit_s q.1 k hq.1 (by omega) (by omega)) (hφ := xF) (h := ?_); rintro _ _ ⟨rfl, rfl⟩; try simp only [List.cons_append, List.nil_append]) | fail)) | fail)) | ((with_reducible apply gD); (first | (refine JD_nil ?_; try simp only [List.cons_append, List.nil_append]) | (refine JD_bar ?_; try simp only [List.cons_append, List.nil_append]) | ((with_reducible apply gD_gd); (first | refine JD_skip xR ?_ | fail)) | refine D_move ?_ | refine D_fieldAddr ?_ | refine D_load ?_ | refine D_pick ?_ | refine D_bin_eql ?_ | refine D_bin_lss ?_ | refine D_c_min ?_ | ((with_reducible apply gD_load); (first | refine JD_ldM xR xT xC xR xR ?_ | refine JD_ldWM xR xT xW xR ?_ | refine JD_ldSM xR xT (tabS stab_ok xR) xG xC xR ?_ | fail)) | ((with_reducible apply gD_go); (first | (refine JD_goq (bit_s p.1 k hp.1 (by omega) (by omega)) (hφ := xF) (h := ?_); rintro _ _ ⟨rfl, rfl⟩; try simp only [List.cons_append, List.nil_append]) | (refine JD_goq (bit_s q.1 k hq.1 (by omega) (by omega)) (hφ := xF) (h := ?_); rintro _ _ ⟨rfl, rfl⟩; try simp only [List.cons_append, List.nil_append]) | fail)) | ((with_reducible apply gD_gd); (first | (refine JD_guard xR xR ?_ ?_ <;> intro _ <;> (try (exfalso; first | contradiction | omega))) | (refine JD_guardb xR xR ?_ ?_ <;> (intro hgb; subst hgb)) | (refine JD_guardb xR xR ?_ ?_ <;> (intro hgb; fail_if_success (have : type_of% hgb := rfl))) | fail)) | fail)) | fail))
      refine J_again (k + 1) (by omega) ⟨by omega, by omega, ?_⟩ ⟨rfl, rfl, rfl, rfl, trivial⟩ (fun w H => H.sel (by (first | ((with_reducible (repeat (first | exact Sb.nil | apply Sb.cons | exact Tk.here | apply Tk.there))); done) | (repeat (first | exact Sb.nil | apply Sb.cons | exact Tk.here | apply Tk.there)))))
      show p.1 / pw ((k : Int) + 1) = q.1 / pw ((k : Int) + 1)
      rw [d1, d2, he, hb]
    · (repeat' (first | ((with_reducible apply gJ); (first | refine J_seq ?_ | refine J_reg ?_ | refine J_skip ?_ | refine J_block ?_ | refine J_blk ?_ | refine J_exit rfl ?_ | refine J_goto rfl ?_ | ((with_reducible apply gJ_if); (first | refine J_ift rfl ?_ | refine J_iff rfl ?_ | (refine J_if xR ?_ ?_ <;> intro _ <;> (try (exfalso; first | contradiction | omega))) | (refine J_ifb xR ?_ ?_ <;> (intro hgb; subst hgb)) | (refine J_ifb xR ?_ ?_ <;> intro _) | fail)) | refine J_label ?_ | refine J_draw (id := 2) [0, 1, 2, 3, 4, 5, 6, 7, 8, 9, 10, 12, 13, 14, 11] [15, 16, 17] mixed xC xD xD ?_ | fail)) | ((with_reducible apply gL); (first | refine JL_nil ?_ | refine L_move ?_ | refine L_assign ?_ | refine L_fieldAddr ?_ | refine L_load ?_ | refine L_build ?_ | refine L_bin_add_i64 ?_ | refine L_bin_add_r ?_ | ((with_reducible apply gL_box); (first | (refine JL_mc rfl xR xR (al_boxA xR) ?_; intro _) | (refine JL_mc rfl xR xR (al_boxC xR xR) ?_; intro _) | fail)) | ((with_reducible apply gL_alloc); (first | (refine JL_mc rfl xR xR (al_alloc xN xK) ?_; intro _) | fail)) | ((with_reducible apply gL_store); (first | refine JL_st xR xR xT xC xR xE xR ?_ | refine JL_stW xR xR xT xW xR xR xR ?_ | refine JL_stS xR xR xT xW xP xR xR ?_ | refine JL_stEl xR xR xT xR xL xR (tabS stab_ok xR) xR xR xO ?_ | fail)) | ((with_reducible apply gL_go); (first | (refine JL_goq (bit_s p.1 k hp.1 (by omega) (by omega)) (hφ := xF) (h := ?_); rintro _ _ ⟨rfl, rfl⟩; try simp only [List.cons_append, List.nil_append]) | (refine JL_goq (bit_s q.1 k hq.1 (by omega) (by omega)) (hφ := xF) (h := ?_); rintro _ _ ⟨rfl, rfl⟩; try simp only [List.cons_append, List.nil_append]) | (refine JL_goq (first_s p.1 k hp.1 (by omega) (by omega)) (hφ := xF) (h := ?_); rintro _ _ ⟨rfl, rfl⟩; try simp only [List.cons_append, List.nil_append]) | fail)) | fail)) | ((with_reducible apply gD); (first | (refine JD_nil ?_; try simp only [List.cons_append, List.nil_append]) | (refine JD_bar ?_; try simp only [List.cons_append, List.nil_append]) | ((with_reducible apply gD_gd); (first | refine JD_skip xR ?_ | fail)) | refine D_move ?_ | refine D_fieldAddr ?_ | refine D_load ?_ | refine D_pick ?_ | refine D_bin_eql ?_ | refine D_bin_lss ?_ | refine D_c_min ?_ | ((with_reducible apply gD_load); (first | refine JD_ldM xR xT xC xR xR ?_ | refine JD_ldWM xR xT xW xR ?_ | refine JD_ldSM xR xT (tabS stab_ok xR) xG xC xR ?_ | fail)) | ((with_reducible apply gD_go); (first | (refine JD_goq (bit_s p.1 k hp.1 (by omega) (by omega)) (hφ := xF) (h := ?_); rintro _ _ ⟨rfl, rfl⟩; try simp only [List.cons_append, List.nil_append]) | (refine JD_goq (bit_s q.1 k hq.1 (by omega) (by omega)) (hφ := xF) (h := ?_); rintro _ _ ⟨rfl, rfl⟩; try simp only [List.cons_append, List.nil_append]) | (refine JD_goq (first_s p.1 k hp.1 (by omega) (by omega)) (hφ := xF) (h := ?_); rintro _ _ ⟨rfl, rfl⟩; try simp only [List.cons_append, List.nil_append]) | fail)) | ((with_reducible apply gD_gd); (first | (refine JD_guard xR xR ?_ ?_ <;> intro _ <;> (try (exfalso; first | contradiction | omega))) | (refine JD_guardb xR xR ?_ ?_ <;> (intro hgb; subst hgb)) | (refine JD_guardb xR xR ?_ ?_ <;> (intro hgb; fail_if_success (have : type_of% hgb := rfl))) | fail)) | fail)) | fail))
      refine J_retC (cs := [.int .u32 (p.1 - p.1 % pw k), .int .i64 k]) rfl (by rfl) (by (first | ((with_reducible (repeat (first | exact Tk.here | apply Tk.there))); done) | ((simp only [List.cons_append, List.nil_append]); (with_reducible (repeat (first | exact Tk.here | apply Tk.there))); done) | fail)) (by rfl) fun w H => ⟨_, ⟨⟨k, by omega, hk1, hk2, he, fun _ _ => hb, rfl⟩, rfl⟩, H.sel .nil⟩
  · (repeat' (first | ((with_reducible apply gJ); (first | refine J_seq ?_ | refine J_reg ?_ | refine J_skip ?_ | refine J_block ?_ | refine J_blk ?_ | refine J_exit rfl ?_ | refine J_goto rfl ?_ | ((with_reducible apply gJ_if); (first | refine J_ift rfl ?_ | refine J_iff rfl ?_ | (refine J_if xR ?_ ?_ <;> intro _ <;> (try (exfalso; first | contradiction | omega))) | (refine J_ifb xR ?_ ?_ <;> (intro hgb; subst hgb)) | (refine J_ifb xR ?_ ?_ <;> intro _) | fail)) | refine J_label ?_ | refine J_draw (id := 2) [0, 1, 2, 3, 4, 5, 6, 7, 8, 9, 10, 12, 13, 14, 11] [15, 16, 17] mixed xC xD xD ?_ | fail)) | ((with_reducible apply gL); (first | refine JL_nil ?_ | refine L_move ?_ | refine L_assign ?_ | refine L_fieldAddr ?_ | refine L_load ?_ | refine L_build ?_ | refine L_bin_add_i64 ?_ | refine L_bin_add_r ?_ | ((with_reducible apply gL_box); (first | (refine JL_mc rfl xR xR (al_boxA xR) ?_; intro _) | (refine JL_mc rfl xR xR (al_boxC xR xR) ?_; intro _) | fail)) | ((with_reducible apply gL_alloc); (first | (refine JL_mc rfl xR xR (al_alloc xN xK) ?_; intro _) | fail)) | ((with_reducible apply gL_store); (first | refine JL_st xR xR xT xC xR xE xR ?_ | refine JL_stW xR xR xT xW xR xR xR ?_ | refine JL_stS xR xR xT xW xP xR xR ?_ | refine JL_stEl xR xR xT xR xL xR (tabS stab_ok xR) xR xR xO ?_ | fail)) | ((with_reducible apply gL_go); (first | (refine JL_goq (first_s p.1 k hp.1 (by omega) (by omega)) (hφ := xF) (h := ?_); rintro _ _ ⟨rfl, rfl⟩; try simp only [List.cons_append, List.nil_append]) | fail)) | fail)) | ((with_reducible apply gD); (first | (refine JD_nil ?_; try simp only [List.cons_append, List.nil_append]) | (refine JD_bar ?_; try simp only [List.cons_append, List.nil_append]) | ((with_reducible apply gD_gd); (first | refine JD_skip xR ?_ | fail)) | refine D_move ?_ | refine D_fieldAddr ?_ | refine D_load ?_ | refine D_pick ?_ | refine D_bin_eql ?_ | refine D_bin_lss ?_ | refine D_c_min ?_ | ((with_reducible apply gD_load); (first | refine JD_ldM xR xT xC xR xR ?_ | refine JD_ldWM xR xT xW xR ?_ | refine JD_ldSM xR xT (tabS stab_ok xR) xG xC xR ?_ | fail)) | ((with_reducible apply gD_go); (first | (refine JD_goq (first_s p.1 k hp.1 (by omega) (by omega)) (hφ := xF) (h := ?_); rintro _ _ ⟨rfl, rfl⟩; try simp only [List.cons_append, List.nil_append]) | fail)) | ((with_reducible apply gD_gd); (first | (refine JD_guard xR xR ?_ ?_ <;> intro _ <;> (try (exfalso; first | contradiction | omega))) | (refine JD_guardb xR xR ?_ ?_ <;> (intro hgb; subst hgb)) | (refine JD_guardb xR xR ?_ ?_ <;> (intro hgb; fail_if_success (have : type_of% hgb := rfl))) | fail)) | fail)) | fail))
    refine J_retC (cs := [.int .u32 (p.1 - p.1 % pw k), .int .i64 k]) rfl (by rfl) (by (first | ((with_reducible (repeat (first | exact Tk.here | apply Tk.there))); done) | ((simp only [List.cons_append, List.nil_append]); (with_reducible (repeat (first | exact Tk.here | apply Tk.there))); done) | fail)) (by rfl) fun w H => ⟨_, ⟨⟨k, by omega, hk1, hk2, he, fun _ _ => by omega, rfl⟩, rfl⟩, H.sel .nil⟩

/-! The document's answer. -/
theorem size_s (l : Int) (h0 : 0 ≤ l) (h1 : l ≤ 32) : Pact Try.prog 38 #[.int .i64 l] (fun _ => True) [] (ret0 (.int .u64 (pw l))) := by
  refine pact Try.func38 rfl Try.ntmps38 rfl ?_
  intro W K _
  have hmax : max l 0 = l := by omega
  have p2 : ∀ k : Nat, k ≤ 32 → 0 < (2 : Int) ^ k ∧ (2 : Int) ^ k ≤ 4294967296 := fun k hk => by
    refine ⟨Int.pow_pos (by omega), ?_⟩
    have h1 := pw_le (32 - k) (by omega)
    unfold pw at h1
    rwa [show (32 - (32 - (k : Int))).toNat = k by omega] at h1
  (repeat' (first | ((with_reducible apply gJ); (first | refine J_seq ?_ | refine J_reg ?_ | refine J_skip ?_ | refine J_block ?_ | refine J_blk ?_ | refine J_exit rfl ?_ | refine J_goto rfl ?_ | ((with_reducible apply gJ_if); (first | refine J_ift rfl ?_ | refine J_iff rfl ?_ | (refine J_if xR ?_ ?_ <;> intro _ <;> (try (exfalso; first | contradiction | omega))) | (refine J_ifb xR ?_ ?_ <;> (intro hgb; subst hgb)) | (refine J_ifb xR ?_ ?_ <;> intro _) | fail)) | refine J_label ?_ | fail)) | ((with_reducible apply gL); (first | refine JL_nil ?_ | refine L_move ?_ | refine L_assign ?_ | refine L_bin_lss ?_ | refine L_c_max ?_ | refine L_bin_add_i64 ?_ | refine L_bin_add_u64 ?_ | refine L_bin_add_r ?_ | refine L_bin_mul_i64 ?_ | refine L_bin_mul_u64 ?_ | refine L_bin_mul_r ?_ | fail)) | fail))
  refine J_loop (α := Nat) 0 (fun k => 32 - k) (fun k => l + k ≤ 32) (fun k => [(3, .int .u64 (2 ^ k)), (4, .int .i64 (l + k))]) (fun _ => []) (by show l + 0 ≤ 32; omega) ⟨rfl, ?_, trivial⟩ (fun w H => H.sel (by (first | ((with_reducible (repeat (first | exact Sb.nil | apply Sb.cons | exact Tk.here | apply Tk.there))); done) | (repeat (first | exact Sb.nil | apply Sb.cons | exact Tk.here | apply Tk.there))))) ?_
  · show some (Value.int .i64 (max l 0)) = some (Value.int .i64 (l + 0))
    rw [hmax, Int.add_zero]
  rintro k hk
  have hk2 := p2 k (by omega)
  by_cases hlt : l + k < 32
  · (repeat' (first | ((with_reducible apply gJ); (first | refine J_seq ?_ | refine J_reg ?_ | refine J_skip ?_ | refine J_block ?_ | refine J_blk ?_ | refine J_exit rfl ?_ | refine J_goto rfl ?_ | ((with_reducible apply gJ_if); (first | refine J_ift rfl ?_ | refine J_iff rfl ?_ | (refine J_if xR ?_ ?_ <;> intro _ <;> (try (exfalso; first | contradiction | omega))) | (refine J_ifb xR ?_ ?_ <;> (intro hgb; subst hgb)) | (refine J_ifb xR ?_ ?_ <;> intro _) | fail)) | refine J_label ?_ | fail)) | ((with_reducible apply gL); (first | refine JL_nil ?_ | refine L_move ?_ | refine L_assign ?_ | refine L_bin_lss ?_ | refine L_c_max ?_ | refine L_bin_add_i64 ?_ | refine L_bin_add_u64 ?_ | refine L_bin_add_r ?_ | refine L_bin_mul_i64 ?_ | refine L_bin_mul_u64 ?_ | refine L_bin_mul_r ?_ | fail)) | fail))
    refine J_again (k + 1) (by omega) (by show l + ((k + 1 : Nat) : Int) ≤ 32; omega) ⟨?_, ?_, trivial⟩ (fun w H => H.sel (by (first | ((with_reducible (repeat (first | exact Sb.nil | apply Sb.cons | exact Tk.here | apply Tk.there))); done) | (repeat (first | exact Sb.nil | apply Sb.cons | exact Tk.here | apply Tk.there)))))
    · show some _ = some _
      rw [Int.pow_succ, Int.mul_comm]
    · show some _ = some _
      congr 2
      omega
  · (repeat' (first | ((with_reducible apply gJ); (first | refine J_seq ?_ | refine J_reg ?_ | refine J_skip ?_ | refine J_block ?_ | refine J_blk ?_ | refine J_exit rfl ?_ | refine J_goto rfl ?_ | ((with_reducible apply gJ_if); (first | refine J_ift rfl ?_ | refine J_iff rfl ?_ | (refine J_if xR ?_ ?_ <;> intro _ <;> (try (exfalso; first | contradiction | omega))) | (refine J_ifb xR ?_ ?_ <;> (intro hgb; subst hgb)) | (refine J_ifb xR ?_ ?_ <;> intro _) | fail)) | refine J_label ?_ | fail)) | ((with_reducible apply gL); (first | refine JL_nil ?_ | refine L_move ?_ | refine L_assign ?_ | refine L_bin_lss ?_ | refine L_c_max ?_ | refine L_bin_add_i64 ?_ | refine L_bin_add_u64 ?_ | refine L_bin_add_r ?_ | refine L_bin_mul_i64 ?_ | refine L_bin_mul_u64 ?_ | refine L_bin_mul_r ?_ | fail)) | fail))
    refine J_ret1 rfl (by rfl) fun w H => ⟨[], ⟨?_, rfl⟩, H.sel .nil⟩
    unfold pw
    rw [show (32 - l).toNat = k by omega]
theorem rright_s (p : Pf) (hp : PfN p) : Pact Try.prog 37 #[.agg (pfC p).toArray] (fun _ => True) [] (ret0 (.bool (decide (Rt p)))) := by
  refine pact Try.func37 rfl Try.ntmps37 rfl ?_
  intro W K _
  have h1 := hp.1
  unfold U32 at h1
  have hpos := pw_pos p.2
  (repeat' (first | ((with_reducible apply gJ); (first | refine J_seq ?_ | refine J_reg ?_ | refine J_skip ?_ | refine J_block ?_ | refine J_blk ?_ | refine J_exit rfl ?_ | refine J_goto rfl ?_ | ((with_reducible apply gJ_if); (first | refine J_ift rfl ?_ | refine J_iff rfl ?_ | (refine J_if xR ?_ ?_ <;> intro _ <;> (try (exfalso; first | contradiction | omega))) | (refine J_ifb xR ?_ ?_ <;> (intro hgb; subst hgb)) | (refine J_ifb xR ?_ ?_ <;> intro _) | fail)) | refine J_label ?_ | refine J_draw (id := 1) [0, 1, 2, 3, 4, 5, 6, 7, 8, 9, 10, 11, 12, 13, 14] [15, 16, 17, 18] mixed xC xD xD ?_ | fail)) | ((with_reducible apply gL); (first | refine JL_nil ?_ | refine L_assign ?_ | ((with_reducible apply gL_box); (first | (refine JL_mc rfl xR xR (al_boxA xR) ?_; intro _) | (refine JL_mc rfl xR xR (al_boxC xR xR) ?_; intro _) | fail)) | fail)) | ((with_reducible apply gD); (first | (refine JD_nil ?_; try simp only [List.cons_append, List.nil_append]) | (refine JD_bar ?_; try simp only [List.cons_append, List.nil_append]) | ((with_reducible apply gD_gd); (first | refine JD_skip xR ?_ | fail)) | refine D_move ?_ | refine D_assign ?_ | refine D_fieldAddr ?_ | refine D_load ?_ | refine D_pick ?_ | refine D_bin_eql ?_ | refine D_bin_leq ?_ | refine D_bin_geq ?_ | refine D_bin_rem ?_ | refine D_convert_i64 ?_ | refine D_convert_u64 ?_ | refine D_convert_r ?_ | ((with_reducible apply gD_load); (first | refine JD_ldM xR xT xC xR xR ?_ | refine JD_ldWM xR xT xW xR ?_ | refine JD_ldSM xR xT (tabS stab_ok xR) xG xC xR ?_ | fail)) | ((with_reducible apply gD_go); (first | (refine JD_goq (size_s p.2 (by omega) (by omega)) (hφ := xF) (h := ?_); rintro _ _ ⟨rfl, rfl⟩; try simp only [List.cons_append, List.nil_append]) | fail)) | ((with_reducible apply gD_gd); (first | (refine JD_guard xR xR ?_ ?_ <;> intro _ <;> (try (exfalso; first | contradiction | omega))) | (refine JD_guardb xR xR ?_ ?_ <;> (intro hgb; subst hgb)) | (refine JD_guardb xR xR ?_ ?_ <;> (intro hgb; fail_if_success (have : type_of% hgb := rfl))) | fail)) | fail)) | fail))
  all_goals (refine J_ret1 rfl (by rfl) fun w H => ⟨[], ⟨?_, rfl⟩, H.sel .nil⟩)
  all_goals congr 1
  · rename_i h1 h2
    simp [Rt, h1, h2]
  · rename_i h1 h2
    simp [Rt, h1, h2]
  · rename_i h1
    simp [Rt, h1]
theorem rwithin_s (p q : Pf) (hp : PfN p) (hq : PfN q) : Pact Try.prog 18 #[.agg (pfC p).toArray, .agg (pfC q).toArray] (fun _ => True) [] (ret0 (.bool (decide (Wi p q)))) := by
  refine pact Try.func18 rfl Try.ntmps18 rfl ?_
  intro W K _
  have h1 := hp.1
  have h2 := hq.1
  unfold U32 at h1 h2
  have hpos := pw_pos p.2
  have d1 : p.1 / pw p.2 ≤ p.1 := Int.ediv_le_self _ h1.1
  have d2 : q.1 / pw p.2 ≤ q.1 := Int.ediv_le_self _ h2.1
  have d3 : 0 ≤ p.1 / pw p.2 := Int.ediv_nonneg h1.1 (by omega)
  have d4 : 0 ≤ q.1 / pw p.2 := Int.ediv_nonneg h2.1 (by omega)
  (repeat' (first | ((with_reducible apply gJ); (first | refine J_seq ?_ | refine J_reg ?_ | refine J_skip ?_ | refine J_block ?_ | refine J_blk ?_ | refine J_exit rfl ?_ | refine J_goto rfl ?_ | ((with_reducible apply gJ_if); (first | refine J_ift rfl ?_ | refine J_iff rfl ?_ | (refine J_if xR ?_ ?_ <;> intro _ <;> (try (exfalso; first | contradiction | omega))) | (refine J_ifb xR ?_ ?_ <;> (intro hgb; subst hgb)) | (refine J_ifb xR ?_ ?_ <;> intro _) | fail)) | refine J_label ?_ | refine J_draw (id := 1) [0, 1, 2, 3, 4, 5, 6, 7, 8, 9, 10, 11, 12, 13, 14, 15, 16, 17, 18, 21, 22, 23, 24, 25, 19, 20, 26, 27] [28, 29, 30] mixed xC xD xD ?_ | fail)) | ((with_reducible apply gL); (first | refine JL_nil ?_ | refine L_assign ?_ | ((with_reducible apply gL_box); (first | (refine JL_mc rfl xR xR (al_boxA xR) ?_; intro _) | (refine JL_mc rfl xR xR (al_boxC xR xR) ?_; intro _) | fail)) | fail)) | ((with_reducible apply gD); (first | (refine JD_nil ?_; try simp only [List.cons_append, List.nil_append]) | (refine JD_bar ?_; try simp only [List.cons_append, List.nil_append]) | ((with_reducible apply gD_gd); (first | refine JD_skip xR ?_ | fail)) | refine D_move ?_ | refine D_assign ?_ | refine D_fieldAddr ?_ | refine D_load ?_ | refine D_pick ?_ | refine D_bin_eql ?_ | refine D_bin_geq ?_ | refine D_convert_i64 ?_ | refine D_convert_u64 ?_ | refine D_convert_r ?_ | refine D_bin_quo_i64 ?_ | refine D_bin_quo_u64 ?_ | refine D_bin_quo_r ?_ | ((with_reducible apply gD_load); (first | refine JD_ldM xR xT xC xR xR ?_ | refine JD_ldWM xR xT xW xR ?_ | refine JD_ldSM xR xT (tabS stab_ok xR) xG xC xR ?_ | fail)) | ((with_reducible apply gD_go); (first | (refine JD_goq (rright_s p hp) (hφ := xF) (h := ?_); rintro _ _ ⟨rfl, rfl⟩; try simp only [List.cons_append, List.nil_append]) | (refine JD_goq (rright_s q hq) (hφ := xF) (h := ?_); rintro _ _ ⟨rfl, rfl⟩; try simp only [List.cons_append, List.nil_append]) | (refine JD_goq (size_s p.2 (rt_lo (by assumption)) (rt_hi (by assumption))) (hφ := xF) (h := ?_); rintro _ _ ⟨rfl, rfl⟩; try simp only [List.cons_append, List.nil_append]) | fail)) | ((with_reducible apply gD_gd); (first | (refine JD_guard xR xR ?_ ?_ <;> intro _ <;> (try (exfalso; first | contradiction | omega))) | (refine JD_guardb xR xR ?_ ?_ <;> (intro hgb; subst hgb)) | (refine JD_guardb xR xR ?_ ?_ <;> (intro hgb; fail_if_success (have : type_of% hgb := rfl))) | fail)) | fail)) | fail))
  all_goals (refine J_ret1 rfl (by rfl) fun w H => ⟨[], ⟨?_, rfl⟩, H.sel .nil⟩)
  all_goals congr 1
  · rename_i h1 h2 h3
    simp [Wi, h1, h2, h3]
  · rename_i h1 h2 h3
    simp [Wi, h1, h2, h3]
  · rename_i h1 h2
    simp [Wi, h1, h2]
  · rename_i h1
    simp [Wi, h1]

/-- Ahead of. -/
def Ah (p q : Pf) : Prop := p.1 < q.1 ∨ (p.1 = q.1 ∧ p.2 < q.2)
instance (p q : Pf) : Decidable (Ah p q) := inferInstanceAs (Decidable (_ ∨ (_ ∧ _)))
theorem ahead_s (p q : Pf) : Pact Try.prog 26 #[.agg (pfC p).toArray, .agg (pfC q).toArray] (fun _ => True) [] (ret0 (.bool (decide (Ah p q)))) := by
  refine pact Try.func26 rfl Try.ntmps26 rfl ?_
  intro W K _
  (repeat' (first | ((with_reducible apply gJ); (first | refine J_seq ?_ | refine J_reg ?_ | refine J_skip ?_ | refine J_block ?_ | refine J_blk ?_ | refine J_exit rfl ?_ | refine J_goto rfl ?_ | ((with_reducible apply gJ_if); (first | refine J_ift rfl ?_ | refine J_iff rfl ?_ | (refine J_if xR ?_ ?_ <;> intro _ <;> (try (exfalso; first | contradiction | omega))) | (refine J_ifb xR ?_ ?_ <;> (intro hgb; subst hgb)) | (refine J_ifb xR ?_ ?_ <;> intro _) | fail)) | refine J_label ?_ | fail)) | ((with_reducible apply gL); (first | refine JL_nil ?_ | refine L_assign ?_ | refine L_fieldAddr ?_ | refine L_load ?_ | refine L_bin_neq ?_ | refine L_bin_lss ?_ | ((with_reducible apply gL_box); (first | (refine JL_mc rfl xR xR (al_boxA xR) ?_; intro _) | (refine JL_mc rfl xR xR (al_boxC xR xR) ?_; intro _) | fail)) | fail)) | fail))
  all_goals (refine J_ret1 rfl (by rfl) fun w H => ⟨[], ⟨?_, rfl⟩, H.sel .nil⟩)
  all_goals congr 1
  · rename_i h1
    simp only [Ah]
    congr 1
    simp only [eq_iff_iff]
    omega
  · rename_i h1
    simp only [Ah]
    congr 1
    simp only [eq_iff_iff]
    omega
theorem rahead_s (p q : Pf) : Pact Try.prog 27 #[.agg (pfC p).toArray, .agg (pfC q).toArray] (fun _ => True) [] (ret0 (.bool (decide (Ah p q)))) := by
  refine pact Try.func27 rfl Try.ntmps27 rfl ?_
  intro W K _
  (repeat' (first | ((with_reducible apply gJ); (first | refine J_seq ?_ | refine J_reg ?_ | refine J_skip ?_ | refine J_block ?_ | refine J_blk ?_ | refine J_exit rfl ?_ | refine J_goto rfl ?_ | ((with_reducible apply gJ_if); (first | refine J_ift rfl ?_ | refine J_iff rfl ?_ | (refine J_if xR ?_ ?_ <;> intro _ <;> (try (exfalso; first | contradiction | omega))) | (refine J_ifb xR ?_ ?_ <;> (intro hgb; subst hgb)) | (refine J_ifb xR ?_ ?_ <;> intro _) | fail)) | refine J_label ?_ | fail)) | ((with_reducible apply gL); (first | refine JL_nil ?_ | ((with_reducible apply gL_gd); (first | refine JL_skip xR xR ?_ | fail)) | refine L_move ?_ | refine L_assign ?_ | refine L_fieldAddr ?_ | refine L_load ?_ | refine L_pick ?_ | refine L_bin_eql ?_ | refine L_bin_lss ?_ | ((with_reducible apply gL_box); (first | (refine JL_mc rfl xR xR (al_boxA xR) ?_; intro _) | (refine JL_mc rfl xR xR (al_boxC xR xR) ?_; intro _) | fail)) | ((with_reducible apply gL_gd); (first | (refine JL_guard xR xR ?_ ?_ <;> intro _ <;> (try (exfalso; first | contradiction | omega))) | (refine JL_guardb xR xR ?_ ?_ <;> (intro hgb; subst hgb)) | (refine JL_guardb xR xR ?_ ?_ <;> (intro hgb; fail_if_success (have : type_of% hgb := rfl))) | fail)) | fail)) | fail))
  all_goals (refine J_ret1 rfl (by rfl) fun w H => ⟨[], ⟨?_, rfl⟩, H.sel .nil⟩)
  all_goals congr 1
  all_goals (simp only [Ah]; first | (symm; apply decide_eq_true; omega) | (symm; apply decide_eq_false; omega) | (congr 1; simp only [eq_iff_iff]; omega))
end Go.Proofs.Ytmimfjgnmmfhdaa
