/-
  Prefixes; what a test and an act may be: in the program and in the document's answer.
-/
import Derived.Test.YteekbpohocfmpaaWProg
namespace Go.Proofs.Yteekbpohocfmpaa
set_option linter.unusedSimpArgs false
set_option linter.unusedVariables false
set_option maxRecDepth 20000
set_option maxHeartbeats 4000000
open Go.RowKit Go.Pm


def ret0 (v : Value) : Value → List HP → Prop := fun u L => u = v ∧ L = []
def U32 (z : Int) : Prop := 0 ≤ z ∧ z ≤ 4294967295
def I64 (z : Int) : Prop := -9223372036854775808 ≤ z ∧ z ≤ 9223372036854775807
/-- A prefix: address, length. -/
abbrev Pf := Int × Int
def PfN (p : Pf) : Prop := U32 p.1 ∧ I64 p.2
abbrev pfC (p : Pf) : List Value := [.int .u32 p.1, .int .i64 p.2]
/-- How many addresses begin with so many bits. -/
def pw (l : Int) : Int := 2 ^ (32 - l).toNat
def Rt (p : Pf) : Prop := 0 ≤ p.2 ∧ p.2 ≤ 32 ∧ p.1 % pw p.2 = 0
instance (p : Pf) : Decidable (Rt p) := inferInstanceAs (Decidable (_ ∧ _ ∧ _))
theorem pw_pos (l : Int) : 0 < pw l := Int.pow_pos (by omega)
theorem pw_le (l : Int) (h : 0 ≤ l) : pw l ≤ 4294967296 := by
  unfold pw
  have : (2 : Int) ^ (32 - l).toNat ≤ 2 ^ 32 := by
    have h1 : (2 : Nat) ^ (32 - l).toNat ≤ 2 ^ 32 := Nat.pow_le_pow_right (by omega) (by omega)
    exact_mod_cast h1
  omega
theorem mask_s (a l : Int) (ha : U32 a) (h0 : 0 ≤ l) (h1 : l ≤ 32) : Pact Try.prog 50 #[.int .u32 a, .int .i64 l] (fun _ => True) [] (ret0 (.int .u32 (a - a % pw l))) := by
  refine pact Try.func50 rfl Try.ntmps50 rfl ?_
  intro W K _
  have hm : (32 - l) = (((32 - l).toNat : Nat) : Int) := by omega
  have hle := pw_le l h0
  have hpos := pw_pos l
  have e1 : (1 : Int) * 2 ^ (32 - l).toNat = pw l := by unfold pw; omega
  unfold U32 at ha
  (repeat' (first | ((with_reducible apply gJ); (first | refine J_seq ?_ | refine J_reg ?_ | refine J_skip ?_ | refine J_block ?_ | refine J_blk ?_ | refine J_exit rfl ?_ | refine J_goto rfl ?_ | ((with_reducible apply gJ_if); (first | refine J_ift rfl ?_ | refine J_iff rfl ?_ | (refine J_if xR ?_ ?_ <;> intro _ <;> (try (exfalso; first | contradiction | omega))) | (refine J_ifb xR ?_ ?_ <;> (intro hgb; subst hgb)) | (refine J_ifb xR ?_ ?_ <;> intro _) | fail)) | refine J_label ?_ | fail)) | ((with_reducible apply gL); (first | refine JL_nil ?_ | ((with_reducible apply gL_bin_shl); (first | (refine JL_p rfl xR xR (pe_shl (m := (32 - l).toNat) xR xR hm (by show _ ≤ 64; omega) (w_u64 (by rw [e1]; omega) (by rw [e1]; omega))) ?_) | fail)) | refine L_move ?_ | refine L_assign ?_ | refine L_bin_andNot ?_ | refine L_bin_sub_i64 ?_ | refine L_bin_sub_u32 ?_ | refine L_bin_sub_u64 ?_ | refine L_bin_sub_r ?_ | refine L_convert_i64 ?_ | refine L_convert_u32 ?_ | refine L_convert_u64 ?_ | refine L_convert_r ?_ | refine L_bin_shl_i64 ?_ | refine L_bin_shl_u32 ?_ | refine L_bin_shl_u64 ?_ | refine L_bin_shl_r ?_ | fail)) | fail))
  refine J_ret1 rfl (by rfl) fun w H => ⟨[], ⟨?_, rfl⟩, H.sel .nil⟩
  rw [e1]
  have := bits_andNot (a := a) (m := (32 - l).toNat) (by omega) (by omega) (by omega)
  unfold pw at *
  rw [this]
theorem right_s (p : Pf) (hp : PfN p) : Pact Try.prog 45 #[.agg (pfC p).toArray] (fun _ => True) [] (ret0 (.bool (decide (Rt p)))) := by
  refine pact Try.func45 rfl Try.ntmps45 rfl ?_
  intro W K _
  (repeat' (first | ((with_reducible apply gJ); (first | refine J_seq ?_ | refine J_reg ?_ | refine J_skip ?_ | refine J_block ?_ | refine J_blk ?_ | refine J_exit rfl ?_ | refine J_goto rfl ?_ | ((with_reducible apply gJ_if); (first | refine J_ift rfl ?_ | refine J_iff rfl ?_ | (refine J_if xR ?_ ?_ <;> intro _ <;> (try (exfalso; first | contradiction | omega))) | (refine J_ifb xR ?_ ?_ <;> (intro hgb; subst hgb)) | (refine J_ifb xR ?_ ?_ <;> intro _) | fail)) | refine J_label ?_ | refine J_draw (id := 1) [0, 1, 2, 3, 4, 5, 6, 7, 8, 9, 10, 11, 12, 14, 15, 13] [16, 17, 18] mixed xC xD xD ?_ | fail)) | ((with_reducible apply gL); (first | refine JL_nil ?_ | refine L_assign ?_ | ((with_reducible apply gL_box); (first | (refine JL_mc rfl xR xR (al_boxA xR) ?_; intro _) | (refine JL_mc rfl xR xR (al_boxC xR xR) ?_; intro _) | fail)) | fail)) | ((with_reducible apply gD); (first | (refine JD_nil ?_; try simp only [List.cons_append, List.nil_append]) | (refine JD_bar ?_; try simp only [List.cons_append, List.nil_append]) | ((with_reducible apply gD_gd); (first | refine JD_skip xR ?_ | fail)) | refine D_move ?_ | refine D_assign ?_ | refine D_fieldAddr ?_ | refine D_load ?_ | refine D_pick ?_ | refine D_bin_eql ?_ | refine D_bin_leq ?_ | refine D_bin_geq ?_ | ((with_reducible apply gD_load); (first | refine JD_ldM xR xT xC xR xR ?_ | refine JD_ldWM xR xT xW xR ?_ | refine JD_ldSM xR xT (tabS stab_ok xR) xG xC xR ?_ | fail)) | ((with_reducible apply gD_go); (first | (refine JD_goq (mask_s p.1 p.2 hp.1 (by omega) (by omega)) (hφ := xF) (h := ?_); rintro _ _ ⟨rfl, rfl⟩; try simp only [List.cons_append, List.nil_append]) | fail)) | ((with_reducible apply gD_gd); (first | (refine JD_guard xR xR ?_ ?_ <;> intro _ <;> (try (exfalso; first | contradiction | omega))) | (refine JD_guardb xR xR ?_ ?_ <;> (intro hgb; subst hgb)) | (refine JD_guardb xR xR ?_ ?_ <;> (intro hgb; fail_if_success (have : type_of% hgb := rfl))) | fail)) | fail)) | fail))
  all_goals (refine J_ret1 rfl (by rfl) fun w H => ⟨[], ⟨?_, rfl⟩, H.sel .nil⟩)
  all_goals congr 1
  · rename_i h1 h2
    simp only [Rt, h1, h2, true_and]
    congr 1
    simp only [eq_iff_iff]
    omega
  · rename_i h1 h2
    simp [Rt, h1, h2]
  · rename_i h1
    simp [Rt, h1]
/-! The document's answer. -/
theorem size_s (l : Int) (h0 : 0 ≤ l) (h1 : l ≤ 32) : Pact Try.prog 44 #[.int .i64 l] (fun _ => True) [] (ret0 (.int .u64 (pw l))) := by
  refine pact Try.func44 rfl Try.ntmps44 rfl ?_
  intro W K _
  have hmax : max l 0 = l := by omega
  have p2 : ∀ k : Nat, k ≤ 32 → 0 < (2 : Int) ^ k ∧ (2 : Int) ^ k ≤ 4294967296 := fun k hk => by
    refine ⟨Int.pow_pos (by omega), ?_⟩
    have h1 := pw_le (32 - k) (by omega)
    unfold pw at h1
    rwa [show (32 - (32 - (k : Int))).toNat = k by omega] at h1
  (repeat' (first | ((with_reducible apply gJ); (first | refine J_seq ?_ | refine J_reg ?_ | refine J_skip ?_ | refine J_block ?_ | refine J_blk ?_ | refine J_exit rfl ?_ | refine J_goto rfl ?_ | ((with_reducible apply gJ_if); (first | refine J_ift rfl ?_ | refine J_iff rfl ?_ | (refine J_if xR ?_ ?_ <;> intro _ <;> (try (exfalso; first | contradiction | omega))) | (refine J_ifb xR ?_ ?_ <;> (intro hgb; subst hgb)) | (refine J_ifb xR ?_ ?_ <;> intro _) | fail)) | refine J_label ?_ | fail)) | ((with_reducible apply gL); (first | refine JL_nil ?_ | refine L_move ?_ | refine L_assign ?_ | refine L_bin_lss ?_ | refine L_c_max ?_ | refine L_bin_add_i64 ?_ | refine L_bin_add_u64 ?_ | refine L_bin_add_r ?_ | refine L_bin_mul_i64 ?_ | refine L_bin_mul_u64 ?_ | refine L_bin_mul_r ?_ | fail)) | fail))
  refine J_loop (α := Nat) 0 (fun k => 32 - k) (fun k => l + k ≤ 32) (fun k => [(3, .int .u64 (2 ^ k)), (4, .int .i64 (l + k))]) (fun _ => []) (by show l + 0 ≤ 32; omega) ⟨rfl, ?_, trivial⟩ (fun w H => H.sel (by (first | ((with_reducible (repeat (first | exact Sb.nil | apply Sb.cons | exact Tk.here | apply Tk.there))); done) | (repeat (first | exact Sb.nil | apply Sb.cons | exact Tk.here | apply Tk.there))))) ?_
  · show some (Value.int .i64 (max l 0)) = some (Value.int .i64 (l + 0))
    rw [hmax, Int.add_zero]
  rintro k hk
  have hk2 := p2 k (by omega)
  by_cases hlt : l + k < 32
  · (repeat' (first | ((with_reducible apply gJ); (first | refine J_seq ?_ | refine J_reg ?_ | refine J_skip ?_ | refine J_block ?_ | refine J_blk ?_ | refine J_exit rfl ?_ | refine J_goto rfl ?_ | ((with_reducible apply gJ_if); (first | refine J_ift rfl ?_ | refine J_iff rfl ?_ | (refine J_if xR ?_ ?_ <;> intro _ <;> (try (exfalso; first | contradiction | omega))) | (refine J_ifb xR ?_ ?_ <;> (intro hgb; subst hgb)) | (refine J_ifb xR ?_ ?_ <;> intro _) | fail)) | refine J_label ?_ | fail)) | ((with_reducible apply gL); (first | refine JL_nil ?_ | refine L_move ?_ | refine L_assign ?_ | refine L_bin_lss ?_ | refine L_c_max ?_ | refine L_bin_add_i64 ?_ | refine L_bin_add_u64 ?_ | refine L_bin_add_r ?_ | refine L_bin_mul_i64 ?_ | refine L_bin_mul_u64 ?_ | refine L_bin_mul_r ?_ | fail)) | fail))
    refine J_again (k + 1) (by omega) (by show l + ((k + 1 : Nat) : Int) ≤ 32; omega) ⟨?_, ?_, trivial⟩ (fun w H => H.sel (by (first | ((with_reducible (repeat (first | exact Sb.nil | apply Sb.cons | exact Tk.here | apply Tk.there))); done) | (repeat (first | exact Sb.nil | apply Sb.cons | exact Tk.here | apply Tk.there)))))
    · show some _ = some _
      rw [Int.pow_succ, Int.mul_comm]
    · show some _ = some _
      congr 2
      omega
  · (repeat' (first | ((with_reducible apply gJ); (first | refine J_seq ?_ | refine J_reg ?_ | refine J_skip ?_ | refine J_block ?_ | refine J_blk ?_ | refine J_exit rfl ?_ | refine J_goto rfl ?_ | ((with_reducible apply gJ_if); (first | refine J_ift rfl ?_ | refine J_iff rfl ?_ | (refine J_if xR ?_ ?_ <;> intro _ <;> (try (exfalso; first | contradiction | omega))) | (refine J_ifb xR ?_ ?_ <;> (intro hgb; subst hgb)) | (refine J_ifb xR ?_ ?_ <;> intro _) | fail)) | refine J_label ?_ | fail)) | ((with_reducible apply gL); (first | refine JL_nil ?_ | refine L_move ?_ | refine L_assign ?_ | refine L_bin_lss ?_ | refine L_c_max ?_ | refine L_bin_add_i64 ?_ | refine L_bin_add_u64 ?_ | refine L_bin_add_r ?_ | refine L_bin_mul_i64 ?_ | refine L_bin_mul_u64 ?_ | refine L_bin_mul_r ?_ | fail)) | fail))
    refine J_ret1 rfl (by rfl) fun w H => ⟨[], ⟨?_, rfl⟩, H.sel .nil⟩
    unfold pw
    rw [show (32 - l).toNat = k by omega]
theorem rright_s (p : Pf) (hp : PfN p) : Pact Try.prog 35 #[.agg (pfC p).toArray] (fun _ => True) [] (ret0 (.bool (decide (Rt p)))) := by
  refine pact Try.func35 rfl Try.ntmps35 rfl ?_
  intro W K _
  have h1 := hp.1
  unfold U32 at h1
  have hpos := pw_pos p.2
  (repeat' (first | ((with_reducible apply gJ); (first | refine J_seq ?_ | refine J_reg ?_ | refine J_skip ?_ | refine J_block ?_ | refine J_blk ?_ | refine J_exit rfl ?_ | refine J_goto rfl ?_ | ((with_reducible apply gJ_if); (first | refine J_ift rfl ?_ | refine J_iff rfl ?_ | (refine J_if xR ?_ ?_ <;> intro _ <;> (try (exfalso; first | contradiction | omega))) | (refine J_ifb xR ?_ ?_ <;> (intro hgb; subst hgb)) | (refine J_ifb xR ?_ ?_ <;> intro _) | fail)) | refine J_label ?_ | refine J_draw (id := 1) [0, 1, 2, 3, 4, 5, 6, 7, 8, 9, 10, 11, 12, 13, 14] [15, 16, 17, 18] mixed xC xD xD ?_ | fail)) | ((with_reducible apply gL); (first | refine JL_nil ?_ | refine L_assign ?_ | ((with_reducible apply gL_box); (first | (refine JL_mc rfl xR xR (al_boxA xR) ?_; intro _) | (refine JL_mc rfl xR xR (al_boxC xR xR) ?_; intro _) | fail)) | fail)) | ((with_reducible apply gD); (first | (refine JD_nil ?_; try simp only [List.cons_append, List.nil_append]) | (refine JD_bar ?_; try simp only [List.cons_append, List.nil_append]) | ((with_reducible apply gD_gd); (first | refine JD_skip xR ?_ | fail)) | refine D_move ?_ | refine D_assign ?_ | refine D_fieldAddr ?_ | refine D_load ?_ | refine D_pick ?_ | refine D_bin_eql ?_ | refine D_bin_leq ?_ | refine D_bin_geq ?_ | refine D_bin_rem ?_ | refine D_convert_i64 ?_ | refine D_convert_u64 ?_ | refine D_convert_r ?_ | ((with_reducible apply gD_load); (first | refine JD_ldM xR xT xC xR xR ?_ | refine JD_ldWM xR xT xW xR ?_ | refine JD_ldSM xR xT (tabS stab_ok xR) xG xC xR ?_ | fail)) | ((with_reducible apply gD_go); (first | (refine JD_goq (size_s p.2 (by omega) (by omega)) (hφ := xF) (h := ?_); rintro _ _ ⟨rfl, rfl⟩; try simp only [List.cons_append, List.nil_append]) | fail)) | ((with_reducible apply gD_gd); (first | (refine JD_guard xR xR ?_ ?_ <;> intro _ <;> (try (exfalso; first | contradiction | omega))) | (refine JD_guardb xR xR ?_ ?_ <;> (intro hgb; subst hgb)) | (refine JD_guardb xR xR ?_ ?_ <;> (intro hgb; fail_if_success (have : type_of% hgb := rfl))) | fail)) | fail)) | fail))
  all_goals (refine J_ret1 rfl (by rfl) fun w H => ⟨[], ⟨?_, rfl⟩, H.sel .nil⟩)
  all_goals congr 1
  · rename_i h1 h2
    simp [Rt, h1, h2]
  · rename_i h1 h2
    simp [Rt, h1, h2]
  · rename_i h1
    simp [Rt, h1]
theorem right_b (p : Pf) (hp : PfN p) (b : Bool) (hb : decide (Rt p) = b) : Pact Try.prog 45 #[.agg (pfC p).toArray] (fun _ => True) [] (ret0 (.bool b)) := hb ▸ right_s p hp
theorem rright_b (p : Pf) (hp : PfN p) (b : Bool) (hb : decide (Rt p) = b) : Pact Try.prog 35 #[.agg (pfC p).toArray] (fun _ => True) [] (ret0 (.bool b)) := hb ▸ rright_s p hp
/-! Words, tests, acts. -/
def WordOk (n : Int) : Prop := 0 ≤ n ∧ n ≤ 4294967295
instance (n : Int) : Decidable (WordOk n) := inferInstanceAs (Decidable (_ ∧ _))
def TestOk (op n : Int) (p : Pf) : Prop := (op = 4 ∧ Rt p ∧ p.2 ≤ n ∧ n ≤ 32) ∨ (op = 5 ∧ Rt p ∧ n = 0) ∨ ((6 ≤ op ∧ op ≤ 10 ∨ op = 12) ∧ (p.1 = 0 ∧ p.2 = 0) ∧ (0 ≤ n ∧ n ≤ 4294967295)) ∨ (op = 11 ∧ (p.1 = 0 ∧ p.2 = 0) ∧ 0 ≤ n ∧ n ≤ 2)
instance (op n : Int) (p : Pf) : Decidable (TestOk op n p) := inferInstanceAs (Decidable (_ ∨ _ ∨ _ ∨ _))
def ActOk (op n m : Int) : Prop := ((op = 2 ∨ op = 3 ∨ op = 9) ∧ n = 0 ∧ m = 0) ∨ (op = 4 ∧ 1 ≤ n ∧ n ≤ 4294967295 ∧ 1 ≤ m ∧ m ≤ 10) ∨ ((5 ≤ op ∧ op ≤ 8) ∧ (0 ≤ n ∧ n ≤ 4294967295) ∧ m = 0)
instance (op n m : Int) : Decidable (ActOk op n m) := inferInstanceAs (Decidable (_ ∨ _ ∨ _))
theorem word_s (n : Int) : Pact Try.prog 40 #[.int .i64 n] (fun _ => True) [] (ret0 (.bool (decide (0 ≤ n ∧ n ≤ 4294967295)))) := by
  refine pact Try.func40 rfl Try.ntmps40 rfl ?_
  intro W K _
  (repeat' (first | ((with_reducible apply gJ); (first | refine J_seq ?_ | refine J_reg ?_ | refine J_skip ?_ | refine J_block ?_ | refine J_blk ?_ | refine J_exit rfl ?_ | refine J_goto rfl ?_ | ((with_reducible apply gJ_if); (first | refine J_ift rfl ?_ | refine J_iff rfl ?_ | (refine J_if xR ?_ ?_ <;> intro _ <;> (try (exfalso; first | contradiction | omega))) | (refine J_ifb xR ?_ ?_ <;> (intro hgb; subst hgb)) | (refine J_ifb xR ?_ ?_ <;> intro _) | fail)) | refine J_label ?_ | fail)) | ((with_reducible apply gL); (first | refine JL_nil ?_ | ((with_reducible apply gL_gd); (first | refine JL_skip xR xR ?_ | fail)) | refine L_move ?_ | refine L_assign ?_ | refine L_pick ?_ | refine L_bin_leq ?_ | refine L_bin_geq ?_ | ((with_reducible apply gL_gd); (first | (refine JL_guard xR xR ?_ ?_ <;> intro _ <;> (try (exfalso; first | contradiction | omega))) | (refine JL_guardb xR xR ?_ ?_ <;> (intro hgb; subst hgb)) | (refine JL_guardb xR xR ?_ ?_ <;> (intro hgb; fail_if_success (have : type_of% hgb := rfl))) | fail)) | fail)) | fail))
  all_goals (refine J_ret1 rfl (by rfl) fun w H => ⟨[], ⟨?_, rfl⟩, H.sel .nil⟩; congr 1; rw [Bool.eq_iff_iff]; simp only [decide_eq_true_eq, true_iff, Bool.false_eq_true, false_iff]; omega)
theorem rword_s (n : Int) : Pact Try.prog 36 #[.int .i64 n] (fun _ => True) [] (ret0 (.bool (decide (0 ≤ n ∧ n ≤ 4294967295)))) := by
  refine pact Try.func36 rfl Try.ntmps36 rfl ?_
  intro W K _
  (repeat' (first | ((with_reducible apply gJ); (first | refine J_seq ?_ | refine J_reg ?_ | refine J_skip ?_ | refine J_block ?_ | refine J_blk ?_ | refine J_exit rfl ?_ | refine J_goto rfl ?_ | ((with_reducible apply gJ_if); (first | refine J_ift rfl ?_ | refine J_iff rfl ?_ | (refine J_if xR ?_ ?_ <;> intro _ <;> (try (exfalso; first | contradiction | omega))) | (refine J_ifb xR ?_ ?_ <;> (intro hgb; subst hgb)) | (refine J_ifb xR ?_ ?_ <;> intro _) | fail)) | refine J_label ?_ | fail)) | ((with_reducible apply gL); (first | refine JL_nil ?_ | ((with_reducible apply gL_gd); (first | refine JL_skip xR xR ?_ | fail)) | refine L_move ?_ | refine L_assign ?_ | refine L_pick ?_ | refine L_bin_leq ?_ | refine L_bin_geq ?_ | ((with_reducible apply gL_gd); (first | (refine JL_guard xR xR ?_ ?_ <;> intro _ <;> (try (exfalso; first | contradiction | omega))) | (refine JL_guardb xR xR ?_ ?_ <;> (intro hgb; subst hgb)) | (refine JL_guardb xR xR ?_ ?_ <;> (intro hgb; fail_if_success (have : type_of% hgb := rfl))) | fail)) | fail)) | fail))
  all_goals (refine J_ret1 rfl (by rfl) fun w H => ⟨[], ⟨?_, rfl⟩, H.sel .nil⟩; congr 1; rw [Bool.eq_iff_iff]; simp only [decide_eq_true_eq, true_iff, Bool.false_eq_true, false_iff]; omega)
theorem rbare_s (p : Pf) : Pact Try.prog 22 #[.agg (pfC p).toArray] (fun _ => True) [] (ret0 (.bool (decide (p.1 = 0 ∧ p.2 = 0)))) := by
  refine pact Try.func22 rfl Try.ntmps22 rfl ?_
  intro W K _
  (repeat' (first | ((with_reducible apply gJ); (first | refine J_seq ?_ | refine J_reg ?_ | refine J_skip ?_ | refine J_block ?_ | refine J_blk ?_ | refine J_exit rfl ?_ | refine J_goto rfl ?_ | ((with_reducible apply gJ_if); (first | refine J_ift rfl ?_ | refine J_iff rfl ?_ | (refine J_if xR ?_ ?_ <;> intro _ <;> (try (exfalso; first | contradiction | omega))) | (refine J_ifb xR ?_ ?_ <;> (intro hgb; subst hgb)) | (refine J_ifb xR ?_ ?_ <;> intro _) | fail)) | refine J_label ?_ | fail)) | ((with_reducible apply gL); (first | refine JL_nil ?_ | refine L_assign ?_ | refine L_load ?_ | refine L_build ?_ | refine L_bin_eql ?_ | ((with_reducible apply gL_box); (first | (refine JL_mc rfl xR xR (al_boxA xR) ?_; intro _) | (refine JL_mc rfl xR xR (al_boxC xR xR) ?_; intro _) | fail)) | fail)) | fail))
  refine J_ret1 rfl (by rfl) fun w H => ⟨[], ⟨rfl, rfl⟩, H.sel .nil⟩
end Go.Proofs.Yteekbpohocfmpaa
