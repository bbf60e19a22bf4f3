/-
  Prefixes: right, within, masks and bits, in the program and in the document's answer.
-/
import Derived.Test.YtmimfjgnmmfhdaaWProg
namespace Go.Proofs.Ytmimfjgnmmfhdaa
set_option linter.unusedSimpArgs false
set_option linter.unusedVariables false
set_option maxRecDepth 20000
set_option maxHeartbeats 4000000
open Go.RowKit Go.Pm


def ret0 (v : Value) : Value → List HP → Prop := fun u L => u = v ∧ L = []
def U32 (z : Int) : Prop := 0 ≤ z ∧ z ≤ 4294967295
def I64 (z : Int) : Prop := -9223372036854775808 ≤ z ∧ z ≤ 9223372036854775807
/-- A prefix: address, length. -/
abbrev Pf := Int × Int
def PfN (p : Pf) : Prop := U32 p.1 ∧ I64 p.2
abbrev pfC (p : Pf) : List Value := [.int .u32 p.1, .int .i64 p.2]
/-- How many addresses begin with so many bits. -/
def pw (l : Int) : Int := 2 ^ (32 - l).toNat
def Rt (p : Pf) : Prop := 0 ≤ p.2 ∧ p.2 ≤ 32 ∧ p.1 % pw p.2 = 0
instance (p : Pf) : Decidable (Rt p) := inferInstanceAs (Decidable (_ ∧ _ ∧ _))
def Wi (p q : Pf) : Prop := Rt p ∧ Rt q ∧ p.2 ≤ q.2 ∧ q.1 / pw p.2 = p.1 / pw p.2
instance (p q : Pf) : Decidable (Wi p q) := inferInstanceAs (Decidable (_ ∧ _ ∧ _ ∧ _))

theorem pw_pos (l : Int) : 0 < pw l := Int.pow_pos (by omega)
theorem pw_le (l : Int) (h : 0 ≤ l) : pw l ≤ 4294967296 := by
  unfold pw
  have : (2 : Int) ^ (32 - l).toNat ≤ 2 ^ 32 := by
    have h1 : (2 : Nat) ^ (32 - l).toNat ≤ 2 ^ 32 := Nat.pow_le_pow_right (by omega) (by omega)
    exact_mod_cast h1
  omega
theorem pw_32 : pw 32 = 1 := rfl
theorem pw_0 : pw 0 = 4294967296 := rfl
theorem pw_succ (l : Int) (h0 : 0 ≤ l) (h : l < 32) : pw l = 2 * pw (l + 1) := by
  unfold pw
  rw [show (32 - l).toNat = (32 - (l + 1)).toNat + 1 by omega, Int.pow_succ]
  omega
theorem mask_fits (a l : Int) (ha : U32 a) (h : 0 ≤ l) : U32 (a - a % pw l) := by
  have h1 := Int.emod_nonneg a (Int.ne_of_gt (pw_pos l))
  have h2 := Int.emod_lt_of_pos a (pw_pos l)
  have h3 : a % pw l ≤ a := by
    have := Int.mul_ediv_add_emod a (pw l)
    have h4 : 0 ≤ pw l * (a / pw l) := Int.mul_nonneg (Int.le_of_lt (pw_pos l)) (Int.ediv_nonneg ha.1 (Int.le_of_lt (pw_pos l)))
    omega
  unfold U32 at *
  omega
theorem mask_s (a l : Int) (ha : U32 a) (h0 : 0 ≤ l) (h1 : l ≤ 32) : Pact Try.prog 41 #[.int .u32 a, .int .i64 l] (fun _ => True) [] (ret0 (.int .u32 (a - a % pw l))) := by
  refine pact Try.func41 rfl Try.ntmps41 rfl ?_
  intro W K _
  have hm : (32 - l) = (((32 - l).toNat : Nat) : Int) := by omega
  have hle := pw_le l h0
  have hpos := pw_pos l
  have e1 : (1 : Int) * 2 ^ (32 - l).toNat = pw l := by unfold pw; omega
  unfold U32 at ha
  (repeat' (first | ((with_reducible apply gJ); (first | refine J_seq ?_ | refine J_reg ?_ | refine J_skip ?_ | refine J_block ?_ | refine J_blk ?_ | refine J_exit rfl ?_ | refine J_goto rfl ?_ | ((with_reducible apply gJ_if); (first | refine J_ift rfl ?_ | refine J_iff rfl ?_ | (refine J_if xR ?_ ?_ <;> intro _ <;> (try (exfalso; first | contradiction | omega))) | (refine J_ifb xR ?_ ?_ <;> (intro hgb; subst hgb)) | (refine J_ifb xR ?_ ?_ <;> intro _) | fail)) | refine J_label ?_ | fail)) | ((with_reducible apply gL); (first | refine JL_nil ?_ | ((with_reducible apply gL_bin_shl); (first | (refine JL_p rfl xR xR (pe_shl (m := (32 - l).toNat) xR xR hm (by show _ ≤ 64; omega) (w_u64 (by rw [e1]; omega) (by rw [e1]; omega))) ?_) | fail)) | refine L_move ?_ | refine L_assign ?_ | refine L_bin_andNot ?_ | refine L_bin_sub_i64 ?_ | refine L_bin_sub_u32 ?_ | refine L_bin_sub_u64 ?_ | refine L_bin_sub_r ?_ | refine L_convert_i64 ?_ | refine L_convert_u32 ?_ | refine L_convert_u64 ?_ | refine L_convert_r ?_ | refine L_bin_shl_i64 ?_ | refine L_bin_shl_u32 ?_ | refine L_bin_shl_u64 ?_ | refine L_bin_shl_r ?_ | fail)) | fail))
  refine J_ret1 rfl (by rfl) fun w H => ⟨[], ⟨?_, rfl⟩, H.sel .nil⟩
  rw [e1]
  have := bits_andNot (a := a) (m := (32 - l).toNat) (by omega) (by omega) (by omega)
  unfold pw at *
  rw [this]
theorem first_s (a l : Int) (ha : U32 a) (h0 : 0 ≤ l) (h1 : l ≤ 32) : Pact Try.prog 46 #[.int .u32 a, .int .i64 l] (fun _ => True) [] (ret0 (.int .u32 (a - a % pw l))) := by
  refine pact Try.func46 rfl Try.ntmps46 rfl ?_
  intro W K _
  have hm : (32 - l) = (((32 - l).toNat : Nat) : Int) := by omega
  have hle := pw_le l h0
  have hpos := pw_pos l
  have e1 : (1 : Int) * 2 ^ (32 - l).toNat = pw l := by unfold pw; omega
  unfold U32 at ha
  (repeat' (first | ((with_reducible apply gJ); (first | refine J_seq ?_ | refine J_reg ?_ | refine J_skip ?_ | refine J_block ?_ | refine J_blk ?_ | refine J_exit rfl ?_ | refine J_goto rfl ?_ | ((with_reducible apply gJ_if); (first | refine J_ift rfl ?_ | refine J_iff rfl ?_ | (refine J_if xR ?_ ?_ <;> intro _ <;> (try (exfalso; first | contradiction | omega))) | (refine J_ifb xR ?_ ?_ <;> (intro hgb; subst hgb)) | (refine J_ifb xR ?_ ?_ <;> intro _) | fail)) | refine J_label ?_ | fail)) | ((with_reducible apply gL); (first | refine JL_nil ?_ | ((with_reducible apply gL_bin_shl); (first | (refine JL_p rfl xR xR (pe_shl (m := (32 - l).toNat) xR xR hm (by show _ ≤ 64; omega) (w_u64 (by rw [e1]; omega) (by rw [e1]; omega))) ?_) | fail)) | refine L_move ?_ | refine L_assign ?_ | refine L_bin_andNot ?_ | refine L_bin_sub_i64 ?_ | refine L_bin_sub_u32 ?_ | refine L_bin_sub_u64 ?_ | refine L_bin_sub_r ?_ | refine L_convert_i64 ?_ | refine L_convert_u32 ?_ | refine L_convert_u64 ?_ | refine L_convert_r ?_ | refine L_bin_shl_i64 ?_ | refine L_bin_shl_u32 ?_ | refine L_bin_shl_u64 ?_ | refine L_bin_shl_r ?_ | fail)) | fail))
  refine J_ret1 rfl (by rfl) fun w H => ⟨[], ⟨?_, rfl⟩, H.sel .nil⟩
  rw [e1]
  have := bits_andNot (a := a) (m := (32 - l).toNat) (by omega) (by omega) (by omega)
  unfold pw at *
  rw [this]
/-- The bit behind the first l ones. -/
def bt (a l : Int) : Int := a / pw (l + 1) % 2
theorem bt_cases (a l : Int) : bt a l = 0 ∨ bt a l = 1 := by unfold bt; omega
theorem bit_s (a l : Int) (ha : U32 a) (h0 : 0 ≤ l) (h1 : l ≤ 31) : Pact Try.prog 36 #[.int .u32 a, .int .i64 l] (fun _ => True) [] (ret0 (.int .i64 (bt a l))) := by
  refine pact Try.func36 rfl Try.ntmps36 rfl ?_
  intro W K _
  have hm : (31 - l) = (((31 - l).toNat : Nat) : Int) := by omega
  have e1 : (2 : Int) ^ (31 - l).toNat = pw (l + 1) := by unfold pw; rw [show (32 - (l + 1)).toNat = (31 - l).toNat by omega]
  unfold U32 at ha
  have hd : 0 ≤ a / 2 ^ (31 - l).toNat := Int.ediv_nonneg ha.1 (Int.le_of_lt (Int.pow_pos (by omega)))
  have hd2 : a / 2 ^ (31 - l).toNat ≤ a := Int.ediv_le_self _ ha.1
  (repeat' (first | ((with_reducible apply gJ); (first | refine J_seq ?_ | refine J_reg ?_ | refine J_skip ?_ | refine J_block ?_ | refine J_blk ?_ | refine J_exit rfl ?_ | refine J_goto rfl ?_ | ((with_reducible apply gJ_if); (first | refine J_ift rfl ?_ | refine J_iff rfl ?_ | (refine J_if xR ?_ ?_ <;> intro _ <;> (try (exfalso; first | contradiction | omega))) | (refine J_ifb xR ?_ ?_ <;> (intro hgb; subst hgb)) | (refine J_ifb xR ?_ ?_ <;> intro _) | fail)) | refine J_label ?_ | fail)) | ((with_reducible apply gL); (first | refine JL_nil ?_ | ((with_reducible apply gL_bin_shr); (first | (refine JL_p rfl xR xR (pe_shr (m := (31 - l).toNat) xR xR hm (by show _ ≤ 32; omega)) ?_) | fail)) | refine L_move ?_ | refine L_assign ?_ | refine L_bin_shr ?_ | refine L_bin_and ?_ | refine L_bin_sub_i64 ?_ | refine L_bin_sub_u32 ?_ | refine L_bin_sub_r ?_ | refine L_convert_i64 ?_ | refine L_convert_u32 ?_ | refine L_convert_r ?_ | fail)) | fail))
  refine J_ret1 rfl (by rfl) fun w H => ⟨[], ⟨?_, rfl⟩, H.sel .nil⟩
  rw [bits_and1 (by omega) (by omega), e1]
  rfl
theorem mask_eq {p q : Pf} (hp : Rt p) : q.1 - q.1 % pw p.2 = p.1 ↔ q.1 / pw p.2 = p.1 / pw p.2 := by
  have h1 := Int.mul_ediv_add_emod q.1 (pw p.2)
  have h2 := Int.mul_ediv_add_emod p.1 (pw p.2)
  have h3 := hp.2.2
  have hpos := pw_pos p.2
  constructor
  · intro h
    have h4 : pw p.2 * (q.1 / pw p.2) = pw p.2 * (p.1 / pw p.2) := by omega
    exact Int.eq_of_mul_eq_mul_left (Int.ne_of_gt hpos) h4
  · intro h
    rw [h] at h1
    omega
theorem right_s (p : Pf) (hp : PfN p) : Pact Try.prog 29 #[.agg (pfC p).toArray] (fun _ => True) [] (ret0 (.bool (decide (Rt p)))) := by
  refine pact Try.func29 rfl Try.ntmps29 rfl ?_
  intro W K _
  (repeat' (first | ((with_reducible apply gJ); (first | refine J_seq ?_ | refine J_reg ?_ | refine J_skip ?_ | refine J_block ?_ | refine J_blk ?_ | refine J_exit rfl ?_ | refine J_goto rfl ?_ | ((with_reducible apply gJ_if); (first | refine J_ift rfl ?_ | refine J_iff rfl ?_ | (refine J_if xR ?_ ?_ <;> intro _ <;> (try (exfalso; first | contradiction | omega))) | (refine J_ifb xR ?_ ?_ <;> (intro hgb; subst hgb)) | (refine J_ifb xR ?_ ?_ <;> intro _) | fail)) | refine J_label ?_ | refine J_draw (id := 1) [0, 1, 2, 3, 4, 5, 6, 7, 8, 9, 10, 11, 12, 14, 15, 13] [16, 17, 18] mixed xC xD xD ?_ | fail)) | ((with_reducible apply gL); (first | refine JL_nil ?_ | refine L_assign ?_ | ((with_reducible apply gL_box); (first | (refine JL_mc rfl xR xR (al_boxA xR) ?_; intro _) | (refine JL_mc rfl xR xR (al_boxC xR xR) ?_; intro _) | fail)) | fail)) | ((with_reducible apply gD); (first | (refine JD_nil ?_; try simp only [List.cons_append, List.nil_append]) | (refine JD_bar ?_; try simp only [List.cons_append, List.nil_append]) | ((with_reducible apply gD_gd); (first | refine JD_skip xR ?_ | fail)) | refine D_move ?_ | refine D_assign ?_ | refine D_fieldAddr ?_ | refine D_load ?_ | refine D_pick ?_ | refine D_bin_eql ?_ | refine D_bin_leq ?_ | refine D_bin_geq ?_ | ((with_reducible apply gD_load); (first | refine JD_ldM xR xT xC xR xR ?_ | refine JD_ldWM xR xT xW xR ?_ | refine JD_ldSM xR xT (tabS stab_ok xR) xG xC xR ?_ | fail)) | ((with_reducible apply gD_go); (first | (refine JD_goq (mask_s p.1 p.2 hp.1 (by omega) (by omega)) (hφ := xF) (h := ?_); rintro _ _ ⟨rfl, rfl⟩; try simp only [List.cons_append, List.nil_append]) | fail)) | ((with_reducible apply gD_gd); (first | (refine JD_guard xR xR ?_ ?_ <;> intro _ <;> (try (exfalso; first | contradiction | omega))) | (refine JD_guardb xR xR ?_ ?_ <;> (intro hgb; subst hgb)) | (refine JD_guardb xR xR ?_ ?_ <;> (intro hgb; fail_if_success (have : type_of% hgb := rfl))) | fail)) | fail)) | fail))
  all_goals (refine J_ret1 rfl (by rfl) fun w H => ⟨[], ⟨?_, rfl⟩, H.sel .nil⟩)
  all_goals congr 1
  · rename_i h1 h2
    simp only [Rt, h1, h2, true_and]
    congr 1
    simp only [eq_iff_iff]
    omega
  · rename_i h1 h2
    simp [Rt, h1, h2]
  · rename_i h1
    simp [Rt, h1]
end Go.Proofs.Ytmimfjgnmmfhdaa
