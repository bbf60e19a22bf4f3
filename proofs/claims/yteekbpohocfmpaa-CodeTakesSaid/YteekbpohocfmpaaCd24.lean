/-
  The example works.
-/
import Derived.Test.YteekbpohocfmpaaCd23
import Derived.Test.YteekbpohocfmpaaCd6
import Derived.Test.YteekbpohocfmpaaCd5
namespace Go.Proofs.Yteekbpohocfmpaa
set_option linter.unusedSimpArgs false
set_option linter.unusedVariables false
set_option maxRecDepth 20000
set_option maxHeartbeats 4000000
open Go.RowKit Go.Pm

theorem same_e (a b : Option Addr) (c d n1 n2 : Nat) (l m : List Sp) (h1 : l.length = n1) (h2 : m.length = n2) (h : l = m) (hl : l.length ≤ 1000000000000) : Pact Try.prog 9 #[.slice a n1 c, .slice b n2 d] (fun w => Vw w (.slice a n1 c) 7 n1 (flat spC l) ∧ Vw w (.slice b n2 d) 7 n2 (flat spC m)) [] (ret0 (.bool true)) := by
  subst h1 h2
  exact same_s a b c d l m h hl
def ex1 : St := ⟨2, 0, 0, ⟨0, 0, 0, 0, none, 0, []⟩, none, 0, [], none, 0, []⟩
def ex0 (b1 : Nat) : St := ⟨1, 0, 0, ⟨6, 1, 0, 0, none, 0, []⟩, some ⟨b1, 0, none⟩, 1, [ex1], none, 0, []⟩
def exT : List Sp := [⟨6, 1, 0, 0, 0, 1, 2⟩, ⟨22, 0, 0, 0, 0, 0, 0⟩, ⟨23, 0, 0, 0, 0, 0, 0⟩]
theorem ex_right (b1 : Nat) : rightB 5 [ex0 b1] = true := by rfl
theorem ex_size (b1 : Nat) : sizeL 5 [ex0 b1] = 2 := by rfl
theorem ex_make (b1 : Nat) : makeT [ex0 b1] = exT := by
  unfold makeT
  rw [if_pos ⟨ex_right b1, by rw [ex_size]; decide⟩]
  rfl
theorem ex_err (b1 : Nat) : makeE [ex0 b1] = 0 := by
  unfold makeE
  rw [if_pos (ex_right b1), if_pos (by rw [ex_size]; decide)]
theorem ex_check : checkE exT = 0 := by decide +kernel
theorem i64z : I64 0 := by unfold I64; decide
theorem ex_fits (b1 : Nat) : LsF 5 [ex0 b1] := by
  have z1 : ∀ d, CdF d ⟨0, 0, 0, 0, none, 0, []⟩ := fun d => by
    have h : CdN ⟨0, 0, 0, 0, none, 0, []⟩ := ⟨i64z, i64z, by unfold U32; decide, i64z⟩
    cases d with
    | zero => exact ⟨h, rfl⟩
    | succ d => exact ⟨h, by simp, fun y hy => absurd hy List.not_mem_nil⟩
  refine ⟨by simp, fun s hs => ?_⟩
  obtain rfl := List.mem_singleton.1 hs
  refine ⟨⟨by show I64 1; unfold I64; decide, i64z, i64z, ⟨by show I64 6; unfold I64; decide, by show I64 1; unfold I64; decide, by show U32 0; unfold U32; decide, i64z⟩⟩, ⟨⟨by show I64 6; unfold I64; decide, by show I64 1; unfold I64; decide, by show U32 0; unfold U32; decide, i64z⟩, by simp [ex0], fun y hy => absurd hy List.not_mem_nil⟩, ⟨by simp [ex0], fun s hs => ?_⟩, ⟨by simp [ex0], fun s hs => absurd hs List.not_mem_nil⟩⟩
  obtain rfl := List.mem_singleton.1 hs
  exact ⟨⟨by show I64 2; unfold I64; decide, i64z, i64z, ⟨i64z, i64z, by show U32 0; unfold U32; decide, i64z⟩⟩, z1 5, ⟨by simp [ex1], fun s hs => absurd hs List.not_mem_nil⟩, ⟨by simp [ex1], fun s hs => absurd hs List.not_mem_nil⟩⟩
theorem ex_spn : ∀ s ∈ exT, SpN s := by
  intro s hs
  simp only [exT, List.mem_cons, List.not_mem_nil, or_false] at hs
  rcases hs with rfl | rfl | rfl <;> (constructor <;> (first | (show I64 _; unfold I64; decide) | (show U32 _; unfold U32; decide)))
theorem ex_seen (b1 b2 : Nat) (w : World) (h2 : Vw w (.slice (some ⟨b2, 0, none⟩) 1 1) 10 1 (flat stC [ex0 b1])) (h1 : Vw w (.slice (some ⟨b1, 0, none⟩) 1 1) 10 1 (flat stC [ex1])) : LsV w 5 (some ⟨b2, 0, none⟩) 1 [ex0 b1] := by
  have no : ∀ {y : Cd} {p : Prop}, y ∈ ([] : List Cd) → p := fun h => absurd h List.not_mem_nil
  have no2 : ∀ {y : St} {p : Prop}, y ∈ ([] : List St) → p := fun h => absurd h List.not_mem_nil
  refine ⟨h2, fun s hs => ?_⟩
  obtain rfl := List.mem_singleton.1 hs
  refine ⟨⟨Vw.nil w 5, fun y hy => no hy⟩, ⟨h1, fun s hs => ?_⟩, ⟨Vw.nil w 10, fun y hy => no2 hy⟩⟩
  obtain rfl := List.mem_singleton.1 hs
  exact ⟨⟨Vw.nil w 5, fun y hy => no hy⟩, ⟨Vw.nil w 10, fun y hy => no2 hy⟩, ⟨Vw.nil w 10, fun y hy => no2 hy⟩⟩
theorem works_s : Pact Try.prog 10 #[] (fun _ => True) [] (ret0 (.bool true)) := by
  refine pact Try.func10 rfl Try.ntmps10 rfl ?_
  intro W K _
  (repeat' (first | ((with_reducible apply gJ); (first | refine J_seq ?_ | refine J_reg ?_ | refine J_skip ?_ | refine J_block ?_ | refine J_blk ?_ | refine J_exit rfl ?_ | refine J_goto rfl ?_ | ((with_reducible apply gJ_if); (first | refine J_ift rfl ?_ | refine J_iff rfl ?_ | (refine J_if xR ?_ ?_ <;> intro _ <;> (try (exfalso; first | contradiction | omega))) | (refine J_ifb xR ?_ ?_ <;> (intro hgb; subst hgb)) | (refine J_ifb xR ?_ ?_ <;> intro _) | fail)) | refine J_label ?_ | fail)) | ((with_reducible apply gL); (first | refine JL_nil ?_ | ((with_reducible apply gL_gd); (first | refine JL_skip xR xR ?_ | fail)) | refine L_move ?_ | refine L_assign ?_ | refine L_pick ?_ | refine L_build ?_ | refine L_extract ?_ | refine L_bin_eql ?_ | ((with_reducible apply gL_buildSlice); (first | (refine JL_mc rfl xR xR (al_bs1 xR (tabE etab_ok xR) xK) ?_; intro _) | (refine JL_mc rfl xR xR (al_bs xR (tabE etab_ok xR) xN xK) ?_; intro _) | fail)) | ((with_reducible apply gL_gd); (first | (refine JL_guard xR xR ?_ ?_ <;> intro _ <;> (try (exfalso; first | contradiction | omega))) | (refine JL_guardb xR xR ?_ ?_ <;> (intro hgb; subst hgb)) | (refine JL_guardb xR xR ?_ ?_ <;> (intro hgb; fail_if_success (have : type_of% hgb := rfl))) | fail)) | fail)) | fail))
  rename_i b1 b2
  have hM := Make_s (ByteArray.mk #[]) (some ⟨b2, 0, none⟩) 1 [ex0 b1] (ex_fits b1)
  rw [ex_make, ex_err] at hM
  refine JL_heap (L' := [pts b2 (flat stC [ex0 b1]) 47, pts b1 (flat stC [ex1]) 47]) (fun w H => H) ?_
  (repeat' (first | ((with_reducible apply gJ); (first | refine J_seq ?_ | refine J_reg ?_ | refine J_skip ?_ | refine J_block ?_ | refine J_blk ?_ | refine J_exit rfl ?_ | refine J_goto rfl ?_ | ((with_reducible apply gJ_if); (first | refine J_ift rfl ?_ | refine J_iff rfl ?_ | (refine J_if xR ?_ ?_ <;> intro _ <;> (try (exfalso; first | contradiction | omega))) | (refine J_ifb xR ?_ ?_ <;> (intro hgb; subst hgb)) | (refine J_ifb xR ?_ ?_ <;> intro _) | fail)) | refine J_label ?_ | fail)) | ((with_reducible apply gL); (first | refine JL_nil ?_ | ((with_reducible apply gL_gd); (first | refine JL_skip xR xR ?_ | fail)) | refine L_move ?_ | refine L_assign ?_ | refine L_pick ?_ | refine L_build ?_ | refine L_extract ?_ | refine L_bin_eql ?_ | ((with_reducible apply gL_buildSlice); (first | (refine JL_mc rfl xR xR (al_bs1 xR (tabE etab_ok xR) xK) ?_; intro _) | (refine JL_mc rfl xR xR (al_bs xR (tabE etab_ok xR) xN xK) ?_; intro _) | fail)) | ((with_reducible apply gL_go); (first | (refine JL_goq (hM) (hφ := (by (try simp only [List.cons_append, List.nil_append]); exact fun w hr => ex_seen b1 b2 w (Src.lit (by (first | ((with_reducible (repeat (first | exact Tk.here | apply Tk.there))); done) | ((simp only [List.cons_append, List.nil_append]); (with_reducible (repeat (first | exact Tk.here | apply Tk.there))); done) | fail)) rfl (by decide) w hr) (Src.lit (by (first | ((with_reducible (repeat (first | exact Tk.here | apply Tk.there))); done) | ((simp only [List.cons_append, List.nil_append]); (with_reducible (repeat (first | exact Tk.here | apply Tk.there))); done) | fail)) rfl (by decide) w hr))) (h := ?_); rintro _ _ ⟨a2, c2, rfl, rfl⟩; try simp only [List.cons_append, List.nil_append]) | fail)) | ((with_reducible apply gL_gd); (first | (refine JL_guard xR xR ?_ ?_ <;> intro _ <;> (try (exfalso; first | contradiction | omega))) | (refine JL_guardb xR xR ?_ ?_ <;> (intro hgb; subst hgb)) | (refine JL_guardb xR xR ?_ ?_ <;> (intro hgb; fail_if_success (have : type_of% hgb := rfl))) | fail)) | fail)) | fail))
  rename Nat => b3
  refine JL_heap (L' := [pts b3 (flat spC exT) 38, Ar 38 7 spC (.slice a2 exT.length c2) exT]) (fun w H => H.sel (M := [pts b3 [.int .i64 6, .int .i64 1, .int .i64 0, .int .u32 0, .int .i64 0, .int .i64 1, .int .i64 2, .int .i64 22, .int .i64 0, .int .i64 0, .int .u32 0, .int .i64 0, .int .i64 0, .int .i64 0, .int .i64 23, .int .i64 0, .int .i64 0, .int .u32 0, .int .i64 0, .int .i64 0, .int .i64 0] 38, Ar 38 7 spC (.slice a2 exT.length c2) exT]) (by (first | ((with_reducible (repeat (first | exact Sb.nil | apply Sb.cons | exact Tk.here | apply Tk.there))); done) | (repeat (first | exact Sb.nil | apply Sb.cons | exact Tk.here | apply Tk.there))))) ?_
  (repeat' (first | ((with_reducible apply gJ); (first | refine J_seq ?_ | refine J_reg ?_ | refine J_skip ?_ | refine J_block ?_ | refine J_blk ?_ | refine J_exit rfl ?_ | refine J_goto rfl ?_ | ((with_reducible apply gJ_if); (first | refine J_ift rfl ?_ | refine J_iff rfl ?_ | (refine J_if xR ?_ ?_ <;> intro _ <;> (try (exfalso; first | contradiction | omega))) | (refine J_ifb xR ?_ ?_ <;> (intro hgb; subst hgb)) | (refine J_ifb xR ?_ ?_ <;> intro _) | fail)) | refine J_label ?_ | fail)) | ((with_reducible apply gL); (first | refine JL_nil ?_ | ((with_reducible apply gL_gd); (first | refine JL_skip xR xR ?_ | fail)) | refine L_move ?_ | refine L_assign ?_ | refine L_pick ?_ | refine L_build ?_ | refine L_extract ?_ | refine L_bin_eql ?_ | ((with_reducible apply gL_buildSlice); (first | (refine JL_mc rfl xR xR (al_bs1 xR (tabE etab_ok xR) xK) ?_; intro _) | (refine JL_mc rfl xR xR (al_bs xR (tabE etab_ok xR) xN xK) ?_; intro _) | fail)) | ((with_reducible apply gL_go); (first | (refine JL_goq (same_e a2 (some ⟨b3, 0, none⟩) c2 3 exT.length 3 exT exT rfl rfl rfl (by decide)) (hφ := (by (try simp only [List.cons_append, List.nil_append]); exact fun w hr => ⟨Src.ar (by (first | ((with_reducible (repeat (first | exact Tk.here | apply Tk.there))); done) | ((simp only [List.cons_append, List.nil_append]); (with_reducible (repeat (first | exact Tk.here | apply Tk.there))); done) | fail)) w hr, Src.lit (by (first | ((with_reducible (repeat (first | exact Tk.here | apply Tk.there))); done) | ((simp only [List.cons_append, List.nil_append]); (with_reducible (repeat (first | exact Tk.here | apply Tk.there))); done) | fail)) rfl (by decide) w hr⟩)) (h := ?_); rintro _ _ ⟨rfl, rfl⟩; try simp only [List.cons_append, List.nil_append]) | (refine JL_goq (check_b a2 c2 exT ex_spn (by decide) 0 ex_check) (hφ := (by (try simp only [List.cons_append, List.nil_append]); exact fun w hr => Src.ar (by (first | ((with_reducible (repeat (first | exact Tk.here | apply Tk.there))); done) | ((simp only [List.cons_append, List.nil_append]); (with_reducible (repeat (first | exact Tk.here | apply Tk.there))); done) | fail)) w hr)) (h := ?_); rintro _ _ ⟨rfl, rfl⟩; try simp only [List.cons_append, List.nil_append]) | fail)) | ((with_reducible apply gL_gd); (first | (refine JL_guard xR xR ?_ ?_ <;> intro _ <;> (try (exfalso; first | contradiction | omega))) | (refine JL_guardb xR xR ?_ ?_ <;> (intro hgb; subst hgb)) | (refine JL_guardb xR xR ?_ ?_ <;> (intro hgb; fail_if_success (have : type_of% hgb := rfl))) | fail)) | fail)) | fail))
  exact J_ret1 rfl (by rfl) fun w H => ⟨_, ⟨rfl, rfl⟩, H.sel .nil⟩
end Go.Proofs.Yteekbpohocfmpaa
