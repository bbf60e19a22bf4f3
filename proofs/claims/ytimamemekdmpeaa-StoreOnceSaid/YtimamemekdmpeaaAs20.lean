/-
  The example; among.
-/
import Derived.Test.YtimamemekdmpeaaAs19
import Derived.Test.YtimamemekdmpeaaLaw
namespace Go.Proofs.Ytimamemekdmpeaa
set_option linter.unusedSimpArgs false
set_option linter.unusedVariables false
set_option maxRecDepth 20000
set_option maxHeartbeats 4000000
open Go.RowKit Go.Pm

def oneAt (n : Int) : At := ⟨0, none, 0, [], 1, true, n, false, 0, false, false, 0, 0, none, 0, [], none, 0, []⟩
theorem oneAt_f (n : Int) (hn : U32 n) : AtF (oneAt n) := by
  have z : U32 0 := ⟨by omega, by omega⟩
  refine ⟨⟨⟨by simp [oneAt], by simp [oneAt]⟩, ⟨by simp [oneAt], by simp [oneAt]⟩, hn, z, z, z, ?_, ?_, ?_⟩, by simp [oneAt], by simp [oneAt], by simp [oneAt]⟩
  all_goals (intro s hs; exact absurd hs List.not_mem_nil)
theorem oneAt_v (n : Int) (w : World) : AtV w (oneAt n) := ⟨⟨Vw.nil w 2, fun _ h => absurd h List.not_mem_nil⟩, Vw.nil w 1, Vw.nil w 2, fun _ h => absurd h List.not_mem_nil⟩
theorem oneAt_ok (n : Int) : okN (oneAt n).nf = true := okN_t (by simp [oneAt]) rfl (by simp [oneAt]) (by simp [oneAt]) (by simp [oneAt]) (by simp [oneAt]) rfl
abbrev oneC (n : Int) : List Value := [.int .i64 0, .slice none 0 0, .int .u32 1, .bool true, .int .u32 n, .bool false, .int .u32 0, .bool false, .bool false, .int .u32 0, .int .u32 0, .slice none 0 0, .slice none 0 0]
theorem one_s (n : Int) (hn : U32 n) : Pact Try.prog 22 #[.int .i64 n] (fun _ => True) [] (ret0 (.agg (atC (oneAt n)).toArray)) := by
  refine pact Try.func22 rfl Try.ntmps22 rfl ?_
  intro W K _
  obtain ⟨h0, h1⟩ := hn
  (repeat' (first | ((with_reducible apply gJ); (first | refine J_seq ?_ | refine J_reg ?_ | refine J_skip ?_ | refine J_block ?_ | refine J_blk ?_ | refine J_exit rfl ?_ | refine J_goto rfl ?_ | ((with_reducible apply gJ_if); (first | refine J_ift rfl ?_ | refine J_iff rfl ?_ | (refine J_if xR ?_ ?_ <;> intro _ <;> (try (exfalso; first | contradiction | omega))) | (refine J_ifb xR ?_ ?_ <;> (intro hgb; subst hgb)) | (refine J_ifb xR ?_ ?_ <;> intro _) | fail)) | refine J_label ?_ | fail)) | ((with_reducible apply gL); (first | refine JL_nil ?_ | refine L_move ?_ | refine L_build ?_ | refine L_convert_u32 ?_ | refine L_convert_r ?_ | ((with_reducible apply gL_alloc); (first | (refine JL_mc rfl xR xR (al_alloc xN xK) ?_; intro _) | fail)) | ((with_reducible apply gL_store); (first | refine JL_st xR xR xT xC xR xE xR ?_ | refine JL_stW xR xR xT xW xR xR xR ?_ | refine JL_stS xR xR xT xW xP xR xR ?_ | refine JL_stEl xR xR xT xR xL xR (tabS stab_ok xR) xR xR xO ?_ | fail)) | fail)) | fail))
  exact J_retC (cs := oneC n) rfl (by rfl) (by (first | ((with_reducible (repeat (first | exact Tk.here | apply Tk.there))); done) | ((simp only [List.cons_append, List.nil_append]); (with_reducible (repeat (first | exact Tk.here | apply Tk.there))); done) | fail)) (by rfl) fun w H => ⟨_, ⟨rfl, rfl⟩, H.sel .nil⟩
theorem keep_e (B : Int) (hB0 : 0 ≤ B) (hB : B ≤ 1000000000) (sp : Nat) (S S' : List En) (c c' i er' : Int) (d : At) (hd : AtF d) (hs : StOk B S c) (h : keepF S c d.nf = ((S', c'), i, er')) : Pact Try.prog 10 #[.pointer (some ⟨sp, 0, none⟩), .agg (atC d).toArray] (fun w => AtV w d) [stoA sp S c] (fun u L' => u = .tuple #[.int .i64 i, .int .i64 er'] ∧ L' = [stoA sp S' c']) := by
  have := keep_s B hB0 hB sp S c d hd hs
  rw [h] at this
  exact this
theorem cnt_e (sp : Nat) (S : List En) (c id n : Int) (h : cntF S id = n) : Pact Try.prog 19 #[.pointer (some ⟨sp, 0, none⟩), .int .i64 id] (fun _ => True) [stoA sp S c] (fun u L' => u = .int .i64 n ∧ L' = [stoA sp S c]) := by
  subst h
  exact cnt_s sp S c id
theorem len_e (sp : Nat) (S : List En) (c n : Int) (h : (S.length : Int) = n) : Pact Try.prog 21 #[.pointer (some ⟨sp, 0, none⟩)] (fun _ => True) [stoA sp S c] (fun u L' => u = .int .i64 n ∧ L' = [stoA sp S c]) := by
  subst h
  exact len_s sp S c
theorem one_ne : (oneAt 1).nf ≠ (oneAt 2).nf := by simp [oneAt, At.nf]
theorem k1 : keepF [] 0 (oneAt 1).nf = (([⟨1, 1, (oneAt 1).nf⟩], 1), 1, 0) := by
  unfold keepF fndX; rw [oneAt_ok]; rfl
theorem k2 : keepF [⟨1, 1, (oneAt 1).nf⟩] 1 (oneAt 1).nf = (([⟨1, 2, (oneAt 1).nf⟩], 1), 1, 0) := by
  unfold keepF fndX; rw [oneAt_ok]; simp
theorem k3 : keepF [⟨1, 2, (oneAt 1).nf⟩] 1 (oneAt 2).nf = (([⟨1, 2, (oneAt 1).nf⟩, ⟨2, 1, (oneAt 2).nf⟩], 2), 2, 0) := by
  unfold keepF fndX; rw [oneAt_ok]; simp [one_ne]
theorem st1 : StOk 1 [⟨1, 1, (oneAt 1).nf⟩] 1 := by
  have := keepF_ok stok_nil (by omega) (At.nfN (oneAt_f 1 ⟨by omega, by omega⟩).num)
  rw [k1] at this
  exact this
theorem st2 : StOk 2 [⟨1, 2, (oneAt 1).nf⟩] 1 := by
  have := keepF_ok st1 (by omega) (At.nfN (oneAt_f 1 ⟨by omega, by omega⟩).num)
  rw [k2] at this
  exact this
theorem works_s : Pact Try.prog 7 #[] (fun _ => True) [] (ret0 (.bool true)) := by
  refine pact (args := []) Try.func7 rfl Try.ntmps7 rfl ?_
  intro W K _
  have u1 : U32 1 := ⟨by omega, by omega⟩
  have u2 : U32 2 := ⟨by omega, by omega⟩
  (repeat' (first | ((with_reducible apply gJ); (first | refine J_seq ?_ | refine J_reg ?_ | refine J_skip ?_ | refine J_block ?_ | refine J_blk ?_ | refine J_exit rfl ?_ | refine J_goto rfl ?_ | ((with_reducible apply gJ_if); (first | refine J_ift rfl ?_ | refine J_iff rfl ?_ | (refine J_if xR ?_ ?_ <;> intro _ <;> (try (exfalso; first | contradiction | omega))) | (refine J_ifb xR ?_ ?_ <;> (intro hgb; subst hgb)) | (refine J_ifb xR ?_ ?_ <;> intro _) | fail)) | refine J_label ?_ | fail)) | ((with_reducible apply gL); (first | refine JL_nil ?_ | ((with_reducible apply gL_gd); (first | refine JL_skip xR xR ?_ | fail)) | refine L_move ?_ | refine L_assign ?_ | refine L_pick ?_ | refine L_extract ?_ | refine L_bin_eql ?_ | ((with_reducible apply gL_go); (first | (refine JL_goq (new_s) (hφ := xF) (h := ?_); rintro _ _ ⟨sp, rfl, rfl⟩; try simp only [List.cons_append, List.nil_append]) | (refine JL_goq (one_s 1 u1) (hφ := xF) (h := ?_); rintro _ _ ⟨rfl, rfl⟩; try simp only [List.cons_append, List.nil_append]) | (refine JL_goq (one_s 2 u2) (hφ := xF) (h := ?_); rintro _ _ ⟨rfl, rfl⟩; try simp only [List.cons_append, List.nil_append]) | (refine JL_goq (keep_e 0 (by omega) (by omega) sp _ _ _ _ _ _ (oneAt 1) (oneAt_f 1 u1) stok_nil k1) (hφ := (by (try simp only [List.cons_append, List.nil_append]); exact fun w _ => oneAt_v 1 w)) (h := ?_); rintro _ _ ⟨rfl, rfl⟩; try simp only [List.cons_append, List.nil_append]) | (refine JL_goq (keep_e 1 (by omega) (by omega) sp _ _ _ _ _ _ (oneAt 1) (oneAt_f 1 u1) st1 k2) (hφ := (by (try simp only [List.cons_append, List.nil_append]); exact fun w _ => oneAt_v 1 w)) (h := ?_); rintro _ _ ⟨rfl, rfl⟩; try simp only [List.cons_append, List.nil_append]) | (refine JL_goq (keep_e 2 (by omega) (by omega) sp _ _ _ _ _ _ (oneAt 2) (oneAt_f 2 u2) st2 k3) (hφ := (by (try simp only [List.cons_append, List.nil_append]); exact fun w _ => oneAt_v 2 w)) (h := ?_); rintro _ _ ⟨rfl, rfl⟩; try simp only [List.cons_append, List.nil_append]) | (refine JL_goq (cnt_e sp _ _ 1 2 rfl) (hφ := xF) (h := ?_); rintro _ _ ⟨rfl, rfl⟩; try simp only [List.cons_append, List.nil_append]) | (refine JL_goq (len_e sp _ _ 2 rfl) (hφ := xF) (h := ?_); rintro _ _ ⟨rfl, rfl⟩; try simp only [List.cons_append, List.nil_append]) | fail)) | ((with_reducible apply gL_gd); (first | (refine JL_guard xR xR ?_ ?_ <;> intro _ <;> (try (exfalso; first | contradiction | omega))) | (refine JL_guardb xR xR ?_ ?_ <;> (intro hgb; subst hgb)) | (refine JL_guardb xR xR ?_ ?_ <;> (intro hgb; fail_if_success (have : type_of% hgb := rfl))) | fail)) | fail)) | fail))
  exact J_ret1 rfl (by rfl) fun w H => ⟨_, ⟨rfl, rfl⟩, H.sel .nil⟩
end Go.Proofs.Ytimamemekdmpeaa
