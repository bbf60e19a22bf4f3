/-
  The document's Make.
-/
import Derived.Test.YteekbpohocfmpaaCd16
namespace Go.Proofs.Yteekbpohocfmpaa
set_option linter.unusedSimpArgs false
set_option linter.unusedVariables false
set_option maxRecDepth 20000
set_option maxHeartbeats 4000000
open Go.RowKit Go.Pm

theorem CodeOk.pre {F : FuncId} {la : Option Addr} {lc n : Nat} {φ ψ : World → Prop} {g : Nat → List Sp} (h : CodeOk F la lc n φ g) (hφ : ∀ w, ψ w → φ w) : CodeOk F la lc n ψ g := fun a c T T2 h1 h2 => preP (h a c T T2 h1 h2) hφ
theorem act_range {op n m : Int} (h : ActOk op n m) : 2 ≤ op ∧ op ≤ 9 := by unfold ActOk at h; omega
theorem rcode_s : ∀ (d : Nat) (la : Option Addr) (lc : Nat) (l : List St), LsF d l → rightB d l = true → d ≤ 5 → CodeOk 20 la lc l.length (fun w => LsV w d la lc l) (fun k => codeL d k l) := by
  intro d
  induction d with
  | zero =>
    intro la lc l hl hr hd
    have hno : ∀ s ∈ l, False := fun s hs => by rw [show l = [] from hl] at hs; cases hs
    have := rcode_core la lc l (fun s w => SeenS (0 - 1) s w) (codeL (0 - 1)) (sizeL (0 - 1)) hl.len (fun s hs => (hno s hs).elim) (fun s hs => (hno s hs).elim) (fun s hs => (hno s hs).elim) (fun s hs => (hno s hs).elim) (fun s hs => (hno s hs).elim) (fun s hs => (hno s hs).elim) (fun s hs => (hno s hs).elim) (fun s hs => (hno s hs).elim) (fun s hs => (hno s hs).elim)
    intro a c T T2 h1 h2
    exact preP (this a c T T2 h1 (by dsimp only at h2 ⊢; rw [← codeL_eq hl]; exact h2)) fun w h => hl.kids h
  | succ d ih =>
    intro la lc l hl hr hd
    have := rcode_core la lc l (fun s w => SeenS d s w) (codeL d) (sizeL d) hl.len (fun s hs => ⟨(hl.2 s hs).1, (hl.2 s hs).2.2.1.len, (hl.2 s hs).2.2.2.len⟩) (fun s hs ho => act_range ((right_st hl hr hs).2 ho).1) (fun s hs => ?_) (fun s hs => preP (rtests_s 5 s.cd (hl.2 s hs).2.1 (by omega)) fun w h => h.1) (fun s hs => preP (rsize_s d s.ta s.tc s.th (hl.2 s hs).2.2.1 (by omega)) fun w h => h.2.1) (fun s hs => preP (rsize_s d s.ea s.ec s.el (hl.2 s hs).2.2.2 (by omega)) fun w h => h.2.2) (fun s hs ho => (rput_s 5 s.cd (hl.2 s hs).2.1 ((right_st hl hr hs).1 ho).2.1 (by omega)).mono (by decide) fun w h => h.1) (fun s hs ho => (ih s.ta s.tc s.th (hl.2 s hs).2.2.1 ((right_st hl hr hs).1 ho).2.2.1 (by omega)).pre fun w h => h.2.1) (fun s hs ho => (ih s.ea s.ec s.el (hl.2 s hs).2.2.2 ((right_st hl hr hs).1 ho).2.2.2 (by omega)).pre fun w h => h.2.2)
    · intro a c T T2 h1 h2
      exact preP (this a c T T2 h1 h2) fun w h => hl.kids h
    · have a1 := tests_le (hl.2 s hs).2.1
      have a2 := sizeL_le (hl.2 s hs).2.2.1
      have a3 := sizeL_le (hl.2 s hs).2.2.2
      have a4 := bnd_le (d := d) (by omega)
      have e : (5 : Nat) ^ 5 = 3125 := rfl
      omega
def endS : Sp := ⟨23, 0, 0, 0, 0, 0, 0⟩
/-- What Make answers: the table and the number. -/
def makeT (l : List St) : List Sp := if rightB 5 l = true ∧ sizeL 5 l < 4096 then codeL 5 0 l ++ [endS] else []
def makeE (l : List St) : Int := if rightB 5 l = true then if sizeL 5 l < 4096 then 0 else 3 else 260
theorem rMake_s (nm : ByteArray) (la : Option Addr) (lc : Nat) (l : List St) (hl : LsF 5 l) : Pact Try.prog 8 #[.agg #[.string nm, .slice la l.length lc]] (fun w => LsV w 5 la lc l) [] (fun u L' => ∃ a' c', u = .tuple #[.slice a' (makeT l).length c', .int .i64 (makeE l)] ∧ L' = [Ar 38 7 spC (.slice a' (makeT l).length c') (makeT l)]) := by
  refine pact Try.func8 rfl Try.ntmps8 rfl ?_
  intro W K hK
  refine J_heap (L' := [Ar 38 7 spC (.slice none ([] : List Sp).length 0) []]) (fun w H => (Ow.arNil (e := 38) (sz := 7) (enc := spC) H).sel (by (first | ((with_reducible (repeat (first | exact Sb.nil | apply Sb.cons | exact Tk.here | apply Tk.there))); done) | (repeat (first | exact Sb.nil | apply Sb.cons | exact Tk.here | apply Tk.there))))) ?_
  have hR := rRight_s 5 la lc l 1 hl (by omega)
  have hS := rsize_s 5 la lc l hl (by omega)
  rcases hr : rightB 5 l with _ | _
  all_goals rw [hr] at hR
  · have e1 : makeT l = [] := by unfold makeT; rw [hr, if_neg (by simp)]
    have e2 : makeE l = 260 := by unfold makeE; rw [hr, if_neg (by simp)]
    rw [e1, e2]
    (repeat' (first | ((with_reducible apply gJ); (first | refine J_seq ?_ | refine J_reg ?_ | refine J_skip ?_ | refine J_block ?_ | refine J_blk ?_ | refine J_exit rfl ?_ | refine J_goto rfl ?_ | ((with_reducible apply gJ_if); (first | refine J_ift rfl ?_ | refine J_iff rfl ?_ | (refine J_if xR ?_ ?_ <;> intro _ <;> (try (exfalso; first | contradiction | omega))) | (refine J_ifb xR ?_ ?_ <;> (intro hgb; subst hgb)) | (refine J_ifb xR ?_ ?_ <;> intro _) | fail)) | refine J_label ?_ | fail)) | ((with_reducible apply gL); (first | refine JL_nil ?_ | refine L_assign ?_ | refine L_fieldAddr ?_ | refine L_load ?_ | refine L_build ?_ | refine L_un_not ?_ | refine L_bin_geq ?_ | ((with_reducible apply gL_box); (first | (refine JL_mc rfl xR xR (al_boxA xR) ?_; intro _) | (refine JL_mc rfl xR xR (al_boxC xR xR) ?_; intro _) | fail)) | ((with_reducible apply gL_buildSlice); (first | (refine JL_mc rfl xR xR (al_bs1 xR (tabE etab_ok xR) xK) ?_; intro _) | (refine JL_mc rfl xR xR (al_bs xR (tabE etab_ok xR) xN xK) ?_; intro _) | fail)) | ((with_reducible apply gL_c_append); (first | (refine JL_ap1 (tabE etab_ok xR) xR xR xT xT xC xR xL xR xO xR xR ?_; intro _ _ _ _) | (refine JL_app (tabE etab_ok xR) xR xR xT xV xC xL xU xO xR xR ?_; intro _ _ _ _) | fail)) | ((with_reducible apply gL_go); (first | (refine JL_goq (hR) (hφ := (by (try simp only [List.cons_append, List.nil_append]); exact fun w hr => hK w hr.1)) (h := ?_); rintro _ _ ⟨rfl, rfl⟩; try simp only [List.cons_append, List.nil_append]) | fail)) | fail)) | fail))
    exact J_ret2 rfl (by rfl) (by rfl) fun w H => ⟨_, ⟨none, 0, rfl, rfl⟩, H.sel (by (first | ((with_reducible (repeat (first | exact Sb.nil | apply Sb.cons | exact Tk.here | apply Tk.there))); done) | (repeat (first | exact Sb.nil | apply Sb.cons | exact Tk.here | apply Tk.there))))⟩
  · have hb := sizeL_le hl
    have hb2 := bnd_le (d := 5) (by omega)
    by_cases hs : sizeL 5 l < 4096
    · have e2 : makeE l = 0 := by unfold makeE; rw [if_pos hr, if_pos hs]
      have hcl := codeL_len hl hr 0
      obtain ⟨T2, h2⟩ : ∃ T2, codeL 5 0 l = T2 := ⟨_, rfl⟩
      have e1 : makeT l = T2 ++ [endS] := by unfold makeT; rw [if_pos ⟨hr, hs⟩, h2]
      rw [h2] at hcl
      rw [e1, e2]
      have hC := rcode_s 5 la lc l hl hr (by omega) none 0 [] T2 (by omega) h2
      (repeat' (first | ((with_reducible apply gJ); (first | refine J_seq ?_ | refine J_reg ?_ | refine J_skip ?_ | refine J_block ?_ | refine J_blk ?_ | refine J_exit rfl ?_ | refine J_goto rfl ?_ | ((with_reducible apply gJ_if); (first | refine J_ift rfl ?_ | refine J_iff rfl ?_ | (refine J_if xR ?_ ?_ <;> intro _ <;> (try (exfalso; first | contradiction | omega))) | (refine J_ifb xR ?_ ?_ <;> (intro hgb; subst hgb)) | (refine J_ifb xR ?_ ?_ <;> intro _) | fail)) | refine J_label ?_ | fail)) | ((with_reducible apply gL); (first | refine JL_nil ?_ | ((with_reducible apply gL_c_append); (first | (refine JL_ap1 (z := endS) (tabE etab_ok xR) xR xR xA xA xC xR xL xR (by omega) xR xR ?_; intro ad2 c4 _ _) | fail)) | refine L_assign ?_ | refine L_fieldAddr ?_ | refine L_load ?_ | refine L_build ?_ | refine L_un_not ?_ | refine L_bin_geq ?_ | ((with_reducible apply gL_box); (first | (refine JL_mc rfl xR xR (al_boxA xR) ?_; intro _) | (refine JL_mc rfl xR xR (al_boxC xR xR) ?_; intro _) | fail)) | ((with_reducible apply gL_buildSlice); (first | (refine JL_mc rfl xR xR (al_bs1 xR (tabE etab_ok xR) xK) ?_; intro _) | (refine JL_mc rfl xR xR (al_bs xR (tabE etab_ok xR) xN xK) ?_; intro _) | fail)) | ((with_reducible apply gL_c_append); (first | (refine JL_ap1 (tabE etab_ok xR) xR xR xT xT xC xR xL xR xO xR xR ?_; intro _ _ _ _) | (refine JL_app (tabE etab_ok xR) xR xR xT xV xC xL xU xO xR xR ?_; intro _ _ _ _) | fail)) | ((with_reducible apply gL_go); (first | (refine JL_goq (hR) (hφ := (by (try simp only [List.cons_append, List.nil_append]); exact fun w hr => hK w hr.1)) (h := ?_); rintro _ _ ⟨rfl, rfl⟩; try simp only [List.cons_append, List.nil_append]) | (refine JL_goq (hS) (hφ := (by (try simp only [List.cons_append, List.nil_append]); exact fun w hr => hK w hr.1)) (h := ?_); rintro _ _ ⟨rfl, rfl⟩; try simp only [List.cons_append, List.nil_append]) | (refine JL_goq (hC) (hφ := (by (try simp only [List.cons_append, List.nil_append]); exact fun w hr => hK w hr.1)) (h := ?_); rintro _ _ ⟨a2, c2, rfl, rfl⟩; try simp only [List.cons_append, List.nil_append]) | fail)) | fail)) | fail))
      exact J_ret2 rfl (by rfl) (by rfl) fun w H => ⟨_, ⟨ad2, c4, by rw [List.length_append]; rfl, rfl⟩, by rw [List.length_append]; exact H.sel (by (first | ((with_reducible (repeat (first | exact Sb.nil | apply Sb.cons | exact Tk.here | apply Tk.there))); done) | (repeat (first | exact Sb.nil | apply Sb.cons | exact Tk.here | apply Tk.there))))⟩
    · have e1 : makeT l = [] := by unfold makeT; rw [if_neg (by omega)]
      have e2 : makeE l = 3 := by unfold makeE; rw [if_pos hr, if_neg hs]
      rw [e1, e2]
      (repeat' (first | ((with_reducible apply gJ); (first | refine J_seq ?_ | refine J_reg ?_ | refine J_skip ?_ | refine J_block ?_ | refine J_blk ?_ | refine J_exit rfl ?_ | refine J_goto rfl ?_ | ((with_reducible apply gJ_if); (first | refine J_ift rfl ?_ | refine J_iff rfl ?_ | (refine J_if xR ?_ ?_ <;> intro _ <;> (try (exfalso; first | contradiction | omega))) | (refine J_ifb xR ?_ ?_ <;> (intro hgb; subst hgb)) | (refine J_ifb xR ?_ ?_ <;> intro _) | fail)) | refine J_label ?_ | fail)) | ((with_reducible apply gL); (first | refine JL_nil ?_ | refine L_assign ?_ | refine L_fieldAddr ?_ | refine L_load ?_ | refine L_build ?_ | refine L_un_not ?_ | refine L_bin_geq ?_ | ((with_reducible apply gL_box); (first | (refine JL_mc rfl xR xR (al_boxA xR) ?_; intro _) | (refine JL_mc rfl xR xR (al_boxC xR xR) ?_; intro _) | fail)) | ((with_reducible apply gL_buildSlice); (first | (refine JL_mc rfl xR xR (al_bs1 xR (tabE etab_ok xR) xK) ?_; intro _) | (refine JL_mc rfl xR xR (al_bs xR (tabE etab_ok xR) xN xK) ?_; intro _) | fail)) | ((with_reducible apply gL_c_append); (first | (refine JL_ap1 (tabE etab_ok xR) xR xR xT xT xC xR xL xR xO xR xR ?_; intro _ _ _ _) | (refine JL_app (tabE etab_ok xR) xR xR xT xV xC xL xU xO xR xR ?_; intro _ _ _ _) | fail)) | ((with_reducible apply gL_go); (first | (refine JL_goq (hR) (hφ := (by (try simp only [List.cons_append, List.nil_append]); exact fun w hr => hK w hr.1)) (h := ?_); rintro _ _ ⟨rfl, rfl⟩; try simp only [List.cons_append, List.nil_append]) | (refine JL_goq (hS) (hφ := (by (try simp only [List.cons_append, List.nil_append]); exact fun w hr => hK w hr.1)) (h := ?_); rintro _ _ ⟨rfl, rfl⟩; try simp only [List.cons_append, List.nil_append]) | fail)) | fail)) | fail))
      exact J_ret2 rfl (by rfl) (by rfl) fun w H => ⟨_, ⟨none, 0, rfl, rfl⟩, H.sel (by (first | ((with_reducible (repeat (first | exact Sb.nil | apply Sb.cons | exact Tk.here | apply Tk.there))); done) | (repeat (first | exact Sb.nil | apply Sb.cons | exact Tk.here | apply Tk.there))))⟩
end Go.Proofs.Yteekbpohocfmpaa
