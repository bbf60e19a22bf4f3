/-
  Statements that are right: the document's answer.
-/
import Derived.Test.YteekbpohocfmpaaCd11
namespace Go.Proofs.Yteekbpohocfmpaa
set_option linter.unusedSimpArgs false
set_option linter.unusedVariables false
set_option maxRecDepth 20000
set_option maxHeartbeats 4000000
open Go.RowKit Go.Pm

theorem rnone_b (x : Cd) (b : Bool) (hb : noneB x = b) : Pact Try.prog 33 #[.agg (cdC x).toArray] (fun _ => True) [] (ret0 (.bool b)) := hb ▸ rnone_s x
theorem rRight_core (a : Option Addr) (c : Nat) (l : List St) (φ : St → World → Prop) (gc : Cd → Bool) (gl : List St → Bool) (deep : Int) (hl : l.length ≤ 5) (hd : 0 ≤ deep ∧ deep ≤ 63) (hL : ∀ s ∈ l, s.th.length ≤ 5 ∧ s.el.length ≤ 5)
    (hC : ∀ s ∈ l, Pact Try.prog 32 #[.agg (cdC s.cd).toArray, .int .i64 (deep + 1)] (φ s) [] (ret0 (.bool (gc s.cd))))
    (hT : ∀ s ∈ l, Pact Try.prog 18 #[.slice s.ta s.th.length s.tc, .int .i64 (deep + 1)] (φ s) [] (ret0 (.bool (gl s.th))))
    (hE : ∀ s ∈ l, Pact Try.prog 18 #[.slice s.ea s.el.length s.ec, .int .i64 (deep + 1)] (φ s) [] (ret0 (.bool (gl s.el)))) :
    Pact Try.prog 18 #[.slice a l.length c, .int .i64 deep] (KidS φ a c l) [] (ret0 (.bool (l.all (stG gc gl)))) := by
  refine pact Try.func18 rfl Try.ntmps18 rfl ?_
  intro W K hK
  (repeat' (first | ((with_reducible apply gJ); (first | refine J_seq ?_ | refine J_reg ?_ | refine J_skip ?_ | refine J_block ?_ | refine J_blk ?_ | refine J_exit rfl ?_ | refine J_goto rfl ?_ | ((with_reducible apply gJ_if); (first | refine J_ift rfl ?_ | refine J_iff rfl ?_ | (refine J_if xR ?_ ?_ <;> intro _ <;> (try (exfalso; first | contradiction | omega))) | (refine J_ifb xR ?_ ?_ <;> (intro hgb; subst hgb)) | (refine J_ifb xR ?_ ?_ <;> intro _) | fail)) | refine J_label ?_ | fail)) | ((with_reducible apply gL); (first | (with_reducible apply gL_app) | (with_reducible apply gL_app0) | refine JL_nil ?_ | ((with_reducible apply gL_gd); (first | refine JL_skip xR xR ?_ | fail)) | refine L_move ?_ | refine L_assign ?_ | refine L_fieldAddr ?_ | refine L_load ?_ | refine L_pick ?_ | refine L_indexAddr ?_ | refine L_c_len ?_ | refine L_un_not ?_ | refine L_bin_eql ?_ | refine L_bin_neq ?_ | refine L_bin_lss ?_ | refine L_bin_gtr ?_ | refine L_bin_add_i64 ?_ | refine L_bin_add_r ?_ | ((with_reducible apply gL_alloc); (first | (refine JL_mc rfl xR xR (al_alloc xN xK) ?_; intro _) | fail)) | ((with_reducible apply gL_store); (first | refine JL_st xR xR xT xC xR xE xR ?_ | refine JL_stW xR xR xT xW xR xR xR ?_ | refine JL_stS xR xR xT xW xP xR xR ?_ | refine JL_stEl xR xR xT xR xL xR (tabS stab_ok xR) xR xR xO ?_ | fail)) | ((with_reducible apply gL_gd); (first | (refine JL_guard xR xR ?_ ?_ <;> intro _ <;> (try (exfalso; first | contradiction | omega))) | (refine JL_guardb xR xR ?_ ?_ <;> (intro hgb; subst hgb)) | (refine JL_guardb xR xR ?_ ?_ <;> (intro hgb; fail_if_success (have : type_of% hgb := rfl))) | fail)) | fail)) | fail))
  refine J_loop (α := Nat) 0 (fun k => l.length - k) (fun k => k ≤ l.length ∧ (l.take k).all (stG gc gl) = true) (fun k => [(0, .slice a l.length c), (1, .int .i64 deep), (5, .int .i64 k)]) (fun _ => []) ⟨Nat.zero_le _, rfl⟩ ⟨rfl, rfl, rfl, trivial⟩ (fun w H => H.sel .nil) ?_
  rintro k ⟨hk, hall⟩
  by_cases hlt : k < l.length
  · obtain ⟨s, hs⟩ : ∃ s, l[k]? = some s := ⟨_, List.getElem?_eq_getElem hlt⟩
    have hm := List.mem_of_getElem? hs
    have hkv : Kn K (fun w => Vw w (.slice a l.length c) 10 l.length (flat stC l)) := hK.imp fun w h => h.1 (List.ne_nil_of_mem hm)
    have hkl : Kn K (φ s) := hK.imp fun w h => h.2 s hm
    obtain ⟨hl1, hl2⟩ := hL s hm
    have hCs := hC s hm
    have hTs := hT s hm
    have hEs := hE s hm
    by_cases ho : s.op = 1
    · have hg : stG gc gl s = (decide (s.n = 0 ∧ s.m = 0) && (gc s.cd && (gl s.th && gl s.el))) := if_pos ho
      rcases e1 : gc s.cd with _ | _ <;> rcases e2 : gl s.th with _ | _ <;> rcases e3 : gl s.el with _ | _ <;> rcases e4 : decide (s.n = 0 ∧ s.m = 0) with _ | _
      all_goals (rw [e1] at hCs; rw [e2] at hTs; rw [e3] at hEs; rw [e1, e2, e3, e4] at hg; simp only [decide_eq_true_eq, decide_eq_false_iff_not] at e4)
      all_goals (
        (repeat' (first | ((with_reducible apply gJ); (first | refine J_seq ?_ | refine J_reg ?_ | refine J_skip ?_ | refine J_block ?_ | refine J_blk ?_ | refine J_exit rfl ?_ | refine J_goto rfl ?_ | ((with_reducible apply gJ_if); (first | refine J_ift rfl ?_ | refine J_iff rfl ?_ | (refine J_if xR ?_ ?_ <;> intro _ <;> (try (exfalso; first | contradiction | omega))) | (refine J_ifb xR ?_ ?_ <;> (intro hgb; subst hgb)) | (refine J_ifb xR ?_ ?_ <;> intro _) | fail)) | refine J_label ?_ | fail)) | ((with_reducible apply gL); (first | (with_reducible apply gL_app) | (with_reducible apply gL_app0) | refine JL_nil ?_ | ((with_reducible apply gL_gd); (first | refine JL_skip xR xR ?_ | fail)) | refine L_move ?_ | refine L_assign ?_ | refine L_fieldAddr ?_ | refine L_load ?_ | refine L_pick ?_ | refine L_indexAddr ?_ | refine L_c_len ?_ | refine L_un_not ?_ | refine L_bin_eql ?_ | refine L_bin_neq ?_ | refine L_bin_lss ?_ | refine L_bin_gtr ?_ | refine L_bin_add_i64 ?_ | refine L_bin_add_r ?_ | ((with_reducible apply gL_alloc); (first | (refine JL_mc rfl xR xR (al_alloc xN xK) ?_; intro _) | fail)) | ((with_reducible apply gL_store); (first | refine JL_st xR xR xT xC xR xE xR ?_ | refine JL_stW xR xR xT xW xR xR xR ?_ | refine JL_stS xR xR xT xW xP xR xR ?_ | refine JL_stEl xR xR xT xR xL xR (tabS stab_ok xR) xR xR xO ?_ | fail)) | ((with_reducible apply gL_go); (first | (refine JL_goq (hCs) (hφ := (by (try simp only [List.cons_append, List.nil_append]); exact fun w hr => hkl w hr.1)) (h := ?_); rintro _ _ ⟨rfl, rfl⟩; try simp only [List.cons_append, List.nil_append]) | (refine JL_goq (hTs) (hφ := (by (try simp only [List.cons_append, List.nil_append]); exact fun w hr => hkl w hr.1)) (h := ?_); rintro _ _ ⟨rfl, rfl⟩; try simp only [List.cons_append, List.nil_append]) | (refine JL_goq (hEs) (hφ := (by (try simp only [List.cons_append, List.nil_append]); exact fun w hr => hkl w hr.1)) (h := ?_); rintro _ _ ⟨rfl, rfl⟩; try simp only [List.cons_append, List.nil_append]) | fail)) | ((with_reducible apply gL_gd); (first | (refine JL_guard xR xR ?_ ?_ <;> intro _ <;> (try (exfalso; first | contradiction | omega))) | (refine JL_guardb xR xR ?_ ?_ <;> (intro hgb; subst hgb)) | (refine JL_guardb xR xR ?_ ?_ <;> (intro hgb; fail_if_success (have : type_of% hgb := rfl))) | fail)) | fail)) | fail)))
      all_goals (first | (refine J_ret1 rfl (by rfl) fun w H => ⟨_, ⟨?_, rfl⟩, H.sel .nil⟩; rw [all_no hm hg]) | exact J_again (k + 1) (by omega) ⟨by omega, all_take hs hall hg⟩ ⟨rfl, rfl, rfl, trivial⟩ (fun w H => H.sel .nil))
    · have hg : stG gc gl s = (decide (ActOk s.op s.n s.m) && (noneB s.cd && decide (s.th.length + s.el.length = 0))) := if_neg ho
      rcases e1 : decide (ActOk s.op s.n s.m) with _ | _ <;> rcases e2 : noneB s.cd with _ | _ <;> rcases e3 : decide (s.th.length + s.el.length = 0) with _ | _
      all_goals (rw [e1, e2, e3] at hg; simp only [decide_eq_true_eq, decide_eq_false_iff_not] at e3)
      all_goals (
        (repeat' (first | ((with_reducible apply gJ); (first | refine J_seq ?_ | refine J_reg ?_ | refine J_skip ?_ | refine J_block ?_ | refine J_blk ?_ | refine J_exit rfl ?_ | refine J_goto rfl ?_ | ((with_reducible apply gJ_if); (first | refine J_ift rfl ?_ | refine J_iff rfl ?_ | (refine J_if xR ?_ ?_ <;> intro _ <;> (try (exfalso; first | contradiction | omega))) | (refine J_ifb xR ?_ ?_ <;> (intro hgb; subst hgb)) | (refine J_ifb xR ?_ ?_ <;> intro _) | fail)) | refine J_label ?_ | fail)) | ((with_reducible apply gL); (first | (with_reducible apply gL_app) | (with_reducible apply gL_app0) | refine JL_nil ?_ | ((with_reducible apply gL_gd); (first | refine JL_skip xR xR ?_ | fail)) | refine L_move ?_ | refine L_assign ?_ | refine L_fieldAddr ?_ | refine L_load ?_ | refine L_pick ?_ | refine L_indexAddr ?_ | refine L_c_len ?_ | refine L_un_not ?_ | refine L_bin_eql ?_ | refine L_bin_neq ?_ | refine L_bin_lss ?_ | refine L_bin_gtr ?_ | refine L_bin_add_i64 ?_ | refine L_bin_add_r ?_ | ((with_reducible apply gL_alloc); (first | (refine JL_mc rfl xR xR (al_alloc xN xK) ?_; intro _) | fail)) | ((with_reducible apply gL_store); (first | refine JL_st xR xR xT xC xR xE xR ?_ | refine JL_stW xR xR xT xW xR xR xR ?_ | refine JL_stS xR xR xT xW xP xR xR ?_ | refine JL_stEl xR xR xT xR xL xR (tabS stab_ok xR) xR xR xO ?_ | fail)) | ((with_reducible apply gL_go); (first | (refine JL_goq (ract_b s.op s.n s.m _ e1) (hφ := xF) (h := ?_); rintro _ _ ⟨rfl, rfl⟩; try simp only [List.cons_append, List.nil_append]) | (refine JL_goq (rnone_b s.cd _ e2) (hφ := xF) (h := ?_); rintro _ _ ⟨rfl, rfl⟩; try simp only [List.cons_append, List.nil_append]) | fail)) | ((with_reducible apply gL_gd); (first | (refine JL_guard xR xR ?_ ?_ <;> intro _ <;> (try (exfalso; first | contradiction | omega))) | (refine JL_guardb xR xR ?_ ?_ <;> (intro hgb; subst hgb)) | (refine JL_guardb xR xR ?_ ?_ <;> (intro hgb; fail_if_success (have : type_of% hgb := rfl))) | fail)) | fail)) | fail)))
      all_goals (first | (exfalso; omega) | skip)
      all_goals (first | (refine J_ret1 rfl (by rfl) fun w H => ⟨_, ⟨?_, rfl⟩, H.sel .nil⟩; rw [all_no hm hg]) | exact J_again (k + 1) (by omega) ⟨by omega, all_take hs hall hg⟩ ⟨rfl, rfl, rfl, trivial⟩ (fun w H => H.sel .nil))
  · obtain rfl : k = l.length := by omega
    rw [List.take_length] at hall
    (repeat' (first | ((with_reducible apply gJ); (first | refine J_seq ?_ | refine J_reg ?_ | refine J_skip ?_ | refine J_block ?_ | refine J_blk ?_ | refine J_exit rfl ?_ | refine J_goto rfl ?_ | ((with_reducible apply gJ_if); (first | refine J_ift rfl ?_ | refine J_iff rfl ?_ | (refine J_if xR ?_ ?_ <;> intro _ <;> (try (exfalso; first | contradiction | omega))) | (refine J_ifb xR ?_ ?_ <;> (intro hgb; subst hgb)) | (refine J_ifb xR ?_ ?_ <;> intro _) | fail)) | refine J_label ?_ | fail)) | ((with_reducible apply gL); (first | (with_reducible apply gL_app) | (with_reducible apply gL_app0) | refine JL_nil ?_ | ((with_reducible apply gL_gd); (first | refine JL_skip xR xR ?_ | fail)) | refine L_move ?_ | refine L_assign ?_ | refine L_fieldAddr ?_ | refine L_load ?_ | refine L_pick ?_ | refine L_indexAddr ?_ | refine L_c_len ?_ | refine L_un_not ?_ | refine L_bin_eql ?_ | refine L_bin_neq ?_ | refine L_bin_lss ?_ | refine L_bin_gtr ?_ | refine L_bin_add_i64 ?_ | refine L_bin_add_r ?_ | ((with_reducible apply gL_alloc); (first | (refine JL_mc rfl xR xR (al_alloc xN xK) ?_; intro _) | fail)) | ((with_reducible apply gL_store); (first | refine JL_st xR xR xT xC xR xE xR ?_ | refine JL_stW xR xR xT xW xR xR xR ?_ | refine JL_stS xR xR xT xW xP xR xR ?_ | refine JL_stEl xR xR xT xR xL xR (tabS stab_ok xR) xR xR xO ?_ | fail)) | ((with_reducible apply gL_gd); (first | (refine JL_guard xR xR ?_ ?_ <;> intro _ <;> (try (exfalso; first | contradiction | omega))) | (refine JL_guardb xR xR ?_ ?_ <;> (intro hgb; subst hgb)) | (refine JL_guardb xR xR ?_ ?_ <;> (intro hgb; fail_if_success (have : type_of% hgb := rfl))) | fail)) | fail)) | fail))
    exact J_ret1 rfl (by rfl) fun w H => ⟨_, ⟨by rw [hall], rfl⟩, H.sel .nil⟩
theorem rRight_s : ∀ (d : Nat) (a : Option Addr) (c : Nat) (l : List St) (deep : Int), LsF d l → 0 ≤ deep ∧ deep + d + 6 ≤ 64 → Pact Try.prog 18 #[.slice a l.length c, .int .i64 deep] (fun w => LsV w d a c l) [] (ret0 (.bool (rightB d l))) := by
  intro d
  induction d with
  | zero =>
    intro a c l deep hl hd
    rw [rightB_eq hl]
    have hno : ∀ s ∈ l, False := fun s hs => by rw [show l = [] from hl] at hs; cases hs
    exact preP (rRight_core a c l (fun s w => SeenS (0 - 1) s w) _ _ deep hl.len (by omega) (fun s hs => (hno s hs).elim) (fun s hs => (hno s hs).elim) (fun s hs => (hno s hs).elim) (fun s hs => (hno s hs).elim)) fun w h => hl.kids h
  | succ d ih =>
    intro a c l deep hl hd
    rw [rightB_eq hl]
    exact preP (rRight_core a c l (fun s w => SeenS (d + 1 - 1) s w) _ _ deep hl.len (by omega) (fun s hs => ⟨(hl.sub hs).2.2.1.len, (hl.sub hs).2.2.2.len⟩) (fun s hs => preP (rcond_s 5 s.cd (deep + 1) (hl.sub hs).2.1 (by omega)) fun w h => h.1) (fun s hs => preP (ih s.ta s.tc s.th (deep + 1) (hl.sub hs).2.2.1 (by omega)) fun w h => h.2.1) (fun s hs => preP (ih s.ea s.ec s.el (deep + 1) (hl.sub hs).2.2.2 (by omega)) fun w h => h.2.2)) fun w h => hl.kids h
end Go.Proofs.Yteekbpohocfmpaa
