/-
  Statements that are right: the program.
-/
import Derived.Test.YteekbpohocfmpaaCd10
namespace Go.Proofs.Yteekbpohocfmpaa
set_option linter.unusedSimpArgs false
set_option linter.unusedVariables false
set_option maxRecDepth 20000
set_option maxHeartbeats 4000000
open Go.RowKit Go.Pm

/-- Statements can be read. -/
def KidS (φ : St → World → Prop) (a : Option Addr) (c : Nat) (l : List St) (w : World) : Prop := (l ≠ [] → Vw w (.slice a l.length c) 10 l.length (flat stC l)) ∧ ∀ s ∈ l, φ s w
theorem LsF.len {d : Nat} {l : List St} (h : LsF d l) : l.length ≤ 5 := by
  cases d with
  | zero => rw [show l = [] from h]; simp
  | succ d => exact h.1
theorem LsF.sub {d : Nat} {l : List St} {s : St} (h : LsF d l) (hs : s ∈ l) : StN s ∧ CdF 5 s.cd ∧ LsF (d - 1) s.th ∧ LsF (d - 1) s.el := by
  cases d with
  | zero => rw [show l = [] from h] at hs; cases hs
  | succ d => exact h.2 s hs
theorem LsF.kids {d : Nat} {l : List St} (h : LsF d l) {a : Option Addr} {c : Nat} {w : World} (hv : LsV w d a c l) : KidS (fun s w => SeenS (d - 1) s w) a c l w := by
  cases d with
  | zero => rw [show l = [] from h]; exact ⟨fun h => absurd rfl h, fun y hy => absurd hy List.not_mem_nil⟩
  | succ d => exact ⟨fun _ => hv.1, hv.2⟩
def bareB (s : St) : Bool := noneB s.cd && decide (s.th.length + s.el.length = 0)
def stG (gc : Cd → Bool) (gl : List St → Bool) (s : St) : Bool := if s.op = 1 then decide (s.n = 0 ∧ s.m = 0) && (gc s.cd && (gl s.th && gl s.el)) else decide (ActOk s.op s.n s.m) && bareB s
def rightB : Nat → List St → Bool
  | 0, _ => true
  | d + 1, l => l.all (stG (condB 5) (rightB d))
theorem rightB_eq {d : Nat} {l : List St} (h : LsF d l) : rightB d l = l.all (stG (condB 5) (rightB (d - 1))) := by
  cases d with
  | zero => rw [show l = [] from h]; rfl
  | succ d => rfl
theorem bareStmt_s (s : St) (hc : s.cd.l.length ≤ 5) (ht : s.th.length ≤ 5) (he : s.el.length ≤ 5) : Pact Try.prog 29 #[.agg (stC s).toArray] (fun _ => True) [] (ret0 (.bool (bareB s))) := by
  refine pact Try.func29 rfl Try.ntmps29 rfl ?_
  intro W K _
  (repeat' (first | ((with_reducible apply gJ); (first | refine J_seq ?_ | refine J_reg ?_ | refine J_skip ?_ | refine J_block ?_ | refine J_blk ?_ | refine J_exit rfl ?_ | refine J_goto rfl ?_ | ((with_reducible apply gJ_if); (first | refine J_ift rfl ?_ | refine J_iff rfl ?_ | (refine J_if xR ?_ ?_ <;> intro _ <;> (try (exfalso; first | contradiction | omega))) | (refine J_ifb xR ?_ ?_ <;> (intro hgb; subst hgb)) | (refine J_ifb xR ?_ ?_ <;> intro _) | fail)) | refine J_label ?_ | fail)) | ((with_reducible apply gL); (first | refine JL_nil ?_ | ((with_reducible apply gL_gd); (first | refine JL_skip xR xR ?_ | fail)) | refine L_move ?_ | refine L_assign ?_ | refine L_fieldAddr ?_ | refine L_load ?_ | refine L_pick ?_ | refine L_build ?_ | refine L_c_len ?_ | refine L_bin_eql ?_ | refine L_bin_add_i64 ?_ | refine L_bin_add_r ?_ | ((with_reducible apply gL_box); (first | (refine JL_mc rfl xR xR (al_boxA xR) ?_; intro _) | (refine JL_mc rfl xR xR (al_boxC xR xR) ?_; intro _) | fail)) | ((with_reducible apply gL_alloc); (first | (refine JL_mc rfl xR xR (al_alloc xN xK) ?_; intro _) | fail)) | ((with_reducible apply gL_store); (first | refine JL_st xR xR xT xC xR xE xR ?_ | refine JL_stW xR xR xT xW xR xR xR ?_ | refine JL_stS xR xR xT xW xP xR xR ?_ | refine JL_stEl xR xR xT xR xL xR (tabS stab_ok xR) xR xR xO ?_ | fail)) | ((with_reducible apply gL_gd); (first | (refine JL_guard xR xR ?_ ?_ <;> intro _ <;> (try (exfalso; first | contradiction | omega))) | (refine JL_guardb xR xR ?_ ?_ <;> (intro hgb; subst hgb)) | (refine JL_guardb xR xR ?_ ?_ <;> (intro hgb; fail_if_success (have : type_of% hgb := rfl))) | fail)) | fail)) | fail))
  all_goals (refine J_ret1 rfl (by rfl) fun w H => ⟨_, ⟨?_, rfl⟩, H.sel .nil⟩; refine congrArg Value.bool ?_; unfold bareB noneB; rw [Bool.eq_iff_iff]; simp only [Bool.and_eq_true, decide_eq_true_eq, true_iff, Bool.false_eq_true, false_iff] <;> omega)
theorem bareStmt_b (s : St) (hc : s.cd.l.length ≤ 5) (ht : s.th.length ≤ 5) (he : s.el.length ≤ 5) (b : Bool) (hb : bareB s = b) : Pact Try.prog 29 #[.agg (stC s).toArray] (fun _ => True) [] (ret0 (.bool b)) := hb ▸ bareStmt_s s hc ht he
theorem right1_s (s : St) (φ : World → Prop) (gc : Bool) (gt ge : Bool) (db : Nat) (deep : Int) (hd : 0 ≤ deep ∧ deep ≤ 63) (hl : s.cd.l.length ≤ 5 ∧ s.th.length ≤ 5 ∧ s.el.length ≤ 5)
    (hC : Pact Try.prog 30 #[.agg (cdC s.cd).toArray, .int .i64 (deep + 1)] φ [] (ret0 (.bool gc)))
    (hT : Pact Try.prog 16 #[.slice s.ta s.th.length s.tc, .int .i64 (deep + 1)] φ [] (ret0 (.bool gt)))
    (hE : Pact Try.prog 16 #[.slice s.ea s.el.length s.ec, .int .i64 (deep + 1)] φ [] (ret0 (.bool ge))) :
    Pact Try.prog 27 [.agg (stC s).toArray, .pointer (some ⟨db, 0, none⟩)].toArray φ [pts db [.int .i64 deep] 3] (fun u L' => u = .bool (!(if s.op = 1 then decide (s.n = 0 ∧ s.m = 0) && (gc && (gt && ge)) else decide (ActOk s.op s.n s.m) && bareB s)) ∧ L' = [pts db [.int .i64 deep] 3]) := by
  refine pact Try.func27 rfl Try.ntmps27 rfl ?_
  intro W K hK
  by_cases ho : s.op = 1
  · rw [if_pos ho]
    rcases gc with _ | _ <;> rcases gt with _ | _ <;> rcases ge with _ | _
    all_goals (
      (repeat' (first | ((with_reducible apply gJ); (first | refine J_seq ?_ | refine J_reg ?_ | refine J_skip ?_ | refine J_block ?_ | refine J_blk ?_ | refine J_exit rfl ?_ | refine J_goto rfl ?_ | ((with_reducible apply gJ_if); (first | refine J_ift rfl ?_ | refine J_iff rfl ?_ | (refine J_if xR ?_ ?_ <;> intro _ <;> (try (exfalso; first | contradiction | omega))) | (refine J_ifb xR ?_ ?_ <;> (intro hgb; subst hgb)) | (refine J_ifb xR ?_ ?_ <;> intro _) | fail)) | refine J_label ?_ | fail)) | ((with_reducible apply gL); (first | (with_reducible apply gL_app) | (with_reducible apply gL_app0) | refine JL_nil ?_ | ((with_reducible apply gL_gd); (first | refine JL_skip xR xR ?_ | fail)) | refine L_move ?_ | refine L_assign ?_ | refine L_fieldAddr ?_ | refine L_load ?_ | refine L_pick ?_ | refine L_un_not ?_ | refine L_bin_neq ?_ | refine L_bin_gtr ?_ | refine L_bin_add_i64 ?_ | refine L_bin_add_r ?_ | ((with_reducible apply gL_box); (first | (refine JL_mc rfl xR xR (al_boxA xR) ?_; intro _) | (refine JL_mc rfl xR xR (al_boxC xR xR) ?_; intro _) | fail)) | ((with_reducible apply gL_go); (first | (refine JL_goq (hC) (hφ := (by (try simp only [List.cons_append, List.nil_append]); exact fun w hr => hK w hr.1)) (h := ?_); rintro _ _ ⟨rfl, rfl⟩; try simp only [List.cons_append, List.nil_append]) | (refine JL_goq (hT) (hφ := (by (try simp only [List.cons_append, List.nil_append]); exact fun w hr => hK w hr.1)) (h := ?_); rintro _ _ ⟨rfl, rfl⟩; try simp only [List.cons_append, List.nil_append]) | (refine JL_goq (hE) (hφ := (by (try simp only [List.cons_append, List.nil_append]); exact fun w hr => hK w hr.1)) (h := ?_); rintro _ _ ⟨rfl, rfl⟩; try simp only [List.cons_append, List.nil_append]) | fail)) | ((with_reducible apply gL_gd); (first | (refine JL_guard xR xR ?_ ?_ <;> intro _ <;> (try (exfalso; first | contradiction | omega))) | (refine JL_guardb xR xR ?_ ?_ <;> (intro hgb; subst hgb)) | (refine JL_guardb xR xR ?_ ?_ <;> (intro hgb; fail_if_success (have : type_of% hgb := rfl))) | fail)) | fail)) | fail)))
    all_goals (refine J_ret1 rfl (by rfl) fun w H => ⟨_, ⟨?_, rfl⟩, H.sel (by (first | ((with_reducible (repeat (first | exact Sb.nil | apply Sb.cons | exact Tk.here | apply Tk.there))); done) | (repeat (first | exact Sb.nil | apply Sb.cons | exact Tk.here | apply Tk.there))))⟩; refine congrArg Value.bool ?_; rw [Bool.eq_iff_iff]; simp only [Bool.and_true, Bool.and_false, Bool.true_and, Bool.false_and, Bool.not_eq_true', decide_eq_true_eq, decide_eq_false_iff_not, true_iff, Bool.false_eq_true, Bool.not_false, Bool.not_true, iff_true, iff_false, false_iff] <;> omega)
  · rw [if_neg ho]
    rcases hba : decide (ActOk s.op s.n s.m) with _ | _
    all_goals rcases hbb : bareB s with _ | _
    all_goals (
      (repeat' (first | ((with_reducible apply gJ); (first | refine J_seq ?_ | refine J_reg ?_ | refine J_skip ?_ | refine J_block ?_ | refine J_blk ?_ | refine J_exit rfl ?_ | refine J_goto rfl ?_ | ((with_reducible apply gJ_if); (first | refine J_ift rfl ?_ | refine J_iff rfl ?_ | (refine J_if xR ?_ ?_ <;> intro _ <;> (try (exfalso; first | contradiction | omega))) | (refine J_ifb xR ?_ ?_ <;> (intro hgb; subst hgb)) | (refine J_ifb xR ?_ ?_ <;> intro _) | fail)) | refine J_label ?_ | fail)) | ((with_reducible apply gL); (first | (with_reducible apply gL_app) | (with_reducible apply gL_app0) | refine JL_nil ?_ | ((with_reducible apply gL_gd); (first | refine JL_skip xR xR ?_ | fail)) | refine L_move ?_ | refine L_assign ?_ | refine L_fieldAddr ?_ | refine L_load ?_ | refine L_pick ?_ | refine L_un_not ?_ | refine L_bin_neq ?_ | refine L_bin_gtr ?_ | refine L_bin_add_i64 ?_ | refine L_bin_add_r ?_ | ((with_reducible apply gL_box); (first | (refine JL_mc rfl xR xR (al_boxA xR) ?_; intro _) | (refine JL_mc rfl xR xR (al_boxC xR xR) ?_; intro _) | fail)) | ((with_reducible apply gL_go); (first | (refine JL_goq (act_b s.op s.n s.m _ hba) (hφ := xF) (h := ?_); rintro _ _ ⟨rfl, rfl⟩; try simp only [List.cons_append, List.nil_append]) | (refine JL_goq (bareStmt_b s hl.1 hl.2.1 hl.2.2 _ hbb) (hφ := xF) (h := ?_); rintro _ _ ⟨rfl, rfl⟩; try simp only [List.cons_append, List.nil_append]) | fail)) | ((with_reducible apply gL_gd); (first | (refine JL_guard xR xR ?_ ?_ <;> intro _ <;> (try (exfalso; first | contradiction | omega))) | (refine JL_guardb xR xR ?_ ?_ <;> (intro hgb; subst hgb)) | (refine JL_guardb xR xR ?_ ?_ <;> (intro hgb; fail_if_success (have : type_of% hgb := rfl))) | fail)) | fail)) | fail)))
    all_goals (first | (exfalso; omega) | skip)
    all_goals exact J_ret1 rfl (by rfl) fun w H => ⟨_, ⟨rfl, rfl⟩, H.sel (by (first | ((with_reducible (repeat (first | exact Sb.nil | apply Sb.cons | exact Tk.here | apply Tk.there))); done) | (repeat (first | exact Sb.nil | apply Sb.cons | exact Tk.here | apply Tk.there))))⟩
theorem right_core (a : Option Addr) (c : Nat) (l : List St) (φ : St → World → Prop) (g : St → Bool) (deep : Int) (hl : l.length ≤ 5) (h1 : ∀ db : Nat, ∀ s ∈ l, Pact Try.prog 27 [.agg (stC s).toArray, .pointer (some ⟨db, 0, none⟩)].toArray (φ s) [pts db [.int .i64 deep] 3] (fun u L' => u = .bool (!g s) ∧ L' = [pts db [.int .i64 deep] 3])) : Pact Try.prog 16 #[.slice a l.length c, .int .i64 deep] (KidS φ a c l) [] (ret0 (.bool (l.all g))) := by
  refine pact Try.func16 rfl Try.ntmps16 rfl ?_
  intro W K hK
  (repeat' (first | ((with_reducible apply gJ); (first | refine J_seq ?_ | refine J_reg ?_ | refine J_skip ?_ | refine J_block ?_ | refine J_blk ?_ | refine J_exit rfl ?_ | refine J_goto rfl ?_ | ((with_reducible apply gJ_if); (first | refine J_ift rfl ?_ | refine J_iff rfl ?_ | (refine J_if xR ?_ ?_ <;> intro _ <;> (try (exfalso; first | contradiction | omega))) | (refine J_ifb xR ?_ ?_ <;> (intro hgb; subst hgb)) | (refine J_ifb xR ?_ ?_ <;> intro _) | fail)) | refine J_label ?_ | fail)) | ((with_reducible apply gL); (first | refine JL_nil ?_ | refine L_move ?_ | refine L_assign ?_ | refine L_un_not ?_ | refine L_makeFunc ?_ | ((with_reducible apply gL_box); (first | (refine JL_mc rfl xR xR (al_boxA xR) ?_; intro _) | (refine JL_mc rfl xR xR (al_boxC xR xR) ?_; intro _) | fail)) | ((with_reducible apply gL_go); (first | (refine JL_goq (contS_s a c l φ 27 _ deep (fun s => !g s) hl (by decide +kernel) (h1 _)) (hφ := (by (try simp only [List.cons_append, List.nil_append]); exact fun w hr => hK w hr.1)) (h := ?_); rintro _ _ ⟨rfl, rfl⟩; try simp only [List.cons_append, List.nil_append]) | fail)) | fail)) | fail))
  refine J_ret1 rfl (by rfl) fun w H => ⟨_, ⟨?_, rfl⟩, H.sel .nil⟩
  rw [any_not]
  cases l.all g <;> rfl
theorem pright_s : ∀ (d : Nat) (a : Option Addr) (c : Nat) (l : List St) (deep : Int), LsF d l → 0 ≤ deep ∧ deep + d + 6 ≤ 64 → Pact Try.prog 16 #[.slice a l.length c, .int .i64 deep] (fun w => LsV w d a c l) [] (ret0 (.bool (rightB d l))) := by
  intro d
  induction d with
  | zero =>
    intro a c l deep hl hd
    rw [rightB_eq hl]
    exact preP (right_core a c l (fun s w => SeenS (0 - 1) s w) _ deep hl.len (fun db s hs => absurd hs (by rw [show l = [] from hl]; exact List.not_mem_nil))) fun w h => hl.kids h
  | succ d ih =>
    intro a c l deep hl hd
    rw [rightB_eq hl]
    refine preP (right_core a c l (fun s w => SeenS (d + 1 - 1) s w) _ deep hl.len (fun db s hs => ?_)) fun w h => hl.kids h
    obtain ⟨h1, h2, h3, h4⟩ := hl.sub hs
    exact right1_s s (SeenS d s) _ _ _ db deep (by omega) ⟨h2.len, h3.len, h4.len⟩ (preP (rightCond_s 5 s.cd (deep + 1) h2 (by omega)) fun w h => h.1) (preP (ih s.ta s.tc s.th (deep + 1) h3 (by omega)) fun w h => h.2.1) (preP (ih s.ea s.ec s.el (deep + 1) h4 (by omega)) fun w h => h.2.2)
end Go.Proofs.Yteekbpohocfmpaa
