/-
  The maker's branch and block.
-/
import Derived.Test.YteekbpohocfmpaaCd21
import Derived.Test.YteekbpohocfmpaaCd17
namespace Go.Proofs.Yteekbpohocfmpaa
set_option linter.unusedSimpArgs false
set_option linter.unusedVariables false
set_option maxRecDepth 20000
set_option maxHeartbeats 4000000
open Go.RowKit Go.Pm

def jumpS (z : Int) : Sp := ⟨21, 0, 0, 0, 0, z, 0⟩
section
variable {g : Nat → List St → List Sp} {gs : List St → Nat} {F1 F2 : Int → List Sp → List Sp} {T T1 T2 T3 T4 T5 T6 : List Sp} {s : St}
theorem br_on (hOn : OnOk F1 (putL 5 T.length s.cd) T.length) (hp : ∀ k X Y, (putL 5 k s.cd X Y).length = tests 5 s.cd) (e1 : T ++ putL 5 T.length s.cd 0 0 = T1) (e2 : F1 (T1.length : Int) T1 = T2) : T2 = T ++ putL 5 T.length s.cd ((T.length : Int) + tests 5 s.cd) 0 := by
  have h := hOn T [] 0 0 (T1.length : Int) rfl
  rw [List.append_nil, List.append_nil, e1, e2, ← e1, List.length_append, hp] at h
  rw [h]
  push_cast
  rfl
theorem br_one (ho : s.op = 1) (he : s.el.length = 0) (hOn : OnOk F1 (putL 5 T.length s.cd) T.length) (hOff : OffOk F2 (putL 5 T.length s.cd) T.length) (hp : ∀ k X Y, (putL 5 k s.cd X Y).length = tests 5 s.cd) (hg : ∀ k, (g k s.th).length = gs s.th)
    (e1 : T ++ putL 5 T.length s.cd 0 0 = T1) (e2 : F1 (T1.length : Int) T1 = T2) (e3 : T2 ++ g T2.length s.th = T3) (e4 : F2 (T3.length : Int) T3 = T4) : T ++ codeS g gs T.length s = T4 := by
  have h2 := br_on hOn hp e1 e2
  have l2 : T2.length = T.length + tests 5 s.cd := by rw [h2, List.length_append, hp]
  have l3 : T3.length = T.length + tests 5 s.cd + gs s.th := by rw [← e3, List.length_append, hg, l2]
  have h4 := hOff T (g T2.length s.th) ((T.length : Int) + tests 5 s.cd) 0 (T3.length : Int) rfl
  rw [← h2, e3, e4] at h4
  refine codeS_one ho he rfl ?_
  rw [List.length_append, hp, ← l2, h4, l3]
  push_cast
  rfl
theorem br_two (ho : s.op = 1) (he : ¬ s.el.length = 0) (hOn : OnOk F1 (putL 5 T.length s.cd) T.length) (hOff : OffOk F2 (putL 5 T.length s.cd) T.length) (hp : ∀ k X Y, (putL 5 k s.cd X Y).length = tests 5 s.cd) (hg : ∀ k, (g k s.th).length = gs s.th) (hg2 : ∀ k, (g k s.el).length = gs s.el)
    (e1 : T ++ putL 5 T.length s.cd 0 0 = T1) (e2 : F1 (T1.length : Int) T1 = T2) (e3 : T2 ++ g T2.length s.th = T3) (e4 : T3 ++ [jumpS 0] = T4) (e5 : F2 (T4.length : Int) T4 = T5) (e6 : T5 ++ g T5.length s.el = T6) : T6[T3.length]? = some (jumpS 0) ∧ T ++ codeS g gs T.length s = T6.set T3.length (jumpS (T6.length : Int)) := by
  have h2 := br_on hOn hp e1 e2
  have l2 : T2.length = T.length + tests 5 s.cd := by rw [h2, List.length_append, hp]
  have l3 : T3.length = T.length + tests 5 s.cd + gs s.th := by rw [← e3, List.length_append, hg, l2]
  have l4 : T4.length = T3.length + 1 := by rw [← e4, List.length_append]; rfl
  have h5 := hOff T (g T2.length s.th ++ [jumpS 0]) ((T.length : Int) + tests 5 s.cd) 0 (T4.length : Int) rfl
  rw [← h2, ← List.append_assoc, e3, e4, e5] at h5
  obtain ⟨Q, hQ⟩ : ∃ Q, T ++ putL 5 T.length s.cd ((T.length : Int) + tests 5 s.cd) (T4.length : Int) ++ g T2.length s.th = Q := ⟨_, rfl⟩
  rw [← List.append_assoc, hQ] at h5
  have lQ : Q.length = T3.length := by rw [← hQ, List.length_append, List.length_append, hp, hg, l3]
  have l5 : T5.length = T4.length := by rw [h5, List.length_append, lQ, l4]; rfl
  have l6 : T6.length = T4.length + gs s.el := by rw [← e6, List.length_append, hg2, l5]
  have h6 : T6 = Q ++ ([jumpS 0] ++ g T5.length s.el) := by rw [← e6, h5, List.append_assoc]
  constructor
  · rw [h6, ← lQ]; simp
  have h7 : T6.set T3.length (jumpS (T6.length : Int)) = Q ++ [jumpS (T6.length : Int)] ++ g T5.length s.el := by
    conv => lhs; rw [h6, ← lQ]
    simp [h6]
  rw [h7]
  refine codeS_two ho he rfl rfl rfl ?_
  have q1 : ((T.length : Int) + tests 5 s.cd + gs s.th + 1) = (T4.length : Int) := by rw [l4, l3]; push_cast; rfl
  rw [q1]
  have q2 : (T ++ putL 5 T.length s.cd ((T.length : Int) + tests 5 s.cd) (T4.length : Int)).length = T2.length := by rw [List.length_append, hp, l2]
  rw [q2, hQ]
  have q3 : (T4.length : Int) + (gs s.el : Int) = (T6.length : Int) := by rw [l6]; push_cast; rfl
  rw [q3]
  have q4 : (Q ++ [(⟨21, 0, 0, 0, 0, (T6.length : Int), 0⟩ : Sp)]).length = T5.length := by rw [List.length_append, lQ, l5, l4]; rfl
  rw [q4]
  rfl
end
def BlockOk (F : FuncId) (v : Value) (φ : World → Prop) (g : Nat → List Sp) : Prop := ∀ (wb : Nat) (a : Option Addr) (c : Nat) (T T9 : List Sp), T9.length ≤ 400000000 → T ++ g T.length = T9 → Pact Try.prog F #[.pointer (some ⟨wb, 0, none⟩), v] φ [pts wb [.slice a T.length c] 52, Ar 38 7 spC (.slice a T.length c) T] (fun _ L' => ∃ a' c', L' = [pts wb [.slice a' T9.length c'] 52, Ar 38 7 spC (.slice a' T9.length c') T9])
theorem branch_core (s : St) (φ : World → Prop) (g : Nat → List St → List Sp) (gs : List St → Nat) (ho : s.op = 1) (hle : s.el.length ≤ 5) (hp : ∀ k X Y, (putL 5 k s.cd X Y).length = tests 5 s.cd) (hg : ∀ k, (g k s.th).length = gs s.th) (hg2 : ∀ k, (g k s.el).length = gs s.el)
    (hC : CondOk 43 s.cd φ (fun k X Y => putL 5 k s.cd X Y)) (hT : BlockOk 17 (.slice s.ta s.th.length s.tc) φ (fun k => g k s.th)) (hE : BlockOk 17 (.slice s.ea s.el.length s.ec) φ (fun k => g k s.el)) : BlockOk 31 (.agg (stC s).toArray) φ (fun k => codeS g gs k s) := by
  intro wb a c T T9 hb h9
  refine pact Try.func31 rfl Try.ntmps31 rfl ?_
  intro W K hK
  dsimp only at h9
  obtain ⟨T1, e1⟩ : ∃ T1, T ++ putL 5 T.length s.cd 0 0 = T1 := ⟨_, rfl⟩
  have l1 : T1.length = T.length + tests 5 s.cd := by rw [← e1, List.length_append, hp]
  have l9 : T.length + tests 5 s.cd ≤ T9.length := by
    rw [← h9, List.length_append, codeS, if_pos ho]
    split
    · simp only [List.length_append, hp]; omega
    · simp only [List.length_append, hp]; omega
  (repeat' (first | ((with_reducible apply gJ); (first | refine J_seq ?_ | refine J_reg ?_ | refine J_skip ?_ | refine J_block ?_ | refine J_blk ?_ | refine J_exit rfl ?_ | refine J_goto rfl ?_ | ((with_reducible apply gJ_if); (first | refine J_ift rfl ?_ | refine J_iff rfl ?_ | (refine J_if xR ?_ ?_ <;> intro _ <;> (try (exfalso; first | contradiction | omega))) | (refine J_ifb xR ?_ ?_ <;> (intro hgb; subst hgb)) | (refine J_ifb xR ?_ ?_ <;> intro _) | fail)) | refine J_label ?_ | refine J_draw (id := 10) [0, 1, 2, 3, 4, 5, 6, 7, 8, 9] [10, 11, 12] mixed xC xD xD ?_ | fail)) | ((with_reducible apply gL); (first | refine JL_nil ?_ | refine L_move ?_ | refine L_assign ?_ | refine L_fieldAddr ?_ | refine L_load ?_ | refine L_nilCheck ?_ | refine L_build ?_ | refine L_extract ?_ | refine L_c_len ?_ | refine L_bin_eql ?_ | ((with_reducible apply gL_box); (first | (refine JL_mc rfl xR xR (al_boxA xR) ?_; intro _) | (refine JL_mc rfl xR xR (al_boxC xR xR) ?_; intro _) | fail)) | ((with_reducible apply gL_buildSlice); (first | (refine JL_mc rfl xR xR (al_bs1 xR (tabE etab_ok xR) xK) ?_; intro _) | (refine JL_mc rfl xR xR (al_bs xR (tabE etab_ok xR) xN xK) ?_; intro _) | fail)) | ((with_reducible apply gL_store); (first | refine JL_st xR xR xT xC xR xE xR ?_ | refine JL_stW xR xR xT xW xR xR xR ?_ | refine JL_stS xR xR xT xW xP xR xR ?_ | refine JL_stEl xR xR xT xR xL xR (tabS stab_ok xR) xR xR xO ?_ | fail)) | ((with_reducible apply gL_c_append); (first | (refine JL_ap1 (tabE etab_ok xR) xR xR xT xT xC xR xL xR xO xR xR ?_; intro _ _ _ _) | (refine JL_app (tabE etab_ok xR) xR xR xT xV xC xL xU xO xR xR ?_; intro _ _ _ _) | fail)) | ((with_reducible apply gL_go); (first | (refine JL_goq (hC wb a c T T1 (by omega) e1) (hφ := (by (try simp only [List.cons_append, List.nil_append]); exact fun w hr => hK w hr.1)) (h := ?_); rintro _ _ ⟨m1, m2, A, a1, c1, F1, F2, rfl, rfl, k1, k2, k3, k4⟩; try simp only [List.cons_append, List.nil_append]) | fail)) | fail)) | ((with_reducible apply gD); (first | (refine JD_nil ?_; try simp only [List.cons_append, List.nil_append]) | (refine JD_bar ?_; try simp only [List.cons_append, List.nil_append]) | refine D_move ?_ | refine D_fieldAddr ?_ | refine D_load ?_ | refine D_nilCheck ?_ | refine D_indexAddr ?_ | refine D_c_len ?_ | ((with_reducible apply gD_load); (first | refine JD_ldM xR xT xC xR xR ?_ | refine JD_ldWM xR xT xW xR ?_ | refine JD_ldSM xR xT (tabS stab_ok xR) xG xC xR ?_ | fail)) | ((with_reducible apply gD_indexAddr); (first | refine JD_ixM xR xR (tabE etab_ok xR) xT xI xO xR ?_ | refine JD_ixV xR xR (tabE etab_ok xR) xT xI xO xR ?_ | fail)) | ((with_reducible apply gD_store); (first | refine JD_st xR xR xT xC xR xE xR ?_ | refine JD_stW xR xR xT xW xR xR xR ?_ | refine JD_stS xR xR xT xW xP xR xR ?_ | refine JD_stEl xR xR xT xR xL xR (tabS stab_ok xR) xR xR xO ?_ | fail)) | fail)) | fail))
  rename_i b3
  have hown1 := k1.1
  have hown2 := k2.1
  obtain ⟨T2, e2⟩ : ∃ T2, F1 (T1.length : Int) T1 = T2 := ⟨_, rfl⟩
  have l2 : T2.length = T1.length := by rw [← e2]; exact k1.2.1 _ _
  obtain ⟨T3, e3⟩ : ∃ T3, T2 ++ g T2.length s.th = T3 := ⟨_, rfl⟩
  have l3 : T3.length = T2.length + gs s.th := by rw [← e3, List.length_append, hg]
  by_cases he : s.el.length = 0
  · obtain ⟨T4, e4⟩ : ∃ T4, F2 (T3.length : Int) T3 = T4 := ⟨_, rfl⟩
    have l4 : T4.length = T3.length := by rw [← e4]; exact k2.2.1 _ _
    have e9 := br_one ho he k3 k4 hp hg e1 e2 e3 e4
    rw [h9] at e9
    subst e9
    (repeat' (first | ((with_reducible apply gJ); (first | refine J_seq ?_ | refine J_reg ?_ | refine J_skip ?_ | refine J_block ?_ | refine J_blk ?_ | refine J_exit rfl ?_ | refine J_goto rfl ?_ | ((with_reducible apply gJ_if); (first | refine J_ift rfl ?_ | refine J_iff rfl ?_ | (refine J_if xR ?_ ?_ <;> intro _ <;> (try (exfalso; first | contradiction | omega))) | (refine J_ifb xR ?_ ?_ <;> (intro hgb; subst hgb)) | (refine J_ifb xR ?_ ?_ <;> intro _) | fail)) | refine J_label ?_ | refine J_draw (id := 10) [0, 1, 2, 3, 4, 5, 6, 7, 8, 9] [10, 11, 12] mixed xC xD xD ?_ | fail)) | ((with_reducible apply gL); (first | refine JL_nil ?_ | refine L_move ?_ | refine L_assign ?_ | refine L_fieldAddr ?_ | refine L_load ?_ | refine L_nilCheck ?_ | refine L_build ?_ | refine L_extract ?_ | refine L_c_len ?_ | refine L_bin_eql ?_ | ((with_reducible apply gL_box); (first | (refine JL_mc rfl xR xR (al_boxA xR) ?_; intro _) | (refine JL_mc rfl xR xR (al_boxC xR xR) ?_; intro _) | fail)) | ((with_reducible apply gL_buildSlice); (first | (refine JL_mc rfl xR xR (al_bs1 xR (tabE etab_ok xR) xK) ?_; intro _) | (refine JL_mc rfl xR xR (al_bs xR (tabE etab_ok xR) xN xK) ?_; intro _) | fail)) | ((with_reducible apply gL_store); (first | refine JL_st xR xR xT xC xR xE xR ?_ | refine JL_stW xR xR xT xW xR xR xR ?_ | refine JL_stS xR xR xT xW xP xR xR ?_ | refine JL_stEl xR xR xT xR xL xR (tabS stab_ok xR) xR xR xO ?_ | fail)) | ((with_reducible apply gL_c_append); (first | (refine JL_ap1 (tabE etab_ok xR) xR xR xT xT xC xR xL xR xO xR xR ?_; intro _ _ _ _) | (refine JL_app (tabE etab_ok xR) xR xR xT xV xC xL xU xO xR xR ?_; intro _ _ _ _) | fail)) | ((with_reducible apply gL_go); (first | (refine JL_goq (k1.2.2 (T1.length : Int) a1 c1 T1 T2 (Nat.le_refl _) (by omega) e2) (hφ := xF) (h := ?_); rintro _ _ rfl; try simp only [List.cons_append, List.nil_append]) | (refine JL_goq (hT wb a1 c1 T2 T3 (by omega) e3) (hφ := (by (try simp only [List.cons_append, List.nil_append]); exact fun w hr => hK w hr.1)) (h := ?_); rintro _ _ ⟨a3, c3, rfl⟩; try simp only [List.cons_append, List.nil_append]) | (refine JL_goq (k2.2.2 (T3.length : Int) a3 c3 T3 T9 (by omega) (by omega) e4) (hφ := xF) (h := ?_); rintro _ _ rfl; try simp only [List.cons_append, List.nil_append]) | fail)) | fail)) | ((with_reducible apply gD); (first | (refine JD_nil ?_; try simp only [List.cons_append, List.nil_append]) | (refine JD_bar ?_; try simp only [List.cons_append, List.nil_append]) | refine D_move ?_ | refine D_fieldAddr ?_ | refine D_load ?_ | refine D_nilCheck ?_ | refine D_indexAddr ?_ | refine D_c_len ?_ | ((with_reducible apply gD_load); (first | refine JD_ldM xR xT xC xR xR ?_ | refine JD_ldWM xR xT xW xR ?_ | refine JD_ldSM xR xT (tabS stab_ok xR) xG xC xR ?_ | fail)) | ((with_reducible apply gD_indexAddr); (first | refine JD_ixM xR xR (tabE etab_ok xR) xT xI xO xR ?_ | refine JD_ixV xR xR (tabE etab_ok xR) xT xI xO xR ?_ | fail)) | ((with_reducible apply gD_store); (first | refine JD_st xR xR xT xC xR xE xR ?_ | refine JD_stW xR xR xT xW xR xR xR ?_ | refine JD_stS xR xR xT xW xP xR xR ?_ | refine JD_stEl xR xR xT xR xL xR (tabS stab_ok xR) xR xR xO ?_ | fail)) | fail)) | fail))
    exact J_ret0 rfl fun w H => ⟨_, ⟨a3, c3, rfl⟩, H.sel (by (first | ((with_reducible (repeat (first | exact Sb.nil | apply Sb.cons | exact Tk.here | apply Tk.there))); done) | (repeat (first | exact Sb.nil | apply Sb.cons | exact Tk.here | apply Tk.there))))⟩
  · obtain ⟨T4, e4⟩ : ∃ T4, T3 ++ [jumpS 0] = T4 := ⟨_, rfl⟩
    have l4 : T4.length = T3.length + 1 := by rw [← e4, List.length_append]; rfl
    obtain ⟨T5, e5⟩ : ∃ T5, F2 (T4.length : Int) T4 = T5 := ⟨_, rfl⟩
    have l5 : T5.length = T4.length := by rw [← e5]; exact k2.2.1 _ _
    obtain ⟨T6, e6⟩ : ∃ T6, T5 ++ g T5.length s.el = T6 := ⟨_, rfl⟩
    have l6 : T6.length = T5.length + gs s.el := by rw [← e6, List.length_append, hg2]
    obtain ⟨hs6, e9⟩ := br_two ho he k3 k4 hp hg hg2 e1 e2 e3 e4 e5 e6
    rw [h9] at e9
    have l96 : T9.length = T6.length := by rw [e9, List.length_set]
    (repeat' (first | ((with_reducible apply gJ); (first | refine J_seq ?_ | refine J_reg ?_ | refine J_skip ?_ | refine J_block ?_ | refine J_blk ?_ | refine J_exit rfl ?_ | refine J_goto rfl ?_ | ((with_reducible apply gJ_if); (first | refine J_ift rfl ?_ | refine J_iff rfl ?_ | (refine J_if xR ?_ ?_ <;> intro _ <;> (try (exfalso; first | contradiction | omega))) | (refine J_ifb xR ?_ ?_ <;> (intro hgb; subst hgb)) | (refine J_ifb xR ?_ ?_ <;> intro _) | fail)) | refine J_label ?_ | refine J_draw (id := 10) [0, 1, 2, 3, 4, 5, 6, 7, 8, 9] [10, 11, 12] mixed xC xD xD ?_ | fail)) | ((with_reducible apply gL); (first | refine JL_nil ?_ | ((with_reducible apply gL_c_append); (first | (first | (refine JL_ap1 (z := jumpS 0) (tabE etab_ok xR) xR xR xA xA xC xR xL xR (by omega) xR xR ?_; intro ad4 c4 _ _) | (refine JD_ap1 (z := jumpS 0) (tabE etab_ok xR) xR xR xA xA xC xR xL xR (by omega) xR ?_; intro ad4 c4 _ _)) | fail)) | refine L_move ?_ | refine L_assign ?_ | refine L_fieldAddr ?_ | refine L_load ?_ | refine L_nilCheck ?_ | refine L_build ?_ | refine L_extract ?_ | refine L_c_len ?_ | refine L_bin_eql ?_ | ((with_reducible apply gL_box); (first | (refine JL_mc rfl xR xR (al_boxA xR) ?_; intro _) | (refine JL_mc rfl xR xR (al_boxC xR xR) ?_; intro _) | fail)) | ((with_reducible apply gL_buildSlice); (first | (refine JL_mc rfl xR xR (al_bs1 xR (tabE etab_ok xR) xK) ?_; intro _) | (refine JL_mc rfl xR xR (al_bs xR (tabE etab_ok xR) xN xK) ?_; intro _) | fail)) | ((with_reducible apply gL_store); (first | refine JL_st xR xR xT xC xR xE xR ?_ | refine JL_stW xR xR xT xW xR xR xR ?_ | refine JL_stS xR xR xT xW xP xR xR ?_ | refine JL_stEl xR xR xT xR xL xR (tabS stab_ok xR) xR xR xO ?_ | fail)) | ((with_reducible apply gL_c_append); (first | (refine JL_ap1 (tabE etab_ok xR) xR xR xT xT xC xR xL xR xO xR xR ?_; intro _ _ _ _) | (refine JL_app (tabE etab_ok xR) xR xR xT xV xC xL xU xO xR xR ?_; intro _ _ _ _) | fail)) | ((with_reducible apply gL_go); (first | (refine JL_goq (k1.2.2 (T1.length : Int) a1 c1 T1 T2 (Nat.le_refl _) (by omega) e2) (hφ := xF) (h := ?_); rintro _ _ rfl; try simp only [List.cons_append, List.nil_append]) | (refine JL_goq (hT wb a1 c1 T2 T3 (by omega) e3) (hφ := (by (try simp only [List.cons_append, List.nil_append]); exact fun w hr => hK w hr.1)) (h := ?_); rintro _ _ ⟨a3, c3, rfl⟩; try simp only [List.cons_append, List.nil_append]) | fail)) | fail)) | ((with_reducible apply gD); (first | (refine JD_nil ?_; try simp only [List.cons_append, List.nil_append]) | (refine JD_bar ?_; try simp only [List.cons_append, List.nil_append]) | refine D_move ?_ | refine D_fieldAddr ?_ | refine D_load ?_ | refine D_nilCheck ?_ | refine D_indexAddr ?_ | refine D_c_len ?_ | ((with_reducible apply gD_load); (first | refine JD_ldM xR xT xC xR xR ?_ | refine JD_ldWM xR xT xW xR ?_ | refine JD_ldSM xR xT (tabS stab_ok xR) xG xC xR ?_ | fail)) | ((with_reducible apply gD_indexAddr); (first | refine JD_ixM xR xR (tabE etab_ok xR) xT xI xO xR ?_ | refine JD_ixV xR xR (tabE etab_ok xR) xT xI xO xR ?_ | fail)) | ((with_reducible apply gD_store); (first | refine JD_st xR xR xT xC xR xE xR ?_ | refine JD_stW xR xR xT xW xR xR xR ?_ | refine JD_stS xR xR xT xW xP xR xR ?_ | refine JD_stEl xR xR xT xR xL xR (tabS stab_ok xR) xR xR xO ?_ | fail)) | fail)) | fail))
    rw [e4, ← l4]
    (iterate 25 (first | ((with_reducible apply gJ); (first | refine J_seq ?_ | refine J_reg ?_ | refine J_skip ?_ | refine J_block ?_ | refine J_blk ?_ | refine J_exit rfl ?_ | refine J_goto rfl ?_ | ((with_reducible apply gJ_if); (first | refine J_ift rfl ?_ | refine J_iff rfl ?_ | (refine J_if xR ?_ ?_ <;> intro _ <;> (try (exfalso; first | contradiction | omega))) | (refine J_ifb xR ?_ ?_ <;> (intro hgb; subst hgb)) | (refine J_ifb xR ?_ ?_ <;> intro _) | fail)) | refine J_label ?_ | refine J_draw (id := 10) [0, 1, 2, 3, 4, 5, 6, 7, 8, 9, 10, 11] [12] mixed xC xD xD ?_ | fail)) | ((with_reducible apply gL); (first | refine JL_nil ?_ | ((with_reducible apply gL_store); (first | (refine JD_stEf (z' := jumpS (T6.length : Int)) (by rfl) (by rfl) (by (first | ((with_reducible (repeat (first | exact Tk.here | apply Tk.there))); done) | ((simp only [List.cons_append, List.nil_append]); (with_reducible (repeat (first | exact Tk.here | apply Tk.there))); done) | fail)) hs6 (by rfl) (by intro _; rfl) (by rfl) (by rfl) (by (first | ((repeat (first | exact Put.e | apply Put.t | apply Put.s)); done) | fail)) (by rfl) (by rfl) (by rfl) ?_) | fail)) | refine L_move ?_ | refine L_assign ?_ | refine L_fieldAddr ?_ | refine L_load ?_ | refine L_nilCheck ?_ | refine L_build ?_ | refine L_extract ?_ | refine L_c_len ?_ | refine L_bin_eql ?_ | ((with_reducible apply gL_box); (first | (refine JL_mc rfl xR xR (al_boxA xR) ?_; intro _) | (refine JL_mc rfl xR xR (al_boxC xR xR) ?_; intro _) | fail)) | ((with_reducible apply gL_buildSlice); (first | (refine JL_mc rfl xR xR (al_bs1 xR (tabE etab_ok xR) xK) ?_; intro _) | (refine JL_mc rfl xR xR (al_bs xR (tabE etab_ok xR) xN xK) ?_; intro _) | fail)) | ((with_reducible apply gL_store); (first | refine JL_st xR xR xT xC xR xE xR ?_ | refine JL_stW xR xR xT xW xR xR xR ?_ | refine JL_stS xR xR xT xW xP xR xR ?_ | refine JL_stEl xR xR xT xR xL xR (tabS stab_ok xR) xR xR xO ?_ | fail)) | ((with_reducible apply gL_c_append); (first | (refine JL_ap1 (tabE etab_ok xR) xR xR xT xT xC xR xL xR xO xR xR ?_; intro _ _ _ _) | (refine JL_app (tabE etab_ok xR) xR xR xT xV xC xL xU xO xR xR ?_; intro _ _ _ _) | fail)) | ((with_reducible apply gL_go); (first | (refine JL_goq (k2.2.2 (T4.length : Int) ad4 c4 T4 T5 (by omega) (by omega) e5) (hφ := xF) (h := ?_); rintro _ _ rfl; try simp only [List.cons_append, List.nil_append]) | (refine JL_goq (hE wb ad4 c4 T5 T6 (by omega) e6) (hφ := (by (try simp only [List.cons_append, List.nil_append]); exact fun w hr => hK w hr.1)) (h := ?_); rintro _ _ ⟨a6, c6, rfl⟩; try simp only [List.cons_append, List.nil_append]) | fail)) | fail)) | ((with_reducible apply gD); (first | (refine JD_nil ?_; try simp only [List.cons_append, List.nil_append]) | (refine JD_bar ?_; try simp only [List.cons_append, List.nil_append]) | ((with_reducible apply gD_store); (first | (refine JD_stEf (z' := jumpS (T6.length : Int)) (by rfl) (by rfl) (by (first | ((with_reducible (repeat (first | exact Tk.here | apply Tk.there))); done) | ((simp only [List.cons_append, List.nil_append]); (with_reducible (repeat (first | exact Tk.here | apply Tk.there))); done) | fail)) hs6 (by rfl) (by intro _; rfl) (by rfl) (by rfl) (by (first | ((repeat (first | exact Put.e | apply Put.t | apply Put.s)); done) | fail)) (by rfl) (by rfl) (by rfl) ?_) | fail)) | refine D_move ?_ | refine D_fieldAddr ?_ | refine D_load ?_ | refine D_nilCheck ?_ | refine D_indexAddr ?_ | refine D_c_len ?_ | ((with_reducible apply gD_load); (first | refine JD_ldM xR xT xC xR xR ?_ | refine JD_ldWM xR xT xW xR ?_ | refine JD_ldSM xR xT (tabS stab_ok xR) xG xC xR ?_ | fail)) | ((with_reducible apply gD_indexAddr); (first | refine JD_ixM xR xR (tabE etab_ok xR) xT xI xO xR ?_ | refine JD_ixV xR xR (tabE etab_ok xR) xT xI xO xR ?_ | fail)) | ((with_reducible apply gD_store); (first | refine JD_st xR xR xT xC xR xE xR ?_ | refine JD_stW xR xR xT xW xR xR xR ?_ | refine JD_stS xR xR xT xW xP xR xR ?_ | refine JD_stEl xR xR xT xR xL xR (tabS stab_ok xR) xR xR xO ?_ | fail)) | fail)) | fail))
    refine J_end0 rfl fun w H => ⟨_, ⟨a6, c6, rfl⟩, ?_⟩
    rw [l96, e9]
    exact H.sel (by (first | ((with_reducible (repeat (first | exact Sb.nil | apply Sb.cons | exact Tk.here | apply Tk.there))); done) | (repeat (first | exact Sb.nil | apply Sb.cons | exact Tk.here | apply Tk.there))))
end Go.Proofs.Yteekbpohocfmpaa
