/-
  Those of which something is so are picked.
-/
import Derived.Test.YtohahlcjkhgimaaAr5
namespace Go.Proofs.Ytohahlcjkhgimaa
set_option linter.unusedSimpArgs false
set_option linter.unusedVariables false
set_option maxRecDepth 20000
set_option maxHeartbeats 4000000
open Go.RowKit Go.Pm Go.Sort

/-- What is left when the first ones were looked at. -/
def psOf (P : List Pk) (q : Int → Bool) (j : Nat) : List Pk := (P.take j).filter (fun p => !q p.n) ++ P.drop j
def kOf (P : List Pk) (q : Int → Bool) (j : Nat) : Nat := ((P.take j).filter (fun p => !q p.n)).length
def osOf (P : List Pk) (q : Int → Bool) (j : Nat) : List Bs := ((P.take j).filter (fun p => q p.n)).map Pk.bs
theorem ps_drop {P : List Pk} {j : Nat} {p : Pk} (h : P[j]? = some p) : P.drop j = p :: P.drop (j + 1) := by
  obtain ⟨h1, h2⟩ := List.getElem?_eq_some_iff.1 h
  rw [List.drop_eq_getElem_cons h1, h2]
theorem ps_len (P : List Pk) (q : Int → Bool) (j : Nat) : (psOf P q j).length = kOf P q j + (P.length - j) := by
  unfold psOf kOf
  rw [List.length_append, List.length_drop]
theorem ps_get {P : List Pk} (q : Int → Bool) {j : Nat} {p : Pk} (h : P[j]? = some p) : (psOf P q j)[kOf P q j]? = some p := by
  unfold psOf kOf
  rw [List.getElem?_append_right (Nat.le_refl _), Nat.sub_self, ps_drop h]
  rfl
theorem k_le (P : List Pk) (q : Int → Bool) (j : Nat) : kOf P q j ≤ j := by
  unfold kOf
  have h1 := List.length_filter_le (fun p : Pk => !q p.n) (P.take j)
  rw [List.length_take] at h1
  omega
theorem step_keep {P : List Pk} {q : Int → Bool} {j : Nat} {p : Pk} (h : P[j]? = some p) (hq : q p.n = false) : psOf P q (j + 1) = psOf P q j ∧ kOf P q (j + 1) = kOf P q j + 1 ∧ osOf P q (j + 1) = osOf P q j := by
  unfold psOf kOf osOf
  rw [take_snoc h, ps_drop h]
  simp [hq]
theorem step_pick {P : List Pk} {q : Int → Bool} {j : Nat} {p : Pk} (h : P[j]? = some p) (hq : q p.n = true) : psOf P q (j + 1) = (psOf P q j).eraseIdx (kOf P q j) ∧ kOf P q (j + 1) = kOf P q j ∧ osOf P q (j + 1) = osOf P q j ++ [p.bs] := by
  unfold psOf kOf osOf
  rw [take_snoc h, ps_drop h]
  refine ⟨?_, by simp [hq], by simp [hq]⟩
  rw [List.eraseIdx_append_of_length_le (Nat.le_refl _), Nat.sub_self]
  simp [hq]
structure Lp where
  j : Nat
  ad : Option Addr
  c : Nat
/-- What the function that picks reads besides the cache's map of times. -/
def pkK (φ : World → Prop) (cb tb : Nat) (w : World) : Prop := φ w ∧ w.cell? ⟨cb, 5, none⟩ = some (.map (some tb))
theorem pick_s (cb lb tb : Nat) (keep ask now : Int) (ad : Option Addr) (wc : Nat) (P : List Pk) (hP : P.length ≤ 1000) (g : FuncId) (caps : List Value) (q : Int → Bool) (φ : World → Prop) (hown : ownB Try.prog g = true)
    (hq : ∀ p : Pk, Pact Try.prog g (.agg (pkC p).toArray :: caps).toArray (pkK φ cb tb) [] (ret0 (.bool (q p.n)))) :
    Pact Try.prog 30 #[.pointer (some ⟨cb, 0, none⟩), .func (.func g) #[] caps.toArray] φ [pts cb (caC keep ask now lb tb ad P.length wc) 69, Ar 81 2 pkC (.slice ad P.length wc) P]
      (fun u L' => ∃ oa oc, u = .slice oa (osOf P q P.length).length oc ∧ L' = [pts cb (caC keep ask now lb tb ad (psOf P q P.length).length wc) 69, Ar 81 2 pkC (.slice ad (psOf P q P.length).length wc) (psOf P q P.length), Ar 33 1 bsC (.slice oa (osOf P q P.length).length oc) (osOf P q P.length)]) := by
  refine pact Try.func30 rfl Try.ntmps30 rfl ?_
  intro W K hK
  (repeat' (first | ((with_reducible apply gJ); (first | refine J_seq ?_ | refine J_reg ?_ | refine J_skip ?_ | refine J_block ?_ | refine J_blk ?_ | refine J_exit rfl ?_ | refine J_goto rfl ?_ | ((with_reducible apply gJ_if); (first | refine J_ift rfl ?_ | refine J_iff rfl ?_ | (refine J_if xR ?_ ?_ <;> intro _ <;> (try (exfalso; first | contradiction | omega))) | (refine J_ifb xR ?_ ?_ <;> (intro hgb; subst hgb)) | (refine J_ifb xR ?_ ?_ <;> intro _) | fail)) | refine J_label ?_ | fail)) | ((with_reducible apply gL); (first | refine JL_nil ?_ | refine L_move ?_ | refine L_assign ?_ | refine L_fieldAddr ?_ | refine L_load ?_ | refine L_nilCheck ?_ | refine L_indexAddr ?_ | refine L_c_len ?_ | refine L_un_not ?_ | refine L_bin_eql ?_ | refine L_bin_add_i64 ?_ | refine L_bin_add_r ?_ | ((with_reducible apply gL_buildSlice); (first | (refine JL_mc rfl xR xR (al_bs1 xR (tabE etab_ok xR) xK) ?_; intro _) | (refine JL_mc rfl xR xR (al_bs xR (tabE etab_ok xR) xN xK) ?_; intro _) | fail)) | ((with_reducible apply gL_store); (first | refine JL_st xR xR xT xC xR xE xR ?_ | refine JL_stW xR xR xT xW xR xR xR ?_ | refine JL_stS xR xR xT xW xP xR xR ?_ | refine JL_stEl xR xR xT xR xL xR (tabS stab_ok xR) xR xR xO ?_ | fail)) | ((with_reducible apply gL_c_append); (first | (refine JL_ap1 (tabE etab_ok xR) xR xR xT xT xC xR xL xR xO xR xR ?_; intro _ _ _ _) | (refine JL_app (tabE etab_ok xR) xR xR xT xV xC xL xU xO xR xR ?_; intro _ _ _ _) | fail)) | fail)) | fail))
  refine J_scope (α := Lp) 0 (fun x => P.length - x.j) (fun x => x.j ≤ P.length) (fun x => [(0, .pointer (some ⟨cb, 0, none⟩)), (1, .func (.func g) #[] caps.toArray), (5, .slice x.ad (osOf P q x.j).length x.c), (6, .int .i64 (kOf P q x.j))])
    (fun x => [pts cb (caC keep ask now lb tb ad (psOf P q x.j).length wc) 69, Ar 81 2 pkC (.slice ad (psOf P q x.j).length wc) (psOf P q x.j), Ar 33 1 bsC (.slice x.ad (osOf P q x.j).length x.c) (osOf P q x.j)]) rfl rfl ?_ ?_
  · simp only [List.map_cons, List.map_nil, List.cons_append, List.nil_append]
    (repeat' (first | ((with_reducible apply gJ); (first | refine J_seq ?_ | refine J_reg ?_ | refine J_skip ?_ | refine J_block ?_ | refine J_blk ?_ | refine J_exit rfl ?_ | refine J_goto rfl ?_ | ((with_reducible apply gJ_if); (first | refine J_ift rfl ?_ | refine J_iff rfl ?_ | (refine J_if xR ?_ ?_ <;> intro _ <;> (try (exfalso; first | contradiction | omega))) | (refine J_ifb xR ?_ ?_ <;> (intro hgb; subst hgb)) | (refine J_ifb xR ?_ ?_ <;> intro _) | fail)) | refine J_label ?_ | fail)) | ((with_reducible apply gL); (first | refine JL_nil ?_ | refine L_move ?_ | refine L_assign ?_ | refine L_fieldAddr ?_ | refine L_load ?_ | refine L_nilCheck ?_ | refine L_indexAddr ?_ | refine L_c_len ?_ | refine L_un_not ?_ | refine L_bin_eql ?_ | refine L_bin_add_i64 ?_ | refine L_bin_add_r ?_ | ((with_reducible apply gL_buildSlice); (first | (refine JL_mc rfl xR xR (al_bs1 xR (tabE etab_ok xR) xK) ?_; intro _) | (refine JL_mc rfl xR xR (al_bs xR (tabE etab_ok xR) xN xK) ?_; intro _) | fail)) | ((with_reducible apply gL_store); (first | refine JL_st xR xR xT xC xR xE xR ?_ | refine JL_stW xR xR xT xW xR xR xR ?_ | refine JL_stS xR xR xT xW xP xR xR ?_ | refine JL_stEl xR xR xT xR xL xR (tabS stab_ok xR) xR xR xO ?_ | fail)) | ((with_reducible apply gL_c_append); (first | (refine JL_ap1 (tabE etab_ok xR) xR xR xT xT xC xR xL xR xO xR xR ?_; intro _ _ _ _) | (refine JL_app (tabE etab_ok xR) xR xR xT xV xC xL xU xO xR xR ?_; intro _ _ _ _) | fail)) | fail)) | fail))
    exact J_meet ⟨0, none, 0⟩ (Nat.zero_le _) ⟨rfl, rfl, rfl, rfl, trivial⟩ (fun w H => (Ow.arNil (e := 33) (sz := 1) (enc := bsC) H).sel (by (first | ((with_reducible (repeat (first | exact Sb.nil | apply Sb.cons | exact Tk.here | apply Tk.there))); done) | (repeat (first | exact Sb.nil | apply Sb.cons | exact Tk.here | apply Tk.there)))))
  rintro ⟨j, oa, oc⟩ hj
  dsimp only at hj ⊢
  simp only [List.map_cons, List.map_nil, List.cons_append, List.nil_append]
  have hkl := k_le P q j
  have hpl := ps_len P q j
  have hol : (osOf P q j).length ≤ j := by
    unfold osOf
    rw [List.length_map]
    have h1 := List.length_filter_le (fun p : Pk => q p.n) (P.take j)
    rw [List.length_take] at h1
    omega
  by_cases hlt : j < P.length
  · obtain ⟨p, hp⟩ : ∃ p, P[j]? = some p := ⟨_, List.getElem?_eq_getElem hlt⟩
    have hps := ps_get q hp
    have hqp := hq p
    rcases hb : q p.n with _ | _
    · rw [hb] at hqp
      obtain ⟨e1, e2, e3⟩ := step_keep hp hb
      (repeat' (first | ((with_reducible apply gJ); (first | refine J_seq ?_ | refine J_reg ?_ | refine J_skip ?_ | refine J_block ?_ | refine J_blk ?_ | refine J_exit rfl ?_ | refine J_goto rfl ?_ | ((with_reducible apply gJ_if); (first | refine J_ift rfl ?_ | refine J_iff rfl ?_ | (refine J_if xR ?_ ?_ <;> intro _ <;> (try (exfalso; first | contradiction | omega))) | (refine J_ifb xR ?_ ?_ <;> (intro hgb; subst hgb)) | (refine J_ifb xR ?_ ?_ <;> intro _) | fail)) | refine J_label ?_ | fail)) | ((with_reducible apply gL); (first | refine JL_nil ?_ | refine L_move ?_ | refine L_assign ?_ | refine L_fieldAddr ?_ | refine L_load ?_ | refine L_nilCheck ?_ | refine L_indexAddr ?_ | refine L_c_len ?_ | refine L_un_not ?_ | refine L_bin_eql ?_ | refine L_bin_add_i64 ?_ | refine L_bin_add_r ?_ | ((with_reducible apply gL_buildSlice); (first | (refine JL_mc rfl xR xR (al_bs1 xR (tabE etab_ok xR) xK) ?_; intro _) | (refine JL_mc rfl xR xR (al_bs xR (tabE etab_ok xR) xN xK) ?_; intro _) | fail)) | ((with_reducible apply gL_store); (first | refine JL_st xR xR xT xC xR xE xR ?_ | refine JL_stW xR xR xT xW xR xR xR ?_ | refine JL_stS xR xR xT xW xP xR xR ?_ | refine JL_stEl xR xR xT xR xL xR (tabS stab_ok xR) xR xR xO ?_ | fail)) | ((with_reducible apply gL_c_append); (first | (refine JL_ap1 (tabE etab_ok xR) xR xR xT xT xC xR xL xR xO xR xR ?_; intro _ _ _ _) | (refine JL_app (tabE etab_ok xR) xR xR xT xV xC xL xU xO xR xR ?_; intro _ _ _ _) | fail)) | ((with_reducible apply gL_go); (first | (refine JL_goq (hqp) (hφ := (by (try simp only [List.cons_append, List.nil_append]); exact fun w hr => ⟨hK w hr.1, hr.cell (by (first | ((with_reducible (repeat (first | exact Tk.here | apply Tk.there))); done) | ((simp only [List.cons_append, List.nil_append]); (with_reducible (repeat (first | exact Tk.here | apply Tk.there))); done) | fail)) rfl⟩)) (h := ?_); rintro _ _ ⟨rfl, rfl⟩; try simp only [List.cons_append, List.nil_append]) | fail)) | fail)) | fail))
      all_goals (first | (exfalso; omega) | skip)
      refine J_again ⟨j + 1, oa, oc⟩ (by dsimp only; omega) (by dsimp only; omega) ⟨rfl, rfl, ?_, ?_, trivial⟩ (fun w H => ?_)
      · dsimp only; rw [e3]; rfl
      · dsimp only; rw [e2]; rfl
      · dsimp only; rw [e1, e3]; exact H.sel (by (first | ((with_reducible (repeat (first | exact Sb.nil | apply Sb.cons | exact Tk.here | apply Tk.there))); done) | (repeat (first | exact Sb.nil | apply Sb.cons | exact Tk.here | apply Tk.there))))
    · rw [hb] at hqp
      obtain ⟨e1, e2, e3⟩ := step_pick hp hb
      have hel : ((psOf P q j).eraseIdx (kOf P q j)).length = (psOf P q j).length - 1 := List.length_eraseIdx_of_lt (by omega)
      (repeat' (first | ((with_reducible apply gJ); (first | refine J_seq ?_ | refine J_reg ?_ | refine J_skip ?_ | refine J_block ?_ | refine J_blk ?_ | refine J_exit rfl ?_ | refine J_goto rfl ?_ | ((with_reducible apply gJ_if); (first | refine J_ift rfl ?_ | refine J_iff rfl ?_ | (refine J_if xR ?_ ?_ <;> intro _ <;> (try (exfalso; first | contradiction | omega))) | (refine J_ifb xR ?_ ?_ <;> (intro hgb; subst hgb)) | (refine J_ifb xR ?_ ?_ <;> intro _) | fail)) | refine J_label ?_ | fail)) | ((with_reducible apply gL); (first | refine JL_nil ?_ | ((with_reducible apply gL_c_append); (first | (refine JL_ap1 (z := p.bs) (tabE etab_ok xR) xR xR xA xA xC xR xL xR (by omega) xR xR ?_; intro a3 c3 _ _) | fail)) | refine L_move ?_ | refine L_assign ?_ | refine L_fieldAddr ?_ | refine L_load ?_ | refine L_nilCheck ?_ | refine L_indexAddr ?_ | refine L_c_len ?_ | refine L_un_not ?_ | refine L_bin_eql ?_ | refine L_bin_add_i64 ?_ | refine L_bin_add_r ?_ | ((with_reducible apply gL_buildSlice); (first | (refine JL_mc rfl xR xR (al_bs1 xR (tabE etab_ok xR) xK) ?_; intro _) | (refine JL_mc rfl xR xR (al_bs xR (tabE etab_ok xR) xN xK) ?_; intro _) | fail)) | ((with_reducible apply gL_store); (first | refine JL_st xR xR xT xC xR xE xR ?_ | refine JL_stW xR xR xT xW xR xR xR ?_ | refine JL_stS xR xR xT xW xP xR xR ?_ | refine JL_stEl xR xR xT xR xL xR (tabS stab_ok xR) xR xR xO ?_ | fail)) | ((with_reducible apply gL_c_append); (first | (refine JL_ap1 (tabE etab_ok xR) xR xR xT xT xC xR xL xR xO xR xR ?_; intro _ _ _ _) | (refine JL_app (tabE etab_ok xR) xR xR xT xV xC xL xU xO xR xR ?_; intro _ _ _ _) | fail)) | ((with_reducible apply gL_go); (first | (refine JL_goq (hqp) (hφ := (by (try simp only [List.cons_append, List.nil_append]); exact fun w hr => ⟨hK w hr.1, hr.cell (by (first | ((with_reducible (repeat (first | exact Tk.here | apply Tk.there))); done) | ((simp only [List.cons_append, List.nil_append]); (with_reducible (repeat (first | exact Tk.here | apply Tk.there))); done) | fail)) rfl⟩)) (h := ?_); rintro _ _ ⟨rfl, rfl⟩; try simp only [List.cons_append, List.nil_append]) | (refine JL_goq (delete_e ad wc (psOf P q j).length (psOf P q j) (kOf P q j) rfl (by omega) (by omega)) (hφ := xF) (h := ?_); rintro _ _ ⟨rfl, rfl⟩; try simp only [List.cons_append, List.nil_append]) | fail)) | fail)) | fail))
      all_goals (first | (exfalso; omega) | skip)
      refine J_again ⟨j + 1, a3, c3⟩ (by dsimp only; omega) (by dsimp only; omega) ⟨rfl, rfl, ?_, ?_, trivial⟩ (fun w H => ?_)
      · dsimp only; rw [e3, List.length_append]; rfl
      · dsimp only; rw [e2]; rfl
      · dsimp only; rw [e1, e3, hel, List.length_append]; exact H.sel (by (first | ((with_reducible (repeat (first | exact Sb.nil | apply Sb.cons | exact Tk.here | apply Tk.there))); done) | (repeat (first | exact Sb.nil | apply Sb.cons | exact Tk.here | apply Tk.there))))
  · have hje : j = P.length := by omega
    subst hje
    (repeat' (first | ((with_reducible apply gJ); (first | refine J_seq ?_ | refine J_reg ?_ | refine J_skip ?_ | refine J_block ?_ | refine J_blk ?_ | refine J_exit rfl ?_ | refine J_goto rfl ?_ | ((with_reducible apply gJ_if); (first | refine J_ift rfl ?_ | refine J_iff rfl ?_ | (refine J_if xR ?_ ?_ <;> intro _ <;> (try (exfalso; first | contradiction | omega))) | (refine J_ifb xR ?_ ?_ <;> (intro hgb; subst hgb)) | (refine J_ifb xR ?_ ?_ <;> intro _) | fail)) | refine J_label ?_ | fail)) | ((with_reducible apply gL); (first | refine JL_nil ?_ | refine L_move ?_ | refine L_assign ?_ | refine L_fieldAddr ?_ | refine L_load ?_ | refine L_nilCheck ?_ | refine L_indexAddr ?_ | refine L_c_len ?_ | refine L_un_not ?_ | refine L_bin_eql ?_ | refine L_bin_add_i64 ?_ | refine L_bin_add_r ?_ | ((with_reducible apply gL_buildSlice); (first | (refine JL_mc rfl xR xR (al_bs1 xR (tabE etab_ok xR) xK) ?_; intro _) | (refine JL_mc rfl xR xR (al_bs xR (tabE etab_ok xR) xN xK) ?_; intro _) | fail)) | ((with_reducible apply gL_store); (first | refine JL_st xR xR xT xC xR xE xR ?_ | refine JL_stW xR xR xT xW xR xR xR ?_ | refine JL_stS xR xR xT xW xP xR xR ?_ | refine JL_stEl xR xR xT xR xL xR (tabS stab_ok xR) xR xR xO ?_ | fail)) | ((with_reducible apply gL_c_append); (first | (refine JL_ap1 (tabE etab_ok xR) xR xR xT xT xC xR xL xR xO xR xR ?_; intro _ _ _ _) | (refine JL_app (tabE etab_ok xR) xR xR xT xV xC xL xU xO xR xR ?_; intro _ _ _ _) | fail)) | fail)) | fail))
    all_goals (first | (exfalso; omega) | skip)
    exact J_ret1 rfl (by rfl) fun w H => ⟨_, ⟨oa, oc, rfl, rfl⟩, H.sel (by (first | ((with_reducible (repeat (first | exact Sb.nil | apply Sb.cons | exact Tk.here | apply Tk.there))); done) | (repeat (first | exact Sb.nil | apply Sb.cons | exact Tk.here | apply Tk.there))))⟩
end Go.Proofs.Ytohahlcjkhgimaa
