/-
  Drop.
-/
import Derived.Test.YtmimfjgnmmfhdaaTr10
namespace Go.Proofs.Ytmimfjgnmmfhdaa
set_option linter.unusedSimpArgs false
set_option linter.unusedVariables false
set_option maxRecDepth 20000
set_option maxHeartbeats 4000000
open Go.RowKit Go.Pm


theorem dropL_none {l : List Ent} {p : Pf} (h : getL l p = none) : dropL l p = l := by
  unfold dropL
  exact List.filter_eq_self.2 fun e he => decide_eq_true (getL_none.1 h e he)
theorem len_dropL : ∀ {l : List Ent} {p : Pf}, Srt l → (getL l p).isSome = true → (dropL l p).length + 1 = l.length
  | [], p, _, h => by simp [getL] at h
  | x :: r, p, hs, h => by
    obtain ⟨h1, h2⟩ := List.pairwise_cons.1 hs
    by_cases hx : x.1 = p
    · have hn : getL r p = none := getL_none.2 fun e he e2 => by
        have := h1 e he
        rw [hx, e2] at this
        exact this.irrefl
      have := dropL_none hn
      unfold dropL at this ⊢
      rw [List.filter_cons_of_neg (by simpa using hx), this]
      rfl
    · have e1 : getL (x :: r) p = getL r p := by unfold getL; rw [List.find?_cons_of_neg (by simpa using hx)]
      rw [e1] at h
      have := len_dropL h2 h
      unfold dropL at this ⊢
      rw [List.filter_cons_of_pos (by simpa using hx), List.length_cons, List.length_cons, this]
theorem get_o (tb : Nat) (n : Int) (t : Tr) (p : Pf) (hp : PfN p) (hw : wf (0, 0) t) (o : Option Int) (ho : getL (ents t) p = o) : Pact Try.prog 19 #[.pointer (some ⟨tb, 0, none⟩), .agg (pfC p).toArray] (fun _ => True) [pts tb (trC (ptr t) n true) 55, trP t] (fun v L' => v = optV o ∧ L' = [pts tb (trC (ptr t) n true) 55, trP t]) := ho ▸ get_s tb n t p hp hw
def DropR (tb : Nat) (t : Tr) (p : Pf) (u : Value) (L' : List HP) : Prop := ∃ t', wf (0, 0) t' ∧ ents t' = dropL (ents t) p ∧ u = .bool (getL (ents t) p).isSome ∧ L' = TrieL tb (ents t').length t'
theorem drop_s (tb : Nat) (t : Tr) (p : Pf) (hp : PfN p) (hw : wf (0, 0) t) (hn : (ents t).length ≤ 4096) : Pact Try.prog 14 #[.pointer (some ⟨tb, 0, none⟩), .agg (pfC p).toArray] (fun _ => True) [pts tb (trC (ptr t) (ents t).length true) 55, trP t] (DropR tb t p) := by
  refine pact Try.func14 rfl Try.ntmps14 rfl ?_
  intro W K _
  cases hg : getL (ents t) p with
  | none =>
    (repeat' (first | ((with_reducible apply gJ); (first | refine J_seq ?_ | refine J_reg ?_ | refine J_skip ?_ | refine J_block ?_ | refine J_blk ?_ | refine J_exit rfl ?_ | refine J_goto rfl ?_ | ((with_reducible apply gJ_if); (first | refine J_ift rfl ?_ | refine J_iff rfl ?_ | (refine J_if xR ?_ ?_ <;> intro _ <;> (try (exfalso; first | contradiction | omega))) | (refine J_ifb xR ?_ ?_ <;> (intro hgb; subst hgb)) | (refine J_ifb xR ?_ ?_ <;> intro _) | fail)) | refine J_label ?_ | refine J_draw (id := 8) [0, 1, 2, 3, 4] [5] mixed xC xD xD ?_ | fail)) | ((with_reducible apply gL); (first | refine JL_nil ?_ | refine L_move ?_ | refine L_assign ?_ | refine L_fieldAddr ?_ | refine L_load ?_ | refine L_nilCheck ?_ | refine L_extract ?_ | refine L_un_not ?_ | refine L_bin_sub_i64 ?_ | refine L_bin_sub_r ?_ | ((with_reducible apply gL_box); (first | (refine JL_mc rfl xR xR (al_boxA xR) ?_; intro _) | (refine JL_mc rfl xR xR (al_boxC xR xR) ?_; intro _) | fail)) | ((with_reducible apply gL_store); (first | refine JL_st xR xR xT xC xR xE xR ?_ | refine JL_stW xR xR xT xW xR xR xR ?_ | refine JL_stS xR xR xT xW xP xR xR ?_ | refine JL_stEl xR xR xT xR xL xR (tabS stab_ok xR) xR xR xO ?_ | fail)) | ((with_reducible apply gL_go); (first | (refine JL_goq (get_o tb (ents t).length t p hp hw none hg) (hφ := xF) (h := ?_); rintro _ _ ⟨rfl, rfl⟩; try simp only [List.cons_append, List.nil_append]) | fail)) | fail)) | ((with_reducible apply gD); (first | (refine JD_nil ?_; try simp only [List.cons_append, List.nil_append]) | (refine JD_bar ?_; try simp only [List.cons_append, List.nil_append]) | refine D_move ?_ | refine D_fieldAddr ?_ | refine D_load ?_ | refine D_nilCheck ?_ | ((with_reducible apply gD_load); (first | refine JD_ldM xR xT xC xR xR ?_ | refine JD_ldWM xR xT xW xR ?_ | refine JD_ldSM xR xT (tabS stab_ok xR) xG xC xR ?_ | fail)) | ((with_reducible apply gD_go); (first | (refine JD_goq (get_o tb (ents t).length t p hp hw none hg) (hφ := xF) (h := ?_); rintro _ _ ⟨rfl, rfl⟩; try simp only [List.cons_append, List.nil_append]) | fail)) | fail)) | fail))
    exact J_ret1 rfl (by rfl) fun w H => ⟨_, ⟨t, hw, (dropL_none hg).symm, by rw [hg]; rfl, rfl⟩, H.sel (by (first | ((with_reducible (repeat (first | exact Sb.nil | apply Sb.cons | exact Tk.here | apply Tk.there))); done) | (repeat (first | exact Sb.nil | apply Sb.cons | exact Tk.here | apply Tk.there))))⟩
  | some v0 =>
    have hr : Rt p := by
      rcases Decidable.em (Rt p) with h | h
      · exact h
      · rw [getL_notRt hw h] at hg; cases hg
    have hln := len_dropL (wf_srt hw) (p := p) (by rw [hg]; rfl)
    (repeat' (first | ((with_reducible apply gJ); (first | refine J_seq ?_ | refine J_reg ?_ | refine J_skip ?_ | refine J_block ?_ | refine J_blk ?_ | refine J_exit rfl ?_ | refine J_goto rfl ?_ | ((with_reducible apply gJ_if); (first | refine J_ift rfl ?_ | refine J_iff rfl ?_ | (refine J_if xR ?_ ?_ <;> intro _ <;> (try (exfalso; first | contradiction | omega))) | (refine J_ifb xR ?_ ?_ <;> (intro hgb; subst hgb)) | (refine J_ifb xR ?_ ?_ <;> intro _) | fail)) | refine J_label ?_ | refine J_draw (id := 8) [0, 1, 2, 3, 4] [5] mixed xC xD xD ?_ | fail)) | ((with_reducible apply gL); (first | refine JL_nil ?_ | refine L_move ?_ | refine L_assign ?_ | refine L_fieldAddr ?_ | refine L_load ?_ | refine L_nilCheck ?_ | refine L_extract ?_ | refine L_un_not ?_ | refine L_bin_sub_i64 ?_ | refine L_bin_sub_r ?_ | ((with_reducible apply gL_box); (first | (refine JL_mc rfl xR xR (al_boxA xR) ?_; intro _) | (refine JL_mc rfl xR xR (al_boxC xR xR) ?_; intro _) | fail)) | ((with_reducible apply gL_store); (first | refine JL_st xR xR xT xC xR xE xR ?_ | refine JL_stW xR xR xT xW xR xR xR ?_ | refine JL_stS xR xR xT xW xP xR xR ?_ | refine JL_stEl xR xR xT xR xL xR (tabS stab_ok xR) xR xR xO ?_ | fail)) | ((with_reducible apply gL_go); (first | (refine JL_goq (get_o tb (ents t).length t p hp hw (some v0) hg) (hφ := xF) (h := ?_); rintro _ _ ⟨rfl, rfl⟩; try simp only [List.cons_append, List.nil_append]) | (refine JL_goq (find_s tb (ents t).length t p hp hw) (hφ := xF) (h := ?_); rintro _ _ ⟨C, s, ht, hC, hF, rfl, rfl⟩; try simp only [List.cons_append, List.nil_append]) | fail)) | fail)) | ((with_reducible apply gD); (first | (refine JD_nil ?_; try simp only [List.cons_append, List.nil_append]) | (refine JD_bar ?_; try simp only [List.cons_append, List.nil_append]) | refine D_move ?_ | refine D_fieldAddr ?_ | refine D_load ?_ | refine D_nilCheck ?_ | ((with_reducible apply gD_load); (first | refine JD_ldM xR xT xC xR xR ?_ | refine JD_ldWM xR xT xW xR ?_ | refine JD_ldSM xR xT (tabS stab_ok xR) xG xC xR ?_ | fail)) | ((with_reducible apply gD_go); (first | (refine JD_goq (get_o tb (ents t).length t p hp hw (some v0) hg) (hφ := xF) (h := ?_); rintro _ _ ⟨rfl, rfl⟩; try simp only [List.cons_append, List.nil_append]) | (refine JD_goq (find_s tb (ents t).length t p hp hw) (hφ := xF) (h := ?_); rintro _ _ ⟨C, s, ht, hC, hF, rfl, rfl⟩; try simp only [List.cons_append, List.nil_append]) | fail)) | fail)) | fail))
    obtain ⟨hc, hs⟩ := (wf_plug C s).1 (ht ▸ hw)
    have hg2 : hereV p s = some v0 := by subst ht; rw [← found_res hw hC hF hr]; exact hg
    have fin : ∀ {s' : Tr}, wf (hreg C) s' → (∀ e, e ∈ ents s' ↔ e ∈ ents s ∧ e.1 ≠ p) → wf (0, 0) (plug C s') ∧ ents (plug C s') = dropL (ents t) p := fun h1 h2 => by subst ht; exact plug_drop hw hC hr h1 h2
    generalize hm : (ents t).length = m at *
    cases s with
    | nil => simp [hereV] at hg2
    | node b q has vo k0 k1 =>
      have hq : q = p ∧ has = true := by
        by_cases h : q = p ∧ has = true
        · exact h
        · simp only [hereV, if_neg h] at hg2; cases hg2
      obtain ⟨rfl, rfl⟩ := hq
      have hz : I64 0 := by unfold I64; omega
      obtain ⟨hw', he'⟩ := fin (s' := .node b q false 0 k0 k1) ⟨hs.1, hz, hs.2.2⟩ (fun e => by
        have h1 := fun h => kids_ne hs (e := e) h
        constructor
        · intro h
          have h2 : e ∈ ents k0 ∨ e ∈ ents k1 := by simpa [ents] using h
          exact ⟨by simp only [ents, List.mem_append]; exact .inr h2, h1 h2⟩
        · rintro ⟨h, h2⟩
          simp only [ents, if_true, List.mem_append, List.mem_singleton] at h ⊢
          rcases h with h | h
          · rw [h] at h2; exact absurd rfl h2
          · exact .inr h)
      refine JL_heap (fun w H => owNodeO H (by (first | ((with_reducible (repeat (first | exact Tk.here | apply Tk.there))); done) | ((simp only [List.cons_append, List.nil_append]); (with_reducible (repeat (first | exact Tk.here | apply Tk.there))); done) | fail))) ?_
      (repeat' (first | ((with_reducible apply gJ); (first | refine J_seq ?_ | refine J_reg ?_ | refine J_skip ?_ | refine J_block ?_ | refine J_blk ?_ | refine J_exit rfl ?_ | refine J_goto rfl ?_ | ((with_reducible apply gJ_if); (first | refine J_ift rfl ?_ | refine J_iff rfl ?_ | (refine J_if xR ?_ ?_ <;> intro _ <;> (try (exfalso; first | contradiction | omega))) | (refine J_ifb xR ?_ ?_ <;> (intro hgb; subst hgb)) | (refine J_ifb xR ?_ ?_ <;> intro _) | fail)) | refine J_label ?_ | refine J_draw (id := 8) [0, 1, 2, 3, 4] [5] mixed xC xD xD ?_ | fail)) | ((with_reducible apply gL); (first | refine JL_nil ?_ | ((with_reducible apply gL_load); (first | (first | refine JL_p rfl xR xR (pe_ldH xR xC (fun w hr => hole_see hr xA)) ?_ | refine JL_p rfl xR xR (pe_ldH xR xC (fun w hr => ctx_n hr xA)) ?_) | fail)) | refine L_move ?_ | refine L_assign ?_ | refine L_fieldAddr ?_ | refine L_load ?_ | refine L_nilCheck ?_ | refine L_extract ?_ | refine L_un_not ?_ | refine L_bin_sub_i64 ?_ | refine L_bin_sub_r ?_ | ((with_reducible apply gL_box); (first | (refine JL_mc rfl xR xR (al_boxA xR) ?_; intro _) | (refine JL_mc rfl xR xR (al_boxC xR xR) ?_; intro _) | fail)) | ((with_reducible apply gL_store); (first | refine JL_st xR xR xT xC xR xE xR ?_ | refine JL_stW xR xR xT xW xR xR xR ?_ | refine JL_stS xR xR xT xW xP xR xR ?_ | refine JL_stEl xR xR xT xR xL xR (tabS stab_ok xR) xR xR xO ?_ | fail)) | fail)) | ((with_reducible apply gD); (first | (refine JD_nil ?_; try simp only [List.cons_append, List.nil_append]) | (refine JD_bar ?_; try simp only [List.cons_append, List.nil_append]) | ((with_reducible apply gD_load); (first | (first | refine JL_p rfl xR xR (pe_ldH xR xC (fun w hr => hole_see hr xA)) ?_ | refine JL_p rfl xR xR (pe_ldH xR xC (fun w hr => ctx_n hr xA)) ?_) | fail)) | refine D_move ?_ | refine D_fieldAddr ?_ | refine D_load ?_ | refine D_nilCheck ?_ | ((with_reducible apply gD_load); (first | refine JD_ldM xR xT xC xR xR ?_ | refine JD_ldWM xR xT xW xR ?_ | refine JD_ldSM xR xT (tabS stab_ok xR) xG xC xR ?_ | fail)) | fail)) | fail))
      refine JL_heap (fun w H => owMkNodeB (b := b) (p := q) (has := false) (v := 0) (k0 := k0) (k1 := k1) H (by (first | ((with_reducible (repeat (first | exact Sb.nil | apply Sb.cons | exact Tk.here | apply Tk.there))); done) | (repeat (first | exact Sb.nil | apply Sb.cons | exact Tk.here | apply Tk.there))))) ?_
      refine JL_heap (fun w H => owPlugB (C := C) (s := .node b q false 0 k0 k1) H (by (first | ((with_reducible (repeat (first | exact Sb.nil | apply Sb.cons | exact Tk.here | apply Tk.there))); done) | (repeat (first | exact Sb.nil | apply Sb.cons | exact Tk.here | apply Tk.there))))) ?_
      generalize plug C (.node b q false 0 k0 k1) = t1 at *
      (repeat' (first | ((with_reducible apply gJ); (first | refine J_seq ?_ | refine J_reg ?_ | refine J_skip ?_ | refine J_block ?_ | refine J_blk ?_ | refine J_exit rfl ?_ | refine J_goto rfl ?_ | ((with_reducible apply gJ_if); (first | refine J_ift rfl ?_ | refine J_iff rfl ?_ | (refine J_if xR ?_ ?_ <;> intro _ <;> (try (exfalso; first | contradiction | omega))) | (refine J_ifb xR ?_ ?_ <;> (intro hgb; subst hgb)) | (refine J_ifb xR ?_ ?_ <;> intro _) | fail)) | refine J_label ?_ | refine J_draw (id := 8) [0, 1, 2, 3, 4] [5] mixed xC xD xD ?_ | fail)) | ((with_reducible apply gL); (first | refine JL_nil ?_ | refine L_move ?_ | refine L_assign ?_ | refine L_fieldAddr ?_ | refine L_load ?_ | refine L_nilCheck ?_ | refine L_extract ?_ | refine L_un_not ?_ | refine L_bin_sub_i64 ?_ | refine L_bin_sub_r ?_ | ((with_reducible apply gL_box); (first | (refine JL_mc rfl xR xR (al_boxA xR) ?_; intro _) | (refine JL_mc rfl xR xR (al_boxC xR xR) ?_; intro _) | fail)) | ((with_reducible apply gL_store); (first | refine JL_st xR xR xT xC xR xE xR ?_ | refine JL_stW xR xR xT xW xR xR xR ?_ | refine JL_stS xR xR xT xW xP xR xR ?_ | refine JL_stEl xR xR xT xR xL xR (tabS stab_ok xR) xR xR xO ?_ | fail)) | fail)) | ((with_reducible apply gD); (first | (refine JD_nil ?_; try simp only [List.cons_append, List.nil_append]) | (refine JD_bar ?_; try simp only [List.cons_append, List.nil_append]) | refine D_move ?_ | refine D_fieldAddr ?_ | refine D_load ?_ | refine D_nilCheck ?_ | ((with_reducible apply gD_load); (first | refine JD_ldM xR xT xC xR xR ?_ | refine JD_ldWM xR xT xW xR ?_ | refine JD_ldSM xR xT (tabS stab_ok xR) xG xC xR ?_ | fail)) | fail)) | fail))
      refine JD_heapA rfl rfl (fun W K w H => owMkTop H (by (first | ((with_reducible (repeat (first | exact Tk.here | apply Tk.there))); done) | ((simp only [List.cons_append, List.nil_append]); (with_reducible (repeat (first | exact Tk.here | apply Tk.there))); done) | fail))) ?_
      obtain ⟨hw2, he2⟩ := prune_ok q hw'
      (repeat' (first | ((with_reducible apply gJ); (first | refine J_seq ?_ | refine J_reg ?_ | refine J_skip ?_ | refine J_block ?_ | refine J_blk ?_ | refine J_exit rfl ?_ | refine J_goto rfl ?_ | ((with_reducible apply gJ_if); (first | refine J_ift rfl ?_ | refine J_iff rfl ?_ | (refine J_if xR ?_ ?_ <;> intro _ <;> (try (exfalso; first | contradiction | omega))) | (refine J_ifb xR ?_ ?_ <;> (intro hgb; subst hgb)) | (refine J_ifb xR ?_ ?_ <;> intro _) | fail)) | refine J_label ?_ | refine J_draw (id := 8) [0, 1, 2, 3, 4] [5] mixed xC xD xD ?_ | fail)) | ((with_reducible apply gL); (first | refine JL_nil ?_ | refine L_move ?_ | refine L_assign ?_ | refine L_fieldAddr ?_ | refine L_load ?_ | refine L_nilCheck ?_ | refine L_extract ?_ | refine L_un_not ?_ | refine L_bin_sub_i64 ?_ | refine L_bin_sub_r ?_ | ((with_reducible apply gL_box); (first | (refine JL_mc rfl xR xR (al_boxA xR) ?_; intro _) | (refine JL_mc rfl xR xR (al_boxC xR xR) ?_; intro _) | fail)) | ((with_reducible apply gL_store); (first | refine JL_st xR xR xT xC xR xE xR ?_ | refine JL_stW xR xR xT xW xR xR xR ?_ | refine JL_stS xR xR xT xW xP xR xR ?_ | refine JL_stEl xR xR xT xR xL xR (tabS stab_ok xR) xR xR xO ?_ | fail)) | ((with_reducible apply gL_go); (first | (refine JL_goq (prune_s tb ((m : Int) - 1) q hp t1 (0, 0) [] hw') (hφ := xF) (h := ?_); rintro _ _ rfl; try simp only [List.cons_append, List.nil_append]) | fail)) | fail)) | ((with_reducible apply gD); (first | (refine JD_nil ?_; try simp only [List.cons_append, List.nil_append]) | (refine JD_bar ?_; try simp only [List.cons_append, List.nil_append]) | refine D_move ?_ | refine D_fieldAddr ?_ | refine D_load ?_ | refine D_nilCheck ?_ | ((with_reducible apply gD_load); (first | refine JD_ldM xR xT xC xR xR ?_ | refine JD_ldWM xR xT xW xR ?_ | refine JD_ldSM xR xT (tabS stab_ok xR) xG xC xR ?_ | fail)) | ((with_reducible apply gD_go); (first | (refine JD_goq (prune_s tb ((m : Int) - 1) q hp t1 (0, 0) [] hw') (hφ := xF) (h := ?_); rintro _ _ rfl; try simp only [List.cons_append, List.nil_append]) | fail)) | fail)) | fail))
      exact J_ret1 rfl (by rfl) fun w H => ⟨_, ⟨pruneT q t1, hw2, by rw [he2, he'], by rw [hg]; rfl, rfl⟩, by
        have e : (((ents (pruneT q t1)).length : Nat) : Int) = (m : Int) - 1 := by rw [he2, he']; omega
        rw [TrieL, e]
        exact (owCtxTop H (by (first | ((with_reducible (repeat (first | exact Tk.here | apply Tk.there))); done) | ((simp only [List.cons_append, List.nil_append]); (with_reducible (repeat (first | exact Tk.here | apply Tk.there))); done) | fail))).sel (by (first | ((with_reducible (repeat (first | exact Sb.nil | apply Sb.cons | exact Tk.here | apply Tk.there))); done) | (repeat (first | exact Sb.nil | apply Sb.cons | exact Tk.here | apply Tk.there))))⟩
end Go.Proofs.Ytmimfjgnmmfhdaa
