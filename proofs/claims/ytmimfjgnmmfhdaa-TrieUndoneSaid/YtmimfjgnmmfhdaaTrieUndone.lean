/-
  TrieUndone: what is put and dropped leaves the others as they were, in whatever order that is done.
-/
import Derived.Test.YtmimfjgnmmfhdaaTr22
import Derived.HandedShaped
namespace Go.Proofs.Ytmimfjgnmmfhdaa
set_option linter.unusedSimpArgs false
set_option linter.unusedVariables false
set_option maxRecDepth 20000
set_option maxHeartbeats 4000000
open Go.RowKit Go.Pm

theorem drop_put {l : List Ent} {p : Pf} {v : Int} (h : getL l p = none) : dropL (putL l p v) p = l := by
  induction l with
  | nil => simp [putL, dropL]
  | cons x r ih =>
    have h1 := getL_none.1 h
    have hx : x.1 ≠ p := h1 x (by simp)
    have hr : getL r p = none := getL_none.2 fun e he => h1 e (by simp [he])
    have hd : ∀ m : List Ent, dropL (x :: m) p = x :: dropL m p := fun m => by unfold dropL; rw [List.filter_cons_of_pos (by simpa using hx)]
    unfold putL
    split
    · rw [hd, ih hr]
    · have h2 : dropL ((p, v) :: x :: r) p = dropL (x :: r) p := by unfold dropL; rw [List.filter_cons_of_neg (by simp)]
      rw [h2, dropL_none h]
def undo (l : List Ent) (fs : List Pf) : List Ent := fs.foldr (fun p m => dropL m p) l
theorem undo_snoc (l : List Ent) (fs : List Pf) (p : Pf) : undo l (fs ++ [p]) = undo (dropL l p) fs := by
  unfold undo
  rw [List.foldr_append]
  rfl
structure Un where
  i : Nat
  t : Tr
  fs : List Pf
  fa : Option Addr
  fc : Nat
structure Dn where
  k : Nat
  t : Tr
theorem undone_s (aa ba : Option Addr) (ca cb : Nat) (acts : List Ac) (more : List Pf) (hx : ∀ x ∈ acts, AcN x) (hm : ∀ x ∈ more, PfN x) (hl : acts.length ≤ 140737488355328) (hl2 : more.length ≤ 140737488355328) : Pact Try.prog 5 #[.slice aa acts.length ca, .slice ba more.length cb] (fun w => Vw w (.slice aa acts.length ca) 4 acts.length (flat acC acts) ∧ Vw w (.slice ba more.length cb) 2 more.length (flat pfC more)) [] (ret0 (.bool true)) := by
  refine pact Try.func5 rfl Try.ntmps5 rfl ?_
  intro W K hK0
  have hK := hK0.left
  have hK2 := hK0.right
  (repeat' (first | ((with_reducible apply gJ); (first | refine J_seq ?_ | refine J_reg ?_ | refine J_skip ?_ | refine J_block ?_ | refine J_blk ?_ | refine J_exit rfl ?_ | refine J_goto rfl ?_ | ((with_reducible apply gJ_if); (first | refine J_ift rfl ?_ | refine J_iff rfl ?_ | (refine J_if xR ?_ ?_ <;> intro _ <;> (try (exfalso; first | contradiction | omega))) | (refine J_ifb xR ?_ ?_ <;> (intro hgb; subst hgb)) | (refine J_ifb xR ?_ ?_ <;> intro _) | fail)) | refine J_label ?_ | fail)) | ((with_reducible apply gL); (first | refine JL_nil ?_ | ((with_reducible apply gL_gd); (first | refine JL_skip xR xR ?_ | fail)) | refine L_move ?_ | refine L_assign ?_ | refine L_load ?_ | refine L_pick ?_ | refine L_indexAddr ?_ | refine L_build ?_ | refine L_extract ?_ | refine L_c_len ?_ | refine L_un_not ?_ | refine L_bin_eql ?_ | refine L_bin_lss ?_ | refine L_bin_geq ?_ | refine L_bin_add_i64 ?_ | refine L_bin_add_r ?_ | refine L_bin_sub_i64 ?_ | refine L_bin_sub_r ?_ | ((with_reducible apply gL_box); (first | (refine JL_mc rfl xR xR (al_boxA xR) ?_; intro _) | (refine JL_mc rfl xR xR (al_boxC xR xR) ?_; intro _) | fail)) | ((with_reducible apply gL_buildSlice); (first | (refine JL_mc rfl xR xR (al_bs1 xR (tabE etab_ok xR) xK) ?_; intro _) | (refine JL_mc rfl xR xR (al_bs xR (tabE etab_ok xR) xN xK) ?_; intro _) | fail)) | ((with_reducible apply gL_c_append); (first | (refine JL_ap1 (tabE etab_ok xR) xR xR xT xT xC xR xL xR xO xR xR ?_; intro _ _ _ _) | (refine JL_app (tabE etab_ok xR) xR xR xT xV xC xL xU xO xR xR ?_; intro _ _ _ _) | fail)) | ((with_reducible apply gL_go); (first | (refine JL_goq (works_s) (hφ := xF) (h := ?_); rintro _ _ ⟨rfl, rfl⟩; try simp only [List.cons_append, List.nil_append]) | (refine JL_goq (new_s) (hφ := xF) (h := ?_); rintro _ _ ⟨tb, rfl, rfl⟩; try simp only [List.cons_append, List.nil_append]) | fail)) | ((with_reducible apply gL_gd); (first | (refine JL_guard xR xR ?_ ?_ <;> intro _ <;> (try (exfalso; first | contradiction | omega))) | (refine JL_guardb xR xR ?_ ?_ <;> (intro hgb; subst hgb)) | (refine JL_guardb xR xR ?_ ?_ <;> (intro hgb; fail_if_success (have : type_of% hgb := rfl))) | fail)) | fail)) | fail))
  rename_i rb
  refine J_loop (α := Bt) ⟨0, .nil, none, 0⟩ (fun x => 50 - x.i) (fun x => x.i ≤ acts.length ∧ x.i ≤ 50 ∧ TrOk x.t) (fun x => [(0, .slice aa acts.length ca), (1, .slice ba more.length cb), (5, .pointer (some ⟨tb, 0, none⟩)), (6, .pointer (some ⟨rb, 0, none⟩)), (7, .int .i64 x.i)])
    (fun x => [pts tb (trC (ptr x.t) (ents x.t).length true) 55, trP x.t, pts rb [.slice x.ad (ents x.t).length x.c] 39, Ar 72 3 enC (.slice x.ad (ents x.t).length x.c) (ents x.t)]) ⟨Nat.zero_le _, Nat.zero_le _, trok_nil⟩ ⟨rfl, rfl, rfl, rfl, rfl, trivial⟩ (fun w H => (Ow.arNil (e := 72) (sz := 3) (enc := enC) H).sel (by (first | ((with_reducible (repeat (first | exact Sb.nil | apply Sb.cons | exact Tk.here | apply Tk.there))); done) | (repeat (first | exact Sb.nil | apply Sb.cons | exact Tk.here | apply Tk.there))))) ?_
  rintro ⟨i, t, ad, c⟩ ⟨hi, h80, ht⟩
  dsimp only at hi h80 ht ⊢
  by_cases hlt : i < acts.length ∧ i < 50
  · obtain ⟨h1, h2⟩ := hlt
    obtain ⟨x, hsx⟩ : ∃ x, acts[i]? = some x := ⟨_, List.getElem?_eq_getElem h1⟩
    have hxn := hx x (List.mem_of_getElem? hsx)
    (repeat' (first | ((with_reducible apply gJ); (first | refine J_seq ?_ | refine J_reg ?_ | refine J_skip ?_ | refine J_block ?_ | refine J_blk ?_ | refine J_exit rfl ?_ | refine J_goto rfl ?_ | ((with_reducible apply gJ_if); (first | refine J_ift rfl ?_ | refine J_iff rfl ?_ | (refine J_if xR ?_ ?_ <;> intro _ <;> (try (exfalso; first | contradiction | omega))) | (refine J_ifb xR ?_ ?_ <;> (intro hgb; subst hgb)) | (refine J_ifb xR ?_ ?_ <;> intro _) | fail)) | refine J_label ?_ | fail)) | ((with_reducible apply gL); (first | refine JL_nil ?_ | ((with_reducible apply gL_gd); (first | refine JL_skip xR xR ?_ | fail)) | refine L_move ?_ | refine L_assign ?_ | refine L_load ?_ | refine L_pick ?_ | refine L_indexAddr ?_ | refine L_build ?_ | refine L_extract ?_ | refine L_c_len ?_ | refine L_un_not ?_ | refine L_bin_eql ?_ | refine L_bin_lss ?_ | refine L_bin_geq ?_ | refine L_bin_add_i64 ?_ | refine L_bin_add_r ?_ | refine L_bin_sub_i64 ?_ | refine L_bin_sub_r ?_ | ((with_reducible apply gL_box); (first | (refine JL_mc rfl xR xR (al_boxA xR) ?_; intro _) | (refine JL_mc rfl xR xR (al_boxC xR xR) ?_; intro _) | fail)) | ((with_reducible apply gL_buildSlice); (first | (refine JL_mc rfl xR xR (al_bs1 xR (tabE etab_ok xR) xK) ?_; intro _) | (refine JL_mc rfl xR xR (al_bs xR (tabE etab_ok xR) xN xK) ?_; intro _) | fail)) | ((with_reducible apply gL_c_append); (first | (refine JL_ap1 (tabE etab_ok xR) xR xR xT xT xC xR xL xR xO xR xR ?_; intro _ _ _ _) | (refine JL_app (tabE etab_ok xR) xR xR xT xV xC xL xU xO xR xR ?_; intro _ _ _ _) | fail)) | ((with_reducible apply gL_go); (first | (refine JL_goq (do_s tb rb ad c t x hxn ht) (hφ := xF) (h := ?_); rintro _ _ ⟨t1, a1, c1, ht1, rfl, rfl⟩; try simp only [List.cons_append, List.nil_append]) | fail)) | ((with_reducible apply gL_gd); (first | (refine JL_guard xR xR ?_ ?_ <;> intro _ <;> (try (exfalso; first | contradiction | omega))) | (refine JL_guardb xR xR ?_ ?_ <;> (intro hgb; subst hgb)) | (refine JL_guardb xR xR ?_ ?_ <;> (intro hgb; fail_if_success (have : type_of% hgb := rfl))) | fail)) | fail)) | fail))
    exact J_again ⟨i + 1, t1, a1, c1⟩ (by dsimp only; omega) ⟨by dsimp only; omega, by dsimp only; omega, ht1⟩ ⟨rfl, rfl, rfl, rfl, rfl, trivial⟩ (fun w H => H.sel (by (first | ((with_reducible (repeat (first | exact Sb.nil | apply Sb.cons | exact Tk.here | apply Tk.there))); done) | (repeat (first | exact Sb.nil | apply Sb.cons | exact Tk.here | apply Tk.there)))))
  · (repeat' (first | ((with_reducible apply gJ); (first | refine J_seq ?_ | refine J_reg ?_ | refine J_skip ?_ | refine J_block ?_ | refine J_blk ?_ | refine J_exit rfl ?_ | refine J_goto rfl ?_ | ((with_reducible apply gJ_if); (first | refine J_ift rfl ?_ | refine J_iff rfl ?_ | (refine J_if xR ?_ ?_ <;> intro _ <;> (try (exfalso; first | contradiction | omega))) | (refine J_ifb xR ?_ ?_ <;> (intro hgb; subst hgb)) | (refine J_ifb xR ?_ ?_ <;> intro _) | fail)) | refine J_label ?_ | fail)) | ((with_reducible apply gL); (first | refine JL_nil ?_ | ((with_reducible apply gL_gd); (first | refine JL_skip xR xR ?_ | fail)) | refine L_move ?_ | refine L_assign ?_ | refine L_load ?_ | refine L_pick ?_ | refine L_indexAddr ?_ | refine L_build ?_ | refine L_extract ?_ | refine L_c_len ?_ | refine L_un_not ?_ | refine L_bin_eql ?_ | refine L_bin_lss ?_ | refine L_bin_geq ?_ | refine L_bin_add_i64 ?_ | refine L_bin_add_r ?_ | refine L_bin_sub_i64 ?_ | refine L_bin_sub_r ?_ | ((with_reducible apply gL_box); (first | (refine JL_mc rfl xR xR (al_boxA xR) ?_; intro _) | (refine JL_mc rfl xR xR (al_boxC xR xR) ?_; intro _) | fail)) | ((with_reducible apply gL_buildSlice); (first | (refine JL_mc rfl xR xR (al_bs1 xR (tabE etab_ok xR) xK) ?_; intro _) | (refine JL_mc rfl xR xR (al_bs xR (tabE etab_ok xR) xN xK) ?_; intro _) | fail)) | ((with_reducible apply gL_c_append); (first | (refine JL_ap1 (tabE etab_ok xR) xR xR xT xT xC xR xL xR xO xR xR ?_; intro _ _ _ _) | (refine JL_app (tabE etab_ok xR) xR xR xT xV xC xL xU xO xR xR ?_; intro _ _ _ _) | fail)) | ((with_reducible apply gL_gd); (first | (refine JL_guard xR xR ?_ ?_ <;> intro _ <;> (try (exfalso; first | contradiction | omega))) | (refine JL_guardb xR xR ?_ ?_ <;> (intro hgb; subst hgb)) | (refine JL_guardb xR xR ?_ ?_ <;> (intro hgb; fail_if_success (have : type_of% hgb := rfl))) | fail)) | fail)) | fail))
    all_goals (
      obtain ⟨hw, hn⟩ := ht
      have hs := wf_srt hw
      obtain ⟨l, hle⟩ : ∃ l, ents t = l := ⟨_, rfl⟩
      have hl4 : l.length ≤ 4096 := hle ▸ hn
      refine J_loop (α := Un) ⟨0, t, [], _, 0⟩ (fun x => 20 - x.i) (fun x => x.i ≤ more.length ∧ x.i ≤ 20 ∧ TrOk x.t ∧ x.fs.length ≤ x.i ∧ (∀ p ∈ x.fs, PfN p) ∧ undo (ents x.t) x.fs = l) (fun x => [(1, .slice ba more.length cb), (5, .pointer (some ⟨tb, 0, none⟩)), (6, .pointer (some ⟨rb, 0, none⟩)), (8, .slice x.fa x.fs.length x.fc), (9, .int .i64 x.i)])
        (fun x => [pts tb (trC (ptr x.t) (ents x.t).length true) 55, trP x.t, pts rb [.slice ad l.length c] 39, Ar 72 3 enC (.slice ad l.length c) l, Ar 31 2 pfC (.slice x.fa x.fs.length x.fc) x.fs]) ⟨Nat.zero_le _, Nat.zero_le _, ⟨hw, hn⟩, Nat.le_refl _, by simp, hle⟩ ⟨rfl, rfl, rfl, rfl, rfl, trivial⟩ (fun w H => by rw [hle] at H; dsimp only; rw [hle]; exact (H.arLit0 (by (first | ((with_reducible (repeat (first | exact Tk.here | apply Tk.there))); done) | ((simp only [List.cons_append, List.nil_append]); (with_reducible (repeat (first | exact Tk.here | apply Tk.there))); done) | fail))).sel (by (first | ((with_reducible (repeat (first | exact Sb.nil | apply Sb.cons | exact Tk.here | apply Tk.there))); done) | (repeat (first | exact Sb.nil | apply Sb.cons | exact Tk.here | apply Tk.there))))) ?_
      rintro ⟨j, u, fs, fa, fc⟩ ⟨hj, h20, hu, hfl, hfn, hun⟩
      dsimp only at hj h20 hu hfl hfn hun ⊢
      obtain ⟨huw, hul⟩ := hu
      have hus := wf_srt huw
      by_cases hjt : j < more.length ∧ j < 20
      · obtain ⟨h1, h2⟩ := hjt
        obtain ⟨q, hsq⟩ : ∃ q, more[j]? = some q := ⟨_, List.getElem?_eq_getElem h1⟩
        have hq := hm q (List.mem_of_getElem? hsq)
        obtain ⟨e, m, hE⟩ : ∃ e m, putE (ents u) q 7 = (e, m) := ⟨_, _, rfl⟩
        have hme : m.length ≤ 4096 := by have := len_put (p := q) (v := 7) hus hul; rw [hE] at this; exact this
        have v7 : I64 7 := by unfold I64; decide
        rcases hg : getL (ents u) q with _ | v0
        · by_cases he : e = 0
          · subst he
            have hmm : m = putL (ents u) q 7 := by
              have h3 := hE
              unfold putE at h3
              rw [hg] at h3
              split at h3
              · simp only [Option.isSome_none, Bool.false_eq_true, if_false] at h3
                split at h3
                · exact absurd (congrArg Prod.fst h3) (by simp)
                · exact (congrArg Prod.snd h3).symm
              · exact absurd (congrArg Prod.fst h3) (by simp)
            (repeat' (first | ((with_reducible apply gJ); (first | refine J_seq ?_ | refine J_reg ?_ | refine J_skip ?_ | refine J_block ?_ | refine J_blk ?_ | refine J_exit rfl ?_ | refine J_goto rfl ?_ | ((with_reducible apply gJ_if); (first | refine J_ift rfl ?_ | refine J_iff rfl ?_ | (refine J_if xR ?_ ?_ <;> intro _ <;> (try (exfalso; first | contradiction | omega))) | (refine J_ifb xR ?_ ?_ <;> (intro hgb; subst hgb)) | (refine J_ifb xR ?_ ?_ <;> intro _) | fail)) | refine J_label ?_ | fail)) | ((with_reducible apply gL); (first | refine JL_nil ?_ | ((with_reducible apply gL_gd); (first | refine JL_skip xR xR ?_ | fail)) | ((with_reducible apply gL_c_append); (first | (refine JL_ap1 (z := q) (tabE etab_ok xR) xR xR xA xA xC xR xL xR (by omega) xR xR ?_; intro ad2 c2 _ _) | fail)) | refine L_move ?_ | refine L_assign ?_ | refine L_load ?_ | refine L_pick ?_ | refine L_indexAddr ?_ | refine L_build ?_ | refine L_extract ?_ | refine L_c_len ?_ | refine L_un_not ?_ | refine L_bin_eql ?_ | refine L_bin_lss ?_ | refine L_bin_geq ?_ | refine L_bin_add_i64 ?_ | refine L_bin_add_r ?_ | refine L_bin_sub_i64 ?_ | refine L_bin_sub_r ?_ | ((with_reducible apply gL_box); (first | (refine JL_mc rfl xR xR (al_boxA xR) ?_; intro _) | (refine JL_mc rfl xR xR (al_boxC xR xR) ?_; intro _) | fail)) | ((with_reducible apply gL_buildSlice); (first | (refine JL_mc rfl xR xR (al_bs1 xR (tabE etab_ok xR) xK) ?_; intro _) | (refine JL_mc rfl xR xR (al_bs xR (tabE etab_ok xR) xN xK) ?_; intro _) | fail)) | ((with_reducible apply gL_c_append); (first | (refine JL_ap1 (tabE etab_ok xR) xR xR xT xT xC xR xL xR xO xR xR ?_; intro _ _ _ _) | (refine JL_app (tabE etab_ok xR) xR xR xT xV xC xL xU xO xR xR ?_; intro _ _ _ _) | fail)) | ((with_reducible apply gL_go); (first | (refine JL_goq (get_o tb (ents u).length u q hq huw none hg) (hφ := xF) (h := ?_); rintro _ _ ⟨rfl, rfl⟩; try simp only [List.cons_append, List.nil_append]) | (refine JL_goq (put_o tb u q 7 0 m hE hq v7 huw hul) (hφ := xF) (h := ?_); rintro _ _ ⟨u1, hw1, he1, rfl, rfl⟩; try simp only [List.cons_append, List.nil_append]) | fail)) | ((with_reducible apply gL_gd); (first | (refine JL_guard xR xR ?_ ?_ <;> intro _ <;> (try (exfalso; first | contradiction | omega))) | (refine JL_guardb xR xR ?_ ?_ <;> (intro hgb; subst hgb)) | (refine JL_guardb xR xR ?_ ?_ <;> (intro hgb; fail_if_success (have : type_of% hgb := rfl))) | fail)) | fail)) | fail))
            refine J_again ⟨j + 1, u1, fs ++ [q], ad2, c2⟩ (by dsimp only; omega) ⟨by dsimp only; omega, by dsimp only; omega, ⟨hw1, by rw [he1]; exact hme⟩, by simp; omega, ?_, ?_⟩ ⟨rfl, rfl, rfl, by simp; rfl, rfl, trivial⟩ (fun w H => by dsimp only; rw [List.length_append]; exact H.sel (by (first | ((with_reducible (repeat (first | exact Sb.nil | apply Sb.cons | exact Tk.here | apply Tk.there))); done) | (repeat (first | exact Sb.nil | apply Sb.cons | exact Tk.here | apply Tk.there)))))
            · intro p hp
              rcases List.mem_append.1 hp with hp | hp
              · exact hfn p hp
              · obtain rfl := List.mem_singleton.1 hp; exact hq
            · dsimp only
              rw [undo_snoc, he1, hmm, drop_put hg]
              exact hun
          · have hmm : m = ents u := by
              have h3 := hE
              unfold putE at h3
              rw [hg] at h3
              split at h3
              · simp only [Option.isSome_none, Bool.false_eq_true, if_false] at h3
                split at h3
                · exact (congrArg Prod.snd h3).symm
                · exact absurd (congrArg Prod.fst h3).symm he
              · exact (congrArg Prod.snd h3).symm
            (repeat' (first | ((with_reducible apply gJ); (first | refine J_seq ?_ | refine J_reg ?_ | refine J_skip ?_ | refine J_block ?_ | refine J_blk ?_ | refine J_exit rfl ?_ | refine J_goto rfl ?_ | ((with_reducible apply gJ_if); (first | refine J_ift rfl ?_ | refine J_iff rfl ?_ | (refine J_if xR ?_ ?_ <;> intro _ <;> (try (exfalso; first | contradiction | omega))) | (refine J_ifb xR ?_ ?_ <;> (intro hgb; subst hgb)) | (refine J_ifb xR ?_ ?_ <;> intro _) | fail)) | refine J_label ?_ | fail)) | ((with_reducible apply gL); (first | refine JL_nil ?_ | ((with_reducible apply gL_gd); (first | refine JL_skip xR xR ?_ | fail)) | refine L_move ?_ | refine L_assign ?_ | refine L_load ?_ | refine L_pick ?_ | refine L_indexAddr ?_ | refine L_build ?_ | refine L_extract ?_ | refine L_c_len ?_ | refine L_un_not ?_ | refine L_bin_eql ?_ | refine L_bin_lss ?_ | refine L_bin_geq ?_ | refine L_bin_add_i64 ?_ | refine L_bin_add_r ?_ | refine L_bin_sub_i64 ?_ | refine L_bin_sub_r ?_ | ((with_reducible apply gL_box); (first | (refine JL_mc rfl xR xR (al_boxA xR) ?_; intro _) | (refine JL_mc rfl xR xR (al_boxC xR xR) ?_; intro _) | fail)) | ((with_reducible apply gL_buildSlice); (first | (refine JL_mc rfl xR xR (al_bs1 xR (tabE etab_ok xR) xK) ?_; intro _) | (refine JL_mc rfl xR xR (al_bs xR (tabE etab_ok xR) xN xK) ?_; intro _) | fail)) | ((with_reducible apply gL_c_append); (first | (refine JL_ap1 (tabE etab_ok xR) xR xR xT xT xC xR xL xR xO xR xR ?_; intro _ _ _ _) | (refine JL_app (tabE etab_ok xR) xR xR xT xV xC xL xU xO xR xR ?_; intro _ _ _ _) | fail)) | ((with_reducible apply gL_go); (first | (refine JL_goq (get_o tb (ents u).length u q hq huw none hg) (hφ := xF) (h := ?_); rintro _ _ ⟨rfl, rfl⟩; try simp only [List.cons_append, List.nil_append]) | (refine JL_goq (put_o tb u q 7 e m hE hq v7 huw hul) (hφ := xF) (h := ?_); rintro _ _ ⟨u1, hw1, he1, rfl, rfl⟩; try simp only [List.cons_append, List.nil_append]) | fail)) | ((with_reducible apply gL_gd); (first | (refine JL_guard xR xR ?_ ?_ <;> intro _ <;> (try (exfalso; first | contradiction | omega))) | (refine JL_guardb xR xR ?_ ?_ <;> (intro hgb; subst hgb)) | (refine JL_guardb xR xR ?_ ?_ <;> (intro hgb; fail_if_success (have : type_of% hgb := rfl))) | fail)) | fail)) | fail))
            exact J_again ⟨j + 1, u1, fs, fa, fc⟩ (by dsimp only; omega) ⟨by dsimp only; omega, by dsimp only; omega, ⟨hw1, by rw [he1]; exact hme⟩, by dsimp only; omega, hfn, by dsimp only; rw [he1, hmm]; exact hun⟩ ⟨rfl, rfl, rfl, rfl, rfl, trivial⟩ (fun w H => H.sel (by (first | ((with_reducible (repeat (first | exact Sb.nil | apply Sb.cons | exact Tk.here | apply Tk.there))); done) | (repeat (first | exact Sb.nil | apply Sb.cons | exact Tk.here | apply Tk.there)))))
        · (repeat' (first | ((with_reducible apply gJ); (first | refine J_seq ?_ | refine J_reg ?_ | refine J_skip ?_ | refine J_block ?_ | refine J_blk ?_ | refine J_exit rfl ?_ | refine J_goto rfl ?_ | ((with_reducible apply gJ_if); (first | refine J_ift rfl ?_ | refine J_iff rfl ?_ | (refine J_if xR ?_ ?_ <;> intro _ <;> (try (exfalso; first | contradiction | omega))) | (refine J_ifb xR ?_ ?_ <;> (intro hgb; subst hgb)) | (refine J_ifb xR ?_ ?_ <;> intro _) | fail)) | refine J_label ?_ | fail)) | ((with_reducible apply gL); (first | refine JL_nil ?_ | ((with_reducible apply gL_gd); (first | refine JL_skip xR xR ?_ | fail)) | refine L_move ?_ | refine L_assign ?_ | refine L_load ?_ | refine L_pick ?_ | refine L_indexAddr ?_ | refine L_build ?_ | refine L_extract ?_ | refine L_c_len ?_ | refine L_un_not ?_ | refine L_bin_eql ?_ | refine L_bin_lss ?_ | refine L_bin_geq ?_ | refine L_bin_add_i64 ?_ | refine L_bin_add_r ?_ | refine L_bin_sub_i64 ?_ | refine L_bin_sub_r ?_ | ((with_reducible apply gL_box); (first | (refine JL_mc rfl xR xR (al_boxA xR) ?_; intro _) | (refine JL_mc rfl xR xR (al_boxC xR xR) ?_; intro _) | fail)) | ((with_reducible apply gL_buildSlice); (first | (refine JL_mc rfl xR xR (al_bs1 xR (tabE etab_ok xR) xK) ?_; intro _) | (refine JL_mc rfl xR xR (al_bs xR (tabE etab_ok xR) xN xK) ?_; intro _) | fail)) | ((with_reducible apply gL_c_append); (first | (refine JL_ap1 (tabE etab_ok xR) xR xR xT xT xC xR xL xR xO xR xR ?_; intro _ _ _ _) | (refine JL_app (tabE etab_ok xR) xR xR xT xV xC xL xU xO xR xR ?_; intro _ _ _ _) | fail)) | ((with_reducible apply gL_go); (first | (refine JL_goq (get_o tb (ents u).length u q hq huw (some v0) hg) (hφ := xF) (h := ?_); rintro _ _ ⟨rfl, rfl⟩; try simp only [List.cons_append, List.nil_append]) | fail)) | ((with_reducible apply gL_gd); (first | (refine JL_guard xR xR ?_ ?_ <;> intro _ <;> (try (exfalso; first | contradiction | omega))) | (refine JL_guardb xR xR ?_ ?_ <;> (intro hgb; subst hgb)) | (refine JL_guardb xR xR ?_ ?_ <;> (intro hgb; fail_if_success (have : type_of% hgb := rfl))) | fail)) | fail)) | fail))
          exact J_again ⟨j + 1, u, fs, fa, fc⟩ (by dsimp only; omega) ⟨by dsimp only; omega, by dsimp only; omega, ⟨huw, hul⟩, by dsimp only; omega, hfn, hun⟩ ⟨rfl, rfl, rfl, rfl, rfl, trivial⟩ (fun w H => H.sel (by (first | ((with_reducible (repeat (first | exact Sb.nil | apply Sb.cons | exact Tk.here | apply Tk.there))); done) | (repeat (first | exact Sb.nil | apply Sb.cons | exact Tk.here | apply Tk.there)))))
      · (repeat' (first | ((with_reducible apply gJ); (first | refine J_seq ?_ | refine J_reg ?_ | refine J_skip ?_ | refine J_block ?_ | refine J_blk ?_ | refine J_exit rfl ?_ | refine J_goto rfl ?_ | ((with_reducible apply gJ_if); (first | refine J_ift rfl ?_ | refine J_iff rfl ?_ | (refine J_if xR ?_ ?_ <;> intro _ <;> (try (exfalso; first | contradiction | omega))) | (refine J_ifb xR ?_ ?_ <;> (intro hgb; subst hgb)) | (refine J_ifb xR ?_ ?_ <;> intro _) | fail)) | refine J_label ?_ | fail)) | ((with_reducible apply gL); (first | refine JL_nil ?_ | ((with_reducible apply gL_gd); (first | refine JL_skip xR xR ?_ | fail)) | refine L_move ?_ | refine L_assign ?_ | refine L_load ?_ | refine L_pick ?_ | refine L_indexAddr ?_ | refine L_build ?_ | refine L_extract ?_ | refine L_c_len ?_ | refine L_un_not ?_ | refine L_bin_eql ?_ | refine L_bin_lss ?_ | refine L_bin_geq ?_ | refine L_bin_add_i64 ?_ | refine L_bin_add_r ?_ | refine L_bin_sub_i64 ?_ | refine L_bin_sub_r ?_ | ((with_reducible apply gL_box); (first | (refine JL_mc rfl xR xR (al_boxA xR) ?_; intro _) | (refine JL_mc rfl xR xR (al_boxC xR xR) ?_; intro _) | fail)) | ((with_reducible apply gL_buildSlice); (first | (refine JL_mc rfl xR xR (al_bs1 xR (tabE etab_ok xR) xK) ?_; intro _) | (refine JL_mc rfl xR xR (al_bs xR (tabE etab_ok xR) xN xK) ?_; intro _) | fail)) | ((with_reducible apply gL_c_append); (first | (refine JL_ap1 (tabE etab_ok xR) xR xR xT xT xC xR xL xR xO xR xR ?_; intro _ _ _ _) | (refine JL_app (tabE etab_ok xR) xR xR xT xV xC xL xU xO xR xR ?_; intro _ _ _ _) | fail)) | ((with_reducible apply gL_gd); (first | (refine JL_guard xR xR ?_ ?_ <;> intro _ <;> (try (exfalso; first | contradiction | omega))) | (refine JL_guardb xR xR ?_ ?_ <;> (intro hgb; subst hgb)) | (refine JL_guardb xR xR ?_ ?_ <;> (intro hgb; fail_if_success (have : type_of% hgb := rfl))) | fail)) | fail)) | fail))
        all_goals (
          refine J_loop (α := Dn) ⟨fs.length, u⟩ (fun x => x.k) (fun x => x.k ≤ fs.length ∧ TrOk x.t ∧ undo (ents x.t) (fs.take x.k) = l) (fun x => [(5, .pointer (some ⟨tb, 0, none⟩)), (6, .pointer (some ⟨rb, 0, none⟩)), (8, .slice fa fs.length fc), (12, .int .i64 ((x.k : Int) - 1))])
            (fun x => [pts tb (trC (ptr x.t) (ents x.t).length true) 55, trP x.t, pts rb [.slice ad l.length c] 39, Ar 72 3 enC (.slice ad l.length c) l, Ar 31 2 pfC (.slice fa fs.length fc) fs]) ⟨Nat.le_refl _, ⟨huw, hul⟩, by dsimp only; rw [List.take_length]; exact hun⟩ ⟨rfl, rfl, rfl, rfl, trivial⟩ (fun w H => H.sel (by (first | ((with_reducible (repeat (first | exact Sb.nil | apply Sb.cons | exact Tk.here | apply Tk.there))); done) | (repeat (first | exact Sb.nil | apply Sb.cons | exact Tk.here | apply Tk.there))))) ?_
          rintro ⟨k, y⟩ ⟨hk, ⟨hyw, hyl⟩, hyu⟩
          dsimp only at hk hyw hyl hyu ⊢
          rcases k with _ | k
          · have hyl2 : ents y = l := by simpa [undo] using hyu
            subst hyl2
            (repeat' (first | ((with_reducible apply gJ); (first | refine J_seq ?_ | refine J_reg ?_ | refine J_skip ?_ | refine J_block ?_ | refine J_blk ?_ | refine J_exit rfl ?_ | refine J_goto rfl ?_ | ((with_reducible apply gJ_if); (first | refine J_ift rfl ?_ | refine J_iff rfl ?_ | (refine J_if xR ?_ ?_ <;> intro _ <;> (try (exfalso; first | contradiction | omega))) | (refine J_ifb xR ?_ ?_ <;> (intro hgb; subst hgb)) | (refine J_ifb xR ?_ ?_ <;> intro _) | fail)) | refine J_label ?_ | fail)) | ((with_reducible apply gL); (first | refine JL_nil ?_ | ((with_reducible apply gL_gd); (first | refine JL_skip xR xR ?_ | fail)) | refine L_move ?_ | refine L_assign ?_ | refine L_load ?_ | refine L_pick ?_ | refine L_indexAddr ?_ | refine L_build ?_ | refine L_extract ?_ | refine L_c_len ?_ | refine L_un_not ?_ | refine L_bin_eql ?_ | refine L_bin_lss ?_ | refine L_bin_geq ?_ | refine L_bin_add_i64 ?_ | refine L_bin_add_r ?_ | refine L_bin_sub_i64 ?_ | refine L_bin_sub_r ?_ | ((with_reducible apply gL_box); (first | (refine JL_mc rfl xR xR (al_boxA xR) ?_; intro _) | (refine JL_mc rfl xR xR (al_boxC xR xR) ?_; intro _) | fail)) | ((with_reducible apply gL_buildSlice); (first | (refine JL_mc rfl xR xR (al_bs1 xR (tabE etab_ok xR) xK) ?_; intro _) | (refine JL_mc rfl xR xR (al_bs xR (tabE etab_ok xR) xN xK) ?_; intro _) | fail)) | ((with_reducible apply gL_c_append); (first | (refine JL_ap1 (tabE etab_ok xR) xR xR xT xT xC xR xL xR xO xR xR ?_; intro _ _ _ _) | (refine JL_app (tabE etab_ok xR) xR xR xT xV xC xL xU xO xR xR ?_; intro _ _ _ _) | fail)) | ((with_reducible apply gL_go); (first | (refine JL_goq (alike_s tb rb ad c y ⟨hyw, hyl⟩) (hφ := xF) (h := ?_); rintro _ _ ⟨rfl, rfl⟩; try simp only [List.cons_append, List.nil_append]) | fail)) | ((with_reducible apply gL_gd); (first | (refine JL_guard xR xR ?_ ?_ <;> intro _ <;> (try (exfalso; first | contradiction | omega))) | (refine JL_guardb xR xR ?_ ?_ <;> (intro hgb; subst hgb)) | (refine JL_guardb xR xR ?_ ?_ <;> (intro hgb; fail_if_success (have : type_of% hgb := rfl))) | fail)) | fail)) | fail))
            exact J_ret1 rfl (by rfl) fun w H => ⟨_, ⟨rfl, rfl⟩, H.sel .nil⟩
          · obtain ⟨q, hsq⟩ : ∃ q, fs[k]? = some q := ⟨_, List.getElem?_eq_getElem hk⟩
            have hq := hfn q (List.mem_of_getElem? hsq)
            obtain ⟨m, hmd⟩ : ∃ m, dropL (ents y) q = m := ⟨_, rfl⟩
            have hml : m.length ≤ 4096 := by have := len_drop (ents y) q; rw [hmd] at this; omega
            have e1 : ((k + 1 : Nat) : Int) - 1 = k := by omega
            rw [e1]
            (repeat' (first | ((with_reducible apply gJ); (first | refine J_seq ?_ | refine J_reg ?_ | refine J_skip ?_ | refine J_block ?_ | refine J_blk ?_ | refine J_exit rfl ?_ | refine J_goto rfl ?_ | ((with_reducible apply gJ_if); (first | refine J_ift rfl ?_ | refine J_iff rfl ?_ | (refine J_if xR ?_ ?_ <;> intro _ <;> (try (exfalso; first | contradiction | omega))) | (refine J_ifb xR ?_ ?_ <;> (intro hgb; subst hgb)) | (refine J_ifb xR ?_ ?_ <;> intro _) | fail)) | refine J_label ?_ | fail)) | ((with_reducible apply gL); (first | refine JL_nil ?_ | ((with_reducible apply gL_gd); (first | refine JL_skip xR xR ?_ | fail)) | refine L_move ?_ | refine L_assign ?_ | refine L_load ?_ | refine L_pick ?_ | refine L_indexAddr ?_ | refine L_build ?_ | refine L_extract ?_ | refine L_c_len ?_ | refine L_un_not ?_ | refine L_bin_eql ?_ | refine L_bin_lss ?_ | refine L_bin_geq ?_ | refine L_bin_add_i64 ?_ | refine L_bin_add_r ?_ | refine L_bin_sub_i64 ?_ | refine L_bin_sub_r ?_ | ((with_reducible apply gL_box); (first | (refine JL_mc rfl xR xR (al_boxA xR) ?_; intro _) | (refine JL_mc rfl xR xR (al_boxC xR xR) ?_; intro _) | fail)) | ((with_reducible apply gL_buildSlice); (first | (refine JL_mc rfl xR xR (al_bs1 xR (tabE etab_ok xR) xK) ?_; intro _) | (refine JL_mc rfl xR xR (al_bs xR (tabE etab_ok xR) xN xK) ?_; intro _) | fail)) | ((with_reducible apply gL_c_append); (first | (refine JL_ap1 (tabE etab_ok xR) xR xR xT xT xC xR xL xR xO xR xR ?_; intro _ _ _ _) | (refine JL_app (tabE etab_ok xR) xR xR xT xV xC xL xU xO xR xR ?_; intro _ _ _ _) | fail)) | ((with_reducible apply gL_go); (first | (refine JL_goq (drop_o tb y q _ m rfl hmd hq hyw hyl) (hφ := xF) (h := ?_); rintro _ _ ⟨y1, hw1, he1, rfl, rfl⟩; try simp only [List.cons_append, List.nil_append]) | fail)) | ((with_reducible apply gL_gd); (first | (refine JL_guard xR xR ?_ ?_ <;> intro _ <;> (try (exfalso; first | contradiction | omega))) | (refine JL_guardb xR xR ?_ ?_ <;> (intro hgb; subst hgb)) | (refine JL_guardb xR xR ?_ ?_ <;> (intro hgb; fail_if_success (have : type_of% hgb := rfl))) | fail)) | fail)) | fail))
            refine J_again ⟨k, y1⟩ (by dsimp only; omega) ⟨by dsimp only; omega, ⟨hw1, by rw [he1]; exact hml⟩, ?_⟩ ⟨rfl, rfl, rfl, rfl, trivial⟩ (fun w H => H.sel (by (first | ((with_reducible (repeat (first | exact Sb.nil | apply Sb.cons | exact Tk.here | apply Tk.there))); done) | (repeat (first | exact Sb.nil | apply Sb.cons | exact Tk.here | apply Tk.there)))))
            dsimp only
            rw [take_snoc hsq, undo_snoc, hmd] at hyu
            rw [he1]
            exact hyu))
namespace trieUndone
theorem walk {W : World} (n0 : Nat) {a0 : Option Addr} {l0 c0 : Nat} (g0 : Rs Try.prog W n0 35 (Value.slice a0 l0 c0).cells.toList) (n1 : Nat) {a1 : Option Addr} {l1 c1 : Nat} (g1 : Rs Try.prog W n1 45 (Value.slice a1 l1 c1).cells.toList) :
    Calls Try.prog 5 #[.slice a0 l0 c0, .slice a1 l1 c1] W fun e w' => e = .returned (.bool true) ∧ Only [] W w' := by
  obtain ⟨acts, rfl, h1, h2, h3⟩ := acts_arg g0
  obtain ⟨more, rfl, h4, h5, h6⟩ := pfs_arg g1
  exact (undone_s a0 a1 c0 c1 acts more h2 h5 h1 h4).law (h3.and h6)
end trieUndone
namespace trieUndone
open Go.ChangeShapes Go.WideShapes Go.ChangeAt
set_option linter.unusedVariables false

theorem own : ownKnob Try.prog.godebug = none := by kernel_rfl
theorem laidOut : laidOutB Try.prog = true := by kernel_rfl

set_option maxRecDepth 100000 in
theorem lifted (os : Os) (started : os.Started) (H : Type) (enc : TypeId × Value → H) :
    ReturnsInHanded {} Try.checked os 5 .any (Rows.trieUndoneSpec.pre6 enc Try.prog Try.f5 Rows.trieUndoneRow.domain false) (Rows.trieUndoneSpec.post enc Try.prog Try.f5 false true false false) := by
  refine returnsInHanded_of_change_sized (C := Try.checked) own started (by kernel_rfl) Try.func5
    (ChangeSpec.witness6 (enc := enc) (C := Try.checked) false ⟨#[], #[.slice none 0 0, .slice none 0 0], []⟩ 8 (by kernel_rfl) (by kernel_rfl) (by kernel_rfl) (by kernel_rfl)) ?_
  intro W base args ds gs before hval0 hW hcnd hsz hreach
  have hval : ∀ (j : Nat) t v, Try.f5.params[j]? = some t → args[j]? = some v → Value.okWide Try.prog W .any base t v := hval0
  have hW' := hW
  obtain ⟨p, q, hA0, hV, rfl, hfz, hnd⟩ := hW
  have hA : DataW.TrodAll enc Try.prog W 0 (fun _ => true) true Try.f5.params.toList args.toList ds p := hA0
  rw [Try.params5] at hA hval
  obtain ⟨v0, vs0, d0, ds0, p0, q0, hargs, rfl, rfl, h0, r0⟩ := trodAll_cons hA
  obtain ⟨v1, vs1, d1, ds1, p1, q1, rfl, rfl, rfl, h1, r1⟩ := trodAll_cons r0
  obtain ⟨rfl, rfl, rfl⟩ := trodAll_nil r1
  obtain rfl : args = #[v0, v1] := by cases args; simp_all
  obtain ⟨rfl, rfl⟩ := trodVars_none hV
  have k0 := h0
  have lt0 : ∀ x ∈ p0, x.block < W.heap.size := by obtain ⟨m, hm⟩ := k0; exact DataW.trod_lt m _ _ _ hm
  obtain ⟨n0, g0⟩ := Rs.of_weights hsz 0 (by first | rfl | (simp [Try.params5])) rfl h0
  obtain ⟨a0, l0, c0, rfl⟩ := okWide_slice Try.underlying35 (hval 0 35 v0 rfl rfl)
  have k1 := h1
  have lt1 : ∀ x ∈ p1, x.block < W.heap.size := by obtain ⟨m, hm⟩ := k1; exact DataW.trod_lt m _ _ _ hm
  obtain ⟨n1, g1⟩ := Rs.of_weights hsz 1 (by first | rfl | (simp [Try.params5])) rfl h1
  obtain ⟨a1, l1, c1, rfl⟩ := okWide_slice Try.underlying45 (hval 1 45 v1 rfl rfl)
  refine (walk n0 g0 n1 g1).mono fun e W' ⟨he, hg⟩ => ?_
  subst he
  have bel := hg.belowNil
  exact ⟨_, rfl, _, _, _, [], _, [], hW', trodAll_mk1 (shut_bool Try.underlying4 _), (trodAll_cons_mk (Below.trod laidOut (by kernel_rfl) (of_decide_eq_true (by kernel_rfl)) k0 bel lt0) (trodAll_cons_mk (Below.trod laidOut (by kernel_rfl) (of_decide_eq_true (by kernel_rfl)) k1 bel lt1) trodAll_mk0)), rfl, bel.frame _, fun h => by cases h⟩

theorem over : Rows.trieUndoneRow.holds Try.pinned (OpenSpec.ofChange Rows.trieUndoneSpec) :=
  OpenClaim.holds_of_wide 5 Try.f5 rfl rfl rfl rfl rfl rfl rfl ⟨rfl, rfl, rfl, rfl, rfl⟩ rfl rfl rfl rfl rfl (by kernel_rfl) Try.func5 (by kernel_rfl)
    (of_decide_eq_true (by kernel_rfl)) (by unfold Func.isWrapper; first | (rw [if_pos (by decide +kernel)]; kernel_rfl) | (rw [if_neg (by decide +kernel)]; exact ⟨rfl, rfl⟩))
    (fun os started H enc _ => lifted os started H enc)

/-- The statement. -/
theorem proved : Rows.TrieUndoneSaid := over
#print axioms proved
end trieUndone
end Go.Proofs.Ytmimfjgnmmfhdaa
