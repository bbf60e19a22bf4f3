/-
  StoreOften: what is freed as often as it was kept is gone, and its number never comes again.
-/
import Derived.Test.YtimamemekdmpeaaAs21
import Derived.HandedShaped
namespace Go.Proofs.Ytimamemekdmpeaa
set_option linter.unusedSimpArgs false
set_option linter.unusedVariables false
set_option maxRecDepth 20000
set_option maxHeartbeats 4000000
open Go.RowKit Go.Pm

theorem free_e (B : Int) (hB : B ≤ 1000000000) (sp : Nat) (S S' : List En) (c id er' : Int) (hs : StOk B S c) (h : freeF S id = (S', er')) : Pact Try.prog 15 #[.pointer (some ⟨sp, 0, none⟩), .int .i64 id] (fun _ => True) [stoA sp S c] (fun u L' => u = .int .i64 er' ∧ L' = [stoA sp S' c]) := by
  have := free_s B hB sp S c id hs
  rw [h] at this
  exact this
/-- One thing, kept so often. -/
def onS (x : Nf) (k : Nat) : List En := if k = 0 then [] else [⟨1, k, x⟩]
def onC (k : Nat) : Int := if k = 0 then 0 else 1
theorem onS_ok {x : Nf} (hx : okN x = true) (hn : NfN x) (k : Nat) (c : Int) (hk : k ≤ 1000) (hc : c = 0 ∧ k = 0 ∨ c = 1) : StOk 1000 (onS x k) c := by
  unfold onS
  split
  · exact ⟨by omega, by simp, by simp, by simp, .nil, .nil, by simp⟩
  · refine ⟨by omega, ?_, ?_, ?_, List.pairwise_singleton _ _, List.pairwise_singleton _ _, by simp⟩
    · intro e he; obtain rfl := List.mem_singleton.1 he; dsimp only; omega
    · intro e he; obtain rfl := List.mem_singleton.1 he; dsimp only; omega
    · intro e he; obtain rfl := List.mem_singleton.1 he; exact ⟨hx, hn⟩
theorem on_keep {x : Nf} (hx : okN x = true) (k : Nat) : keepF (onS x k) (onC k) x = ((onS x (k + 1), 1), 1, 0) := by
  unfold keepF
  rw [hx]
  unfold fndX onS onC
  by_cases hk : k = 0
  · subst hk
    rfl
  · rw [if_neg hk]
    simp [hk]
theorem on_free {x : Nf} (k : Nat) : freeF (onS x (k + 1)) 1 = (onS x k, 0) := by
  unfold freeF fnd onS
  by_cases hk : k = 0
  · subst hk; simp
  · have h1 : ((k : Int) + 1 = 1) = False := by simp; omega
    simp [hk, h1]
theorem keep_last {x : Nf} (hx : okN x = true) : keepF (onS x 0) 1 x = (([⟨2, 1, x⟩], 2), 2, 0) := by
  unfold keepF
  rw [hx]
  rfl
theorem free_last {x : Nf} : freeF [⟨2, 1, x⟩] 1 = ([⟨2, 1, x⟩], 5) := by
  unfold freeF fnd
  simp
theorem check_b (d : At) (hd : AtF d) (b : Bool) (hb : okN d.nf = b) : Pact Try.prog 11 #[.agg (atC d).toArray] (fun w => AtV w d) [] (ret0 (.int .i64 (er b))) := by
  subst hb
  exact rcheck_s d hd
theorem often_s (d0 : At) (hN : AtN d0) (n : Int) (hn : I64 n) : Pact Try.prog 5 #[.agg (atC d0).toArray, .int .i64 n] (fun w => AtV w d0) [] (ret0 (.bool true)) := by
  refine pact Try.func5 rfl Try.ntmps5 rfl ?_
  intro W K hK
  (repeat' (first | ((with_reducible apply gJ); (first | refine J_seq ?_ | refine J_reg ?_ | refine J_skip ?_ | refine J_block ?_ | refine J_blk ?_ | refine J_exit rfl ?_ | refine J_goto rfl ?_ | ((with_reducible apply gJ_if); (first | refine J_ift rfl ?_ | refine J_iff rfl ?_ | (refine J_if xR ?_ ?_ <;> intro _ <;> (try (exfalso; first | contradiction | omega))) | (refine J_ifb xR ?_ ?_ <;> (intro hgb; subst hgb)) | (refine J_ifb xR ?_ ?_ <;> intro _) | fail)) | refine J_label ?_ | fail)) | ((with_reducible apply gL); (first | refine JL_nil ?_ | ((with_reducible apply gL_gd); (first | refine JL_skip xR xR ?_ | fail)) | refine L_move ?_ | refine L_assign ?_ | refine L_load ?_ | refine L_pick ?_ | refine L_extract ?_ | refine L_un_not ?_ | refine L_bin_eql ?_ | refine L_bin_neq ?_ | refine L_bin_lss ?_ | refine L_bin_add_i64 ?_ | refine L_bin_add_r ?_ | refine L_bin_sub_i64 ?_ | refine L_bin_sub_r ?_ | ((with_reducible apply gL_box); (first | (refine JL_mc rfl xR xR (al_boxA xR) ?_; intro _) | (refine JL_mc rfl xR xR (al_boxC xR xR) ?_; intro _) | fail)) | ((with_reducible apply gL_alloc); (first | (refine JL_mc rfl xR xR (al_alloc xN xK) ?_; intro _) | fail)) | ((with_reducible apply gL_store); (first | refine JL_st xR xR xT xC xR xE xR ?_ | refine JL_stW xR xR xT xW xR xR xR ?_ | refine JL_stS xR xR xT xW xP xR xR ?_ | refine JL_stEl xR xR xT xR xL xR (tabS stab_ok xR) xR xR xO ?_ | fail)) | ((with_reducible apply gL_go); (first | (refine JL_goq (works_s) (hφ := xF) (h := ?_); rintro _ _ ⟨rfl, rfl⟩; try simp only [List.cons_append, List.nil_append]) | (refine JL_goq (few_s d0 hN) (hφ := (by (try simp only [List.cons_append, List.nil_append]); exact fun w hr => hK w hr.1)) (h := ?_); rintro _ _ ⟨d, hd, hx, rfl, rfl⟩; try simp only [List.cons_append, List.nil_append]) | (refine JL_goq (new_s) (hφ := xF) (h := ?_); rintro _ _ ⟨sp, rfl, rfl⟩; try simp only [List.cons_append, List.nil_append]) | (refine JL_goq (among_s n 20 (by omega) (by omega) hn) (hφ := xF) (h := ?_); rintro _ _ ⟨m, rfl, hm, rfl⟩; try simp only [List.cons_append, List.nil_append]) | fail)) | ((with_reducible apply gL_gd); (first | (refine JL_guard xR xR ?_ ?_ <;> intro _ <;> (try (exfalso; first | contradiction | omega))) | (refine JL_guardb xR xR ?_ ?_ <;> (intro hgb; subst hgb)) | (refine JL_guardb xR xR ?_ ?_ <;> (intro hgb; fail_if_success (have : type_of% hgb := rfl))) | fail)) | fail)) | fail))
  rename_i b0
  have hnf := At.nfN hd.num
  rcases hok : okN d.nf with _ | _
  · have hk0 : keepF [] 0 d.nf = (([], 0), 0, 2) := by unfold keepF; rw [hok]
    refine J_loop (α := Unit) () (fun _ => 0) (fun _ => True) (fun _ => [(1, .int .i64 (1 + m)), (2, .pointer (some ⟨b0, 0, none⟩)), (5, .pointer (some ⟨sp, 0, none⟩)), (7, .int .i64 0)]) (fun _ => [stoA sp [] 0, has (fun w => AtV w d), pts b0 (atC d) 28]) trivial ⟨rfl, rfl, rfl, rfl, trivial⟩ (fun w H => H.sel (by (first | ((with_reducible (repeat (first | exact Sb.nil | apply Sb.cons | exact Tk.here | apply Tk.there))); done) | (repeat (first | exact Sb.nil | apply Sb.cons | exact Tk.here | apply Tk.there))))) ?_
    rintro ⟨⟩ _
    (repeat' (first | ((with_reducible apply gJ); (first | refine J_seq ?_ | refine J_reg ?_ | refine J_skip ?_ | refine J_block ?_ | refine J_blk ?_ | refine J_exit rfl ?_ | refine J_goto rfl ?_ | ((with_reducible apply gJ_if); (first | refine J_ift rfl ?_ | refine J_iff rfl ?_ | (refine J_if xR ?_ ?_ <;> intro _ <;> (try (exfalso; first | contradiction | omega))) | (refine J_ifb xR ?_ ?_ <;> (intro hgb; subst hgb)) | (refine J_ifb xR ?_ ?_ <;> intro _) | fail)) | refine J_label ?_ | fail)) | ((with_reducible apply gL); (first | refine JL_nil ?_ | ((with_reducible apply gL_gd); (first | refine JL_skip xR xR ?_ | fail)) | refine L_move ?_ | refine L_assign ?_ | refine L_load ?_ | refine L_pick ?_ | refine L_extract ?_ | refine L_un_not ?_ | refine L_bin_eql ?_ | refine L_bin_neq ?_ | refine L_bin_lss ?_ | refine L_bin_add_i64 ?_ | refine L_bin_add_r ?_ | refine L_bin_sub_i64 ?_ | refine L_bin_sub_r ?_ | ((with_reducible apply gL_box); (first | (refine JL_mc rfl xR xR (al_boxA xR) ?_; intro _) | (refine JL_mc rfl xR xR (al_boxC xR xR) ?_; intro _) | fail)) | ((with_reducible apply gL_alloc); (first | (refine JL_mc rfl xR xR (al_alloc xN xK) ?_; intro _) | fail)) | ((with_reducible apply gL_store); (first | refine JL_st xR xR xT xC xR xE xR ?_ | refine JL_stW xR xR xT xW xR xR xR ?_ | refine JL_stS xR xR xT xW xP xR xR ?_ | refine JL_stEl xR xR xT xR xL xR (tabS stab_ok xR) xR xR xO ?_ | fail)) | ((with_reducible apply gL_go); (first | (refine JL_goq (keep_e 0 (by omega) (by omega) sp _ _ _ _ _ _ d hd stok_nil hk0) (hφ := (by (try simp only [List.cons_append, List.nil_append]); exact fun w hr => hr.has (φ := fun w => AtV w d) (by (first | ((with_reducible (repeat (first | exact Tk.here | apply Tk.there))); done) | ((simp only [List.cons_append, List.nil_append]); (with_reducible (repeat (first | exact Tk.here | apply Tk.there))); done) | fail)))) (h := ?_); rintro _ _ ⟨rfl, rfl⟩; try simp only [List.cons_append, List.nil_append]) | (refine JL_goq (check_b d hd false hok) (hφ := (by (try simp only [List.cons_append, List.nil_append]); exact fun w hr => hr.has (φ := fun w => AtV w d) (by (first | ((with_reducible (repeat (first | exact Tk.here | apply Tk.there))); done) | ((simp only [List.cons_append, List.nil_append]); (with_reducible (repeat (first | exact Tk.here | apply Tk.there))); done) | fail)))) (h := ?_); rintro _ _ ⟨rfl, rfl⟩; try simp only [List.cons_append, List.nil_append]) | fail)) | ((with_reducible apply gL_gd); (first | (refine JL_guard xR xR ?_ ?_ <;> intro _ <;> (try (exfalso; first | contradiction | omega))) | (refine JL_guardb xR xR ?_ ?_ <;> (intro hgb; subst hgb)) | (refine JL_guardb xR xR ?_ ?_ <;> (intro hgb; fail_if_success (have : type_of% hgb := rfl))) | fail)) | fail)) | fail))
    exact J_ret1 rfl (by rfl) fun w H => ⟨_, ⟨rfl, rfl⟩, H.sel .nil⟩
  · refine J_loop (α := Nat) 0 (fun x => 1 + m - x) (fun x => x ≤ 1 + m) (fun x => [(1, .int .i64 (1 + m)), (2, .pointer (some ⟨b0, 0, none⟩)), (5, .pointer (some ⟨sp, 0, none⟩)), (6, .int .i64 (onC x)), (7, .int .i64 x)]) (fun x => [stoA sp (onS d.nf x) (onC x), has (fun w => AtV w d), pts b0 (atC d) 28]) (Nat.zero_le _) ⟨rfl, rfl, rfl, rfl, rfl, trivial⟩ (fun w H => H.sel (by (first | ((with_reducible (repeat (first | exact Sb.nil | apply Sb.cons | exact Tk.here | apply Tk.there))); done) | (repeat (first | exact Sb.nil | apply Sb.cons | exact Tk.here | apply Tk.there))))) ?_
    intro k hk
    by_cases hlt : k < 1 + m
    · have hs := onS_ok hok hnf k (onC k) (by omega) (by unfold onC; split <;> omega)
      (repeat' (first | ((with_reducible apply gJ); (first | refine J_seq ?_ | refine J_reg ?_ | refine J_skip ?_ | refine J_block ?_ | refine J_blk ?_ | refine J_exit rfl ?_ | refine J_goto rfl ?_ | ((with_reducible apply gJ_if); (first | refine J_ift rfl ?_ | refine J_iff rfl ?_ | (refine J_if xR ?_ ?_ <;> intro _ <;> (try (exfalso; first | contradiction | omega))) | (refine J_ifb xR ?_ ?_ <;> (intro hgb; subst hgb)) | (refine J_ifb xR ?_ ?_ <;> intro _) | fail)) | refine J_label ?_ | fail)) | ((with_reducible apply gL); (first | refine JL_nil ?_ | ((with_reducible apply gL_gd); (first | refine JL_skip xR xR ?_ | fail)) | refine L_move ?_ | refine L_assign ?_ | refine L_load ?_ | refine L_pick ?_ | refine L_extract ?_ | refine L_un_not ?_ | refine L_bin_eql ?_ | refine L_bin_neq ?_ | refine L_bin_lss ?_ | refine L_bin_add_i64 ?_ | refine L_bin_add_r ?_ | refine L_bin_sub_i64 ?_ | refine L_bin_sub_r ?_ | ((with_reducible apply gL_box); (first | (refine JL_mc rfl xR xR (al_boxA xR) ?_; intro _) | (refine JL_mc rfl xR xR (al_boxC xR xR) ?_; intro _) | fail)) | ((with_reducible apply gL_alloc); (first | (refine JL_mc rfl xR xR (al_alloc xN xK) ?_; intro _) | fail)) | ((with_reducible apply gL_store); (first | refine JL_st xR xR xT xC xR xE xR ?_ | refine JL_stW xR xR xT xW xR xR xR ?_ | refine JL_stS xR xR xT xW xP xR xR ?_ | refine JL_stEl xR xR xT xR xL xR (tabS stab_ok xR) xR xR xO ?_ | fail)) | ((with_reducible apply gL_go); (first | (refine JL_goq (keep_e 1000 (by omega) (by omega) sp _ _ _ _ _ _ d hd hs (on_keep hok k)) (hφ := (by (try simp only [List.cons_append, List.nil_append]); exact fun w hr => hr.has (φ := fun w => AtV w d) (by (first | ((with_reducible (repeat (first | exact Tk.here | apply Tk.there))); done) | ((simp only [List.cons_append, List.nil_append]); (with_reducible (repeat (first | exact Tk.here | apply Tk.there))); done) | fail)))) (h := ?_); rintro _ _ ⟨rfl, rfl⟩; try simp only [List.cons_append, List.nil_append]) | fail)) | ((with_reducible apply gL_gd); (first | (refine JL_guard xR xR ?_ ?_ <;> intro _ <;> (try (exfalso; first | contradiction | omega))) | (refine JL_guardb xR xR ?_ ?_ <;> (intro hgb; subst hgb)) | (refine JL_guardb xR xR ?_ ?_ <;> (intro hgb; fail_if_success (have : type_of% hgb := rfl))) | fail)) | fail)) | fail))
      refine J_again (k + 1) (by omega) (by omega) ⟨rfl, rfl, rfl, rfl, rfl, trivial⟩ (fun w H => H.sel (by (first | ((with_reducible (repeat (first | exact Sb.nil | apply Sb.cons | exact Tk.here | apply Tk.there))); done) | (repeat (first | exact Sb.nil | apply Sb.cons | exact Tk.here | apply Tk.there)))))
    · have hke : k = 1 + m := by omega
      have hc1 : onC k = 1 := by unfold onC; rw [if_neg (by omega)]
      rw [hc1, hke]
      (repeat' (first | ((with_reducible apply gJ); (first | refine J_seq ?_ | refine J_reg ?_ | refine J_skip ?_ | refine J_block ?_ | refine J_blk ?_ | refine J_exit rfl ?_ | refine J_goto rfl ?_ | ((with_reducible apply gJ_if); (first | refine J_ift rfl ?_ | refine J_iff rfl ?_ | (refine J_if xR ?_ ?_ <;> intro _ <;> (try (exfalso; first | contradiction | omega))) | (refine J_ifb xR ?_ ?_ <;> (intro hgb; subst hgb)) | (refine J_ifb xR ?_ ?_ <;> intro _) | fail)) | refine J_label ?_ | fail)) | ((with_reducible apply gL); (first | refine JL_nil ?_ | ((with_reducible apply gL_gd); (first | refine JL_skip xR xR ?_ | fail)) | refine L_move ?_ | refine L_assign ?_ | refine L_load ?_ | refine L_pick ?_ | refine L_extract ?_ | refine L_un_not ?_ | refine L_bin_eql ?_ | refine L_bin_neq ?_ | refine L_bin_lss ?_ | refine L_bin_add_i64 ?_ | refine L_bin_add_r ?_ | refine L_bin_sub_i64 ?_ | refine L_bin_sub_r ?_ | ((with_reducible apply gL_box); (first | (refine JL_mc rfl xR xR (al_boxA xR) ?_; intro _) | (refine JL_mc rfl xR xR (al_boxC xR xR) ?_; intro _) | fail)) | ((with_reducible apply gL_alloc); (first | (refine JL_mc rfl xR xR (al_alloc xN xK) ?_; intro _) | fail)) | ((with_reducible apply gL_store); (first | refine JL_st xR xR xT xC xR xE xR ?_ | refine JL_stW xR xR xT xW xR xR xR ?_ | refine JL_stS xR xR xT xW xP xR xR ?_ | refine JL_stEl xR xR xT xR xL xR (tabS stab_ok xR) xR xR xO ?_ | fail)) | ((with_reducible apply gL_gd); (first | (refine JL_guard xR xR ?_ ?_ <;> intro _ <;> (try (exfalso; first | contradiction | omega))) | (refine JL_guardb xR xR ?_ ?_ <;> (intro hgb; subst hgb)) | (refine JL_guardb xR xR ?_ ?_ <;> (intro hgb; fail_if_success (have : type_of% hgb := rfl))) | fail)) | fail)) | fail))
      refine J_loop (α := Nat) 0 (fun x => 1 + m - x) (fun x => x ≤ 1 + m) (fun x => [(1, .int .i64 (1 + m)), (2, .pointer (some ⟨b0, 0, none⟩)), (5, .pointer (some ⟨sp, 0, none⟩)), (6, .int .i64 1), (10, .int .i64 x)]) (fun x => [stoA sp (onS d.nf (1 + m - x)) 1, has (fun w => AtV w d), pts b0 (atC d) 28]) (Nat.zero_le _) ⟨rfl, rfl, rfl, rfl, rfl, trivial⟩ (fun w H => H.sel (by (first | ((with_reducible (repeat (first | exact Sb.nil | apply Sb.cons | exact Tk.here | apply Tk.there))); done) | (repeat (first | exact Sb.nil | apply Sb.cons | exact Tk.here | apply Tk.there))))) ?_
      intro j hj
      by_cases hjl : j < 1 + m
      · obtain ⟨q, hq⟩ : ∃ q, 1 + m - j = q + 1 := ⟨m - j, by omega⟩
        rw [hq]
        have hs := onS_ok hok hnf (q + 1) 1 (by omega) (.inr rfl)
        have hcn : cntF (onS d.nf (q + 1)) 1 = 1 + m - j := by
          unfold cntF fnd onS
          simp
          omega
        (repeat' (first | ((with_reducible apply gJ); (first | refine J_seq ?_ | refine J_reg ?_ | refine J_skip ?_ | refine J_block ?_ | refine J_blk ?_ | refine J_exit rfl ?_ | refine J_goto rfl ?_ | ((with_reducible apply gJ_if); (first | refine J_ift rfl ?_ | refine J_iff rfl ?_ | (refine J_if xR ?_ ?_ <;> intro _ <;> (try (exfalso; first | contradiction | omega))) | (refine J_ifb xR ?_ ?_ <;> (intro hgb; subst hgb)) | (refine J_ifb xR ?_ ?_ <;> intro _) | fail)) | refine J_label ?_ | fail)) | ((with_reducible apply gL); (first | refine JL_nil ?_ | ((with_reducible apply gL_gd); (first | refine JL_skip xR xR ?_ | fail)) | refine L_move ?_ | refine L_assign ?_ | refine L_load ?_ | refine L_pick ?_ | refine L_extract ?_ | refine L_un_not ?_ | refine L_bin_eql ?_ | refine L_bin_neq ?_ | refine L_bin_lss ?_ | refine L_bin_add_i64 ?_ | refine L_bin_add_r ?_ | refine L_bin_sub_i64 ?_ | refine L_bin_sub_r ?_ | ((with_reducible apply gL_box); (first | (refine JL_mc rfl xR xR (al_boxA xR) ?_; intro _) | (refine JL_mc rfl xR xR (al_boxC xR xR) ?_; intro _) | fail)) | ((with_reducible apply gL_alloc); (first | (refine JL_mc rfl xR xR (al_alloc xN xK) ?_; intro _) | fail)) | ((with_reducible apply gL_store); (first | refine JL_st xR xR xT xC xR xE xR ?_ | refine JL_stW xR xR xT xW xR xR xR ?_ | refine JL_stS xR xR xT xW xP xR xR ?_ | refine JL_stEl xR xR xT xR xL xR (tabS stab_ok xR) xR xR xO ?_ | fail)) | ((with_reducible apply gL_go); (first | (refine JL_goq (cnt_e sp _ _ 1 _ hcn) (hφ := xF) (h := ?_); rintro _ _ ⟨rfl, rfl⟩; try simp only [List.cons_append, List.nil_append]) | (refine JL_goq (free_e 1000 (by omega) sp _ _ _ 1 _ hs (on_free q)) (hφ := xF) (h := ?_); rintro _ _ ⟨rfl, rfl⟩; try simp only [List.cons_append, List.nil_append]) | fail)) | ((with_reducible apply gL_gd); (first | (refine JL_guard xR xR ?_ ?_ <;> intro _ <;> (try (exfalso; first | contradiction | omega))) | (refine JL_guardb xR xR ?_ ?_ <;> (intro hgb; subst hgb)) | (refine JL_guardb xR xR ?_ ?_ <;> (intro hgb; fail_if_success (have : type_of% hgb := rfl))) | fail)) | fail)) | fail))
        all_goals (first | (exfalso; omega) | skip)
        refine J_again (j + 1) (by omega) (by omega) ⟨rfl, rfl, rfl, rfl, rfl, trivial⟩ (fun w H => ?_)
        rw [show 1 + m - (j + 1) = q by omega]
        exact H.sel (by (first | ((with_reducible (repeat (first | exact Sb.nil | apply Sb.cons | exact Tk.here | apply Tk.there))); done) | (repeat (first | exact Sb.nil | apply Sb.cons | exact Tk.here | apply Tk.there))))
      · rw [show 1 + m - j = 0 by omega]
        have hs := onS_ok hok hnf 0 1 (by omega) (.inr rfl)
        have hs2 : StOk 1001 [⟨2, 1, d.nf⟩] 2 := hs.new (by omega) hok hnf (by simp [onS]) (by simp [onS])
        (repeat' (first | ((with_reducible apply gJ); (first | refine J_seq ?_ | refine J_reg ?_ | refine J_skip ?_ | refine J_block ?_ | refine J_blk ?_ | refine J_exit rfl ?_ | refine J_goto rfl ?_ | ((with_reducible apply gJ_if); (first | refine J_ift rfl ?_ | refine J_iff rfl ?_ | (refine J_if xR ?_ ?_ <;> intro _ <;> (try (exfalso; first | contradiction | omega))) | (refine J_ifb xR ?_ ?_ <;> (intro hgb; subst hgb)) | (refine J_ifb xR ?_ ?_ <;> intro _) | fail)) | refine J_label ?_ | fail)) | ((with_reducible apply gL); (first | refine JL_nil ?_ | ((with_reducible apply gL_gd); (first | refine JL_skip xR xR ?_ | fail)) | refine L_move ?_ | refine L_assign ?_ | refine L_load ?_ | refine L_pick ?_ | refine L_extract ?_ | refine L_un_not ?_ | refine L_bin_eql ?_ | refine L_bin_neq ?_ | refine L_bin_lss ?_ | refine L_bin_add_i64 ?_ | refine L_bin_add_r ?_ | refine L_bin_sub_i64 ?_ | refine L_bin_sub_r ?_ | ((with_reducible apply gL_box); (first | (refine JL_mc rfl xR xR (al_boxA xR) ?_; intro _) | (refine JL_mc rfl xR xR (al_boxC xR xR) ?_; intro _) | fail)) | ((with_reducible apply gL_alloc); (first | (refine JL_mc rfl xR xR (al_alloc xN xK) ?_; intro _) | fail)) | ((with_reducible apply gL_store); (first | refine JL_st xR xR xT xC xR xE xR ?_ | refine JL_stW xR xR xT xW xR xR xR ?_ | refine JL_stS xR xR xT xW xP xR xR ?_ | refine JL_stEl xR xR xT xR xL xR (tabS stab_ok xR) xR xR xO ?_ | fail)) | ((with_reducible apply gL_go); (first | (refine JL_goq (get_miss sp (onS d.nf 0) 1 1 (by simp [onS])) (hφ := xF) (h := ?_); rintro _ _ ⟨rfl, rfl⟩; try simp only [List.cons_append, List.nil_append]) | (refine JL_goq (keep_e 1000 (by omega) (by omega) sp _ _ _ _ _ _ d hd hs (keep_last hok)) (hφ := (by (try simp only [List.cons_append, List.nil_append]); exact fun w hr => hr.has (φ := fun w => AtV w d) (by (first | ((with_reducible (repeat (first | exact Tk.here | apply Tk.there))); done) | ((simp only [List.cons_append, List.nil_append]); (with_reducible (repeat (first | exact Tk.here | apply Tk.there))); done) | fail)))) (h := ?_); rintro _ _ ⟨rfl, rfl⟩; try simp only [List.cons_append, List.nil_append]) | (refine JL_goq (free_e 1001 (by omega) sp _ _ _ 1 _ hs2 free_last) (hφ := xF) (h := ?_); rintro _ _ ⟨rfl, rfl⟩; try simp only [List.cons_append, List.nil_append]) | (refine JL_goq (len_e sp _ _ 1 rfl) (hφ := xF) (h := ?_); rintro _ _ ⟨rfl, rfl⟩; try simp only [List.cons_append, List.nil_append]) | fail)) | ((with_reducible apply gL_gd); (first | (refine JL_guard xR xR ?_ ?_ <;> intro _ <;> (try (exfalso; first | contradiction | omega))) | (refine JL_guardb xR xR ?_ ?_ <;> (intro hgb; subst hgb)) | (refine JL_guardb xR xR ?_ ?_ <;> (intro hgb; fail_if_success (have : type_of% hgb := rfl))) | fail)) | fail)) | fail))
        exact J_ret1 rfl (by rfl) fun w H => ⟨_, ⟨rfl, rfl⟩, H.sel .nil⟩
namespace storeOften
theorem walk {W : World} (n0 : Nat) {cs0 : Array Value} (g0 : Rs Try.prog W n0 28 (Value.agg cs0).cells.toList) (n1 : Nat) {a1 : Int} (g1 : Rs Try.prog W n1 3 (Value.int .i64 a1).cells.toList) :
    Calls Try.prog 5 #[.agg cs0, .int .i64 a1] W fun e w' => e = .returned (.bool true) ∧ Only [] W w' := by
  obtain ⟨d, rfl, h1, h2⟩ := attrs_arg g0
  exact (often_s d h1 a1 (i64Arg Try.underlying3 g1)).law h2
end storeOften
namespace storeOften
open Go.ChangeShapes Go.WideShapes Go.ChangeAt
set_option linter.unusedVariables false

theorem own : ownKnob Try.prog.godebug = none := by kernel_rfl
theorem laidOut : laidOutB Try.prog = true := by kernel_rfl

set_option maxRecDepth 100000 in
theorem lifted (os : Os) (started : os.Started) (H : Type) (enc : TypeId × Value → H) :
    ReturnsInHanded {} Try.checked os 5 .any (Rows.storeOftenSpec.pre6 enc Try.prog Try.f5 Rows.storeOftenRow.domain false) (Rows.storeOftenSpec.post enc Try.prog Try.f5 false true false false) := by
  refine returnsInHanded_of_change_sized (C := Try.checked) own started (by kernel_rfl) Try.func5
    (ChangeSpec.witness6 (enc := enc) (C := Try.checked) false ⟨#[], #[.agg #[.int .i64 0, .slice none 0 0, .int .u32 0, .bool false, .int .u32 0, .bool false, .int .u32 0, .bool false, .bool false, .int .u32 0, .int .u32 0, .slice none 0 0, .slice none 0 0], .int .i64 0], []⟩ 8 (by kernel_rfl) (by kernel_rfl) (by kernel_rfl) (by kernel_rfl)) ?_
  intro W base args ds gs before hval0 hW hcnd hsz hreach
  have hval : ∀ (j : Nat) t v, Try.f5.params[j]? = some t → args[j]? = some v → Value.okWide Try.prog W .any base t v := hval0
  have hW' := hW
  obtain ⟨p, q, hA0, hV, rfl, hfz, hnd⟩ := hW
  have hA : DataW.TrodAll enc Try.prog W 0 (fun _ => true) true Try.f5.params.toList args.toList ds p := hA0
  rw [Try.params5] at hA hval
  obtain ⟨v0, vs0, d0, ds0, p0, q0, hargs, rfl, rfl, h0, r0⟩ := trodAll_cons hA
  obtain ⟨v1, vs1, d1, ds1, p1, q1, rfl, rfl, rfl, h1, r1⟩ := trodAll_cons r0
  obtain ⟨rfl, rfl, rfl⟩ := trodAll_nil r1
  obtain rfl : args = #[v0, v1] := by cases args; simp_all
  obtain ⟨rfl, rfl⟩ := trodVars_none hV
  have k0 := h0
  have lt0 : ∀ x ∈ p0, x.block < W.heap.size := by obtain ⟨m, hm⟩ := k0; exact DataW.trod_lt m _ _ _ hm
  obtain ⟨n0, g0⟩ := Rs.of_weights hsz 0 (by first | rfl | (simp [Try.params5])) rfl h0
  obtain ⟨cs0, rfl, hs0⟩ := okWide_struct Try.underlying28 (hval 0 28 v0 rfl rfl)
  have k1 := h1
  have lt1 : ∀ x ∈ p1, x.block < W.heap.size := by obtain ⟨m, hm⟩ := k1; exact DataW.trod_lt m _ _ _ hm
  obtain ⟨n1, g1⟩ := Rs.of_weights hsz 1 (by first | rfl | (simp [Try.params5])) rfl h1
  obtain ⟨a1, rfl⟩ := okWide_int Try.underlying3 (hval 1 3 v1 rfl rfl)
  refine (walk n0 g0 n1 g1).mono fun e W' ⟨he, hg⟩ => ?_
  subst he
  have bel := hg.belowNil
  exact ⟨_, rfl, _, _, _, [], _, [], hW', trodAll_mk1 (shut_bool Try.underlying4 _), (trodAll_cons_mk (Below.trod laidOut (by kernel_rfl) (of_decide_eq_true (by kernel_rfl)) k0 bel lt0) (trodAll_cons_mk (Below.trod laidOut (by kernel_rfl) (of_decide_eq_true (by kernel_rfl)) k1 bel lt1) trodAll_mk0)), rfl, bel.frame _, fun h => by cases h⟩

theorem over : Rows.storeOftenRow.holds Try.pinned (OpenSpec.ofChange Rows.storeOftenSpec) :=
  OpenClaim.holds_of_wide 5 Try.f5 rfl rfl rfl rfl rfl rfl rfl ⟨rfl, rfl, rfl, rfl, rfl⟩ rfl rfl rfl rfl rfl (by kernel_rfl) Try.func5 (by kernel_rfl)
    (of_decide_eq_true (by kernel_rfl)) (by unfold Func.isWrapper; first | (rw [if_pos (by decide +kernel)]; kernel_rfl) | (rw [if_neg (by decide +kernel)]; exact ⟨rfl, rfl⟩))
    (fun os started H enc _ => lifted os started H enc)

/-- The statement. -/
theorem proved : Rows.StoreOftenSaid := over
#print axioms proved
end storeOften
end Go.Proofs.Ytimamemekdmpeaa
