/-
  The example; the laws TrieVoid and TrieFull.
-/
import Derived.Test.YtmimfjgnmmfhdaaTr15
namespace Go.Proofs.Ytmimfjgnmmfhdaa
set_option linter.unusedSimpArgs false
set_option linter.unusedVariables false
set_option maxRecDepth 20000
set_option maxHeartbeats 4000000
open Go.RowKit Go.Pm


theorem put_o (tb : Nat) (t : Tr) (p : Pf) (v : Int) (e : Int) (l : List Ent) (hE : putE (ents t) p v = (e, l)) (hp : PfN p) (hv : I64 v) (hw : wf (0, 0) t) (hn : (ents t).length ≤ 4096) : Pact Try.prog 12 #[.pointer (some ⟨tb, 0, none⟩), .agg (pfC p).toArray, .int .i64 v] (fun _ => True) [pts tb (trC (ptr t) (ents t).length true) 55, trP t]
    (fun u L' => ∃ t', wf (0, 0) t' ∧ ents t' = l ∧ u = .int .i64 e ∧ L' = TrieL tb (ents t').length t') := fun W K w hK H =>
  (put_s tb t p v hp hv hw hn W K w hK H).mono fun e' w' h => by
    obtain ⟨u, L', ⟨t', h1, h2, h3, h4⟩, h5, h6⟩ := h
    rw [hE] at h2 h3
    exact ⟨u, L', ⟨t', h1, h2, h3, h4⟩, h5, h6⟩
theorem drop_o (tb : Nat) (t : Tr) (p : Pf) (b : Bool) (l : List Ent) (hb : (getL (ents t) p).isSome = b) (hl : dropL (ents t) p = l) (hp : PfN p) (hw : wf (0, 0) t) (hn : (ents t).length ≤ 4096) : Pact Try.prog 14 #[.pointer (some ⟨tb, 0, none⟩), .agg (pfC p).toArray] (fun _ => True) [pts tb (trC (ptr t) (ents t).length true) 55, trP t]
    (fun u L' => ∃ t', wf (0, 0) t' ∧ ents t' = l ∧ u = .bool b ∧ L' = TrieL tb (ents t').length t') := fun W K w hK H =>
  (drop_s tb t p hp hw hn W K w hK H).mono fun e' w' h => by
    obtain ⟨u, L', ⟨t', h1, h2, h3, h4⟩, h5, h6⟩ := h
    rw [hb] at h3
    rw [hl] at h2
    exact ⟨u, L', ⟨t', h1, h2, h3, h4⟩, h5, h6⟩
theorem lon_o (tb : Nat) (n : Int) (t : Tr) (a : Int) (best : Pf) (any : Bool) (hl : LonOk (ents t) a best any) (ha : U32 a) (hw : wf (0, 0) t) : Pact Try.prog 16 #[.pointer (some ⟨tb, 0, none⟩), .int .u32 a] (fun _ => True) [pts tb (trC (ptr t) n true) 55, trP t] (fun u L' => u = .tuple [.agg (pfC best).toArray, .bool any].toArray ∧ L' = TrieL tb n t) := fun W K w hK H =>
  (longest_s tb n t a ha hw W K w hK H).mono fun e' w' h => by
    obtain ⟨u, L', ⟨b2, n2, h1, h2, h3⟩, h5, h6⟩ := h
    obtain ⟨rfl, rfl⟩ := lon_one hl h1
    exact ⟨u, L', ⟨h2, h3⟩, h5, h6⟩
theorem ex_lon : LonOk [((167772160, 8), 1), ((167837696, 16), 2)] 167838211 (167837696, 16) true := by
  refine ⟨fun _ => ⟨⟨2, by simp⟩, by decide +kernel, ?_⟩, fun h => by cases h⟩
  intro e he _
  simp only [List.mem_cons, List.not_mem_nil, or_false] at he
  rcases he with rfl | rfl
  · show (8 : Int) ≤ 16; omega
  · show (16 : Int) ≤ 16; omega
theorem works_s : Pact Try.prog 9 #[] (fun _ => True) [] (ret0 (.bool true)) := by
  refine pact Try.func9 rfl Try.ntmps9 rfl ?_
  intro W K _
  have n1 : PfN (167772160, 8) := by unfold PfN U32 I64; decide
  have n2 : PfN (167837696, 16) := by unfold PfN U32 I64; decide
  have n3 : I64 1 := by unfold I64; decide
  have n4 : I64 2 := by unfold I64; decide
  (repeat' (first | ((with_reducible apply gJ); (first | refine J_seq ?_ | refine J_reg ?_ | refine J_skip ?_ | refine J_block ?_ | refine J_blk ?_ | refine J_exit rfl ?_ | refine J_goto rfl ?_ | ((with_reducible apply gJ_if); (first | refine J_ift rfl ?_ | refine J_iff rfl ?_ | (refine J_if xR ?_ ?_ <;> intro _ <;> (try (exfalso; first | contradiction | omega))) | (refine J_ifb xR ?_ ?_ <;> (intro hgb; subst hgb)) | (refine J_ifb xR ?_ ?_ <;> intro _) | fail)) | refine J_label ?_ | fail)) | ((with_reducible apply gL); (first | refine JL_nil ?_ | ((with_reducible apply gL_gd); (first | refine JL_skip xR xR ?_ | fail)) | refine L_move ?_ | refine L_assign ?_ | refine L_load ?_ | refine L_pick ?_ | refine L_build ?_ | refine L_extract ?_ | refine L_bin_eql ?_ | ((with_reducible apply gL_alloc); (first | (refine JL_mc rfl xR xR (al_alloc xN xK) ?_; intro _) | fail)) | ((with_reducible apply gL_store); (first | refine JL_st xR xR xT xC xR xE xR ?_ | refine JL_stW xR xR xT xW xR xR xR ?_ | refine JL_stS xR xR xT xW xP xR xR ?_ | refine JL_stEl xR xR xT xR xL xR (tabS stab_ok xR) xR xR xO ?_ | fail)) | ((with_reducible apply gL_go); (first | (refine JL_goq (new_s) (hφ := xF) (h := ?_); rintro _ _ ⟨tb, rfl, rfl⟩; try simp only [List.cons_append, List.nil_append]) | fail)) | ((with_reducible apply gL_gd); (first | (refine JL_guard xR xR ?_ ?_ <;> intro _ <;> (try (exfalso; first | contradiction | omega))) | (refine JL_guardb xR xR ?_ ?_ <;> (intro hgb; subst hgb)) | (refine JL_guardb xR xR ?_ ?_ <;> (intro hgb; fail_if_success (have : type_of% hgb := rfl))) | fail)) | fail)) | fail))
  refine JL_heap (L' := [pts tb (trC (ptr .nil) (ents .nil).length true) 55, trP .nil]) (fun w H => H.sel (by (first | ((with_reducible (repeat (first | exact Sb.nil | apply Sb.cons | exact Tk.here | apply Tk.there))); done) | (repeat (first | exact Sb.nil | apply Sb.cons | exact Tk.here | apply Tk.there))))) ?_
  (repeat' (first | ((with_reducible apply gJ); (first | refine J_seq ?_ | refine J_reg ?_ | refine J_skip ?_ | refine J_block ?_ | refine J_blk ?_ | refine J_exit rfl ?_ | refine J_goto rfl ?_ | ((with_reducible apply gJ_if); (first | refine J_ift rfl ?_ | refine J_iff rfl ?_ | (refine J_if xR ?_ ?_ <;> intro _ <;> (try (exfalso; first | contradiction | omega))) | (refine J_ifb xR ?_ ?_ <;> (intro hgb; subst hgb)) | (refine J_ifb xR ?_ ?_ <;> intro _) | fail)) | refine J_label ?_ | fail)) | ((with_reducible apply gL); (first | refine JL_nil ?_ | ((with_reducible apply gL_gd); (first | refine JL_skip xR xR ?_ | fail)) | refine L_move ?_ | refine L_assign ?_ | refine L_load ?_ | refine L_pick ?_ | refine L_build ?_ | refine L_extract ?_ | refine L_bin_eql ?_ | ((with_reducible apply gL_alloc); (first | (refine JL_mc rfl xR xR (al_alloc xN xK) ?_; intro _) | fail)) | ((with_reducible apply gL_store); (first | refine JL_st xR xR xT xC xR xE xR ?_ | refine JL_stW xR xR xT xW xR xR xR ?_ | refine JL_stS xR xR xT xW xP xR xR ?_ | refine JL_stEl xR xR xT xR xL xR (tabS stab_ok xR) xR xR xO ?_ | fail)) | ((with_reducible apply gL_go); (first | (refine JL_goq (put_o tb .nil (167772160, 8) 1 0 [((167772160, 8), 1)] (by decide +kernel) n1 n3 trivial (by decide)) (hφ := xF) (h := ?_); rintro _ _ ⟨t1, hw1, he1, rfl, rfl⟩; try simp only [List.cons_append, List.nil_append]) | (refine JL_goq (put_o tb t1 (167837696, 16) 2 0 [((167772160, 8), 1), ((167837696, 16), 2)] (by rw [he1]; decide +kernel) n2 n4 hw1 (by rw [he1]; decide)) (hφ := xF) (h := ?_); rintro _ _ ⟨t2, hw2, he2, rfl, rfl⟩; try simp only [List.cons_append, List.nil_append]) | (refine JL_goq (lon_o tb (ents t2).length t2 167838211 (167837696, 16) true (by rw [he2]; exact ex_lon) (by unfold U32; decide) hw2) (hφ := xF) (h := ?_); rintro _ _ ⟨rfl, rfl⟩; try simp only [List.cons_append, List.nil_append]) | fail)) | ((with_reducible apply gL_gd); (first | (refine JL_guard xR xR ?_ ?_ <;> intro _ <;> (try (exfalso; first | contradiction | omega))) | (refine JL_guardb xR xR ?_ ?_ <;> (intro hgb; subst hgb)) | (refine JL_guardb xR xR ?_ ?_ <;> (intro hgb; fail_if_success (have : type_of% hgb := rfl))) | fail)) | fail)) | fail))
  exact J_ret1 rfl (by rfl) fun w H => ⟨[], ⟨rfl, rfl⟩, H.sel .nil⟩
theorem void_s (p : Pf) (a : Int) : Pact Try.prog 6 #[.agg (pfC p).toArray, .int .u32 a] (fun _ => True) [] (ret0 (.bool true)) := by
  refine pact Try.func6 rfl Try.ntmps6 rfl ?_
  intro W K _
  (repeat' (first | ((with_reducible apply gJ); (first | refine J_seq ?_ | refine J_reg ?_ | refine J_skip ?_ | refine J_block ?_ | refine J_blk ?_ | refine J_exit rfl ?_ | refine J_goto rfl ?_ | ((with_reducible apply gJ_if); (first | refine J_ift rfl ?_ | refine J_iff rfl ?_ | (refine J_if xR ?_ ?_ <;> intro _ <;> (try (exfalso; first | contradiction | omega))) | (refine J_ifb xR ?_ ?_ <;> (intro hgb; subst hgb)) | (refine J_ifb xR ?_ ?_ <;> intro _) | fail)) | refine J_label ?_ | refine J_draw (id := 9) [0, 1, 2, 3, 4, 5, 6, 7, 8, 9, 10, 11, 12, 13, 14, 15, 16, 17, 18, 19, 20, 21, 22, 23, 24, 25, 26, 27, 28, 29, 30, 31, 32, 33, 34, 35, 36, 37, 38, 41, 45, 52, 39, 40, 42, 43, 44, 46, 47, 48, 49, 50, 51, 53, 54, 55] [56, 57, 58, 59] mixed xC xD xD ?_ | fail)) | ((with_reducible apply gL); (first | refine JL_nil ?_ | refine L_move ?_ | refine L_assign ?_ | refine L_load ?_ | refine L_extract ?_ | refine L_un_not ?_ | ((with_reducible apply gL_box); (first | (refine JL_mc rfl xR xR (al_boxA xR) ?_; intro _) | (refine JL_mc rfl xR xR (al_boxC xR xR) ?_; intro _) | fail)) | ((with_reducible apply gL_alloc); (first | (refine JL_mc rfl xR xR (al_alloc xN xK) ?_; intro _) | fail)) | ((with_reducible apply gL_store); (first | refine JL_st xR xR xT xC xR xE xR ?_ | refine JL_stW xR xR xT xW xR xR xR ?_ | refine JL_stS xR xR xT xW xP xR xR ?_ | refine JL_stEl xR xR xT xR xL xR (tabS stab_ok xR) xR xR xO ?_ | fail)) | ((with_reducible apply gL_go); (first | (refine JL_goq (works_s) (hφ := xF) (h := ?_); rintro _ _ ⟨rfl, rfl⟩; try simp only [List.cons_append, List.nil_append]) | fail)) | fail)) | ((with_reducible apply gD); (first | (refine JD_nil ?_; try simp only [List.cons_append, List.nil_append]) | (refine JD_bar ?_; try simp only [List.cons_append, List.nil_append]) | ((with_reducible apply gD_gd); (first | refine JD_skip xR ?_ | fail)) | refine D_move ?_ | refine D_assign ?_ | refine D_load ?_ | refine D_pick ?_ | refine D_c_len ?_ | refine D_un_not ?_ | refine D_bin_eql ?_ | refine D_bin_add_i64 ?_ | refine D_bin_add_r ?_ | ((with_reducible apply gD_load); (first | refine JD_ldM xR xT xC xR xR ?_ | refine JD_ldWM xR xT xW xR ?_ | refine JD_ldSM xR xT (tabS stab_ok xR) xG xC xR ?_ | fail)) | ((with_reducible apply gD_go); (first | (refine JD_goq (works_s) (hφ := xF) (h := ?_); rintro _ _ ⟨rfl, rfl⟩; try simp only [List.cons_append, List.nil_append]) | fail)) | ((with_reducible apply gD_gd); (first | (refine JD_guard xR xR ?_ ?_ <;> intro _ <;> (try (exfalso; first | contradiction | omega))) | (refine JD_guardb xR xR ?_ ?_ <;> (intro hgb; subst hgb)) | (refine JD_guardb xR xR ?_ ?_ <;> (intro hgb; fail_if_success (have : type_of% hgb := rfl))) | fail)) | fail)) | fail))
  rename_i tb
  (repeat' (first | ((with_reducible apply gJ); (first | refine J_seq ?_ | refine J_reg ?_ | refine J_skip ?_ | refine J_block ?_ | refine J_blk ?_ | refine J_exit rfl ?_ | refine J_goto rfl ?_ | ((with_reducible apply gJ_if); (first | refine J_ift rfl ?_ | refine J_iff rfl ?_ | (refine J_if xR ?_ ?_ <;> intro _ <;> (try (exfalso; first | contradiction | omega))) | (refine J_ifb xR ?_ ?_ <;> (intro hgb; subst hgb)) | (refine J_ifb xR ?_ ?_ <;> intro _) | fail)) | refine J_label ?_ | refine J_draw (id := 9) [0, 1, 2, 3, 4, 5, 6, 7, 8, 9, 10, 11, 12, 13, 14, 15, 16, 17, 18, 19, 20, 21, 22, 23, 24, 25, 26, 27, 28, 29, 30, 31, 32, 33, 34, 35, 36, 37, 38, 41, 45, 52, 39, 40, 42, 43, 44, 46, 47, 48, 49, 50, 51, 53, 54, 55] [56, 57, 58, 59] mixed xC xD xD ?_ | fail)) | ((with_reducible apply gL); (first | refine JL_nil ?_ | refine L_move ?_ | refine L_assign ?_ | refine L_load ?_ | refine L_extract ?_ | refine L_un_not ?_ | ((with_reducible apply gL_box); (first | (refine JL_mc rfl xR xR (al_boxA xR) ?_; intro _) | (refine JL_mc rfl xR xR (al_boxC xR xR) ?_; intro _) | fail)) | ((with_reducible apply gL_alloc); (first | (refine JL_mc rfl xR xR (al_alloc xN xK) ?_; intro _) | fail)) | ((with_reducible apply gL_store); (first | refine JL_st xR xR xT xC xR xE xR ?_ | refine JL_stW xR xR xT xW xR xR xR ?_ | refine JL_stS xR xR xT xW xP xR xR ?_ | refine JL_stEl xR xR xT xR xL xR (tabS stab_ok xR) xR xR xO ?_ | fail)) | ((with_reducible apply gL_go); (first | (refine JL_goq (getnil_s p) (hφ := xF) (h := ?_); rintro _ _ ⟨rfl, rfl⟩; try simp only [List.cons_append, List.nil_append]) | (refine JL_goq (getvoid_s tb none 0 p) (hφ := xF) (h := ?_); rintro _ _ ⟨rfl, rfl⟩; try simp only [List.cons_append, List.nil_append]) | (refine JL_goq (lonnil_s a) (hφ := xF) (h := ?_); rintro _ _ ⟨rfl, rfl⟩; try simp only [List.cons_append, List.nil_append]) | (refine JL_goq (lonvoid_s tb a) (hφ := xF) (h := ?_); rintro _ _ ⟨rfl, rfl⟩; try simp only [List.cons_append, List.nil_append]) | (refine JL_goq (putnil_s p 1) (hφ := xF) (h := ?_); rintro _ _ ⟨rfl, rfl⟩; try simp only [List.cons_append, List.nil_append]) | (refine JL_goq (putvoid_s tb p 1) (hφ := xF) (h := ?_); rintro _ _ ⟨rfl, rfl⟩; try simp only [List.cons_append, List.nil_append]) | (refine JL_goq (dropnil_s p) (hφ := xF) (h := ?_); rintro _ _ ⟨rfl, rfl⟩; try simp only [List.cons_append, List.nil_append]) | (refine JL_goq (dropvoid_s tb p) (hφ := xF) (h := ?_); rintro _ _ ⟨rfl, rfl⟩; try simp only [List.cons_append, List.nil_append]) | (refine JL_goq (undnil_s p) (hφ := xF) (h := ?_); rintro _ _ ⟨rfl, rfl⟩; try simp only [List.cons_append, List.nil_append]) | (refine JL_goq (undvoid_s tb p) (hφ := xF) (h := ?_); rintro _ _ ⟨rfl, rfl⟩; try simp only [List.cons_append, List.nil_append]) | (refine JL_goq (allnil_s) (hφ := xF) (h := ?_); rintro _ _ ⟨rfl, rfl⟩; try simp only [List.cons_append, List.nil_append]) | (refine JL_goq (allvoid_s tb) (hφ := xF) (h := ?_); rintro _ _ ⟨rfl, rfl⟩; try simp only [List.cons_append, List.nil_append]) | (refine JL_goq (lennil_s) (hφ := xF) (h := ?_); rintro _ _ ⟨rfl, rfl⟩; try simp only [List.cons_append, List.nil_append]) | (refine JL_goq (len_s tb none 0 false) (hφ := xF) (h := ?_); rintro _ _ ⟨rfl, rfl⟩; try simp only [List.cons_append, List.nil_append]) | fail)) | fail)) | ((with_reducible apply gD); (first | (refine JD_nil ?_; try simp only [List.cons_append, List.nil_append]) | (refine JD_bar ?_; try simp only [List.cons_append, List.nil_append]) | ((with_reducible apply gD_gd); (first | refine JD_skip xR ?_ | fail)) | refine D_move ?_ | refine D_assign ?_ | refine D_load ?_ | refine D_pick ?_ | refine D_c_len ?_ | refine D_un_not ?_ | refine D_bin_eql ?_ | refine D_bin_add_i64 ?_ | refine D_bin_add_r ?_ | ((with_reducible apply gD_load); (first | refine JD_ldM xR xT xC xR xR ?_ | refine JD_ldWM xR xT xW xR ?_ | refine JD_ldSM xR xT (tabS stab_ok xR) xG xC xR ?_ | fail)) | ((with_reducible apply gD_go); (first | (refine JD_goq (getnil_s p) (hφ := xF) (h := ?_); rintro _ _ ⟨rfl, rfl⟩; try simp only [List.cons_append, List.nil_append]) | (refine JD_goq (getvoid_s tb none 0 p) (hφ := xF) (h := ?_); rintro _ _ ⟨rfl, rfl⟩; try simp only [List.cons_append, List.nil_append]) | (refine JD_goq (lonnil_s a) (hφ := xF) (h := ?_); rintro _ _ ⟨rfl, rfl⟩; try simp only [List.cons_append, List.nil_append]) | (refine JD_goq (lonvoid_s tb a) (hφ := xF) (h := ?_); rintro _ _ ⟨rfl, rfl⟩; try simp only [List.cons_append, List.nil_append]) | (refine JD_goq (putnil_s p 1) (hφ := xF) (h := ?_); rintro _ _ ⟨rfl, rfl⟩; try simp only [List.cons_append, List.nil_append]) | (refine JD_goq (putvoid_s tb p 1) (hφ := xF) (h := ?_); rintro _ _ ⟨rfl, rfl⟩; try simp only [List.cons_append, List.nil_append]) | (refine JD_goq (dropnil_s p) (hφ := xF) (h := ?_); rintro _ _ ⟨rfl, rfl⟩; try simp only [List.cons_append, List.nil_append]) | (refine JD_goq (dropvoid_s tb p) (hφ := xF) (h := ?_); rintro _ _ ⟨rfl, rfl⟩; try simp only [List.cons_append, List.nil_append]) | (refine JD_goq (undnil_s p) (hφ := xF) (h := ?_); rintro _ _ ⟨rfl, rfl⟩; try simp only [List.cons_append, List.nil_append]) | (refine JD_goq (undvoid_s tb p) (hφ := xF) (h := ?_); rintro _ _ ⟨rfl, rfl⟩; try simp only [List.cons_append, List.nil_append]) | (refine JD_goq (allnil_s) (hφ := xF) (h := ?_); rintro _ _ ⟨rfl, rfl⟩; try simp only [List.cons_append, List.nil_append]) | (refine JD_goq (allvoid_s tb) (hφ := xF) (h := ?_); rintro _ _ ⟨rfl, rfl⟩; try simp only [List.cons_append, List.nil_append]) | (refine JD_goq (lennil_s) (hφ := xF) (h := ?_); rintro _ _ ⟨rfl, rfl⟩; try simp only [List.cons_append, List.nil_append]) | (refine JD_goq (len_s tb none 0 false) (hφ := xF) (h := ?_); rintro _ _ ⟨rfl, rfl⟩; try simp only [List.cons_append, List.nil_append]) | fail)) | ((with_reducible apply gD_gd); (first | (refine JD_guard xR xR ?_ ?_ <;> intro _ <;> (try (exfalso; first | contradiction | omega))) | (refine JD_guardb xR xR ?_ ?_ <;> (intro hgb; subst hgb)) | (refine JD_guardb xR xR ?_ ?_ <;> (intro hgb; fail_if_success (have : type_of% hgb := rfl))) | fail)) | fail)) | fail))
  exact J_ret1 rfl (by rfl) fun w H => ⟨[], ⟨rfl, rfl⟩, H.sel .nil⟩
/-! TrieFull. -/
def fullL (i : Nat) : List Ent := (List.range i).map fun k : Nat => ((((k * 65536 : Nat) : Int), (16 : Int)), (k : Int))
theorem fullL_mem {i : Nat} {e : Ent} : e ∈ fullL i ↔ ∃ k, k < i ∧ e = ((((k * 65536 : Nat) : Int), (16 : Int)), (k : Int)) := by
  unfold fullL
  simp only [List.mem_map, List.mem_range]
  constructor
  · rintro ⟨k, h1, h2⟩; exact ⟨k, h1, h2.symm⟩
  · rintro ⟨k, h1, h2⟩; exact ⟨k, h1, h2.symm⟩
theorem fullL_len (i : Nat) : (fullL i).length = i := by simp [fullL]
theorem fullL_get {i : Nat} (a l : Int) (h : ∀ k, k < i → ¬ (((k * 65536 : Nat) : Int) = a ∧ (16 : Int) = l)) : getL (fullL i) (a, l) = none := getL_none.2 fun e he => by
  obtain ⟨k, h1, rfl⟩ := fullL_mem.1 he
  intro h2
  exact h k h1 ⟨congrArg Prod.fst h2, congrArg Prod.snd h2⟩
theorem putL_end : ∀ {l : List Ent} {p : Pf} {v : Int}, (∀ e ∈ l, Ah e.1 p) → putL l p v = l ++ [(p, v)]
  | [], _, _, _ => rfl
  | x :: r, p, v, h => by
    unfold putL
    rw [if_pos (h x (by simp)), putL_end fun e he => h e (List.mem_cons_of_mem _ he)]
    rfl
theorem full_rt (k : Nat) : Rt (((k * 65536 : Nat) : Int), 16) := by
  refine ⟨by show (0 : Int) ≤ 16; omega, by show (16 : Int) ≤ 32; omega, ?_⟩
  show ((k * 65536 : Nat) : Int) % pw 16 = 0
  have : pw 16 = 65536 := rfl
  rw [this]
  omega
theorem full_put (i : Nat) (h : i < 4096) : putE (fullL i) (((i * 65536 : Nat) : Int), 16) i = (0, fullL (i + 1)) := by
  unfold putE
  rw [if_pos (full_rt i), fullL_get _ _ (by intro k hk; omega), fullL_len]
  simp only [Option.isSome_none, Bool.false_eq_true, if_false]
  rw [if_neg (by omega), putL_end]
  · simp [fullL, List.range_succ]
  · intro e he
    obtain ⟨k, h1, rfl⟩ := fullL_mem.1 he
    left
    show ((k * 65536 : Nat) : Int) < ((i * 65536 : Nat) : Int)
    omega
theorem full_no (i : Nat) (h : 4096 ≤ i) : putE (fullL 4096) (((i * 65536 : Nat) : Int), 16) i = (4, fullL 4096) := by
  unfold putE
  rw [if_pos (full_rt i), fullL_get _ _ (by intro k hk; omega), fullL_len]
  simp
structure Fl where
  i : Nat
  t : Tr
end Go.Proofs.Ytmimfjgnmmfhdaa
