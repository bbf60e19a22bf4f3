/-
  Read, of bytes that are no message; addr.
-/
import Derived.Test.YtohahlcjkhgimaaAr20
namespace Go.Proofs.Ytohahlcjkhgimaa
set_option linter.unusedSimpArgs false
set_option linter.unusedVariables false
set_option maxRecDepth 20000
set_option maxHeartbeats 4000000
open Go.RowKit Go.Pm Go.Sort

abbrev ms0C : List Value := [.int .i64 0, .int .u8 0, .int .u8 0, .int .u8 0, .int .u8 0, .int .u8 0, .int .u8 0, .int .u32 0, .int .u8 0, .int .u8 0, .int .u8 0, .int .u8 0, .int .u8 0, .int .u8 0, .int .u32 0]
theorem readshort_s (a : Option Addr) (c n : Nat) (h28 : ¬ 28 ≤ n) : Pact Try.prog 20 #[.slice a n c] (fun _ => True) [] (ret0 (.tuple #[.agg ms0C.toArray, .int .i64 60])) := by
  refine pact Try.func20 rfl Try.ntmps20 rfl ?_
  intro W K hK
  (repeat' (first | ((with_reducible apply gJ); (first | refine J_seq ?_ | refine J_reg ?_ | refine J_skip ?_ | refine J_block ?_ | refine J_blk ?_ | refine J_exit rfl ?_ | refine J_goto rfl ?_ | ((with_reducible apply gJ_if); (first | refine J_ift rfl ?_ | refine J_iff rfl ?_ | (refine J_if xR ?_ ?_ <;> intro _ <;> (try (exfalso; first | contradiction | omega))) | (refine J_ifb xR ?_ ?_ <;> (intro hgb; subst hgb)) | (refine J_ifb xR ?_ ?_ <;> intro _) | fail)) | refine J_label ?_ | refine J_draw (id := 1) [0, 1, 2, 3, 4, 5, 6, 7, 8] [9, 10, 11, 12, 13, 14, 15, 16, 17, 18] mixed xC xD xD ?_ | fail)) | ((with_reducible apply gL); (first | refine JL_nil ?_ | refine L_move ?_ | refine L_assign ?_ | refine L_fieldAddr ?_ | refine L_load ?_ | refine L_indexAddr ?_ | refine L_build ?_ | refine L_extract ?_ | refine L_slice ?_ | refine L_convert_i64 ?_ | refine L_convert_r ?_ | ((with_reducible apply gL_alloc); (first | (refine JL_mc rfl xR xR (al_alloc xN xK) ?_; intro _) | fail)) | ((with_reducible apply gL_store); (first | refine JL_st xR xR xT xC xR xE xR ?_ | refine JL_stW xR xR xT xW xR xR xR ?_ | refine JL_stS xR xR xT xW xP xR xR ?_ | refine JL_stEl xR xR xT xR xL xR (tabS stab_ok xR) xR xR xO ?_ | fail)) | ((with_reducible apply gL_go); (first | (refine JL_goq (beginning_s) (hφ := xF) (h := ?_); rintro _ _ ⟨rfl, rfl⟩; try simp only [List.cons_append, List.nil_append]) | fail)) | fail)) | ((with_reducible apply gD); (first | (refine JD_nil ?_; try simp only [List.cons_append, List.nil_append]) | (refine JD_bar ?_; try simp only [List.cons_append, List.nil_append]) | ((with_reducible apply gD_gd); (first | refine JD_skip xR ?_ | fail)) | refine D_move ?_ | refine D_load ?_ | refine D_pick ?_ | refine D_indexAddr ?_ | refine D_c_len ?_ | refine D_un_not ?_ | refine D_bin_neq ?_ | refine D_bin_lss ?_ | refine D_slice ?_ | refine D_convert_i64 ?_ | refine D_convert_r ?_ | ((with_reducible apply gD_load); (first | refine JD_ldM xR xT xC xR xR ?_ | refine JD_ldWM xR xT xW xR ?_ | refine JD_ldSM xR xT (tabS stab_ok xR) xG xC xR ?_ | fail)) | ((with_reducible apply gD_indexAddr); (first | refine JD_ixM xR xR (tabE etab_ok xR) xT xI xO xR ?_ | refine JD_ixV xR xR (tabE etab_ok xR) xT xI xO xR ?_ | fail)) | ((with_reducible apply gD_go); (first | (refine JD_goq (beginning_s) (hφ := xF) (h := ?_); rintro _ _ ⟨rfl, rfl⟩; try simp only [List.cons_append, List.nil_append]) | fail)) | ((with_reducible apply gD_gd); (first | (refine JD_guard xR xR ?_ ?_ <;> intro _ <;> (try (exfalso; first | contradiction | omega))) | (refine JD_guardb xR xR ?_ ?_ <;> (intro hgb; subst hgb)) | (refine JD_guardb xR xR ?_ ?_ <;> (intro hgb; fail_if_success (have : type_of% hgb := rfl))) | fail)) | fail)) | fail))
  all_goals (first | (exfalso; omega) | skip)
  exact J_retC1 (cs := ms0C) rfl (by rfl) (by rfl) (by (first | ((with_reducible (repeat (first | exact Tk.here | apply Tk.there))); done) | ((simp only [List.cons_append, List.nil_append]); (with_reducible (repeat (first | exact Tk.here | apply Tk.there))); done) | fail)) (by rfl) fun w H => ⟨_, ⟨rfl, rfl⟩, H.sel .nil⟩
set_option maxRecDepth 4000 in
set_option maxHeartbeats 1000000 in
theorem readhead_s (a : Option Addr) (c n : Nat) (B : List Int) (hn : B.length = n) (h28 : 28 ≤ n) (hh : B.take 7 ≠ hdB) : Pact Try.prog 20 #[.slice a n c] (fun w => Vw w (.slice a n c) 1 n (flat byC B)) [] (ret0 (.tuple #[.agg ms0C.toArray, .int .i64 60])) := by
  refine pact Try.func20 rfl Try.ntmps20 rfl ?_
  intro W K hK
  refine J_fact (φ := ∃ b o, a = some ⟨b, o, none⟩ ∧ n ≤ c) (fun w H => ?_) ?_
  · obtain ⟨a', cap, he, _, h3, _, _, h5⟩ := hK.of H
    obtain ⟨b, o, he2, _⟩ := h5 (by intro e; have := congrArg List.length e; rw [flat_byC_len, List.length_nil] at this; omega)
    cases he
    exact ⟨b, o, he2, h3⟩
  rintro ⟨b, o, rfl, hc⟩
  obtain ⟨x0, x1, x2, x3, x4, x5, x6, h7⟩ := first7 (B := B) (by omega)
  have hrow : Kn K (fun w => w.rangeAt b o [.int .u8 x0, .int .u8 x1, .int .u8 x2, .int .u8 x3, .int .u8 x4, .int .u8 x5, .int .u8 x6]) := hK.imp fun w h => by
    have h1 := row_of h 7
    have e : (flat byC B).take 7 = [.int .u8 x0, .int .u8 x1, .int .u8 x2, .int .u8 x3, .int .u8 x4, .int .u8 x5, .int .u8 x6] := by
      have : flat byC B = flat byC (B.take 7) ++ flat byC (B.drop 7) := by rw [← flat_append, List.take_append_drop]
      rw [this, h7]
      rfl
    rw [e] at h1
    exact h1
  have hne : (!decide ([x0, x1, x2, x3, x4, x5, x6] = hdB)) = true := by rw [decide_eq_false (by rw [← h7]; exact hh)]; rfl
  (repeat' (first | ((with_reducible apply gJ); (first | refine J_seq ?_ | refine J_reg ?_ | refine J_skip ?_ | refine J_block ?_ | refine J_blk ?_ | refine J_exit rfl ?_ | refine J_goto rfl ?_ | ((with_reducible apply gJ_if); (first | refine J_ift rfl ?_ | refine J_iff rfl ?_ | (refine J_if xR ?_ ?_ <;> intro _ <;> (try (exfalso; first | contradiction | omega))) | (refine J_ifb xR ?_ ?_ <;> (intro hgb; subst hgb)) | (refine J_ifb xR ?_ ?_ <;> intro _) | fail)) | refine J_label ?_ | refine J_draw (id := 1) [0, 1, 2, 3, 4, 5, 6, 7, 8] [9, 10, 11, 12, 13, 14, 15, 16, 17, 18] mixed xC xD xD ?_ | fail)) | ((with_reducible apply gL); (first | refine JL_nil ?_ | ((with_reducible apply gL_load); (first | (first | refine JD_p rfl xR rfl (pe_ldKR xR hrow (by show rowTy Try.prog 84 7 = true; kernel_rfl)) ?_) | fail)) | refine L_move ?_ | refine L_assign ?_ | refine L_fieldAddr ?_ | refine L_load ?_ | refine L_indexAddr ?_ | refine L_build ?_ | refine L_extract ?_ | refine L_slice ?_ | refine L_convert_i64 ?_ | refine L_convert_r ?_ | ((with_reducible apply gL_alloc); (first | (refine JL_mc rfl xR xR (al_alloc xN xK) ?_; intro _) | fail)) | ((with_reducible apply gL_store); (first | refine JL_st xR xR xT xC xR xE xR ?_ | refine JL_stW xR xR xT xW xR xR xR ?_ | refine JL_stS xR xR xT xW xP xR xR ?_ | refine JL_stEl xR xR xT xR xL xR (tabS stab_ok xR) xR xR xO ?_ | fail)) | ((with_reducible apply gL_go); (first | (refine JL_goq (beginning_s) (hφ := xF) (h := ?_); rintro _ _ ⟨rfl, rfl⟩; try simp only [List.cons_append, List.nil_append]) | fail)) | fail)) | ((with_reducible apply gD); (first | (refine JD_nil ?_; try simp only [List.cons_append, List.nil_append]) | (refine JD_bar ?_; try simp only [List.cons_append, List.nil_append]) | ((with_reducible apply gD_gd); (first | refine JD_skip xR ?_ | fail)) | ((with_reducible apply gD_load); (first | (first | refine JD_p rfl xR rfl (pe_ldKR xR hrow (by show rowTy Try.prog 84 7 = true; kernel_rfl)) ?_) | fail)) | ((with_reducible apply gD_sliceToArrayPointer); (first | (refine JD_p rfl xR rfl (pe_s2ap xR Try.underlying84 (by omega)) ?_) | fail)) | ((with_reducible apply gD_bin_neq); (first | (refine JD_p rfl xR rfl (pe_neArrB (c := true) (us := [x0, x1, x2, x3, x4, x5, x6]) (vs := hdB) arr7 rfl rfl xR xR hne) ?_) | fail)) | refine D_move ?_ | refine D_load ?_ | refine D_pick ?_ | refine D_indexAddr ?_ | refine D_c_len ?_ | refine D_un_not ?_ | refine D_bin_neq ?_ | refine D_bin_lss ?_ | refine D_slice ?_ | refine D_convert_i64 ?_ | refine D_convert_r ?_ | ((with_reducible apply gD_load); (first | refine JD_ldM xR xT xC xR xR ?_ | refine JD_ldWM xR xT xW xR ?_ | refine JD_ldSM xR xT (tabS stab_ok xR) xG xC xR ?_ | fail)) | ((with_reducible apply gD_indexAddr); (first | refine JD_ixM xR xR (tabE etab_ok xR) xT xI xO xR ?_ | refine JD_ixV xR xR (tabE etab_ok xR) xT xI xO xR ?_ | fail)) | ((with_reducible apply gD_go); (first | (refine JD_goq (beginning_s) (hφ := xF) (h := ?_); rintro _ _ ⟨rfl, rfl⟩; try simp only [List.cons_append, List.nil_append]) | fail)) | ((with_reducible apply gD_gd); (first | (refine JD_guard xR xR ?_ ?_ <;> intro _ <;> (try (exfalso; first | contradiction | omega))) | (refine JD_guardb xR xR ?_ ?_ <;> (intro hgb; subst hgb)) | (refine JD_guardb xR xR ?_ ?_ <;> (intro hgb; fail_if_success (have : type_of% hgb := rfl))) | fail)) | fail)) | fail))
  all_goals (first | (exfalso; omega) | skip)
  exact J_retC1 (cs := ms0C) rfl (by rfl) (by rfl) (by (first | ((with_reducible (repeat (first | exact Tk.here | apply Tk.there))); done) | ((simp only [List.cons_append, List.nil_append]); (with_reducible (repeat (first | exact Tk.here | apply Tk.there))); done) | fail)) (by rfl) fun w H => ⟨_, ⟨rfl, rfl⟩, H.sel .nil⟩
set_option maxRecDepth 4000 in
set_option maxHeartbeats 1000000 in
theorem readkind_s (a : Option Addr) (c n : Nat) (B : List Int) (k : Int) (hn : B.length = n) (h28 : 28 ≤ n) (hB : U8s B) (hh : B.take 7 = hdB) (hk : B[7]? = some k) (hk2 : ¬ (k = 1 ∨ k = 2)) : Pact Try.prog 20 #[.slice a n c] (fun w => Vw w (.slice a n c) 1 n (flat byC B)) [] (ret0 (.tuple #[.agg ms0C.toArray, .int .i64 60])) := by
  refine pact Try.func20 rfl Try.ntmps20 rfl ?_
  intro W K hK
  refine J_fact (φ := ∃ b o, a = some ⟨b, o, none⟩ ∧ n ≤ c) (fun w H => ?_) ?_
  · obtain ⟨a', cap, he, _, h3, _, _, h5⟩ := hK.of H
    obtain ⟨b, o, he2, _⟩ := h5 (by intro e; have := congrArg List.length e; rw [flat_byC_len, List.length_nil] at this; omega)
    cases he
    exact ⟨b, o, he2, h3⟩
  rintro ⟨b, o, rfl, hc⟩
  have hkb := hB k (List.mem_of_getElem? hk)
  have hrow : Kn K (fun w => w.rangeAt b o hdC) := hK.imp fun w h => by
    have h1 := row_of h 7
    have e : (flat byC B).take 7 = hdC := by
      have : flat byC B = flat byC (B.take 7) ++ flat byC (B.drop 7) := by rw [← flat_append, List.take_append_drop]
      rw [this, hh]
      rfl
    rw [e] at h1
    exact h1
  have hcell : Kn K (fun w => w.cell? ⟨b, o + 7 * 1, none⟩ = some (.int .u8 k)) := hK.imp fun w h => by
    refine row_of h 8 7 _ ?_
    rw [List.getElem?_take, if_pos (by omega)]
    unfold flat
    rw [show B.flatMap byC = B.map (Value.int .u8) from by rw [List.map_eq_flatMap]; rfl, List.getElem?_map, hk]
    rfl
  (repeat' (first | ((with_reducible apply gJ); (first | refine J_seq ?_ | refine J_reg ?_ | refine J_skip ?_ | refine J_block ?_ | refine J_blk ?_ | refine J_exit rfl ?_ | refine J_goto rfl ?_ | ((with_reducible apply gJ_if); (first | refine J_ift rfl ?_ | refine J_iff rfl ?_ | (refine J_if xR ?_ ?_ <;> intro _ <;> (try (exfalso; first | contradiction | omega))) | (refine J_ifb xR ?_ ?_ <;> (intro hgb; subst hgb)) | (refine J_ifb xR ?_ ?_ <;> intro _) | fail)) | refine J_label ?_ | refine J_draw (id := 1) [0, 1, 2, 3, 4, 5, 6, 7, 8] [9, 10, 11, 12, 13, 14, 15, 16, 17, 18] mixed xC xD xD ?_ | fail)) | ((with_reducible apply gL); (first | refine JL_nil ?_ | ((with_reducible apply gL_load); (first | (first | refine JD_p rfl xR rfl (pe_ldKR xR hrow (by show rowTy Try.prog 84 7 = true; kernel_rfl)) ?_ | refine JD_p rfl xR rfl (pe_ldK xR hcell xC) ?_) | fail)) | refine L_move ?_ | refine L_assign ?_ | refine L_fieldAddr ?_ | refine L_load ?_ | refine L_indexAddr ?_ | refine L_build ?_ | refine L_extract ?_ | refine L_slice ?_ | refine L_convert_i64 ?_ | refine L_convert_r ?_ | ((with_reducible apply gL_alloc); (first | (refine JL_mc rfl xR xR (al_alloc xN xK) ?_; intro _) | fail)) | ((with_reducible apply gL_store); (first | refine JL_st xR xR xT xC xR xE xR ?_ | refine JL_stW xR xR xT xW xR xR xR ?_ | refine JL_stS xR xR xT xW xP xR xR ?_ | refine JL_stEl xR xR xT xR xL xR (tabS stab_ok xR) xR xR xO ?_ | fail)) | ((with_reducible apply gL_go); (first | (refine JL_goq (beginning_s) (hφ := xF) (h := ?_); rintro _ _ ⟨rfl, rfl⟩; try simp only [List.cons_append, List.nil_append]) | (refine JL_goq (known_s k false (decide_eq_false hk2)) (hφ := xF) (h := ?_); rintro _ _ ⟨rfl, rfl⟩; try simp only [List.cons_append, List.nil_append]) | fail)) | fail)) | ((with_reducible apply gD); (first | (refine JD_nil ?_; try simp only [List.cons_append, List.nil_append]) | (refine JD_bar ?_; try simp only [List.cons_append, List.nil_append]) | ((with_reducible apply gD_gd); (first | refine JD_skip xR ?_ | fail)) | ((with_reducible apply gD_load); (first | (first | refine JD_p rfl xR rfl (pe_ldKR xR hrow (by show rowTy Try.prog 84 7 = true; kernel_rfl)) ?_ | refine JD_p rfl xR rfl (pe_ldK xR hcell xC) ?_) | fail)) | ((with_reducible apply gD_sliceToArrayPointer); (first | (refine JD_p rfl xR rfl (pe_s2ap xR Try.underlying84 (by omega)) ?_) | fail)) | ((with_reducible apply gD_bin_neq); (first | (refine JD_p rfl xR rfl (pe_neArrB (c := false) (us := hdB) (vs := hdB) arr7 rfl rfl xR xR (by decide)) ?_) | fail)) | refine D_move ?_ | refine D_load ?_ | refine D_pick ?_ | refine D_indexAddr ?_ | refine D_c_len ?_ | refine D_un_not ?_ | refine D_bin_neq ?_ | refine D_bin_lss ?_ | refine D_slice ?_ | refine D_convert_i64 ?_ | refine D_convert_r ?_ | ((with_reducible apply gD_load); (first | refine JD_ldM xR xT xC xR xR ?_ | refine JD_ldWM xR xT xW xR ?_ | refine JD_ldSM xR xT (tabS stab_ok xR) xG xC xR ?_ | fail)) | ((with_reducible apply gD_indexAddr); (first | refine JD_ixM xR xR (tabE etab_ok xR) xT xI xO xR ?_ | refine JD_ixV xR xR (tabE etab_ok xR) xT xI xO xR ?_ | fail)) | ((with_reducible apply gD_go); (first | (refine JD_goq (beginning_s) (hφ := xF) (h := ?_); rintro _ _ ⟨rfl, rfl⟩; try simp only [List.cons_append, List.nil_append]) | (refine JD_goq (known_s k false (decide_eq_false hk2)) (hφ := xF) (h := ?_); rintro _ _ ⟨rfl, rfl⟩; try simp only [List.cons_append, List.nil_append]) | fail)) | ((with_reducible apply gD_gd); (first | (refine JD_guard xR xR ?_ ?_ <;> intro _ <;> (try (exfalso; first | contradiction | omega))) | (refine JD_guardb xR xR ?_ ?_ <;> (intro hgb; subst hgb)) | (refine JD_guardb xR xR ?_ ?_ <;> (intro hgb; fail_if_success (have : type_of% hgb := rfl))) | fail)) | fail)) | fail))
  all_goals (first | (exfalso; omega) | skip)
  exact J_retC1 (cs := ms0C) rfl (by rfl) (by rfl) (by (first | ((with_reducible (repeat (first | exact Tk.here | apply Tk.there))); done) | ((simp only [List.cons_append, List.nil_append]); (with_reducible (repeat (first | exact Tk.here | apply Tk.there))); done) | fail)) (by rfl) fun w H => ⟨_, ⟨rfl, rfl⟩, H.sel .nil⟩
theorem addr_s (a : Option Addr) (c : Nat) (p q r s : Int) (hp : U8 p) (hq : U8 q) (hr : U8 r) (hs : U8 s) : Pact Try.prog 38 #[.slice a 4 c] (fun w => Vw w (.slice a 4 c) 1 4 (flat byC [p, q, r, s])) [] (ret0 (.int .u32 (p * 16777216 + q * 65536 + r * 256 + s))) := by
  refine pact Try.func38 rfl Try.ntmps38 rfl ?_
  intro W K hK
  obtain ⟨p0, p1⟩ := hp
  obtain ⟨q0, q1⟩ := hq
  obtain ⟨r0, r1⟩ := hr
  obtain ⟨s0, s1⟩ := hs
  obtain ⟨Q, hQ⟩ : ∃ Q, [p, q, r, s] = Q := ⟨_, rfl⟩
  have hs0 : Q[0]? = some p := by rw [← hQ]; rfl
  have hs1 : Q[1]? = some q := by rw [← hQ]; rfl
  have hs2 : Q[2]? = some r := by rw [← hQ]; rfl
  have hs3 : Q[3]? = some s := by rw [← hQ]; rfl
  have hQl : Q.length = 4 := by rw [← hQ]; rfl
  rw [hQ] at hK
  clear hQ
  (repeat' (first | ((with_reducible apply gJ); (first | refine J_seq ?_ | refine J_reg ?_ | refine J_skip ?_ | refine J_block ?_ | refine J_blk ?_ | refine J_exit rfl ?_ | refine J_goto rfl ?_ | ((with_reducible apply gJ_if); (first | refine J_ift rfl ?_ | refine J_iff rfl ?_ | (refine J_if xR ?_ ?_ <;> intro _ <;> (try (exfalso; first | contradiction | omega))) | (refine J_ifb xR ?_ ?_ <;> (intro hgb; subst hgb)) | (refine J_ifb xR ?_ ?_ <;> intro _) | fail)) | refine J_label ?_ | refine J_draw (id := 1) [0, 1, 2, 3, 4, 5, 6, 7, 8, 9, 10, 11, 12, 13, 14, 15, 16, 17, 18, 19, 20] [21, 22] mixed xC xD xD ?_ | fail)) | ((with_reducible apply gL); (first | refine JL_nil ?_ | refine L_assign ?_ | fail)) | ((with_reducible apply gD); (first | (refine JD_nil ?_; try simp only [List.cons_append, List.nil_append]) | (refine JD_bar ?_; try simp only [List.cons_append, List.nil_append]) | refine D_move ?_ | refine D_assign ?_ | refine D_load ?_ | refine D_indexAddr ?_ | refine D_bin_add_u32 ?_ | refine D_bin_add_r ?_ | refine D_bin_mul_u32 ?_ | refine D_bin_mul_r ?_ | refine D_convert_u32 ?_ | refine D_convert_r ?_ | ((with_reducible apply gD_load); (first | refine JD_ldM xR xT xC xR xR ?_ | refine JD_ldWM xR xT xW xR ?_ | refine JD_ldSM xR xT (tabS stab_ok xR) xG xC xR ?_ | fail)) | ((with_reducible apply gD_indexAddr); (first | refine JD_ixM xR xR (tabE etab_ok xR) xT xI xO xR ?_ | refine JD_ixV xR xR (tabE etab_ok xR) xT xI xO xR ?_ | fail)) | fail)) | fail))
  refine J_ret1 rfl (by rfl) fun w H => ⟨_, ⟨congrArg (Value.int .u32) ?_, rfl⟩, H.sel .nil⟩
  omega
end Go.Proofs.Ytohahlcjkhgimaa
