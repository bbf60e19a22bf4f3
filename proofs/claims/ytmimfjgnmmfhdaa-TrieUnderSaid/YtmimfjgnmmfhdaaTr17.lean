/-
  TrieFull; prefixes that came in.
-/
import Derived.Test.YtmimfjgnmmfhdaaTr16
import Derived.Test.YtmimfjgnmmfhdaaLaw
namespace Go.Proofs.Ytmimfjgnmmfhdaa
set_option linter.unusedSimpArgs false
set_option linter.unusedVariables false
set_option maxRecDepth 20000
set_option maxHeartbeats 4000000
open Go.RowKit Go.Pm


theorem among_s (x : Int) (n : Nat) (h1 : 1 ≤ n) (h2 : n ≤ 1000000) (hx : I64 x) : Pact Try.prog 11 #[.int .i64 x, .int .i64 n] (fun _ => True) [] (fun v L' => ∃ k : Nat, v = .int .i64 k ∧ k < n ∧ L' = []) := by
  refine pact Try.func11 rfl Try.ntmps11 rfl ?_
  intro W K _
  unfold I64 at hx
  (repeat' (first | ((with_reducible apply gJ); (first | refine J_seq ?_ | refine J_reg ?_ | refine J_skip ?_ | refine J_block ?_ | refine J_blk ?_ | refine J_exit rfl ?_ | refine J_goto rfl ?_ | ((with_reducible apply gJ_if); (first | refine J_ift rfl ?_ | refine J_iff rfl ?_ | (refine J_if xR ?_ ?_ <;> intro _ <;> (try (exfalso; first | contradiction | omega))) | (refine J_ifb xR ?_ ?_ <;> (intro hgb; subst hgb)) | (refine J_ifb xR ?_ ?_ <;> intro _) | fail)) | refine J_label ?_ | fail)) | ((with_reducible apply gL); (first | refine JL_nil ?_ | refine L_move ?_ | refine L_assign ?_ | refine L_bin_lss ?_ | refine L_bin_rem ?_ | refine L_convert_i64 ?_ | refine L_convert_u64 ?_ | refine L_convert_r ?_ | fail)) | fail))
  have h3 : 0 ≤ x % 18446744073709551616 % (n : Int) := Int.emod_nonneg _ (by omega)
  have h4 : x % 18446744073709551616 % (n : Int) < n := Int.emod_lt_of_pos _ (by omega)
  refine J_ret1 rfl (by rfl) fun w H => ⟨_, ⟨(x % 18446744073709551616 % (n : Int)).toNat, ?_, by omega, rfl⟩, H.sel .nil⟩
  rw [w_i64 (by omega) (by omega), Int.toNat_of_nonneg h3]
theorem len_o (tb : Nat) (a : Option Addr) (n m : Int) (h : n = m) : Pact Try.prog 13 #[.pointer (some ⟨tb, 0, none⟩)] (fun _ => True) [pts tb (trC a n true) 55] (fun v L' => v = .int .i64 m ∧ L' = [pts tb (trC a n true) 55]) := by subst h; exact len_s tb a n true
theorem full_s (more : Int) (hm : I64 more) : Pact Try.prog 3 #[.int .i64 more] (fun _ => True) [] (ret0 (.bool true)) := by
  refine pact Try.func3 rfl Try.ntmps3 rfl ?_
  intro W K _
  (repeat' (first | ((with_reducible apply gJ); (first | refine J_seq ?_ | refine J_reg ?_ | refine J_skip ?_ | refine J_block ?_ | refine J_blk ?_ | refine J_exit rfl ?_ | refine J_goto rfl ?_ | ((with_reducible apply gJ_if); (first | refine J_ift rfl ?_ | refine J_iff rfl ?_ | (refine J_if xR ?_ ?_ <;> intro _ <;> (try (exfalso; first | contradiction | omega))) | (refine J_ifb xR ?_ ?_ <;> (intro hgb; subst hgb)) | (refine J_ifb xR ?_ ?_ <;> intro _) | fail)) | refine J_label ?_ | fail)) | ((with_reducible apply gL); (first | refine JL_nil ?_ | ((with_reducible apply gL_gd); (first | refine JL_skip xR xR ?_ | fail)) | refine L_move ?_ | refine L_assign ?_ | refine L_pick ?_ | refine L_build ?_ | refine L_un_not ?_ | refine L_bin_eql ?_ | refine L_bin_neq ?_ | refine L_bin_lss ?_ | refine L_bin_add_i64 ?_ | refine L_bin_add_u32 ?_ | refine L_bin_add_r ?_ | refine L_bin_mul_i64 ?_ | refine L_bin_mul_u32 ?_ | refine L_bin_mul_r ?_ | refine L_convert_i64 ?_ | refine L_convert_u32 ?_ | refine L_convert_r ?_ | ((with_reducible apply gL_go); (first | (refine JL_goq (works_s) (hφ := xF) (h := ?_); rintro _ _ ⟨rfl, rfl⟩; try simp only [List.cons_append, List.nil_append]) | (refine JL_goq (new_s) (hφ := xF) (h := ?_); rintro _ _ ⟨tb, rfl, rfl⟩; try simp only [List.cons_append, List.nil_append]) | (refine JL_goq (among_s more 3 (by omega) (by omega) hm) (hφ := xF) (h := ?_); rintro _ _ ⟨j, rfl, hj, rfl⟩; try simp only [List.cons_append, List.nil_append]) | fail)) | ((with_reducible apply gL_gd); (first | (refine JL_guard xR xR ?_ ?_ <;> intro _ <;> (try (exfalso; first | contradiction | omega))) | (refine JL_guardb xR xR ?_ ?_ <;> (intro hgb; subst hgb)) | (refine JL_guardb xR xR ?_ ?_ <;> (intro hgb; fail_if_success (have : type_of% hgb := rfl))) | fail)) | fail)) | fail))
  refine J_loop (α := Fl) ⟨0, .nil⟩ (fun x => 4096 + j - x.i) (fun x => x.i ≤ 4096 + j ∧ wf (0, 0) x.t ∧ ents x.t = fullL (min x.i 4096)) (fun x => [(3, .pointer (some ⟨tb, 0, none⟩)), (4, .int .i64 (4096 + j)), (5, .int .i64 x.i)])
    (fun x => [pts tb (trC (ptr x.t) (ents x.t).length true) 55, trP x.t]) ⟨Nat.zero_le _, trivial, rfl⟩ ⟨rfl, rfl, rfl, trivial⟩ (fun w H => H.sel (by (first | ((with_reducible (repeat (first | exact Sb.nil | apply Sb.cons | exact Tk.here | apply Tk.there))); done) | (repeat (first | exact Sb.nil | apply Sb.cons | exact Tk.here | apply Tk.there))))) ?_
  rintro ⟨i, t⟩ ⟨hi, hw, he⟩
  dsimp only at hi hw he ⊢
  by_cases hlt : i < 4096 + j
  · have hn : PfN (((i * 65536 : Nat) : Int), 16) := ⟨by unfold U32; show (0 : Int) ≤ ((i * 65536 : Nat) : Int) ∧ ((i * 65536 : Nat) : Int) ≤ 4294967295; omega, by unfold I64; show (-9223372036854775808 : Int) ≤ 16 ∧ (16 : Int) ≤ 9223372036854775807; omega⟩
    have hv : I64 i := by unfold I64; omega
    have e1 : (((i * 65536 : Nat) : Int)) = (i : Int) * 65536 := by omega
    by_cases hf : i < 4096
    · have hE : putE (ents t) (((i * 65536 : Nat) : Int), 16) i = (0, fullL (i + 1)) := by rw [he, Nat.min_eq_left (by omega)]; exact full_put i hf
      have hl : (ents t).length ≤ 4096 := by rw [he, fullL_len]; omega
      rw [e1] at hE hn
      (repeat' (first | ((with_reducible apply gJ); (first | refine J_seq ?_ | refine J_reg ?_ | refine J_skip ?_ | refine J_block ?_ | refine J_blk ?_ | refine J_exit rfl ?_ | refine J_goto rfl ?_ | ((with_reducible apply gJ_if); (first | refine J_ift rfl ?_ | refine J_iff rfl ?_ | (refine J_if xR ?_ ?_ <;> intro _ <;> (try (exfalso; first | contradiction | omega))) | (refine J_ifb xR ?_ ?_ <;> (intro hgb; subst hgb)) | (refine J_ifb xR ?_ ?_ <;> intro _) | fail)) | refine J_label ?_ | fail)) | ((with_reducible apply gL); (first | refine JL_nil ?_ | ((with_reducible apply gL_gd); (first | refine JL_skip xR xR ?_ | fail)) | refine L_move ?_ | refine L_assign ?_ | refine L_pick ?_ | refine L_build ?_ | refine L_un_not ?_ | refine L_bin_eql ?_ | refine L_bin_neq ?_ | refine L_bin_lss ?_ | refine L_bin_add_i64 ?_ | refine L_bin_add_u32 ?_ | refine L_bin_add_r ?_ | refine L_bin_mul_i64 ?_ | refine L_bin_mul_u32 ?_ | refine L_bin_mul_r ?_ | refine L_convert_i64 ?_ | refine L_convert_u32 ?_ | refine L_convert_r ?_ | ((with_reducible apply gL_go); (first | (refine JL_goq (put_o tb t ((i : Int) * 65536, 16) i 0 (fullL (i + 1)) hE hn hv hw hl) (hφ := xF) (h := ?_); rintro _ _ ⟨t', hw', he', rfl, rfl⟩; try simp only [List.cons_append, List.nil_append]) | fail)) | ((with_reducible apply gL_gd); (first | (refine JL_guard xR xR ?_ ?_ <;> intro _ <;> (try (exfalso; first | contradiction | omega))) | (refine JL_guardb xR xR ?_ ?_ <;> (intro hgb; subst hgb)) | (refine JL_guardb xR xR ?_ ?_ <;> (intro hgb; fail_if_success (have : type_of% hgb := rfl))) | fail)) | fail)) | fail))
      all_goals (first | (exfalso; (have hz : decide ((0 : Int) = 0) = decide ((i : Int) < 4096) := by simp; omega); contradiction) | skip)
      refine J_again ⟨i + 1, t'⟩ (by dsimp only; omega) ⟨by dsimp only; omega, hw', ?_⟩ ⟨rfl, rfl, rfl, trivial⟩ (fun w H => H.sel (by (first | ((with_reducible (repeat (first | exact Sb.nil | apply Sb.cons | exact Tk.here | apply Tk.there))); done) | (repeat (first | exact Sb.nil | apply Sb.cons | exact Tk.here | apply Tk.there)))))
      rw [he', Nat.min_eq_left (by dsimp only; omega)]
    · have hE : putE (ents t) (((i * 65536 : Nat) : Int), 16) i = (4, fullL 4096) := by rw [he, Nat.min_eq_right (by omega)]; exact full_no i (by omega)
      have hl : (ents t).length ≤ 4096 := by rw [he, fullL_len]; omega
      rw [e1] at hE hn
      (repeat' (first | ((with_reducible apply gJ); (first | refine J_seq ?_ | refine J_reg ?_ | refine J_skip ?_ | refine J_block ?_ | refine J_blk ?_ | refine J_exit rfl ?_ | refine J_goto rfl ?_ | ((with_reducible apply gJ_if); (first | refine J_ift rfl ?_ | refine J_iff rfl ?_ | (refine J_if xR ?_ ?_ <;> intro _ <;> (try (exfalso; first | contradiction | omega))) | (refine J_ifb xR ?_ ?_ <;> (intro hgb; subst hgb)) | (refine J_ifb xR ?_ ?_ <;> intro _) | fail)) | refine J_label ?_ | fail)) | ((with_reducible apply gL); (first | refine JL_nil ?_ | ((with_reducible apply gL_gd); (first | refine JL_skip xR xR ?_ | fail)) | refine L_move ?_ | refine L_assign ?_ | refine L_pick ?_ | refine L_build ?_ | refine L_un_not ?_ | refine L_bin_eql ?_ | refine L_bin_neq ?_ | refine L_bin_lss ?_ | refine L_bin_add_i64 ?_ | refine L_bin_add_u32 ?_ | refine L_bin_add_r ?_ | refine L_bin_mul_i64 ?_ | refine L_bin_mul_u32 ?_ | refine L_bin_mul_r ?_ | refine L_convert_i64 ?_ | refine L_convert_u32 ?_ | refine L_convert_r ?_ | ((with_reducible apply gL_go); (first | (refine JL_goq (put_o tb t ((i : Int) * 65536, 16) i 4 (fullL 4096) hE hn hv hw hl) (hφ := xF) (h := ?_); rintro _ _ ⟨t', hw', he', rfl, rfl⟩; try simp only [List.cons_append, List.nil_append]) | fail)) | ((with_reducible apply gL_gd); (first | (refine JL_guard xR xR ?_ ?_ <;> intro _ <;> (try (exfalso; first | contradiction | omega))) | (refine JL_guardb xR xR ?_ ?_ <;> (intro hgb; subst hgb)) | (refine JL_guardb xR xR ?_ ?_ <;> (intro hgb; fail_if_success (have : type_of% hgb := rfl))) | fail)) | fail)) | fail))
      all_goals (first | (exfalso; (have hz : decide ((4 : Int) = 0) = decide ((i : Int) < 4096) := by simp; omega); contradiction) | skip)
      refine J_again ⟨i + 1, t'⟩ (by dsimp only; omega) ⟨by dsimp only; omega, hw', ?_⟩ ⟨rfl, rfl, rfl, trivial⟩ (fun w H => H.sel (by (first | ((with_reducible (repeat (first | exact Sb.nil | apply Sb.cons | exact Tk.here | apply Tk.there))); done) | (repeat (first | exact Sb.nil | apply Sb.cons | exact Tk.here | apply Tk.there)))))
      rw [he', Nat.min_eq_right (by dsimp only; omega)]
  · have h4 : min i 4096 = 4096 := by omega
    rw [h4] at he
    have hlen : (ents t).length = 4096 := by rw [he, fullL_len]
    have n1 : PfN (0, 16) := by unfold PfN U32 I64; decide
    have n2 : PfN (0, 32) := by unfold PfN U32 I64; decide
    have v9 : I64 9 := by unfold I64; decide
    have v1 : I64 1 := by unfold I64; decide
    have r1 : Rt (0, 16) := full_rt 0
    have r2 : Rt (0, 32) := by decide +kernel
    have g1 : getL (ents t) (0, 16) = some 0 := (getL_mem (wf_srt hw)).2 (by rw [he]; exact fullL_mem.2 ⟨0, by omega, rfl⟩)
    have hs1 := wf_srt hw
    have hE1 : putE (ents t) (0, 16) 9 = (0, putL (ents t) (0, 16) 9) := by unfold putE; rw [if_pos r1, g1]; rfl
    have hs2 := srt_putL (p := (0, 16)) (v := 9) hs1
    have l1 : (putL (ents t) (0, 16) 9).length = 4096 := by rw [len_putL hs1, g1]; exact hlen
    have g2 : getL (putL (ents t) (0, 16) 9) (0, 16) = some 9 := (getL_mem hs2).2 ((mem_putL hs1).2 (.inl rfl))
    have l2 := len_dropL hs2 (p := (0, 16)) (by rw [g2]; rfl)
    have g3 : getL (dropL (putL (ents t) (0, 16) 9) (0, 16)) (0, 32) = none := getL_none.2 fun e h => by
      have h1 := (List.mem_filter.1 h).1
      rcases (mem_putL hs1).1 h1 with rfl | ⟨h2, _⟩
      · simp
      · rw [he] at h2
        obtain ⟨k, _, rfl⟩ := fullL_mem.1 h2
        simp
    have hE3 : putE (dropL (putL (ents t) (0, 16) 9) (0, 16)) (0, 32) 1 = (0, putL (dropL (putL (ents t) (0, 16) 9) (0, 16)) (0, 32) 1) := by
      unfold putE
      rw [if_pos r2, g3]
      simp only [Option.isSome_none, Bool.false_eq_true, if_false]
      rw [if_neg (by omega)]
    generalize hL1 : putL (ents t) (0, 16) 9 = la at *
    generalize hL2 : dropL la (0, 16) = lb at *
    generalize hL3 : putL lb (0, 32) 1 = lc at *
    (repeat' (first | ((with_reducible apply gJ); (first | refine J_seq ?_ | refine J_reg ?_ | refine J_skip ?_ | refine J_block ?_ | refine J_blk ?_ | refine J_exit rfl ?_ | refine J_goto rfl ?_ | ((with_reducible apply gJ_if); (first | refine J_ift rfl ?_ | refine J_iff rfl ?_ | (refine J_if xR ?_ ?_ <;> intro _ <;> (try (exfalso; first | contradiction | omega))) | (refine J_ifb xR ?_ ?_ <;> (intro hgb; subst hgb)) | (refine J_ifb xR ?_ ?_ <;> intro _) | fail)) | refine J_label ?_ | fail)) | ((with_reducible apply gL); (first | refine JL_nil ?_ | ((with_reducible apply gL_gd); (first | refine JL_skip xR xR ?_ | fail)) | refine L_move ?_ | refine L_assign ?_ | refine L_pick ?_ | refine L_build ?_ | refine L_un_not ?_ | refine L_bin_eql ?_ | refine L_bin_neq ?_ | refine L_bin_lss ?_ | refine L_bin_add_i64 ?_ | refine L_bin_add_u32 ?_ | refine L_bin_add_r ?_ | refine L_bin_mul_i64 ?_ | refine L_bin_mul_u32 ?_ | refine L_bin_mul_r ?_ | refine L_convert_i64 ?_ | refine L_convert_u32 ?_ | refine L_convert_r ?_ | ((with_reducible apply gL_go); (first | (refine JL_goq (len_o tb (ptr t) (ents t).length 4096 (by rw [hlen]; rfl)) (hφ := xF) (h := ?_); rintro _ _ ⟨rfl, rfl⟩; try simp only [List.cons_append, List.nil_append]) | (refine JL_goq (put_o tb t (0, 16) 9 0 la hE1 n1 v9 hw (by omega)) (hφ := xF) (h := ?_); rintro _ _ ⟨t1, hw1, he1, rfl, rfl⟩; try simp only [List.cons_append, List.nil_append]) | (refine JL_goq (drop_o tb t1 (0, 16) true lb (by rw [he1, g2]; rfl) (by rw [he1, hL2]) n1 hw1 (by rw [he1]; omega)) (hφ := xF) (h := ?_); rintro _ _ ⟨t2, hw2, he2, rfl, rfl⟩; try simp only [List.cons_append, List.nil_append]) | (refine JL_goq (put_o tb t2 (0, 32) 1 0 lc (by rw [he2, hE3]) n2 v1 hw2 (by rw [he2]; omega)) (hφ := xF) (h := ?_); rintro _ _ ⟨t3, hw3, he3, rfl, rfl⟩; try simp only [List.cons_append, List.nil_append]) | fail)) | ((with_reducible apply gL_gd); (first | (refine JL_guard xR xR ?_ ?_ <;> intro _ <;> (try (exfalso; first | contradiction | omega))) | (refine JL_guardb xR xR ?_ ?_ <;> (intro hgb; subst hgb)) | (refine JL_guardb xR xR ?_ ?_ <;> (intro hgb; fail_if_success (have : type_of% hgb := rfl))) | fail)) | fail)) | fail))
    exact J_ret1 rfl (by rfl) fun w H => ⟨[], ⟨rfl, rfl⟩, H.sel .nil⟩
theorem pf_arg {W : World} {m : Nat} {cs : Array Value} (h : Rs Try.prog W m 31 (Value.agg cs).cells.toList) : ∃ p : Pf, cs = (pfC p).toArray ∧ PfN p := by
  have h0 := leaf_of 5 31 [29, 3] m _ (by kernel_rfl) h
  obtain ⟨a, r, e, b0, h1⟩ := h0.u32 Try.underlying29
  obtain ⟨l, r2, e2, b1, h2⟩ := h1.i64 Try.underlying3
  obtain rfl := h2.nil'
  subst e2
  exact ⟨(a, l), Array.ext' e, b0, b1⟩
theorem i64_arg {W : World} {m : Nat} {t : TypeId} {z : Int} (hu : Try.prog.underlying t = some (.int .i64)) (h : Rs Try.prog W m t (Value.int .i64 z).cells.toList) : I64 z := by
  obtain ⟨y, e, h3⟩ := (Rs.rd _ _ _ h).int hu
  cases e
  exact bounds_i64 h3
theorem u32_arg {W : World} {m : Nat} {t : TypeId} {z : Int} (hu : Try.prog.underlying t = some (.int .u32)) (h : Rs Try.prog W m t (Value.int .u32 z).cells.toList) : U32 z := by
  obtain ⟨y, e, h3⟩ := (Rs.rd _ _ _ h).int hu
  cases e
  exact bounds_u32 h3
end Go.Proofs.Ytmimfjgnmmfhdaa
