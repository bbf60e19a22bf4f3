/-
  The document's numeral: digit by digit.
-/
import Derived.Test.YtfkmcjiajfaemaaDoorNt5
namespace Go.Pm
set_option linter.unusedSimpArgs false
set_option linter.unusedVariables false
set_option maxRecDepth 20000
set_option maxHeartbeats 4000000
open Go.RowKit
section
variable {P : Program} {n : Nat} {W : World} {K : Hl} {F : Fp} {k : List It} {tm : TM} {L L' R S M C : List HP} {T : TypeId} {pos : String} {af : Array Edge} {gd : Option (Nat × Bool)} {ops : Array Oper} {rest nx : List Oper} {d : Option Tmp}
theorem pe_remX {xt yt : TypeId} {x y : Operand} {k : IntKind} {a b c : Int} (hx : evT tm x = some (.int k a)) (hy : evT tm y = some (.int k b)) (hb : b ≠ 0) (hc : a.tmod b = c) : PE P K L ⟨d, .binOp .rem xt x y yt, T, pos, af, gd⟩ (tget tm) (.int k c) := by
  subst hc
  exact pe_remT hx hy hb
theorem pe_quoX {xt yt : TypeId} {x y : Operand} {k : IntKind} {a b c : Int} (hx : evT tm x = some (.int k a)) (hy : evT tm y = some (.int k b)) (hb : b ≠ 0) (hc : a.tdiv b = c) (hw : k.wrap c = c) : PE P K L ⟨d, .binOp .quo xt x y yt, T, pos, af, gd⟩ (tget tm) (.int k c) := by
  subst hc
  exact pe_quoT hx hy hb hw
end
end Go.Pm
namespace Go.Proofs.YtfkmcjiajfaemaaDoor
open Go.RowKit Go.Pm Go.Shelf

theorem tq (x : Int) : ∃ r q, x.tmod 10 = r ∧ x.tdiv 10 = q ∧ r.natAbs = x.natAbs % 10 ∧ q.natAbs = x.natAbs / 10 ∧ (0 ≤ x → 0 ≤ r ∧ 0 ≤ q) ∧ (x ≤ 0 → r ≤ 0 ∧ q ≤ 0) := by
  refine ⟨_, _, rfl, rfl, ?_⟩
  obtain ⟨m, rfl | rfl⟩ : ∃ m : Nat, x = m ∨ x = -(m : Int) := ⟨x.natAbs, by omega⟩
  · rw [Int.tmod_eq_emod_of_nonneg (by omega), Int.tdiv_eq_ediv_of_nonneg (by omega)]
    omega
  · rw [Int.neg_tmod, Int.neg_tdiv, Int.tmod_eq_emod_of_nonneg (by omega), Int.tdiv_eq_ediv_of_nonneg (by omega)]
    omega
theorem lit1 {w : World} {v : Value} {x : Int} (h : Vw w v 1 1 [.int .u8 x]) : Vw w v 1 1 (flat byC [x]) := h
theorem bitoa_s (n : Int) (h : I64 n) (h0 : n ≠ 0) : Pact Tryd.prog 24 #[.int .i64 n] (fun _ => True) [] (ret0 (.string (dig n))) := by
  refine pact Tryd.func24 rfl Tryd.ntmps24 rfl ?_
  intro W K _
  have hI := h
  obtain ⟨hn1, hn2⟩ := h
  obtain ⟨E, hE, hEs⟩ : ∃ E, pre n.natAbs ++ ByteArray.empty = E ∧ E.size ≤ 21 := ⟨_, rfl, by
    rcases Int.lt_or_gt_of_ne h0 with h | h
    · have := dig_size n hI
      rw [dig_neg n h, ByteArray.size_append] at this
      omega
    · rw [← dig_pos n h]; exact dig_size n hI⟩
  (repeat' (first | ((with_reducible apply gJ); (first | refine J_seq ?_ | refine J_reg ?_ | refine J_skip ?_ | refine J_block ?_ | refine J_blk ?_ | refine J_exit rfl ?_ | refine J_goto rfl ?_ | ((with_reducible apply gJ_if); (first | refine J_ift rfl ?_ | refine J_iff rfl ?_ | (refine J_if xR ?_ ?_ <;> intro _ <;> (try (exfalso; first | contradiction | omega))) | (refine J_ifb xR ?_ ?_ <;> (intro hgb; subst hgb)) | (refine J_ifb xR ?_ ?_ <;> intro _) | fail)) | refine J_label ?_ | fail)) | ((with_reducible apply gL); (first | refine JL_nil ?_ | refine L_move ?_ | refine L_assign ?_ | refine L_bin_eql ?_ | refine L_bin_neq ?_ | refine L_bin_lss ?_ | refine L_bin_rem ?_ | refine L_bin_add_i64 ?_ | refine L_bin_add_u8 ?_ | refine L_bin_add_r ?_ | refine L_un_neg_i64 ?_ | refine L_un_neg_u8 ?_ | refine L_un_neg_r ?_ | refine L_convert_i64 ?_ | refine L_convert_u8 ?_ | refine L_convert_r ?_ | refine L_bin_quo_i64 ?_ | refine L_bin_quo_u8 ?_ | refine L_bin_quo_r ?_ | ((with_reducible apply gL_buildSlice); (first | (refine JL_mc rfl xR xR (al_bs1 xR (tabE etab_ok xR) xK) ?_; intro _) | (refine JL_mc rfl xR xR (al_bs xR (tabE etab_ok xR) xN xK) ?_; intro _) | fail)) | fail)) | fail))
  refine J_loop (α := Int × ByteArray) (n, ByteArray.empty) (fun x => x.1.natAbs) (fun x => pre x.1.natAbs ++ x.2 = E ∧ (0 < n → 0 ≤ x.1) ∧ (n < 0 → x.1 ≤ 0) ∧ x.1.natAbs ≤ n.natAbs) (fun x => [(0, .int .i64 n), (3, .string x.2), (4, .int .i64 x.1)]) (fun _ => []) ⟨hE, by omega, by omega, Nat.le_refl _⟩ ⟨rfl, rfl, rfl, trivial⟩ (fun w H => H) ?_
  rintro ⟨x, s⟩ ⟨hs, hx1, hx2, hx3⟩
  dsimp only at hs hx1 hx2 hx3 ⊢
  by_cases hx : x = 0
  · subst hx
    have hs2 : s = E := by rw [← hs]; simp [pre]
    subst hs2
    rcases Int.lt_or_gt_of_ne h0 with h | h
    · have hd := dig_neg n h
      rw [hE] at hd
      (repeat' (first | ((with_reducible apply gJ); (first | refine J_seq ?_ | refine J_reg ?_ | refine J_skip ?_ | refine J_block ?_ | refine J_blk ?_ | refine J_exit rfl ?_ | refine J_goto rfl ?_ | ((with_reducible apply gJ_if); (first | refine J_ift rfl ?_ | refine J_iff rfl ?_ | (refine J_if xR ?_ ?_ <;> intro _ <;> (try (exfalso; first | contradiction | omega))) | (refine J_ifb xR ?_ ?_ <;> (intro hgb; subst hgb)) | (refine J_ifb xR ?_ ?_ <;> intro _) | fail)) | refine J_label ?_ | fail)) | ((with_reducible apply gL); (first | refine JL_nil ?_ | ((with_reducible apply gL_bin_add); (first | refine JL_p rfl xR xR (pe_strAdd (c := dig n) xR xR (Nat.le_trans (Nat.add_le_add (b := 7) (d := 22) (by decide +kernel) (by omega)) (by decide)) hd.symm) ?_ | fail)) | refine L_move ?_ | refine L_assign ?_ | refine L_bin_eql ?_ | refine L_bin_neq ?_ | refine L_bin_lss ?_ | refine L_bin_rem ?_ | refine L_bin_add_i64 ?_ | refine L_bin_add_u8 ?_ | refine L_bin_add_r ?_ | refine L_un_neg_i64 ?_ | refine L_un_neg_u8 ?_ | refine L_un_neg_r ?_ | refine L_convert_i64 ?_ | refine L_convert_u8 ?_ | refine L_convert_r ?_ | refine L_bin_quo_i64 ?_ | refine L_bin_quo_u8 ?_ | refine L_bin_quo_r ?_ | ((with_reducible apply gL_buildSlice); (first | (refine JL_mc rfl xR xR (al_bs1 xR (tabE etab_ok xR) xK) ?_; intro _) | (refine JL_mc rfl xR xR (al_bs xR (tabE etab_ok xR) xN xK) ?_; intro _) | fail)) | fail)) | fail))
      all_goals (first | (exfalso; omega) | skip)
      exact J_ret1 rfl (by rfl) fun w H => ⟨_, ⟨rfl, rfl⟩, H.sel .nil⟩
    · have hd := dig_pos n h
      rw [hE] at hd
      rw [hd]
      (repeat' (first | ((with_reducible apply gJ); (first | refine J_seq ?_ | refine J_reg ?_ | refine J_skip ?_ | refine J_block ?_ | refine J_blk ?_ | refine J_exit rfl ?_ | refine J_goto rfl ?_ | ((with_reducible apply gJ_if); (first | refine J_ift rfl ?_ | refine J_iff rfl ?_ | (refine J_if xR ?_ ?_ <;> intro _ <;> (try (exfalso; first | contradiction | omega))) | (refine J_ifb xR ?_ ?_ <;> (intro hgb; subst hgb)) | (refine J_ifb xR ?_ ?_ <;> intro _) | fail)) | refine J_label ?_ | fail)) | ((with_reducible apply gL); (first | refine JL_nil ?_ | refine L_move ?_ | refine L_assign ?_ | refine L_bin_eql ?_ | refine L_bin_neq ?_ | refine L_bin_lss ?_ | refine L_bin_rem ?_ | refine L_bin_add_i64 ?_ | refine L_bin_add_u8 ?_ | refine L_bin_add_r ?_ | refine L_un_neg_i64 ?_ | refine L_un_neg_u8 ?_ | refine L_un_neg_r ?_ | refine L_convert_i64 ?_ | refine L_convert_u8 ?_ | refine L_convert_r ?_ | refine L_bin_quo_i64 ?_ | refine L_bin_quo_u8 ?_ | refine L_bin_quo_r ?_ | ((with_reducible apply gL_buildSlice); (first | (refine JL_mc rfl xR xR (al_bs1 xR (tabE etab_ok xR) xK) ?_; intro _) | (refine JL_mc rfl xR xR (al_bs xR (tabE etab_ok xR) xN xK) ?_; intro _) | fail)) | fail)) | fail))
      all_goals (first | (exfalso; omega) | skip)
      exact J_ret1 rfl (by rfl) fun w H => ⟨_, ⟨rfl, rfl⟩, H.sel .nil⟩
  · obtain ⟨r, q, e1, e2, e3, e4, e5, e6⟩ := tq x
    have hq : IntKind.i64.wrap q = q := by rw [IntKind.wrap_i64]; omega
    have hst := pre_step x.natAbs (by omega) s
    rw [hs] at hst
    have hsz : s.size ≤ 21 := by
      have := congrArg ByteArray.size hs
      rw [ByteArray.size_append] at this
      omega
    (repeat' (first | ((with_reducible apply gJ); (first | refine J_seq ?_ | refine J_reg ?_ | refine J_skip ?_ | refine J_block ?_ | refine J_blk ?_ | refine J_exit rfl ?_ | refine J_goto rfl ?_ | ((with_reducible apply gJ_if); (first | refine J_ift rfl ?_ | refine J_iff rfl ?_ | (refine J_if xR ?_ ?_ <;> intro _ <;> (try (exfalso; first | contradiction | omega))) | (refine J_ifb xR ?_ ?_ <;> (intro hgb; subst hgb)) | (refine J_ifb xR ?_ ?_ <;> intro _) | fail)) | refine J_label ?_ | fail)) | ((with_reducible apply gL); (first | refine JL_nil ?_ | ((with_reducible apply gL_bin_rem); (first | refine JL_p rfl xR xR (pe_remX xR xR (by omega) e1) ?_ | fail)) | ((with_reducible apply gL_bin_quo); (first | refine JL_p rfl xR xR (pe_quoX xR xR (by omega) e2 hq) ?_ | fail)) | ((with_reducible apply gL_convert); (first | (refine JL_p rfl xR xR (pe_str (m := 1) (l := [_]) xR xC xC (fun w hr => lit1 (Src.lit (by (first | ((with_reducible (repeat (first | exact Tk.here | apply Tk.there))); done) | ((simp only [List.cons_append, List.nil_append]); (with_reducible (repeat (first | exact Tk.here | apply Tk.there))); done) | fail)) rfl (by decide) w hr))) ?_) | fail)) | ((with_reducible apply gL_bin_add); (first | (refine JL_p rfl xR xR (pe_strAdd xR xR (Nat.le_trans (Nat.add_le_add (b := 7) (d := 22) (by rw [strOfNums_size]; show 1 ≤ 7; omega) (by omega)) (by decide)) rfl) ?_) | fail)) | refine L_move ?_ | refine L_assign ?_ | refine L_bin_eql ?_ | refine L_bin_neq ?_ | refine L_bin_lss ?_ | refine L_bin_rem ?_ | refine L_bin_add_i64 ?_ | refine L_bin_add_u8 ?_ | refine L_bin_add_r ?_ | refine L_un_neg_i64 ?_ | refine L_un_neg_u8 ?_ | refine L_un_neg_r ?_ | refine L_convert_i64 ?_ | refine L_convert_u8 ?_ | refine L_convert_r ?_ | refine L_bin_quo_i64 ?_ | refine L_bin_quo_u8 ?_ | refine L_bin_quo_r ?_ | ((with_reducible apply gL_buildSlice); (first | (refine JL_mc rfl xR xR (al_bs1 xR (tabE etab_ok xR) xK) ?_; intro _) | (refine JL_mc rfl xR xR (al_bs xR (tabE etab_ok xR) xN xK) ?_; intro _) | fail)) | fail)) | fail))
    all_goals (first | (exfalso; omega) | skip)
    · have e : ((x.natAbs % 10 : Nat) : Int) = 0 - r := by omega
      rw [e, ← e4] at hst
      exact J_again (q, strOfNums [48 + (0 - r)] ++ s) (by dsimp only; omega) ⟨hst.symm, by dsimp only; omega, by dsimp only; omega, by dsimp only; omega⟩ ⟨rfl, rfl, rfl, trivial⟩ (fun w H => H.sel .nil)
    · have e : ((x.natAbs % 10 : Nat) : Int) = r := by omega
      rw [e, ← e4] at hst
      exact J_again (q, strOfNums [48 + r] ++ s) (by dsimp only; omega) ⟨hst.symm, by dsimp only; omega, by dsimp only; omega, by dsimp only; omega⟩ ⟨rfl, rfl, rfl, trivial⟩ (fun w H => H.sel .nil)

end Go.Proofs.YtfkmcjiajfaemaaDoor
