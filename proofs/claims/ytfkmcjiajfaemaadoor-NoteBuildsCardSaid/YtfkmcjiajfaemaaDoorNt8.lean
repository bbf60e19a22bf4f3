/-
  Refreshes, in the code and in the document.
-/
import Derived.Test.YtfkmcjiajfaemaaDoorNt7
import Derived.ChangeKeysEq
namespace Go.Pm
set_option linter.unusedSimpArgs false
set_option linter.unusedVariables false
set_option maxRecDepth 20000
set_option maxHeartbeats 4000000
open Go.RowKit
section
variable {P : Program} {n : Nat} {W : World} {K : Hl} {F : Fp} {k : List It} {tm : TM} {L L' R S M C : List HP} {T : TypeId} {pos : String} {af : Array Edge} {gd : Option (Nat × Bool)} {ops : Array Oper} {rest nx : List Oper} {d : Option Tmp}
theorem pe_s2ap {t e : TypeId} {x : Operand} {a : Option Addr} {l c m : Nat} (hx : evT tm x = some (.slice a l c)) (ht : P.underlying t = some (.array m e)) (hl : m ≤ l) : PE P K L ⟨d, .sliceToArrayPointer t x, T, pos, af, gd⟩ (tget tm) (.pointer a) := fun ρ w ha _ => by
  have h1 := ha x (by simp [Op.operands]) _ hx
  unfold execOp
  simp only [h1]
  simp [Instr.arrayAt, Sem.run_bind, run_underlying ht, Nat.not_lt.2 hl]
theorem part_cell {t : TypeId} {k : IntKind} (e : P.underlying t = some (.int k)) (xs : Array Value) (o : Nat) (v : Value) (h : xs[o]? = some v) (w : World) : (part t xs o).run P w = .ok v w := by
  simp [part, Sem.run_bind, run_agg e, TypeDesc.isRow, h]
theorem run_eqA2 {t e : TypeId} {i : TypeInfo} {k : IntKind} (hu : P.underlying t = some (.array 2 e)) (hi : P.info? e = some i) (he : P.underlying e = some (.int k)) (hc : P.cellsOf e = 1) (a b a' b' : Int) (w : World) : (Op.equalIn 10000 t (.agg #[.int k a, .int k b]) (.agg #[.int k a', .int k b'])).run P w = .ok (decide (a = a' ∧ b = b')) w := by
  rw [run_equalIn_array w 9999 _ _ hu hi, hc]
  have h2 : List.range 2 = [0, 1] := rfl
  rw [h2]
  simp only [Op.eqItems, Sem.run_bind, part_cell he #[.int k a, .int k b] (0 * 1) (.int k a) rfl, part_cell he #[.int k a', .int k b'] (0 * 1) (.int k a') rfl, part_cell he #[.int k a, .int k b] (1 * 1) (.int k b) rfl, part_cell he #[.int k a', .int k b'] (1 * 1) (.int k b') rfl, Result.andThen_ok, run_equalIn_int w 9998 _ _ _ _ _ he]
  by_cases ha : a = a'
  · subst ha
    by_cases hb : b = b'
    · subst hb; simp [Sem.run_bind, run_equalIn_int w 9998 _ _ _ _ _ he, part_cell he #[.int k a, .int k b] (1 * 1) (.int k b) rfl]
    · simp [hb, Sem.run_bind, run_equalIn_int w 9998 _ _ _ _ _ he, part_cell he #[.int k a, .int k b] (1 * 1) (.int k b) rfl, part_cell he #[.int k a, .int k b'] (1 * 1) (.int k b') rfl]
  · simp [ha]
theorem pe_eqA2 {xt yt e : TypeId} {i : TypeInfo} {x y : Operand} {k : IntKind} {a b a' b' : Int} (hx : evT tm x = some (.agg [.int k a, .int k b].toArray)) (hy : evT tm y = some (.agg [.int k a', .int k b'].toArray)) (hu : P.underlying xt = some (.array 2 e)) (hi : P.info? e = some i) (he : P.underlying e = some (.int k)) (hc : P.cellsOf e = 1) (hg : P.eqGuardType P.depth xt = false) : PE P K L ⟨d, .binOp .eql xt x y yt, T, pos, af, gd⟩ (tget tm) (.bool (decide (a = a' ∧ b = b'))) := pe_bin hx hy fun w => by
  simp only [Sem.run_bind, run_eqGuard_agg w .eql xt x y _ _ hg, Result.andThen_ok, run_eql_struct]
  rw [run_eqA2 hu hi he hc]
  rfl
end
end Go.Pm
namespace Go.Proofs.YtfkmcjiajfaemaaDoor
open Go.RowKit Go.Pm

def refB : List Int → Bool
  | [x, y, _, u] => decide ((x = 0 ∧ y = 1) ∧ u = 1)
  | _ => false
theorem refB_len {l : List Int} (h : l.length ≠ 4) : refB l = false := by
  unfold refB
  split
  · simp at h
  · rfl
theorem four {l : List Int} (h : l.length = 4) : ∃ x y z u, l = [x, y, z, u] := by
  match l, h with
  | [x, y, z, u], _ => exact ⟨x, y, z, u, rfl⟩
theorem row_of {w : World} {b o c m : Nat} {cells : List Value} (h : Vw w (.slice (some ⟨b, o, none⟩) m c) 1 m cells) (k : Nat) : w.rangeAt b o (cells.take k) := by
  obtain ⟨a', cap, he, _, _, _, _, h5⟩ := h
  intro j v hv
  have hne : cells ≠ [] := by rintro rfl; simp at hv
  obtain ⟨b', o', he2, hc⟩ := h5 hne
  cases he
  cases he2
  refine hc j v ?_
  rw [List.getElem?_take] at hv
  split at hv
  · exact hv
  · cases hv
theorem refreshes_s (a : Option Addr) (c : Nat) (l : List Int) : Pact Tryd.prog 14 #[.slice a l.length c] (fun w => Vw w (.slice a l.length c) 1 l.length (flat byC l)) [] (ret0 (.bool (refB l))) := by
  refine pact Tryd.func14 rfl Tryd.ntmps14 rfl ?_
  intro W K hK
  by_cases h4 : l.length = 4
  · obtain ⟨x, y, z, u, rfl⟩ := four h4
    refine J_fact (φ := ∃ b o, a = some ⟨b, o, none⟩ ∧ 4 ≤ c) (fun w H => ?_) ?_
    · obtain ⟨a', cap, he, _, h3, _, _, h5⟩ := hK.of H
      obtain ⟨b, o, he2, _⟩ := h5 (by simp [flat, byC])
      cases he
      exact ⟨b, o, he2, h3⟩
    · rintro ⟨b, o, rfl, hc⟩
      have hrow : Kn K (fun w => w.rangeAt b o [.int .u8 x, .int .u8 y]) := hK.imp fun w h => row_of h 2
      have hcell : Kn K (fun w => w.cell? ⟨b, o + 3 * 1, none⟩ = some (.int .u8 u)) := hK.imp fun w h => row_of h 4 3 _ rfl
      obtain ⟨B, hB⟩ : ∃ B, [x, y, z, u] = B := ⟨_, rfl⟩
      have hs3 : B[3]? = some u := by rw [← hB]; rfl
      have hBl : B.length = 4 := by rw [← hB]; rfl
      have hv : refB B = decide ((x = 0 ∧ y = 1) ∧ u = 1) := by rw [← hB]; rfl
      rw [hB] at hK ⊢
      rw [hv]
      clear hB hv h4
      rw [hBl] at hK ⊢
      (repeat' (first | ((with_reducible apply gJ); (first | refine J_seq ?_ | refine J_reg ?_ | refine J_skip ?_ | refine J_block ?_ | refine J_blk ?_ | refine J_exit rfl ?_ | refine J_goto rfl ?_ | ((with_reducible apply gJ_if); (first | refine J_ift rfl ?_ | refine J_iff rfl ?_ | (refine J_if xR ?_ ?_ <;> intro _ <;> (try (exfalso; first | contradiction | omega))) | (refine J_ifb xR ?_ ?_ <;> (intro hgb; subst hgb)) | (refine J_ifb xR ?_ ?_ <;> intro _) | fail)) | refine J_label ?_ | fail)) | ((with_reducible apply gL); (first | refine JL_nil ?_ | ((with_reducible apply gL_gd); (first | refine JL_skip xR xR ?_ | fail)) | refine L_move ?_ | refine L_assign ?_ | refine L_load ?_ | refine L_pick ?_ | refine L_indexAddr ?_ | refine L_build ?_ | refine L_c_len ?_ | refine L_bin_eql ?_ | refine L_slice ?_ | ((with_reducible apply gL_gd); (first | (refine JL_guard xR xR ?_ ?_ <;> intro _ <;> (try (exfalso; first | contradiction | omega))) | (refine JL_guardb xR xR ?_ ?_ <;> (intro hgb; subst hgb)) | (refine JL_guardb xR xR ?_ ?_ <;> (intro hgb; fail_if_success (have : type_of% hgb := rfl))) | fail)) | fail)) | fail))
      · refine JL_p rfl xR xR (pe_s2ap xR Tryd.underlying41 (by omega)) ?_
        (repeat' (first | ((with_reducible apply gJ); (first | refine J_seq ?_ | refine J_reg ?_ | refine J_skip ?_ | refine J_block ?_ | refine J_blk ?_ | refine J_exit rfl ?_ | refine J_goto rfl ?_ | ((with_reducible apply gJ_if); (first | refine J_ift rfl ?_ | refine J_iff rfl ?_ | (refine J_if xR ?_ ?_ <;> intro _ <;> (try (exfalso; first | contradiction | omega))) | (refine J_ifb xR ?_ ?_ <;> (intro hgb; subst hgb)) | (refine J_ifb xR ?_ ?_ <;> intro _) | fail)) | refine J_label ?_ | fail)) | ((with_reducible apply gL); (first | refine JL_nil ?_ | ((with_reducible apply gL_gd); (first | refine JL_skip xR xR ?_ | fail)) | ((with_reducible apply gL_load); (first | (first | refine JL_p rfl xR xR (pe_ldKR xR hrow (by show rowTy Tryd.prog 41 2 = true; kernel_rfl)) ?_ | refine JL_p rfl xR xR (pe_ldK xR hcell xC) ?_) | fail)) | ((with_reducible apply gL_bin_eql); (first | refine JL_p rfl xR xR (pe_eqA2 xR xR Tryd.underlying41 rfl Tryd.underlying5 rfl (by kernel_rfl)) ?_ | fail)) | refine L_move ?_ | refine L_assign ?_ | refine L_load ?_ | refine L_pick ?_ | refine L_indexAddr ?_ | refine L_build ?_ | refine L_c_len ?_ | refine L_bin_eql ?_ | refine L_slice ?_ | ((with_reducible apply gL_gd); (first | (refine JL_guard xR xR ?_ ?_ <;> intro _ <;> (try (exfalso; first | contradiction | omega))) | (refine JL_guardb xR xR ?_ ?_ <;> (intro hgb; subst hgb)) | (refine JL_guardb xR xR ?_ ?_ <;> (intro hgb; fail_if_success (have : type_of% hgb := rfl))) | fail)) | fail)) | fail))
        all_goals (refine J_ret1 rfl (by rfl) fun w H => ⟨_, ⟨?_, rfl⟩, H.sel .nil⟩; refine congrArg Value.bool ?_; rw [Bool.eq_iff_iff]; simp only [decide_eq_true_eq, true_iff, Bool.false_eq_true, false_iff] <;> omega)
  · rw [refB_len h4]
    (repeat' (first | ((with_reducible apply gJ); (first | refine J_seq ?_ | refine J_reg ?_ | refine J_skip ?_ | refine J_block ?_ | refine J_blk ?_ | refine J_exit rfl ?_ | refine J_goto rfl ?_ | ((with_reducible apply gJ_if); (first | refine J_ift rfl ?_ | refine J_iff rfl ?_ | (refine J_if xR ?_ ?_ <;> intro _ <;> (try (exfalso; first | contradiction | omega))) | (refine J_ifb xR ?_ ?_ <;> (intro hgb; subst hgb)) | (refine J_ifb xR ?_ ?_ <;> intro _) | fail)) | refine J_label ?_ | fail)) | ((with_reducible apply gL); (first | refine JL_nil ?_ | ((with_reducible apply gL_gd); (first | refine JL_skip xR xR ?_ | fail)) | refine L_move ?_ | refine L_assign ?_ | refine L_load ?_ | refine L_pick ?_ | refine L_indexAddr ?_ | refine L_build ?_ | refine L_c_len ?_ | refine L_bin_eql ?_ | refine L_slice ?_ | ((with_reducible apply gL_gd); (first | (refine JL_guard xR xR ?_ ?_ <;> intro _ <;> (try (exfalso; first | contradiction | omega))) | (refine JL_guardb xR xR ?_ ?_ <;> (intro hgb; subst hgb)) | (refine JL_guardb xR xR ?_ ?_ <;> (intro hgb; fail_if_success (have : type_of% hgb := rfl))) | fail)) | fail)) | fail))
    all_goals (first | (exfalso; omega) | skip)
    all_goals exact J_ret1 rfl (by rfl) fun w H => ⟨_, ⟨rfl, rfl⟩, H.sel .nil⟩
theorem rrefreshes_s (a : Option Addr) (c : Nat) (l : List Int) : Pact Tryd.prog 15 #[.slice a l.length c] (fun w => Vw w (.slice a l.length c) 1 l.length (flat byC l)) [] (ret0 (.bool (refB l))) := by
  refine pact Tryd.func15 rfl Tryd.ntmps15 rfl ?_
  intro W K hK
  by_cases h4 : l.length = 4
  · obtain ⟨x, y, z, u, rfl⟩ := four h4
    obtain ⟨B, hB⟩ : ∃ B, [x, y, z, u] = B := ⟨_, rfl⟩
    have hs0 : B[0]? = some x := by rw [← hB]; rfl
    have hs1 : B[1]? = some y := by rw [← hB]; rfl
    have hs3 : B[3]? = some u := by rw [← hB]; rfl
    have hBl : B.length = 4 := by rw [← hB]; rfl
    have hv : refB B = decide ((x = 0 ∧ y = 1) ∧ u = 1) := by rw [← hB]; rfl
    rw [hB] at hK ⊢
    rw [hv]
    clear hB hv h4
    rw [hBl] at hK ⊢
    (repeat' (first | ((with_reducible apply gJ); (first | refine J_seq ?_ | refine J_reg ?_ | refine J_skip ?_ | refine J_block ?_ | refine J_blk ?_ | refine J_exit rfl ?_ | refine J_goto rfl ?_ | ((with_reducible apply gJ_if); (first | refine J_ift rfl ?_ | refine J_iff rfl ?_ | (refine J_if xR ?_ ?_ <;> intro _ <;> (try (exfalso; first | contradiction | omega))) | (refine J_ifb xR ?_ ?_ <;> (intro hgb; subst hgb)) | (refine J_ifb xR ?_ ?_ <;> intro _) | fail)) | refine J_label ?_ | fail)) | ((with_reducible apply gL); (first | refine JL_nil ?_ | ((with_reducible apply gL_gd); (first | refine JL_skip xR xR ?_ | fail)) | refine L_move ?_ | refine L_assign ?_ | refine L_load ?_ | refine L_pick ?_ | refine L_indexAddr ?_ | refine L_c_len ?_ | refine L_bin_eql ?_ | ((with_reducible apply gL_gd); (first | (refine JL_guard xR xR ?_ ?_ <;> intro _ <;> (try (exfalso; first | contradiction | omega))) | (refine JL_guardb xR xR ?_ ?_ <;> (intro hgb; subst hgb)) | (refine JL_guardb xR xR ?_ ?_ <;> (intro hgb; fail_if_success (have : type_of% hgb := rfl))) | fail)) | fail)) | fail))
    all_goals (first | (exfalso; omega) | skip)
    all_goals (refine J_ret1 rfl (by rfl) fun w H => ⟨_, ⟨?_, rfl⟩, H.sel .nil⟩; refine congrArg Value.bool ?_; rw [Bool.eq_iff_iff]; simp only [decide_eq_true_eq, true_iff, Bool.false_eq_true, false_iff] <;> omega)
  · rw [refB_len h4]
    (repeat' (first | ((with_reducible apply gJ); (first | refine J_seq ?_ | refine J_reg ?_ | refine J_skip ?_ | refine J_block ?_ | refine J_blk ?_ | refine J_exit rfl ?_ | refine J_goto rfl ?_ | ((with_reducible apply gJ_if); (first | refine J_ift rfl ?_ | refine J_iff rfl ?_ | (refine J_if xR ?_ ?_ <;> intro _ <;> (try (exfalso; first | contradiction | omega))) | (refine J_ifb xR ?_ ?_ <;> (intro hgb; subst hgb)) | (refine J_ifb xR ?_ ?_ <;> intro _) | fail)) | refine J_label ?_ | fail)) | ((with_reducible apply gL); (first | refine JL_nil ?_ | ((with_reducible apply gL_gd); (first | refine JL_skip xR xR ?_ | fail)) | refine L_move ?_ | refine L_assign ?_ | refine L_load ?_ | refine L_pick ?_ | refine L_indexAddr ?_ | refine L_c_len ?_ | refine L_bin_eql ?_ | ((with_reducible apply gL_gd); (first | (refine JL_guard xR xR ?_ ?_ <;> intro _ <;> (try (exfalso; first | contradiction | omega))) | (refine JL_guardb xR xR ?_ ?_ <;> (intro hgb; subst hgb)) | (refine JL_guardb xR xR ?_ ?_ <;> (intro hgb; fail_if_success (have : type_of% hgb := rfl))) | fail)) | fail)) | fail))
    all_goals (first | (exfalso; omega) | skip)
    all_goals exact J_ret1 rfl (by rfl) fun w H => ⟨_, ⟨rfl, rfl⟩, H.sel .nil⟩
end Go.Proofs.YtfkmcjiajfaemaaDoor
