/-
  Two steps that are the same; same.
-/
import Derived.Test.YteekbpohocfmpaaCd4
namespace Go.Proofs.Yteekbpohocfmpaa
set_option linter.unusedSimpArgs false
set_option linter.unusedVariables false
set_option maxRecDepth 20000
set_option maxHeartbeats 4000000
open Go.RowKit Go.Pm

theorem eqF_cons {P : Program} {d : Nat} {xs : Array Value} {f : Field} {fs : List Field} {v : Value} (hn : f.name ≠ "_") (hp : ∀ w, (part f.type xs f.offset).run P w = .ok v w) (he : ∀ w, (Op.equalIn d f.type v v).run P w = .ok true w) (w : World) : (Op.eqFields d xs xs (f :: fs)).run P w = (Op.eqFields d xs xs fs).run P w := by
  simp only [Op.eqFields, if_pos hn, Sem.run_bind, hp, he, Result.andThen_ok, Bool.not_true, Bool.false_eq_true, if_false]
theorem eqF_nil {P : Program} {d : Nat} {xs : Array Value} (w : World) : (Op.eqFields d xs xs []).run P w = .ok true w := by
  simp [Op.eqFields]
theorem part_cell {P : Program} {t : TypeId} {k : IntKind} (e : P.underlying t = some (.int k)) (xs : Array Value) (o : Nat) (v : Value) (h : xs[o]? = some v) (w : World) : (part t xs o).run P w = .ok v w := by
  simp [part, Sem.run_bind, run_agg e, TypeDesc.isRow, h]
theorem eqI {P : Program} {t : TypeId} {k : IntKind} (e : P.underlying t = some (.int k)) (d : Nat) (z : Int) (w : World) : (Op.equalIn (d + 1) t (.int k z) (.int k z)).run P w = .ok true w := by
  rw [run_equalIn_int _ _ _ _ _ _ _ e]
  simp
theorem run_eqPf (d : Nat) (a l : Int) (w : World) : (Op.equalIn (d + 2) 36 (.agg #[.int .u32 a, .int .i64 l]) (.agg #[.int .u32 a, .int .i64 l])).run Try.prog w = .ok true w := by
  have hv := Try.underlying36
  have hg : ∀ fs : Array Field, Try.prog.underlying 36 = some (.struct fs) → Try.prog.fieldsOf 36 = fs := fun fs h => by simp [Program.fieldsOf, h]
  rw [run_equalIn_struct w (d + 1) 36 _ _ (by rw [hg _ hv]; exact hv) (by decide +kernel), hg _ hv]
  rw [eqF_cons (by decide) (part_cell Try.underlying34 _ _ _ rfl) (eqI Try.underlying34 d a)]
  rw [eqF_cons (by decide) (part_cell Try.underlying3 _ _ _ rfl) (eqI Try.underlying3 d l)]
  exact eqF_nil w
theorem part_pf (s : Sp) (w : World) : (part 36 (spC s).toArray 3).run Try.prog w = .ok (.agg #[.int .u32 s.a, .int .i64 s.l]) w := by
  have hz := Try.sizeOf36
  simp [part, Sem.run_bind, run_agg Try.underlying36, TypeDesc.isRow]
theorem run_eqStep (s : Sp) (w : World) : (Op.equalIn 10000 38 (.agg (spC s).toArray) (.agg (spC s).toArray)).run Try.prog w = .ok true w := by
  have hv := Try.underlying38
  have hg : ∀ fs : Array Field, Try.prog.underlying 38 = some (.struct fs) → Try.prog.fieldsOf 38 = fs := fun fs h => by simp [Program.fieldsOf, h]
  rw [run_equalIn_struct w 9999 38 _ _ (by rw [hg _ hv]; exact hv) (by decide +kernel), hg _ hv]
  rw [eqF_cons (by decide) (part_cell Try.underlying3 _ _ _ rfl) (eqI Try.underlying3 9998 s.op)]
  rw [eqF_cons (by decide) (part_cell Try.underlying3 _ _ _ rfl) (eqI Try.underlying3 9998 s.n)]
  rw [eqF_cons (by decide) (part_cell Try.underlying3 _ _ _ rfl) (eqI Try.underlying3 9998 s.m)]
  rw [eqF_cons (by decide) (part_pf s) (run_eqPf 9997 s.a s.l)]
  rw [eqF_cons (by decide) (part_cell Try.underlying3 _ _ _ rfl) (eqI Try.underlying3 9998 s.x)]
  rw [eqF_cons (by decide) (part_cell Try.underlying3 _ _ _ rfl) (eqI Try.underlying3 9998 s.y)]
  exact eqF_nil w
theorem pe_neStep {K : Hl} {L : List HP} {tm : TM} {d : Option Tmp} {T : TypeId} {pos : String} {af : Array Edge} {gd : Option (Nat × Bool)} {yt : TypeId} {x y : Operand} {s : Sp} (hx : evT tm x = some (.agg (spC s).toArray)) (hy : evT tm y = some (.agg (spC s).toArray)) : PE Try.prog K L ⟨d, .binOp .neq 38 x y yt, T, pos, af, gd⟩ (tget tm) (.bool false) := pe_bin hx hy fun w => by
  have hq : (eqGuard .neq 38 x y (.agg (spC s).toArray) (.agg (spC s).toArray)).run Try.prog w = .ok () w := run_eqGuard_agg w _ _ x y _ _ (by decide +kernel)
  simp only [Sem.run_bind, hq, Result.andThen_ok, run_neq_struct]
  rw [run_eqStep]
  rfl
/-- same, of the same. -/
theorem same_s (a b : Option Addr) (c d : Nat) (l m : List Sp) (h : l = m) (hl : l.length ≤ 1000000000000) : Pact Try.prog 9 #[.slice a l.length c, .slice b m.length d] (fun w => Vw w (.slice a l.length c) 7 l.length (flat spC l) ∧ Vw w (.slice b m.length d) 7 m.length (flat spC m)) [] (ret0 (.bool true)) := by
  subst h
  refine pact Try.func9 rfl Try.ntmps9 rfl ?_
  intro W K hK
  have hk1 : Kn K (fun w => Vw w (.slice a l.length c) 7 l.length (flat spC l)) := hK.imp fun w h => h.1
  have hk2 : Kn K (fun w => Vw w (.slice b l.length d) 7 l.length (flat spC l)) := hK.imp fun w h => h.2
  clear hK
  (repeat' (first | ((with_reducible apply gJ); (first | refine J_seq ?_ | refine J_reg ?_ | refine J_skip ?_ | refine J_block ?_ | refine J_blk ?_ | refine J_exit rfl ?_ | refine J_goto rfl ?_ | ((with_reducible apply gJ_if); (first | refine J_ift rfl ?_ | refine J_iff rfl ?_ | (refine J_if xR ?_ ?_ <;> intro _ <;> (try (exfalso; first | contradiction | omega))) | (refine J_ifb xR ?_ ?_ <;> (intro hgb; subst hgb)) | (refine J_ifb xR ?_ ?_ <;> intro _) | fail)) | refine J_label ?_ | refine J_draw (id := 6) [0, 1, 2, 3, 4, 5, 6, 7] [8] mixed xC xD xD ?_ | fail)) | ((with_reducible apply gL); (first | refine JL_nil ?_ | refine L_move ?_ | refine L_assign ?_ | refine L_c_len ?_ | refine L_bin_neq ?_ | refine L_bin_lss ?_ | refine L_bin_add_i64 ?_ | refine L_bin_add_r ?_ | fail)) | ((with_reducible apply gD); (first | (refine JD_nil ?_; try simp only [List.cons_append, List.nil_append]) | (refine JD_bar ?_; try simp only [List.cons_append, List.nil_append]) | refine D_move ?_ | refine D_load ?_ | refine D_indexAddr ?_ | refine D_bin_neq ?_ | ((with_reducible apply gD_load); (first | refine JD_ldM xR xT xC xR xR ?_ | refine JD_ldWM xR xT xW xR ?_ | refine JD_ldSM xR xT (tabS stab_ok xR) xG xC xR ?_ | fail)) | ((with_reducible apply gD_indexAddr); (first | refine JD_ixM xR xR (tabE etab_ok xR) xT xI xO xR ?_ | refine JD_ixV xR xR (tabE etab_ok xR) xT xI xO xR ?_ | fail)) | fail)) | fail))
  refine J_loop (α := Nat) 0 (fun k => l.length - k) (fun k => k ≤ l.length) (fun k => [(0, .slice a l.length c), (1, .slice b l.length d), (5, .int .i64 k)])
    (fun _ => []) (Nat.zero_le _) ⟨rfl, rfl, rfl, trivial⟩ (fun w H => H.sel .nil) ?_
  intro k hk
  by_cases hlt : k < l.length
  · obtain ⟨s, hs⟩ : ∃ s, l[k]? = some s := ⟨_, List.getElem?_eq_getElem hlt⟩
    (repeat' (first | ((with_reducible apply gJ); (first | refine J_seq ?_ | refine J_reg ?_ | refine J_skip ?_ | refine J_block ?_ | refine J_blk ?_ | refine J_exit rfl ?_ | refine J_goto rfl ?_ | ((with_reducible apply gJ_if); (first | refine J_ift rfl ?_ | refine J_iff rfl ?_ | (refine J_if xR ?_ ?_ <;> intro _ <;> (try (exfalso; first | contradiction | omega))) | (refine J_ifb xR ?_ ?_ <;> (intro hgb; subst hgb)) | (refine J_ifb xR ?_ ?_ <;> intro _) | fail)) | refine J_label ?_ | refine J_draw (id := 6) [0, 1, 2, 3, 4, 5, 6, 7] [8] mixed xC xD xD ?_ | fail)) | ((with_reducible apply gL); (first | refine JL_nil ?_ | ((with_reducible apply gL_bin_neq); (first | refine JD_p rfl xR rfl (pe_neStep (s := s) xR xR) ?_ | fail)) | refine L_move ?_ | refine L_assign ?_ | refine L_c_len ?_ | refine L_bin_neq ?_ | refine L_bin_lss ?_ | refine L_bin_add_i64 ?_ | refine L_bin_add_r ?_ | fail)) | ((with_reducible apply gD); (first | (refine JD_nil ?_; try simp only [List.cons_append, List.nil_append]) | (refine JD_bar ?_; try simp only [List.cons_append, List.nil_append]) | ((with_reducible apply gD_bin_neq); (first | refine JD_p rfl xR rfl (pe_neStep (s := s) xR xR) ?_ | fail)) | refine D_move ?_ | refine D_load ?_ | refine D_indexAddr ?_ | refine D_bin_neq ?_ | ((with_reducible apply gD_load); (first | refine JD_ldM xR xT xC xR xR ?_ | refine JD_ldWM xR xT xW xR ?_ | refine JD_ldSM xR xT (tabS stab_ok xR) xG xC xR ?_ | fail)) | ((with_reducible apply gD_indexAddr); (first | refine JD_ixM xR xR (tabE etab_ok xR) xT xI xO xR ?_ | refine JD_ixV xR xR (tabE etab_ok xR) xT xI xO xR ?_ | fail)) | fail)) | fail))
    exact J_again (k + 1) (by omega) (by omega) ⟨rfl, rfl, rfl, trivial⟩ (fun w H => H.sel .nil)
  · obtain rfl : k = l.length := by omega
    (repeat' (first | ((with_reducible apply gJ); (first | refine J_seq ?_ | refine J_reg ?_ | refine J_skip ?_ | refine J_block ?_ | refine J_blk ?_ | refine J_exit rfl ?_ | refine J_goto rfl ?_ | ((with_reducible apply gJ_if); (first | refine J_ift rfl ?_ | refine J_iff rfl ?_ | (refine J_if xR ?_ ?_ <;> intro _ <;> (try (exfalso; first | contradiction | omega))) | (refine J_ifb xR ?_ ?_ <;> (intro hgb; subst hgb)) | (refine J_ifb xR ?_ ?_ <;> intro _) | fail)) | refine J_label ?_ | refine J_draw (id := 6) [0, 1, 2, 3, 4, 5, 6, 7] [8] mixed xC xD xD ?_ | fail)) | ((with_reducible apply gL); (first | refine JL_nil ?_ | refine L_move ?_ | refine L_assign ?_ | refine L_c_len ?_ | refine L_bin_neq ?_ | refine L_bin_lss ?_ | refine L_bin_add_i64 ?_ | refine L_bin_add_r ?_ | fail)) | ((with_reducible apply gD); (first | (refine JD_nil ?_; try simp only [List.cons_append, List.nil_append]) | (refine JD_bar ?_; try simp only [List.cons_append, List.nil_append]) | refine D_move ?_ | refine D_load ?_ | refine D_indexAddr ?_ | refine D_bin_neq ?_ | ((with_reducible apply gD_load); (first | refine JD_ldM xR xT xC xR xR ?_ | refine JD_ldWM xR xT xW xR ?_ | refine JD_ldSM xR xT (tabS stab_ok xR) xG xC xR ?_ | fail)) | ((with_reducible apply gD_indexAddr); (first | refine JD_ixM xR xR (tabE etab_ok xR) xT xI xO xR ?_ | refine JD_ixV xR xR (tabE etab_ok xR) xT xI xO xR ?_ | fail)) | fail)) | fail))
    exact J_ret1 rfl (by rfl) fun w H => ⟨_, ⟨rfl, rfl⟩, H.sel .nil⟩
end Go.Proofs.Yteekbpohocfmpaa
