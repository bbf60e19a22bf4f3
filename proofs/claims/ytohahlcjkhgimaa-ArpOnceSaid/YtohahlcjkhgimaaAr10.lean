/-
  Equality of arrays; works.
-/
import Derived.Test.YtohahlcjkhgimaaAr9
import Derived.ChangeKeysEq
namespace Go.Pm
set_option linter.unusedSimpArgs false
set_option linter.unusedVariables false
set_option maxRecDepth 20000
set_option maxHeartbeats 4000000
open Go.RowKit
section
variable {P : Program} {n : Nat} {W : World} {K : Hl} {F : Fp} {k : List It} {tm : TM} {L L' R S M C : List HP} {T : TypeId} {pos : String} {af : Array Edge} {gd : Option (Nat × Bool)} {ops : Array Oper} {rest nx : List Oper} {d : Option Tmp}
theorem part_cell {t : TypeId} {k : IntKind} (e : P.underlying t = some (.int k)) (xs : Array Value) (o : Nat) (v : Value) (h : xs[o]? = some v) (w : World) : (part t xs o).run P w = .ok v w := by
  simp [part, Sem.run_bind, run_agg e, TypeDesc.isRow, h]
theorem run_eqArr (dd : Nat) {t e : TypeId} {i : TypeInfo} {k : IntKind} {m : Nat} (hu : P.underlying t = some (.array m e)) (hi : P.info? e = some i) (he : P.underlying e = some (.int k)) (hc : P.cellsOf e = 1) (us vs : List Int) (ha : us.length = m) (hb : vs.length = m) (w : World) : (Op.equalIn (dd + 2) t (.agg (us.map (Value.int k)).toArray) (.agg (vs.map (Value.int k)).toArray)).run P w = .ok (decide (us = vs)) w := by
  rw [run_equalIn_array w (dd + 1) _ _ hu hi, hc, List.range_eq_range']
  have key : ∀ r s, s + r = m → (Op.eqItems (dd + 1) e 1 (us.map (Value.int k)).toArray (vs.map (Value.int k)).toArray (List.range' s r)).run P w = .ok (decide (us.drop s = vs.drop s)) w := by
    intro r
    induction r with
    | zero =>
      intro s h
      rw [List.drop_eq_nil_of_le (by omega), List.drop_eq_nil_of_le (by omega)]
      simp [Op.eqItems]
    | succ r ih =>
      intro s h
      have h1 : us[s]? = some (us[s]'(by omega)) := List.getElem?_eq_getElem _
      have h2 : vs[s]? = some (vs[s]'(by omega)) := List.getElem?_eq_getElem _
      have d1 : us.drop s = us[s]'(by omega) :: us.drop (s + 1) := List.drop_eq_getElem_cons _
      have d2 : vs.drop s = vs[s]'(by omega) :: vs.drop (s + 1) := List.drop_eq_getElem_cons _
      rw [d1, d2]
      generalize us[s]'(by omega) = x at *
      generalize vs[s]'(by omega) = y at *
      rw [List.range'_succ]
      simp only [Op.eqItems, Sem.run_bind, part_cell he (us.map (Value.int k)).toArray (s * 1) (.int k x) (by simp [h1]), part_cell he (vs.map (Value.int k)).toArray (s * 1) (.int k y) (by simp [h2]), Result.andThen_ok, run_equalIn_int w dd _ _ _ _ _ he]
      by_cases hxy : x = y
      · subst hxy
        have := ih (s + 1) (by omega)
        simp [this]
      · simp [hxy]
  rw [key m 0 (Nat.zero_add m)]
  rfl
/-- The facts of a type that is an array of numbers. -/
structure ArrN (P : Program) (t : TypeId) (m : Nat) (k : IntKind) : Prop where
  ex : ∃ e i, P.underlying t = some (.array m e) ∧ P.info? e = some i ∧ P.underlying e = some (.int k) ∧ P.cellsOf e = 1
  gd : P.eqGuardType P.depth t = false
theorem ArrN.of {P : Program} {t e : TypeId} {m : Nat} {k : IntKind} (h1 : P.underlying t = some (.array m e)) (h3 : P.underlying e = some (.int k)) (h2 : (P.info? e).isSome = true) (h4 : P.cellsOf e = 1) (h5 : P.eqGuardType P.depth t = false) : ArrN P t m k := by
  rcases h : P.info? e with _ | i
  · rw [h] at h2; cases h2
  · exact ⟨⟨e, i, h1, h, h3, h4⟩, h5⟩
theorem pe_eqArr {xt yt : TypeId} {x y : Operand} {k : IntKind} {m : Nat} {us vs : List Int} {c : Bool} (h : ArrN P xt m k) (ha : us.length = m) (hb : vs.length = m) (hx : evT tm x = some (.agg (us.map (Value.int k)).toArray)) (hy : evT tm y = some (.agg (vs.map (Value.int k)).toArray)) (hc : decide (us = vs) = c) : PE P K L ⟨d, .binOp .eql xt x y yt, T, pos, af, gd⟩ (tget tm) (.bool c) := pe_bin hx hy fun w => by
  obtain ⟨e, i, h1, h2, h3, h4⟩ := h.ex
  simp only [Sem.run_bind, run_eqGuard_agg w .eql xt x y _ _ h.gd, Result.andThen_ok, run_eql_struct]
  rw [run_eqArr 9998 h1 h2 h3 h4 us vs ha hb, hc]
  rfl
theorem pe_neArr {xt yt : TypeId} {x y : Operand} {k : IntKind} {m : Nat} {us vs : List Int} {c : Bool} (h : ArrN P xt m k) (ha : us.length = m) (hb : vs.length = m) (hx : evT tm x = some (.agg (us.map (Value.int k)).toArray)) (hy : evT tm y = some (.agg (vs.map (Value.int k)).toArray)) (hc : decide (us = vs) = c) : PE P K L ⟨d, .binOp .neq xt x y yt, T, pos, af, gd⟩ (tget tm) (.bool (!c)) := pe_bin hx hy fun w => by
  obtain ⟨e, i, h1, h2, h3, h4⟩ := h.ex
  simp only [Sem.run_bind, run_eqGuard_agg w .neq xt x y _ _ h.gd, Result.andThen_ok, run_neq_struct]
  rw [run_eqArr 9998 h1 h2 h3 h4 us vs ha hb, hc]
  rfl
end
end Go.Pm
namespace Go.Proofs.Ytohahlcjkhgimaa
open Go.RowKit Go.Pm Go.Sort

abbrev C0 : Ca := ⟨10, 2, 0, [], [], []⟩
abbrev C1 : Ca := ⟨10, 2, 0, [], [(1, [97])], [(1, 2)]⟩
abbrev C2 : Ca := ⟨10, 2, 1, [], [(1, [97]), (1, [98])], [(1, 2)]⟩
abbrev m1 : Mc := ⟨2, 0, 0, 0, 0, 1⟩
abbrev C3 : Ca := ⟨10, 2, 1, [(1, (m1, 11))], [], []⟩
theorem ok0 : CaOk C0 := ⟨by decide, by decide, by decide, .nil, .nil, by decide, by decide⟩
theorem ok1 : CaOk C1 := wait_ok (a := 1) (l := [97]) ok0 (t := 0) (by decide) (by decide)
theorem ok2 : CaOk C2 := wait_ok (a := 1) (l := [98]) ok1 (t := 1) (by decide) (by decide)
theorem w1_e (cb : Nat) (ba : Option Addr) : Pact Try.prog 24 #[.pointer (some ⟨cb, 0, none⟩), .int .i64 0, .int .u32 1, .slice ba 1 1] (fun w => Vw w (.slice ba 1 1) 1 1 [.int .u8 97]) [caA cb C0] (fun u L' => u = .tuple #[.bool true, .int .i64 0] ∧ L' = [caA cb C1]) :=
  wait_s cb C0 0 1 ba 1 1 [97] rfl (by decide) ok0 (by decide) (by decide)
theorem w2_e (cb : Nat) (ba : Option Addr) : Pact Try.prog 24 #[.pointer (some ⟨cb, 0, none⟩), .int .i64 1, .int .u32 1, .slice ba 1 1] (fun w => Vw w (.slice ba 1 1) 1 1 [.int .u8 98]) [caA cb C1] (fun u L' => u = .tuple #[.bool false, .int .i64 0] ∧ L' = [caA cb C2]) :=
  wait_s cb C1 1 1 ba 1 1 [98] rfl (by decide) ok1 (by decide) (by decide)
theorem f1_e (cb : Nat) : Pact Try.prog 14 #[.pointer (some ⟨cb, 0, none⟩), .int .i64 11, .int .u32 1] (fun _ => True) [caA cb C3] (fun u L' => u = .tuple #[.agg (mcC m1).toArray, .bool true] ∧ L' = [caA cb C3]) := find_s cb C3 11 1
theorem f2_e (cb : Nat) : Pact Try.prog 14 #[.pointer (some ⟨cb, 0, none⟩), .int .i64 12, .int .u32 1] (fun _ => True) [caA cb C3] (fun u L' => u = .tuple #[.agg (mcC mc0).toArray, .bool false] ∧ L' = [caA cb C3]) := find_s cb C3 12 1
theorem learn_c : learnC C2 1 1 m1 = C3 := rfl
theorem learn_o : learnO C2 1 = [[97], [98]] := rfl
theorem l1_e (cb : Nat) : Pact Try.prog 13 #[.pointer (some ⟨cb, 0, none⟩), .int .i64 1, .int .u32 1, .agg (mcC m1).toArray] (fun _ => True) [caA cb C2] (fun u L' => ∃ (oa : Option Addr) (oc : Nat) (a0 : Option Addr) (c0 : Nat) (a1 : Option Addr) (c1 : Nat) (os : List Bs), os[0]? = some ⟨a0, c0, [97]⟩ ∧ os[1]? = some ⟨a1, c1, [98]⟩ ∧ os.length = 2 ∧ u = .tuple #[.slice oa 2 oc, .int .i64 0] ∧ L' = [caA cb C3, Ar 33 1 bsC (.slice oa 2 oc) os, has (fun w => Vw w (.slice a0 1 c0) 1 1 (flat byC [97])), has (fun w => Vw w (.slice a1 1 c1) 1 1 (flat byC [98]))]) := by
  have h := learn_s cb C2 1 1 m1 ok2 (by decide)
  rw [learn_c, learn_o] at h
  intro W K w hK H
  refine (h W K w hK H).mono fun e w' h3 => ?_
  obtain ⟨u, L', ⟨oa, oc, os, ho, h4, h5⟩, he, h6⟩ := h3
  rcases os with _ | ⟨⟨a0, c0, l0⟩, _ | ⟨⟨a1, c1, l1⟩, _ | ⟨s, os⟩⟩⟩
  · cases ho
  · cases ho
  · simp only [List.map_cons, List.map_nil, List.cons.injEq, and_true] at ho
    obtain ⟨rfl, rfl⟩ := ho
    subst h5
    exact ⟨u, _, ⟨oa, oc, a0, c0, a1, c1, [⟨a0, c0, [97]⟩, ⟨a1, c1, [98]⟩], rfl, rfl, rfl, h4, rfl⟩, he, ((Ow.flat h6 (by (first | ((with_reducible (repeat (first | exact Tk.here | apply Tk.there))); done) | ((simp only [List.cons_append, List.nil_append]); (with_reducible (repeat (first | exact Tk.here | apply Tk.there))); done) | fail))).sel (by (first | ((with_reducible (repeat (first | exact Sb.nil | apply Sb.cons | exact Tk.here | apply Tk.there))); done) | (repeat (first | exact Sb.nil | apply Sb.cons | exact Tk.here | apply Tk.there)))))⟩
  · simp at ho
theorem arrMac : ArrN Try.prog 26 6 .u8 := .of Try.underlying26 Try.underlying5 (by decide +kernel) (by decide +kernel) (by decide +kernel)
def Mc.ns (m : Mc) : List Int := [m.a, m.b, m.c, m.d, m.e, m.f]
set_option maxRecDepth 4000 in
theorem works_s : Pact Try.prog 10 #[] (fun _ => True) [] (ret0 (.bool true)) := by
  refine pact Try.func10 rfl Try.ntmps10 rfl ?_
  intro W K _
  (repeat' (first | ((with_reducible apply gJ); (first | refine J_seq ?_ | refine J_reg ?_ | refine J_skip ?_ | refine J_block ?_ | refine J_blk ?_ | refine J_exit rfl ?_ | refine J_goto rfl ?_ | ((with_reducible apply gJ_if); (first | refine J_ift rfl ?_ | refine J_iff rfl ?_ | (refine J_if xR ?_ ?_ <;> intro _ <;> (try (exfalso; first | contradiction | omega))) | (refine J_ifb xR ?_ ?_ <;> (intro hgb; subst hgb)) | (refine J_ifb xR ?_ ?_ <;> intro _) | fail)) | refine J_label ?_ | fail)) | ((with_reducible apply gL); (first | (with_reducible apply gL_app) | (with_reducible apply gL_app0) | refine JL_nil ?_ | ((with_reducible apply gL_gd); (first | refine JL_skip xR xR ?_ | fail)) | ((with_reducible apply gL_convert); (first | (first | (refine JL_a rfl xR xR (.cons xA .nil) (ae_cvB (m := 1) xR xC rfl xC) ?_; rintro _ _ ⟨rfl, rfl⟩; simp only [List.cons_append, List.nil_append]) | (refine JL_p rfl xR xR (pe_str (m := 1) (l := [97]) xR xC xC (fun w hr => hr.has (φ := fun w => Vw w (.slice a0 1 c0) 1 1 (flat byC [97])) (by (first | ((with_reducible (repeat (first | exact Tk.here | apply Tk.there))); done) | ((simp only [List.cons_append, List.nil_append]); (with_reducible (repeat (first | exact Tk.here | apply Tk.there))); done) | fail)))) ?_) | (refine JL_p rfl xR xR (pe_str (m := 1) (l := [98]) xR xC xC (fun w hr => hr.has (φ := fun w => Vw w (.slice a1 1 c1) 1 1 (flat byC [98])) (by (first | ((with_reducible (repeat (first | exact Tk.here | apply Tk.there))); done) | ((simp only [List.cons_append, List.nil_append]); (with_reducible (repeat (first | exact Tk.here | apply Tk.there))); done) | fail)))) ?_)) | fail)) | ((with_reducible apply gL_bin_eql); (first | (first | (refine JL_p rfl xR xR (pe_eqStr (c := true) xR xR xC (by decide +kernel)) ?_) | (refine JL_p rfl xR xR (pe_eqArr (c := true) (us := m1.ns) (vs := m1.ns) arrMac rfl rfl xR xR (decide_eq_true rfl)) ?_)) | fail)) | refine L_move ?_ | refine L_assign ?_ | refine L_load ?_ | refine L_pick ?_ | refine L_indexAddr ?_ | refine L_build ?_ | refine L_extract ?_ | refine L_c_len ?_ | refine L_un_not ?_ | refine L_bin_eql ?_ | refine L_convert_i64 ?_ | refine L_convert_r ?_ | ((with_reducible apply gL_alloc); (first | (refine JL_mc rfl xR xR (al_alloc xN xK) ?_; intro _) | fail)) | ((with_reducible apply gL_buildSlice); (first | (refine JL_mc rfl xR xR (al_bs1 xR (tabE etab_ok xR) xK) ?_; intro _) | (refine JL_mc rfl xR xR (al_bs xR (tabE etab_ok xR) xN xK) ?_; intro _) | fail)) | ((with_reducible apply gL_store); (first | refine JL_st xR xR xT xC xR xE xR ?_ | refine JL_stW xR xR xT xW xR xR xR ?_ | refine JL_stS xR xR xT xW xP xR xR ?_ | refine JL_stEl xR xR xT xR xL xR (tabS stab_ok xR) xR xR xO ?_ | fail)) | ((with_reducible apply gL_go); (first | (refine JL_goq (new_s 10 2 (by decide) (by decide)) (hφ := xF) (h := ?_); rintro _ _ ⟨cb, rfl, rfl⟩; try simp only [List.cons_append, List.nil_append]) | (refine JL_goq (w1_e cb _) (hφ := (by (try simp only [List.cons_append, List.nil_append]); exact fun w hr => Src.ofV (by (first | ((with_reducible (repeat (first | exact Tk.here | apply Tk.there))); done) | ((simp only [List.cons_append, List.nil_append]); (with_reducible (repeat (first | exact Tk.here | apply Tk.there))); done) | fail)) w hr)) (h := ?_); rintro _ _ ⟨rfl, rfl⟩; try simp only [List.cons_append, List.nil_append]) | (refine JL_goq (w2_e cb _) (hφ := (by (try simp only [List.cons_append, List.nil_append]); exact fun w hr => Src.ofV (by (first | ((with_reducible (repeat (first | exact Tk.here | apply Tk.there))); done) | ((simp only [List.cons_append, List.nil_append]); (with_reducible (repeat (first | exact Tk.here | apply Tk.there))); done) | fail)) w hr)) (h := ?_); rintro _ _ ⟨rfl, rfl⟩; try simp only [List.cons_append, List.nil_append]) | (refine JL_goq (l1_e cb) (hφ := xF) (h := ?_); rintro _ _ ⟨oa, oc, a0, c0, a1, c1, os, hs0, hs1, hos, rfl, rfl⟩; try simp only [List.cons_append, List.nil_append]) | (refine JL_goq (f1_e cb) (hφ := xF) (h := ?_); rintro _ _ ⟨rfl, rfl⟩; try simp only [List.cons_append, List.nil_append]) | (refine JL_goq (f2_e cb) (hφ := xF) (h := ?_); rintro _ _ ⟨rfl, rfl⟩; try simp only [List.cons_append, List.nil_append]) | fail)) | ((with_reducible apply gL_gd); (first | (refine JL_guard xR xR ?_ ?_ <;> intro _ <;> (try (exfalso; first | contradiction | omega))) | (refine JL_guardb xR xR ?_ ?_ <;> (intro hgb; subst hgb)) | (refine JL_guardb xR xR ?_ ?_ <;> (intro hgb; fail_if_success (have : type_of% hgb := rfl))) | fail)) | fail)) | fail))
  exact J_ret1 rfl (by rfl) fun w H => ⟨_, ⟨rfl, rfl⟩, H.sel .nil⟩
end Go.Proofs.Ytohahlcjkhgimaa
