/-
  The law of Read.
-/
import Derived.Test.YtohahlcjkhgimaaAr23
import Derived.HandedShaped
namespace Go.Proofs.Ytohahlcjkhgimaa
set_option linter.unusedSimpArgs false
set_option linter.unusedVariables false
set_option maxRecDepth 20000
set_option maxHeartbeats 4000000
open Go.RowKit Go.Pm Go.Sort

theorem bytes_s (a : Option Addr) (c n : Nat) (l : List Int) (hn : l.length = n) (hl : n ≤ 1000000) : Pact Try.prog 21 #[.slice a n c] (fun w => Vw w (.slice a n c) 1 n (flat byC l)) [] (fun u L' => ∃ a' c', u = .slice a' n c' ∧ L' = [Ar 5 1 byC (.slice a' n c') l]) := by
  subst hn
  refine pact Try.func21 rfl Try.ntmps21 rfl ?_
  intro W K hK
  (repeat' (first | ((with_reducible apply gJ); (first | refine J_seq ?_ | refine J_reg ?_ | refine J_skip ?_ | refine J_block ?_ | refine J_blk ?_ | refine J_exit rfl ?_ | refine J_goto rfl ?_ | ((with_reducible apply gJ_if); (first | refine J_ift rfl ?_ | refine J_iff rfl ?_ | (refine J_if xR ?_ ?_ <;> intro _ <;> (try (exfalso; first | contradiction | omega))) | (refine J_ifb xR ?_ ?_ <;> (intro hgb; subst hgb)) | (refine J_ifb xR ?_ ?_ <;> intro _) | fail)) | refine J_label ?_ | fail)) | ((with_reducible apply gL); (first | refine JL_nil ?_ | ((with_reducible apply gL_c_append); (first | (refine JL_appL byC (fs := l) (tabE etab_ok xR) xR xR xA (Src.kn hK) xC xL xU (by omega) xR xR ?_; intro ad1 c1 _ _) | fail)) | refine L_move ?_ | refine L_assign ?_ | ((with_reducible apply gL_buildSlice); (first | (refine JL_mc rfl xR xR (al_bs1 xR (tabE etab_ok xR) xK) ?_; intro _) | (refine JL_mc rfl xR xR (al_bs xR (tabE etab_ok xR) xN xK) ?_; intro _) | fail)) | ((with_reducible apply gL_c_append); (first | (refine JL_ap1 (tabE etab_ok xR) xR xR xT xT xC xR xL xR xO xR xR ?_; intro _ _ _ _) | (refine JL_app (tabE etab_ok xR) xR xR xT xV xC xL xU xO xR xR ?_; intro _ _ _ _) | fail)) | fail)) | fail))
  exact J_ret1 rfl (by rfl) fun w H => ⟨_, ⟨ad1, c1, rfl, rfl⟩, H.sel (by (first | ((with_reducible (repeat (first | exact Sb.nil | apply Sb.cons | exact Tk.here | apply Tk.there))); done) | (repeat (first | exact Sb.nil | apply Sb.cons | exact Tk.here | apply Tk.there))))⟩
theorem read_s (a : Option Addr) (c n : Nat) (B : List Int) (hn : B.length = n) (hB : U8s B) : Pact Try.prog 20 #[.slice a n c] (fun w => Vw w (.slice a n c) 1 n (flat byC B)) [] (ret0 (rdV B)) := by
  by_cases h28 : 28 ≤ n
  · by_cases hh : B.take 7 = hdB
    · obtain ⟨k, hk⟩ : ∃ k, B[7]? = some k := ⟨_, List.getElem?_eq_getElem (by omega)⟩
      by_cases hk2 : k = 1 ∨ k = 2
      · rw [rdV_ok ⟨by omega, hh, by rw [hk]; exact hk2⟩]
        exact read_ok a c n B k hn h28 hB hh hk hk2
      · rw [rdV_no (fun h => hk2 (by have := h.2.2; rw [hk] at this; exact this))]
        exact readkind_s a c n B k hn h28 hB hh hk hk2
    · rw [rdV_no (fun h => hh h.2.1)]
      exact readhead_s a c n B hn h28 hh
  · rw [rdV_no (fun h => h28 (by have := h.1; omega))]
    exact fun W K w _ H => readshort_s a c n h28 W K w Kn.true H
def rdM (B : List Int) : Ms := if rdOk B then msOf B else ms0
def rdE (B : List Int) : Int := if rdOk B then 0 else 60
theorem rdV_eq (B : List Int) : rdV B = .tuple #[.agg (msC (rdM B)).toArray, .int .i64 (rdE B)] := by
  unfold rdV rdM rdE
  split <;> rfl
theorem run_eqMsR (m : Ms) (w : World) : (Op.equalIn 10000 49 (.agg (msC m).toArray) (.agg (msC m).toArray)).run Try.prog w = .ok true w := by
  have hv := Try.underlying49
  have hg : ∀ fs : Array Field, Try.prog.underlying 49 = some (.struct fs) → Try.prog.fieldsOf 49 = fs := fun fs h => by simp [Program.fieldsOf, h]
  rw [run_equalIn_struct w 9999 49 _ _ (by rw [hg _ hv]; exact hv) (by decide +kernel), hg _ hv]
  rw [eqF_cons (by decide) (part_cell Try.underlying3 _ _ _ rfl) (eqI Try.underlying3 9998 m.k)]
  rw [eqF_cons (by decide) (part_mac1 m) (eqMac m.f)]
  rw [eqF_cons (by decide) (part_cell Try.underlying24 _ _ _ rfl) (eqI Try.underlying24 9998 m.fa)]
  rw [eqF_cons (by decide) (part_mac8 m) (eqMac m.t)]
  rw [eqF_cons (by decide) (part_cell Try.underlying24 _ _ _ rfl) (eqI Try.underlying24 9998 m.ta)]
  exact eqF_nil w
theorem pe_eqMsR {K : Hl} {L : List HP} {tm : TM} {d : Option Tmp} {T : TypeId} {pos : String} {af : Array Edge} {gd : Option (Nat × Bool)} {yt : TypeId} {x y : Operand} {m : Ms} (hx : evT tm x = some (.agg (msC m).toArray)) (hy : evT tm y = some (.agg (msC m).toArray)) : PE Try.prog K L ⟨d, .binOp .eql 49 x y yt, T, pos, af, gd⟩ (tget tm) (.bool true) := pe_bin hx hy fun w => by
  have hq : (eqGuard .eql 49 x y (.agg (msC m).toArray) (.agg (msC m).toArray)).run Try.prog w = .ok () w := run_eqGuard_agg w _ _ x y _ _ (by decide +kernel)
  simp only [Sem.run_bind, hq, Result.andThen_ok, run_eql_struct]
  rw [run_eqMsR]
  rfl
set_option maxRecDepth 4000 in
set_option maxHeartbeats 1000000 in
theorem reads_s (a : Option Addr) (c n : Nat) (B : List Int) (hn : B.length = n) (hB : U8s B) : Pact Try.prog 6 #[.slice a n c] (fun w => Vw w (.slice a n c) 1 n (flat byC B)) [] (ret0 (.bool true)) := by
  refine pact Try.func6 rfl Try.ntmps6 rfl ?_
  intro W K hK
  refine J_fact (φ := n ≤ c) (fun w H => (hK.of H).shape.elim fun a' h => h.elim fun c' h => ?_) ?_
  · obtain ⟨h1, h2, _⟩ := h
    cases h1
    exact h2
  intro hnc
  obtain ⟨q, hq⟩ : ∃ q, B.take (min n 100) = q := ⟨_, rfl⟩
  have hql : q.length = min n 100 := by rw [← hq, List.length_take, hn]; omega
  have hqu : U8s q := fun x hx => hB x (by rw [← hq] at hx; exact List.mem_of_mem_take hx)
  have hkq : Kn K (fun w => Vw w (.slice a (min n 100) c) 1 (min n 100) (flat byC q)) := hK.imp fun w h => by
    rw [← hq]
    exact Vw_take' h (fun _ => rfl) hn (min n 100) (by omega)
  have hr1 := fun a2 c2 => read_s a2 c2 (min n 100) q hql hqu
  have hr2 := rread_s a c (min n 100) q hql hqu
  rw [rdV_eq] at hr1 hr2
  generalize rdM q = M at *
  generalize rdE q = E at *
  (repeat' (first | ((with_reducible apply gJ); (first | refine J_seq ?_ | refine J_reg ?_ | refine J_skip ?_ | refine J_block ?_ | refine J_blk ?_ | refine J_exit rfl ?_ | refine J_goto rfl ?_ | ((with_reducible apply gJ_if); (first | refine J_ift rfl ?_ | refine J_iff rfl ?_ | (refine J_if xR ?_ ?_ <;> intro _ <;> (try (exfalso; first | contradiction | omega))) | (refine J_ifb xR ?_ ?_ <;> (intro hgb; subst hgb)) | (refine J_ifb xR ?_ ?_ <;> intro _) | fail)) | refine J_label ?_ | refine J_draw (id := 4) [0, 2, 1, 3, 4, 5, 6] [7, 8, 9, 10, 11, 12] mixed xC xD xD ?_ | fail)) | ((with_reducible apply gL); (first | refine JL_nil ?_ | ((with_reducible apply gL_slice); (first | (refine JL_p rfl xR xR (pe_sl0 (h := min n 100) xR (tabE etab_ok xR) ⟨_, _, by rfl, by omega⟩ (by omega) (by omega)) ?_) | fail)) | refine L_move ?_ | refine L_assign ?_ | refine L_extract ?_ | refine L_c_len ?_ | refine L_slice ?_ | refine L_c_min ?_ | ((with_reducible apply gL_alloc); (first | (refine JL_mc rfl xR xR (al_alloc xN xK) ?_; intro _) | fail)) | ((with_reducible apply gL_store); (first | refine JL_st xR xR xT xC xR xE xR ?_ | refine JL_stW xR xR xT xW xR xR xR ?_ | refine JL_stS xR xR xT xW xP xR xR ?_ | refine JL_stEl xR xR xT xR xL xR (tabS stab_ok xR) xR xR xO ?_ | fail)) | ((with_reducible apply gL_go); (first | (refine JL_goq (bytes_s a c (min n 100) q hql (by omega)) (hφ := (by (try simp only [List.cons_append, List.nil_append]); exact fun w hr => hkq w hr.1)) (h := ?_); rintro _ _ ⟨a1, c1, rfl, rfl⟩; try simp only [List.cons_append, List.nil_append]) | (refine JL_goq (hr1 _ _) (hφ := (by (try simp only [List.cons_append, List.nil_append]); exact fun w hr => ar_src (by (first | ((with_reducible (repeat (first | exact Tk.here | apply Tk.there))); done) | ((simp only [List.cons_append, List.nil_append]); (with_reducible (repeat (first | exact Tk.here | apply Tk.there))); done) | fail)) hql hr)) (h := ?_); rintro _ _ ⟨rfl, rfl⟩; try simp only [List.cons_append, List.nil_append]) | (refine JL_goq (hr2) (hφ := (by (try simp only [List.cons_append, List.nil_append]); exact fun w hr => hkq w hr.1)) (h := ?_); rintro _ _ ⟨rfl, rfl⟩; try simp only [List.cons_append, List.nil_append]) | (refine JL_goq (plain_s M) (hφ := xF) (h := ?_); rintro _ _ ⟨rfl, rfl⟩; try simp only [List.cons_append, List.nil_append]) | (refine JL_goq (works_s) (hφ := xF) (h := ?_); rintro _ _ ⟨rfl, rfl⟩; try simp only [List.cons_append, List.nil_append]) | fail)) | fail)) | ((with_reducible apply gD); (first | (refine JD_nil ?_; try simp only [List.cons_append, List.nil_append]) | (refine JD_bar ?_; try simp only [List.cons_append, List.nil_append]) | ((with_reducible apply gD_gd); (first | refine JD_skip xR ?_ | fail)) | ((with_reducible apply gD_bin_eql); (first | (refine JD_p rfl xR rfl (pe_eqMsR xR xR) ?_) | fail)) | refine D_move ?_ | refine D_assign ?_ | refine D_load ?_ | refine D_pick ?_ | refine D_bin_eql ?_ | ((with_reducible apply gD_load); (first | refine JD_ldM xR xT xC xR xR ?_ | refine JD_ldWM xR xT xW xR ?_ | refine JD_ldSM xR xT (tabS stab_ok xR) xG xC xR ?_ | fail)) | ((with_reducible apply gD_go); (first | (refine JD_goq (bytes_s a c (min n 100) q hql (by omega)) (hφ := (by (try simp only [List.cons_append, List.nil_append]); exact fun w hr => hkq w hr.1)) (h := ?_); rintro _ _ ⟨a1, c1, rfl, rfl⟩; try simp only [List.cons_append, List.nil_append]) | (refine JD_goq (hr1 _ _) (hφ := (by (try simp only [List.cons_append, List.nil_append]); exact fun w hr => ar_src (by (first | ((with_reducible (repeat (first | exact Tk.here | apply Tk.there))); done) | ((simp only [List.cons_append, List.nil_append]); (with_reducible (repeat (first | exact Tk.here | apply Tk.there))); done) | fail)) hql hr)) (h := ?_); rintro _ _ ⟨rfl, rfl⟩; try simp only [List.cons_append, List.nil_append]) | (refine JD_goq (hr2) (hφ := (by (try simp only [List.cons_append, List.nil_append]); exact fun w hr => hkq w hr.1)) (h := ?_); rintro _ _ ⟨rfl, rfl⟩; try simp only [List.cons_append, List.nil_append]) | (refine JD_goq (plain_s M) (hφ := xF) (h := ?_); rintro _ _ ⟨rfl, rfl⟩; try simp only [List.cons_append, List.nil_append]) | (refine JD_goq (works_s) (hφ := xF) (h := ?_); rintro _ _ ⟨rfl, rfl⟩; try simp only [List.cons_append, List.nil_append]) | fail)) | ((with_reducible apply gD_gd); (first | (refine JD_guard xR xR ?_ ?_ <;> intro _ <;> (try (exfalso; first | contradiction | omega))) | (refine JD_guardb xR xR ?_ ?_ <;> (intro hgb; subst hgb)) | (refine JD_guardb xR xR ?_ ?_ <;> (intro hgb; fail_if_success (have : type_of% hgb := rfl))) | fail)) | fail)) | fail))
  exact J_ret1 rfl (by rfl) fun w H => ⟨_, ⟨rfl, rfl⟩, H.sel .nil⟩
namespace arpReads
theorem walk {W : World} (n0 : Nat) {a0 : Option Addr} {l0 c0 : Nat} (g0 : Rs Try.prog W n0 33 (Value.slice a0 l0 c0).cells.toList) :
    Calls Try.prog 6 #[.slice a0 l0 c0] W fun e w' => e = .returned (.bool true) ∧ Only [] W w' := by
  obtain ⟨B, rfl, hB, hl, hK⟩ := bytes_arg g0
  exact (reads_s a0 c0 B.length B rfl hB).law hK
end arpReads
namespace arpReads
open Go.ChangeShapes Go.WideShapes Go.ChangeAt
set_option linter.unusedVariables false

theorem own : ownKnob Try.prog.godebug = none := by kernel_rfl
theorem laidOut : laidOutB Try.prog = true := by kernel_rfl

set_option maxRecDepth 100000 in
theorem lifted (os : Os) (started : os.Started) (H : Type) (enc : TypeId × Value → H) :
    ReturnsInHanded {} Try.checked os 6 .any (Rows.arpReadsSpec.pre6 enc Try.prog Try.f6 Rows.arpReadsRow.domain false) (Rows.arpReadsSpec.post enc Try.prog Try.f6 false true false false) := by
  refine returnsInHanded_of_change_sized (C := Try.checked) own started (by kernel_rfl) Try.func6
    (ChangeSpec.witness6 (enc := enc) (C := Try.checked) false ⟨#[], #[.slice none 0 0], []⟩ 8 (by kernel_rfl) (by kernel_rfl) (by kernel_rfl) (by kernel_rfl)) ?_
  intro W base args ds gs before hval0 hW hcnd hsz hreach
  have hval : ∀ (j : Nat) t v, Try.f6.params[j]? = some t → args[j]? = some v → Value.okWide Try.prog W .any base t v := hval0
  have hW' := hW
  obtain ⟨p, q, hA0, hV, rfl, hfz, hnd⟩ := hW
  have hA : DataW.TrodAll enc Try.prog W 0 (fun _ => true) true Try.f6.params.toList args.toList ds p := hA0
  rw [Try.params6] at hA hval
  obtain ⟨v0, vs0, d0, ds0, p0, q0, hargs, rfl, rfl, h0, r0⟩ := trodAll_cons hA
  obtain ⟨rfl, rfl, rfl⟩ := trodAll_nil r0
  obtain rfl : args = #[v0] := by cases args; simp_all
  obtain ⟨rfl, rfl⟩ := trodVars_none hV
  have k0 := h0
  have lt0 : ∀ x ∈ p0, x.block < W.heap.size := by obtain ⟨m, hm⟩ := k0; exact DataW.trod_lt m _ _ _ hm
  obtain ⟨n0, g0⟩ := Rs.of_weights hsz 0 (by first | rfl | (simp [Try.params6])) rfl h0
  obtain ⟨a0, l0, c0, rfl⟩ := okWide_slice Try.underlying33 (hval 0 33 v0 rfl rfl)
  refine (walk n0 g0).mono fun e W' ⟨he, hg⟩ => ?_
  subst he
  have bel := hg.belowNil
  exact ⟨_, rfl, _, _, _, [], _, [], hW', trodAll_mk1 (shut_bool Try.underlying4 _), (trodAll_cons_mk (Below.trod laidOut (by kernel_rfl) (of_decide_eq_true (by kernel_rfl)) k0 bel lt0) trodAll_mk0), rfl, bel.frame _, fun h => by cases h⟩

theorem over : Rows.arpReadsRow.holds Try.pinned (OpenSpec.ofChange Rows.arpReadsSpec) :=
  OpenClaim.holds_of_wide 6 Try.f6 rfl rfl rfl rfl rfl rfl rfl ⟨rfl, rfl, rfl, rfl, rfl⟩ rfl rfl rfl rfl rfl (by kernel_rfl) Try.func6 (by kernel_rfl)
    (of_decide_eq_true (by kernel_rfl)) (by unfold Func.isWrapper; first | (rw [if_pos (by decide +kernel)]; kernel_rfl) | (rw [if_neg (by decide +kernel)]; exact ⟨rfl, rfl⟩))
    (fun os started H enc _ => lifted os started H enc)

/-- The statement. -/
theorem proved : Rows.ArpReadsSaid := over
#print axioms proved
end arpReads
end Go.Proofs.Ytohahlcjkhgimaa
