/-
  Messages that are the same; what is built reads back.
-/
import Derived.Test.YtohahlcjkhgimaaAr16
namespace Go.Proofs.Ytohahlcjkhgimaa
set_option linter.unusedSimpArgs false
set_option linter.unusedVariables false
set_option maxRecDepth 20000
set_option maxHeartbeats 4000000
open Go.RowKit Go.Pm Go.Sort

theorem eqF_cons {P : Program} {d : Nat} {xs : Array Value} {f : Field} {fs : List Field} {v : Value} (hn : f.name ≠ "_") (hp : ∀ w, (Go.part f.type xs f.offset).run P w = .ok v w) (he : ∀ w, (Op.equalIn d f.type v v).run P w = .ok true w) (w : World) : (Op.eqFields d xs xs (f :: fs)).run P w = (Op.eqFields d xs xs fs).run P w := by
  simp only [Op.eqFields, if_pos hn, Sem.run_bind, hp, he, Result.andThen_ok, Bool.not_true, Bool.false_eq_true, if_false]
theorem eqF_nil {P : Program} {d : Nat} {xs : Array Value} (w : World) : (Op.eqFields d xs xs []).run P w = .ok true w := by
  simp [Op.eqFields]
theorem eqI {P : Program} {t : TypeId} {k : IntKind} (e : P.underlying t = some (.int k)) (d : Nat) (z : Int) (w : World) : (Op.equalIn (d + 1) t (.int k z) (.int k z)).run P w = .ok true w := by
  rw [run_equalIn_int _ _ _ _ _ _ _ e]
  simp
theorem eqMac (m : Mc) (w : World) : (Op.equalIn 9999 26 (.agg (mcC m).toArray) (.agg (mcC m).toArray)).run Try.prog w = .ok true w := by
  obtain ⟨e, i, h1, h2, h3, h4⟩ := arrMac.ex
  have h := run_eqArr 9997 h1 h2 h3 h4 m.ns m.ns rfl rfl w
  rw [decide_eq_true rfl] at h
  exact h
theorem part_mac1 (m : Ms) (w : World) : (Go.part 26 (msC m).toArray 1).run Try.prog w = .ok (.agg (mcC m.f).toArray) w := by
  have hz := Try.sizeOf26
  simp [Go.part, Sem.run_bind, run_agg Try.underlying26, TypeDesc.isRow]
theorem part_mac8 (m : Ms) (w : World) : (Go.part 26 (msC m).toArray 8).run Try.prog w = .ok (.agg (mcC m.t).toArray) w := by
  have hz := Try.sizeOf26
  simp [Go.part, Sem.run_bind, run_agg Try.underlying26, TypeDesc.isRow]
theorem run_eqMs (m : Ms) (w : World) : (Op.equalIn 10000 45 (.agg (msC m).toArray) (.agg (msC m).toArray)).run Try.prog w = .ok true w := by
  have hv := Try.underlying45
  have hg : ∀ fs : Array Field, Try.prog.underlying 45 = some (.struct fs) → Try.prog.fieldsOf 45 = fs := fun fs h => by simp [Program.fieldsOf, h]
  rw [run_equalIn_struct w 9999 45 _ _ (by rw [hg _ hv]; exact hv) (by decide +kernel), hg _ hv]
  rw [eqF_cons (by decide) (part_cell Try.underlying3 _ _ _ rfl) (eqI Try.underlying3 9998 m.k)]
  rw [eqF_cons (by decide) (part_mac1 m) (eqMac m.f)]
  rw [eqF_cons (by decide) (part_cell Try.underlying24 _ _ _ rfl) (eqI Try.underlying24 9998 m.fa)]
  rw [eqF_cons (by decide) (part_mac8 m) (eqMac m.t)]
  rw [eqF_cons (by decide) (part_cell Try.underlying24 _ _ _ rfl) (eqI Try.underlying24 9998 m.ta)]
  exact eqF_nil w
theorem pe_eqMs {K : Hl} {L : List HP} {tm : TM} {d : Option Tmp} {T : TypeId} {pos : String} {af : Array Edge} {gd : Option (Nat × Bool)} {yt : TypeId} {x y : Operand} {m : Ms} (hx : evT tm x = some (.agg (msC m).toArray)) (hy : evT tm y = some (.agg (msC m).toArray)) : PE Try.prog K L ⟨d, .binOp .eql 45 x y yt, T, pos, af, gd⟩ (tget tm) (.bool true) := pe_bin hx hy fun w => by
  have hq : (eqGuard .eql 45 x y (.agg (msC m).toArray) (.agg (msC m).toArray)).run Try.prog w = .ok () w := run_eqGuard_agg w _ _ x y _ _ (by decide +kernel)
  simp only [Sem.run_bind, hq, Result.andThen_ok, run_eql_struct]
  rw [run_eqMs]
  rfl
theorem ad_of (a : Int) (h : U32 a) : a / 16777216 * 16777216 + a / 65536 % 256 * 65536 + a / 256 % 256 * 256 + a % 256 = a := by
  obtain ⟨h0, h1⟩ := h
  omega
theorem ms_of (m : Ms) (hf : U32 m.fa) (ht : U32 m.ta) (r : List Int) : msOf (msB m ++ r) = m := by
  have h1 : adOf ((msB m ++ r).drop 8) = m.fa := ad_of m.fa hf
  have h2 : adOf ((msB m ++ r).drop 18) = m.ta := ad_of m.ta ht
  unfold msOf
  rw [h1, h2]
  rfl
def McN (m : Mc) : Prop := U8s m.ns
theorem msB_u8 {m : Ms} (hk : m.k = 1 ∨ m.k = 2) (hf : U32 m.fa) (ht : U32 m.ta) (h1 : McN m.f) (h2 : McN m.t) {r : List Int} (hr : U8s r) : U8s (msB m ++ r) := by
  intro x hx
  obtain ⟨f0, f1⟩ := hf
  obtain ⟨t0, t1⟩ := ht
  unfold msB endB aB hdB at hx
  simp only [List.mem_append, List.mem_cons, List.not_mem_nil, or_false] at hx
  rcases hx with (((h | h) | h) | h) | h
  · omega
  · omega
  · rcases h with h | h
    · exact h1 x h
    · omega
  · rcases h with h | h
    · exact h2 x h
    · omega
  · exact hr x h
theorem ar_src {K : Hl} {L R : List HP} {e : TypeId} {v : Value} {l : List Int} {n : Nat} (t : Tk L (Ar e 1 byC v l) R) (hn : l.length = n) {w : World} (hr : Rdw K L w) : Vw w v 1 n (flat byC l) := by
  subst hn
  exact Src.ar (K := K) t w hr
theorem back_s (m : Ms) (a : Option Addr) (c n : Nat) (B : List Int) (hn : B.length = n) (hB : U8s B) (hf : U32 m.fa) (ht : U32 m.ta) (h1 : McN m.f) (h2 : McN m.t) : Pact Try.prog 8 #[.agg (msC m).toArray, .slice a n c] (fun w => Vw w (.slice a n c) 1 n (flat byC B)) [] (ret0 (.bool true)) := by
  refine pact Try.func8 rfl Try.ntmps8 rfl ?_
  intro W K hK
  by_cases hk : m.k = 1 ∨ m.k = 2
  · refine J_fact (φ := n ≤ c) (fun w H => (hK.of H).shape.elim fun a' h => h.elim fun c' h => ?_) ?_
    · obtain ⟨h1, h2, _⟩ := h
      cases h1
      exact h2
    intro hnc
    obtain ⟨q, hq⟩ : ∃ q, B.take (min n 50) = q := ⟨_, rfl⟩
    have hml : (msB m).length = 28 := rfl
    have hql : (msB m ++ q).length = (msB m).length + min n 50 := by
      rw [← hq, List.length_append, List.length_take, hn]
      omega
    have hqu : U8s q := fun x hx => hB x (by rw [← hq] at hx; exact List.mem_of_mem_take hx)
    have hsrc : ∀ L, Src K L (.slice a (min n 50) c) 1 (min n 50) (flat byC q) := fun L => by
      rw [← hq]
      exact Src.take (a := a) (c := c) (enc := byC) (es := B) (Src.kn hK) (fun _ => rfl) hn (min n 50) (by omega)
    have hrd := fun a2 c2 => read_ok a2 c2 ((msB m).length + min n 50) (msB m ++ q) m.k hql (by omega) (msB_u8 hk hf ht h1 h2 hqu) rfl rfl hk
    rw [ms_of m hf ht q] at hrd
    (repeat' (first | ((with_reducible apply gJ); (first | refine J_seq ?_ | refine J_reg ?_ | refine J_skip ?_ | refine J_block ?_ | refine J_blk ?_ | refine J_exit rfl ?_ | refine J_goto rfl ?_ | ((with_reducible apply gJ_if); (first | refine J_ift rfl ?_ | refine J_iff rfl ?_ | (refine J_if xR ?_ ?_ <;> intro _ <;> (try (exfalso; first | contradiction | omega))) | (refine J_ifb xR ?_ ?_ <;> (intro hgb; subst hgb)) | (refine J_ifb xR ?_ ?_ <;> intro _) | fail)) | refine J_label ?_ | fail)) | ((with_reducible apply gL); (first | refine JL_nil ?_ | ((with_reducible apply gL_gd); (first | refine JL_skip xR xR ?_ | fail)) | ((with_reducible apply gL_slice); (first | (refine JL_p rfl xR xR (pe_sl0 (h := min n 50) xR (tabE etab_ok xR) ⟨_, _, by rfl, by omega⟩ (by omega) (by omega)) ?_) | fail)) | ((with_reducible apply gL_c_append); (first | (refine JL_app (fs := q) (tabE etab_ok xR) xR xR xA (hsrc _) xC xL xU (by omega) xR xR ?_; intro a2 c2 _ _) | fail)) | ((with_reducible apply gL_bin_eql); (first | (refine JL_p rfl xR xR (pe_eqMs xR xR) ?_) | fail)) | refine L_move ?_ | refine L_assign ?_ | refine L_load ?_ | refine L_pick ?_ | refine L_extract ?_ | refine L_c_len ?_ | refine L_un_not ?_ | refine L_bin_eql ?_ | refine L_bin_neq ?_ | refine L_slice ?_ | refine L_c_min ?_ | ((with_reducible apply gL_box); (first | (refine JL_mc rfl xR xR (al_boxA xR) ?_; intro _) | (refine JL_mc rfl xR xR (al_boxC xR xR) ?_; intro _) | fail)) | ((with_reducible apply gL_alloc); (first | (refine JL_mc rfl xR xR (al_alloc xN xK) ?_; intro _) | fail)) | ((with_reducible apply gL_store); (first | refine JL_st xR xR xT xC xR xE xR ?_ | refine JL_stW xR xR xT xW xR xR xR ?_ | refine JL_stS xR xR xT xW xP xR xR ?_ | refine JL_stEl xR xR xT xR xL xR (tabS stab_ok xR) xR xR xO ?_ | fail)) | ((with_reducible apply gL_c_append); (first | (refine JL_ap1 (tabE etab_ok xR) xR xR xT xT xC xR xL xR xO xR xR ?_; intro _ _ _ _) | (refine JL_app (tabE etab_ok xR) xR xR xT xV xC xL xU xO xR xR ?_; intro _ _ _ _) | fail)) | ((with_reducible apply gL_go); (first | (refine JL_goq (works_s) (hφ := xF) (h := ?_); rintro _ _ ⟨rfl, rfl⟩; try simp only [List.cons_append, List.nil_append]) | (refine JL_goq (build_s m hk hf ht) (hφ := xF) (h := ?_); rintro _ _ ⟨a1, c1, rfl, rfl⟩; try simp only [List.cons_append, List.nil_append]) | (refine JL_goq (hrd _ _) (hφ := (by (try simp only [List.cons_append, List.nil_append]); exact fun w hr => ar_src (by (first | ((with_reducible (repeat (first | exact Tk.here | apply Tk.there))); done) | ((simp only [List.cons_append, List.nil_append]); (with_reducible (repeat (first | exact Tk.here | apply Tk.there))); done) | fail)) hql hr)) (h := ?_); rintro _ _ ⟨rfl, rfl⟩; try simp only [List.cons_append, List.nil_append]) | fail)) | ((with_reducible apply gL_gd); (first | (refine JL_guard xR xR ?_ ?_ <;> intro _ <;> (try (exfalso; first | contradiction | omega))) | (refine JL_guardb xR xR ?_ ?_ <;> (intro hgb; subst hgb)) | (refine JL_guardb xR xR ?_ ?_ <;> (intro hgb; fail_if_success (have : type_of% hgb := rfl))) | fail)) | fail)) | fail))
    exact J_ret1 rfl (by rfl) fun w H => ⟨_, ⟨rfl, rfl⟩, H.sel .nil⟩
  · (repeat' (first | ((with_reducible apply gJ); (first | refine J_seq ?_ | refine J_reg ?_ | refine J_skip ?_ | refine J_block ?_ | refine J_blk ?_ | refine J_exit rfl ?_ | refine J_goto rfl ?_ | ((with_reducible apply gJ_if); (first | refine J_ift rfl ?_ | refine J_iff rfl ?_ | (refine J_if xR ?_ ?_ <;> intro _ <;> (try (exfalso; first | contradiction | omega))) | (refine J_ifb xR ?_ ?_ <;> (intro hgb; subst hgb)) | (refine J_ifb xR ?_ ?_ <;> intro _) | fail)) | refine J_label ?_ | fail)) | ((with_reducible apply gL); (first | refine JL_nil ?_ | ((with_reducible apply gL_gd); (first | refine JL_skip xR xR ?_ | fail)) | refine L_move ?_ | refine L_assign ?_ | refine L_load ?_ | refine L_pick ?_ | refine L_extract ?_ | refine L_c_len ?_ | refine L_un_not ?_ | refine L_bin_eql ?_ | refine L_bin_neq ?_ | refine L_slice ?_ | refine L_c_min ?_ | ((with_reducible apply gL_box); (first | (refine JL_mc rfl xR xR (al_boxA xR) ?_; intro _) | (refine JL_mc rfl xR xR (al_boxC xR xR) ?_; intro _) | fail)) | ((with_reducible apply gL_alloc); (first | (refine JL_mc rfl xR xR (al_alloc xN xK) ?_; intro _) | fail)) | ((with_reducible apply gL_store); (first | refine JL_st xR xR xT xC xR xE xR ?_ | refine JL_stW xR xR xT xW xR xR xR ?_ | refine JL_stS xR xR xT xW xP xR xR ?_ | refine JL_stEl xR xR xT xR xL xR (tabS stab_ok xR) xR xR xO ?_ | fail)) | ((with_reducible apply gL_c_append); (first | (refine JL_ap1 (tabE etab_ok xR) xR xR xT xT xC xR xL xR xO xR xR ?_; intro _ _ _ _) | (refine JL_app (tabE etab_ok xR) xR xR xT xV xC xL xU xO xR xR ?_; intro _ _ _ _) | fail)) | ((with_reducible apply gL_go); (first | (refine JL_goq (works_s) (hφ := xF) (h := ?_); rintro _ _ ⟨rfl, rfl⟩; try simp only [List.cons_append, List.nil_append]) | (refine JL_goq (buildbad_s m hk) (hφ := xF) (h := ?_); rintro _ _ ⟨rfl, rfl⟩; try simp only [List.cons_append, List.nil_append]) | fail)) | ((with_reducible apply gL_gd); (first | (refine JL_guard xR xR ?_ ?_ <;> intro _ <;> (try (exfalso; first | contradiction | omega))) | (refine JL_guardb xR xR ?_ ?_ <;> (intro hgb; subst hgb)) | (refine JL_guardb xR xR ?_ ?_ <;> (intro hgb; fail_if_success (have : type_of% hgb := rfl))) | fail)) | fail)) | fail))
    exact J_ret1 rfl (by rfl) fun w H => ⟨_, ⟨rfl, rfl⟩, H.sel .nil⟩
theorem mac_leaf2 {w : World} {ts : List TypeId} {cs : List Value} (h : Leaf Try.prog w (5 :: 5 :: 5 :: 5 :: 5 :: 5 :: ts) cs) : ∃ (m : Mc) (r : List Value), cs = mcC m ++ r ∧ McN m ∧ Leaf Try.prog w ts r := by
  obtain ⟨a, r, e, b1, h1⟩ := h.u8 Try.underlying5
  subst e
  obtain ⟨b, r, e, b2, h2⟩ := h1.u8 Try.underlying5
  subst e
  obtain ⟨c, r, e, b3, h3⟩ := h2.u8 Try.underlying5
  subst e
  obtain ⟨d, r, e, b4, h4⟩ := h3.u8 Try.underlying5
  subst e
  obtain ⟨f, r, e, b5, h5⟩ := h4.u8 Try.underlying5
  subst e
  obtain ⟨g, r, e, b6, h6⟩ := h5.u8 Try.underlying5
  subst e
  refine ⟨⟨a, b, c, d, f, g⟩, _, rfl, fun x hx => ?_, h6⟩
  simp only [Mc.ns, List.mem_cons, List.not_mem_nil, or_false] at hx
  rcases hx with h | h | h | h | h | h <;> subst h <;> assumption
theorem msg_arg2 {W : World} {n : Nat} {cs : Array Value} (h : Rs Try.prog W n 45 (Value.agg cs).cells.toList) : ∃ m : Ms, cs = (msC m).toArray ∧ U32 m.fa ∧ U32 m.ta ∧ McN m.f ∧ McN m.t := by
  have h0 := leaf_of 4 45 [3, 5, 5, 5, 5, 5, 5, 24, 5, 5, 5, 5, 5, 5, 24] n cs.toList (by kernel_rfl) h
  obtain ⟨k, r, e, bk, h1⟩ := h0.i64 Try.underlying3
  obtain ⟨f, r2, e2, n1, h2⟩ := mac_leaf2 h1
  subst e2
  obtain ⟨fa, r3, e3, bf, h3⟩ := h2.u32 Try.underlying24
  subst e3
  obtain ⟨t, r4, e4, n2, h4⟩ := mac_leaf2 h3
  subst e4
  obtain ⟨ta, r5, e5, bt, h5⟩ := h4.u32 Try.underlying24
  subst e5
  cases h5
  exact ⟨⟨k, f, fa, t, ta⟩, by
    have e6 : cs = cs.toList.toArray := by simp
    rw [e6, e]
    rfl, bf, bt, n1, n2⟩
theorem u8_el {w : World} (m : Nat) (d : List Value) (_ : d.length = 1) (h : Rs Try.prog w m 5 d) : ∃ z : Int, d = byC z ∧ U8 z := by
  have h0 := leaf_of 5 5 [5] m d (by kernel_rfl) h
  obtain ⟨z, r, e, b, h1⟩ := h0.u8 Try.underlying5
  subst e
  obtain rfl := h1.nil'
  exact ⟨z, rfl, b⟩
theorem bytes_arg {W : World} {n : Nat} {a : Option Addr} {l c : Nat} (h : Rs Try.prog W n 33 [.slice a l c]) : ∃ B : List Int, B.length = l ∧ U8s B ∧ B.length ≤ 140737488355328 ∧ Kn (World.all W) (fun w => Vw w (.slice a B.length c) 1 B.length (flat byC B)) := by
  obtain ⟨es, rfl, h1, h2, h3, h4, h5⟩ := h.list (sz := 1) (b := 1) (enc := byC) (ok := U8) Try.underlying33 (by kernel_rfl) (by kernel_rfl) u8_el
  exact ⟨es, rfl, fun x hx => h5 x hx, by simp only [reachBytes] at h3; omega, vwKn h4⟩
end Go.Proofs.Ytohahlcjkhgimaa
