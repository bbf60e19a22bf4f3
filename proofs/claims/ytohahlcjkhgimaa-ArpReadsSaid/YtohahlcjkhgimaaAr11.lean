/-
  Build.
-/
import Derived.Test.YtohahlcjkhgimaaAr10
import Derived.Laws.MakeOwn
namespace Go.Pm
set_option linter.unusedSimpArgs false
set_option linter.unusedVariables false
set_option maxRecDepth 20000
set_option maxHeartbeats 4000000
open Go.RowKit
section
variable {P : Program} {n : Nat} {W : World} {K : Hl} {F : Fp} {k : List It} {tm : TM} {L L' R S M M' R' C : List HP} {T T' : TypeId} {pos : String} {af : Array Edge} {gd : Option (Nat × Bool)} {ops : Array Oper} {rest nx : List Oper} {d : Tmp}
theorem pe_slArr {od : Option Tmp} {t : TypeId} {x : Operand} {p : Addr} {m : Nat} {b : Bool} (hx : evT tm x = some (.pointer (some p))) (h : arrInfo P t = some (m, 1, b)) : PE P K L ⟨od, .slice t x none none none, T, pos, af, gd⟩ (tget tm) (.slice (some p) m m) := fun ρ w ha _ => by
  have h1 := ha x (by simp [Op.operands]) _ hx
  obtain ⟨e, inf, de, hu, hin, hsz, hd, hr⟩ := arrInfo_spec h
  have hal : P.arrayLen t = m := by simp [Program.arrayLen, hu]
  have hel : P.elem t = e := by simp [Program.elem, hu]
  have h2 := run_sliceAt_array_all (P := P) w t p (by rw [hal, hel]; exact hu)
  rw [hal, hel] at h2
  have e4 : (none : Option Operand).map ρ = none := rfl
  unfold execOp
  simp only [h1, e4]
  rw [Sem.run_bind, h2, run_sz hin]
  simp [slicedAt, Addr.add]
theorem made_cells (v : Value) (n : Nat) : madeCells #[v] n = (List.replicate n v).toArray := by
  apply Array.ext
  · simp [madeCells]
  · intro i h1 h2
    simp [madeCells, Nat.mod_one]
theorem al_mk0 {od : Option Tmp} {t e : TypeId} {i : TypeInfo} {x y : Operand} {m : Nat} (hx : evT tm x = some (.int .i64 0)) (hy : evT tm y = some (.int .i64 m)) (hn : m ≤ 1000000) (hu : P.underlying t = some (.slice e)) (hi : P.info? e = some i) (hz : i.zero = some (.int .u8 0)) (hsz : i.size = 1) (hb : i.bytes = 1) : AL P ⟨od, .makeSlice t x y, T, pos, af, gd⟩ (tget tm) (.cells (flat byC (List.replicate m 0)).toArray e (0, 0)) (fun b => .slice (some ⟨b, 0, none⟩) 0 m) := fun ρ w ha => by
  have e1 := ha x (by simp [Op.operands]) _ hx
  have e2 := ha y (by simp [Op.operands]) _ hy
  have h := run_makeSlice (P := P) w t e i (.int .u8 0) hu hi hz .i64 .i64 0 m (by omega) (by omega) (by rw [hsz]; simp; omega) (by rw [hb]; omega) (by omega)
  have h3 : (Value.int .u8 0).cells = #[.int .u8 0] := rfl
  rw [h3, hsz, Nat.mul_one, Int.toNat_natCast, made_cells] at h
  have h4 : (List.replicate m (Value.int .u8 0)) = flat byC (List.replicate m 0) := by
    unfold flat
    rw [List.flatMap_replicate]
    simp [byC]
  rw [h4] at h
  unfold execOp
  simp only [e1, e2]
  simp [Sem.run_bind, h]
theorem ae_of_al {o : Oper} {f : TF} {x : Obj} {g : Nat → Value} (hp : AL P o f x g) : AE P n K R [] o f (fun v L' => ∃ b, v = g b ∧ L' = [ob b x]) := fun W K' w a next hK hf hO hn => wpI_value (hp a.eval w (hf.agree o)) (hn _ _ _ ⟨_, rfl, rfl⟩ (hO.al x))
theorem JD_mk0 {t e : TypeId} {i : TypeInfo} {x y : Operand} {m : Nat} (hx : evT tm x = some (.int .i64 0)) (hy : evT tm y = some (.int .i64 m)) (hn : Nat.ble m 1000000 = true) (hu : P.underlying t = some (.slice e)) (hi : P.info? e = some i) (hz : i.zero = some (.int .u8 0)) (hsz : i.size = 1) (hb : i.bytes = 1)
    (hg : wantF ops ⟨some d, .makeSlice t x y, T, pos, af, gd⟩ (tget tm) = some true) (h : ∀ g, JD P n W K F ops k nx rest ((d, .slice (some ⟨g, 0, none⟩) 0 m) :: tm) S (pts g (flat byC (List.replicate m 0)) e :: M)) : JD P n W K F ops k nx (⟨some d, .makeSlice t x y, T, pos, af, gd⟩ :: rest) tm S M :=
  JD_a rfl hg rfl .nil (ae_of_al (al_mk0 hx hy (Nat.le_of_ble_eq_true hn) hu hi hz hsz hb)) (by
    rintro _ _ ⟨b, rfl, rfl⟩
    exact h b)
theorem made_empty {e : TypeId} {b N : Nat} {w : World} (H : Ow W K (pts b (flat byC (List.replicate N 0)) e :: R) w) (hN : N ≤ 1000000) : Ow W K (Ar e 1 byC (.slice (some ⟨b, 0, none⟩) 0 N) [] :: R) w := by
  have H3 := Ow.litB H .here (n := N) (flat_byC (List.replicate N 0)) List.length_replicate.symm (by unfold maxLen; omega)
  have e1 : ∀ v l, SlB e v l = Ar e 1 byC v l := fun v l => by unfold SlB Ar; rw [flat_byC]
  rw [e1] at H3
  exact Ow.arTake H3 .here (fun _ => rfl) 0 (Nat.zero_le _)
theorem JD_apM {t e T' : TypeId} {m b N g : Nat} {s x : Operand} {bs : List Int} {cs : List Value} (hi : elemInfo P t = some (e, 1, 1)) (hs : evT tm s = some (.slice (some ⟨g, 0, none⟩) 0 N)) (hx : evT tm x = some (.slice (some ⟨b, 0, none⟩) m m)) (hm : Tk M (pts g (flat byC (List.replicate N 0)) e) R) (hN : Nat.ble N 1000000 = true) (hb : Tk R (pts b cs T') R') (hy : NumsOf cs bs) (hlen : Nat.beq bs.length m = true) (hm2 : Nat.ble m 1000000 = true) (hok : elOk P t e 1 1 = true)
    (hg : wantF ops ⟨some d, .call ⟨.builtin .append, #[s, x], #[t, t]⟩, T, pos, af, gd⟩ (tget tm) = some true) (h : ∀ ad c, m ≤ c → c ≤ maxLen → JD P n W K F ops k nx rest ((d, .slice ad m c) :: tm) S (Ar e 1 byC (.slice ad m c) bs :: R)) : JD P n W K F ops k nx (⟨some d, .call ⟨.builtin .append, #[s, x], #[t, t]⟩, T, pos, af, gd⟩ :: rest) tm S M :=
  have h2 := Nat.le_of_ble_eq_true hm2
  have h1 := Nat.le_of_ble_eq_true hN
  JD_a rfl hg rfl (.cons hm .nil) (fun W' K' w a next hK hf hO hn => ae_app (es := []) (.ofOk hok) hs hx (Src.nums (hb.app S) hy hlen hm2) (fun _ => rfl) (flat_byC_one bs) (by simp; omega) W' K' w a next hK hf (made_empty hO h1) hn) (by
    rintro _ _ ⟨ad, c, h2, h3, rfl, rfl⟩
    simp only [List.length_nil, Nat.zero_add, List.nil_append] at h2 ⊢
    exact h ad c h2 h3)
end
end Go.Pm
namespace Go.Proofs.Ytohahlcjkhgimaa
open Go.RowKit Go.Pm Go.Sort

structure Ms where
  k : Int
  f : Mc
  fa : Int
  t : Mc
  ta : Int
abbrev msC (m : Ms) : List Value := [.int .i64 m.k, .int .u8 m.f.a, .int .u8 m.f.b, .int .u8 m.f.c, .int .u8 m.f.d, .int .u8 m.f.e, .int .u8 m.f.f, .int .u32 m.fa, .int .u8 m.t.a, .int .u8 m.t.b, .int .u8 m.t.c, .int .u8 m.t.d, .int .u8 m.t.e, .int .u8 m.t.f, .int .u32 m.ta]
def aB (a : Int) : List Int := [a / 16777216, a / 65536 % 256, a / 256 % 256, a % 256]
def endB (f : Mc) (a : Int) : List Int := f.ns ++ aB a
def hdB : List Int := [0, 1, 8, 0, 6, 4, 0]
def msB (m : Ms) : List Int := hdB ++ [m.k] ++ endB m.f m.fa ++ endB m.t m.ta
set_option maxRecDepth 4000 in
theorem put_s (ad : Option Addr) (c n : Nat) (l : List Int) (hn : l.length = n) (hl : n ≤ 100) (f : Mc) (a : Int) (ha : U32 a) : Pact Try.prog 35 #[.slice ad n c, .agg (mcC f).toArray, .int .u32 a] (fun _ => True) [Ar 5 1 byC (.slice ad n c) l] (fun u L' => ∃ a2 c2, u = .slice a2 (n + 10) c2 ∧ L' = [Ar 5 1 byC (.slice a2 (n + 10) c2) (l ++ endB f a)]) := by
  subst hn
  refine pact Try.func35 rfl Try.ntmps35 rfl ?_
  intro W K _
  obtain ⟨h0, h1⟩ := ha
  (repeat' (first | ((with_reducible apply gJ); (first | refine J_seq ?_ | refine J_reg ?_ | refine J_skip ?_ | refine J_block ?_ | refine J_blk ?_ | refine J_exit rfl ?_ | refine J_goto rfl ?_ | ((with_reducible apply gJ_if); (first | refine J_ift rfl ?_ | refine J_iff rfl ?_ | (refine J_if xR ?_ ?_ <;> intro _ <;> (try (exfalso; first | contradiction | omega))) | (refine J_ifb xR ?_ ?_ <;> (intro hgb; subst hgb)) | (refine J_ifb xR ?_ ?_ <;> intro _) | fail)) | refine J_label ?_ | fail)) | ((with_reducible apply gL); (first | refine JL_nil ?_ | ((with_reducible apply gL_slice); (first | (refine JL_p rfl xR xR (pe_slArr (m := 6) (b := false) xR xC) ?_) | fail)) | ((with_reducible apply gL_c_append); (first | (first | (refine JL_apN (bs := f.ns) (tabE etab_ok xR) xR xR xA xA (.cons (.cons (.cons (.cons (.cons (.cons .nil)))))) rfl rfl xC (by omega) xR xR ?_; intro a2 c2 _ _) | (refine JL_apN (bs := aB a) (tabE etab_ok xR) xR xR xA xA (by unfold aB; repeat (first | exact NumsOf.nil | (refine NumsOf.cons' ?_ ?_; omega))) rfl rfl xC (by simp only [List.length_append]; show _ + 6 + 4 ≤ _; omega) xR xR ?_; intro a3 c3 _ _)) | fail)) | refine L_move ?_ | refine L_assign ?_ | refine L_slice ?_ | refine L_bin_shr ?_ | refine L_convert_u32 ?_ | refine L_convert_u8 ?_ | refine L_convert_r ?_ | ((with_reducible apply gL_box); (first | (refine JL_mc rfl xR xR (al_boxA xR) ?_; intro _) | (refine JL_mc rfl xR xR (al_boxC xR xR) ?_; intro _) | fail)) | ((with_reducible apply gL_buildSlice); (first | (refine JL_mc rfl xR xR (al_bs1 xR (tabE etab_ok xR) xK) ?_; intro _) | (refine JL_mc rfl xR xR (al_bs xR (tabE etab_ok xR) xN xK) ?_; intro _) | fail)) | ((with_reducible apply gL_c_append); (first | (refine JL_ap1 (tabE etab_ok xR) xR xR xT xT xC xR xL xR xO xR xR ?_; intro _ _ _ _) | (refine JL_app (tabE etab_ok xR) xR xR xT xV xC xL xU xO xR xR ?_; intro _ _ _ _) | fail)) | fail)) | fail))
  have e : (l ++ f.ns).length + 4 = l.length + 10 := by rw [List.length_append]; show l.length + 6 + 4 = _; omega
  rw [e]
  exact J_ret1 rfl (by rfl) fun w H => ⟨_, ⟨a3, c3, rfl, by unfold endB; rw [← List.append_assoc]⟩, H.sel (by (first | ((with_reducible (repeat (first | exact Sb.nil | apply Sb.cons | exact Tk.here | apply Tk.there))); done) | (repeat (first | exact Sb.nil | apply Sb.cons | exact Tk.here | apply Tk.there))))⟩
theorem known_s (k : Int) (b : Bool) (hb : decide (k = 1 ∨ k = 2) = b) : Pact Try.prog 33 #[.int .i64 k] (fun _ => True) [] (ret0 (.bool b)) := by
  subst hb
  refine pact Try.func33 rfl Try.ntmps33 rfl ?_
  intro W K _
  (repeat' (first | ((with_reducible apply gJ); (first | refine J_seq ?_ | refine J_reg ?_ | refine J_skip ?_ | refine J_block ?_ | refine J_blk ?_ | refine J_exit rfl ?_ | refine J_goto rfl ?_ | ((with_reducible apply gJ_if); (first | refine J_ift rfl ?_ | refine J_iff rfl ?_ | (refine J_if xR ?_ ?_ <;> intro _ <;> (try (exfalso; first | contradiction | omega))) | (refine J_ifb xR ?_ ?_ <;> (intro hgb; subst hgb)) | (refine J_ifb xR ?_ ?_ <;> intro _) | fail)) | refine J_label ?_ | fail)) | ((with_reducible apply gL); (first | refine JL_nil ?_ | ((with_reducible apply gL_gd); (first | refine JL_skip xR xR ?_ | fail)) | refine L_move ?_ | refine L_assign ?_ | refine L_pick ?_ | refine L_bin_eql ?_ | ((with_reducible apply gL_gd); (first | (refine JL_guard xR xR ?_ ?_ <;> intro _ <;> (try (exfalso; first | contradiction | omega))) | (refine JL_guardb xR xR ?_ ?_ <;> (intro hgb; subst hgb)) | (refine JL_guardb xR xR ?_ ?_ <;> (intro hgb; fail_if_success (have : type_of% hgb := rfl))) | fail)) | fail)) | fail))
  all_goals (refine J_ret1 rfl (by rfl) fun w H => ⟨_, ⟨congrArg Value.bool ?_, rfl⟩, H.sel .nil⟩; rw [Bool.eq_iff_iff]; simp only [decide_eq_true_eq, Bool.false_eq_true, false_iff, true_iff] <;> omega)
abbrev hdC : List Value := [.int .u8 0, .int .u8 1, .int .u8 8, .int .u8 0, .int .u8 6, .int .u8 4, .int .u8 0]
set_option maxRecDepth 4000 in
theorem beginning_s : Pact Try.prog 34 #[] (fun _ => True) [] (ret0 (.agg hdC.toArray)) := by
  refine pact Try.func34 rfl Try.ntmps34 rfl ?_
  intro W K _
  (repeat' (first | ((with_reducible apply gJ); (first | refine J_seq ?_ | refine J_reg ?_ | refine J_skip ?_ | refine J_block ?_ | refine J_blk ?_ | refine J_exit rfl ?_ | refine J_goto rfl ?_ | ((with_reducible apply gJ_if); (first | refine J_ift rfl ?_ | refine J_iff rfl ?_ | (refine J_if xR ?_ ?_ <;> intro _ <;> (try (exfalso; first | contradiction | omega))) | (refine J_ifb xR ?_ ?_ <;> (intro hgb; subst hgb)) | (refine J_ifb xR ?_ ?_ <;> intro _) | fail)) | refine J_label ?_ | fail)) | ((with_reducible apply gL); (first | refine JL_nil ?_ | refine L_build ?_ | ((with_reducible apply gL_alloc); (first | (refine JL_mc rfl xR xR (al_alloc xN xK) ?_; intro _) | fail)) | ((with_reducible apply gL_store); (first | refine JL_st xR xR xT xC xR xE xR ?_ | refine JL_stW xR xR xT xW xR xR xR ?_ | refine JL_stS xR xR xT xW xP xR xR ?_ | refine JL_stEl xR xR xT xR xL xR (tabS stab_ok xR) xR xR xO ?_ | fail)) | fail)) | fail))
  exact J_retC (cs := hdC) rfl (by rfl) (by (first | ((with_reducible (repeat (first | exact Tk.here | apply Tk.there))); done) | ((simp only [List.cons_append, List.nil_append]); (with_reducible (repeat (first | exact Tk.here | apply Tk.there))); done) | fail)) (by rfl) fun w H => ⟨_, ⟨rfl, rfl⟩, H.sel .nil⟩
theorem buildbad_s (m : Ms) (hk : ¬ (m.k = 1 ∨ m.k = 2)) : Pact Try.prog 16 #[.agg (msC m).toArray] (fun _ => True) [] (ret0 (.tuple #[.slice none 0 0, .int .i64 60])) := by
  refine pact Try.func16 rfl Try.ntmps16 rfl ?_
  intro W K _
  (repeat' (first | ((with_reducible apply gJ); (first | refine J_seq ?_ | refine J_reg ?_ | refine J_skip ?_ | refine J_block ?_ | refine J_blk ?_ | refine J_exit rfl ?_ | refine J_goto rfl ?_ | ((with_reducible apply gJ_if); (first | refine J_ift rfl ?_ | refine J_iff rfl ?_ | (refine J_if xR ?_ ?_ <;> intro _ <;> (try (exfalso; first | contradiction | omega))) | (refine J_ifb xR ?_ ?_ <;> (intro hgb; subst hgb)) | (refine J_ifb xR ?_ ?_ <;> intro _) | fail)) | refine J_label ?_ | refine J_draw (id := 4) [1, 3, 4, 5, 0, 2, 6] [7, 8] mixed xC xD xD ?_ | refine J_draw (id := 5) [0, 1, 2, 3, 4, 6, 7, 8, 9, 5] [10, 11, 12] mixed xC xD xD ?_ | fail)) | ((with_reducible apply gL); (first | refine JL_nil ?_ | refine L_assign ?_ | refine L_fieldAddr ?_ | refine L_load ?_ | refine L_un_not ?_ | ((with_reducible apply gL_box); (first | (refine JL_mc rfl xR xR (al_boxA xR) ?_; intro _) | (refine JL_mc rfl xR xR (al_boxC xR xR) ?_; intro _) | fail)) | ((with_reducible apply gL_alloc); (first | (refine JL_mc rfl xR xR (al_alloc xN xK) ?_; intro _) | fail)) | ((with_reducible apply gL_store); (first | refine JL_st xR xR xT xC xR xE xR ?_ | refine JL_stW xR xR xT xW xR xR xR ?_ | refine JL_stS xR xR xT xW xP xR xR ?_ | refine JL_stEl xR xR xT xR xL xR (tabS stab_ok xR) xR xR xO ?_ | fail)) | ((with_reducible apply gL_go); (first | (refine JL_goq (known_s m.k false (decide_eq_false hk)) (hφ := xF) (h := ?_); rintro _ _ ⟨rfl, rfl⟩; try simp only [List.cons_append, List.nil_append]) | fail)) | fail)) | ((with_reducible apply gD); (first | (refine JD_nil ?_; try simp only [List.cons_append, List.nil_append]) | (refine JD_bar ?_; try simp only [List.cons_append, List.nil_append]) | refine D_move ?_ | refine D_assign ?_ | refine D_fieldAddr ?_ | refine D_load ?_ | refine D_slice ?_ | refine D_convert_u8 ?_ | refine D_convert_r ?_ | ((with_reducible apply gD_load); (first | refine JD_ldM xR xT xC xR xR ?_ | refine JD_ldWM xR xT xW xR ?_ | refine JD_ldSM xR xT (tabS stab_ok xR) xG xC xR ?_ | fail)) | ((with_reducible apply gD_buildSlice); (first | (refine JD_mc rfl xR rfl (al_bs1 xR (tabE etab_ok xR) xK) ?_; intro _) | (refine JD_mc rfl xR rfl (al_bs xR (tabE etab_ok xR) xN xK) ?_; intro _) | fail)) | ((with_reducible apply gD_c_append); (first | (refine JD_ap1 (tabE etab_ok xR) xR xR xT xT xC xR xL xR xO xR ?_; intro _ _ _ _) | (refine JD_app (tabE etab_ok xR) xR xR xT xV xC xL xU xO xR ?_; intro _ _ _ _) | fail)) | ((with_reducible apply gD_go); (first | (refine JD_goq (known_s m.k false (decide_eq_false hk)) (hφ := xF) (h := ?_); rintro _ _ ⟨rfl, rfl⟩; try simp only [List.cons_append, List.nil_append]) | fail)) | fail)) | fail))
  exact J_ret2 rfl (by rfl) (by rfl) fun w H => ⟨_, ⟨rfl, rfl⟩, H.sel .nil⟩
set_option maxRecDepth 4000 in
theorem build_s (m : Ms) (hk : m.k = 1 ∨ m.k = 2) (hf : U32 m.fa) (ht : U32 m.ta) : Pact Try.prog 16 #[.agg (msC m).toArray] (fun _ => True) [] (fun u L' => ∃ a c, u = .tuple #[.slice a 28 c, .int .i64 0] ∧ L' = [Ar 5 1 byC (.slice a 28 c) (msB m)]) := by
  refine pact Try.func16 rfl Try.ntmps16 rfl ?_
  intro W K _
  obtain ⟨iu, hiu, hz, hsz, hb⟩ : ∃ i, Try.prog.info? 5 = some i ∧ i.zero = some (.int .u8 0) ∧ i.size = 1 ∧ i.bytes = 1 := ⟨_, rfl, rfl, rfl, rfl⟩
  (repeat' (first | ((with_reducible apply gJ); (first | refine J_seq ?_ | refine J_reg ?_ | refine J_skip ?_ | refine J_block ?_ | refine J_blk ?_ | refine J_exit rfl ?_ | refine J_goto rfl ?_ | ((with_reducible apply gJ_if); (first | refine J_ift rfl ?_ | refine J_iff rfl ?_ | (refine J_if xR ?_ ?_ <;> intro _ <;> (try (exfalso; first | contradiction | omega))) | (refine J_ifb xR ?_ ?_ <;> (intro hgb; subst hgb)) | (refine J_ifb xR ?_ ?_ <;> intro _) | fail)) | refine J_label ?_ | refine J_draw (id := 4) [1, 3, 4, 5, 0, 2, 6] [7, 8] mixed xC xD xD ?_ | refine J_draw (id := 5) [0, 1, 2, 3, 4, 6, 7, 8, 9, 5] [10, 11, 12] mixed xC xD xD ?_ | fail)) | ((with_reducible apply gL); (first | refine JL_nil ?_ | refine L_assign ?_ | refine L_fieldAddr ?_ | refine L_load ?_ | refine L_un_not ?_ | ((with_reducible apply gL_box); (first | (refine JL_mc rfl xR xR (al_boxA xR) ?_; intro _) | (refine JL_mc rfl xR xR (al_boxC xR xR) ?_; intro _) | fail)) | ((with_reducible apply gL_alloc); (first | (refine JL_mc rfl xR xR (al_alloc xN xK) ?_; intro _) | fail)) | ((with_reducible apply gL_store); (first | refine JL_st xR xR xT xC xR xE xR ?_ | refine JL_stW xR xR xT xW xR xR xR ?_ | refine JL_stS xR xR xT xW xP xR xR ?_ | refine JL_stEl xR xR xT xR xL xR (tabS stab_ok xR) xR xR xO ?_ | fail)) | ((with_reducible apply gL_go); (first | (refine JL_goq (known_s m.k true (decide_eq_true hk)) (hφ := xF) (h := ?_); rintro _ _ ⟨rfl, rfl⟩; try simp only [List.cons_append, List.nil_append]) | (refine JL_goq (beginning_s) (hφ := xF) (h := ?_); rintro _ _ ⟨rfl, rfl⟩; try simp only [List.cons_append, List.nil_append]) | (refine JL_goq (put_s _ _ (hdB.length + 1) (hdB ++ [m.k]) rfl (by decide) m.f m.fa hf) (hφ := xF) (h := ?_); rintro _ _ ⟨a4, c4, rfl, rfl⟩; try simp only [List.cons_append, List.nil_append]) | (refine JL_goq (put_s _ _ (hdB.length + 1 + 10) (hdB ++ [m.k] ++ endB m.f m.fa) rfl (by decide) m.t m.ta ht) (hφ := xF) (h := ?_); rintro _ _ ⟨a5, c5, rfl, rfl⟩; try simp only [List.cons_append, List.nil_append]) | fail)) | fail)) | ((with_reducible apply gD); (first | (refine JD_nil ?_; try simp only [List.cons_append, List.nil_append]) | (refine JD_bar ?_; try simp only [List.cons_append, List.nil_append]) | ((with_reducible apply gD_makeSlice); (first | (refine JD_mk0 (m := 28) xR xR xC Try.underlying33 hiu hz hsz hb xR ?_; intro g) | fail)) | ((with_reducible apply gD_slice); (first | (refine JD_p rfl xR rfl (pe_slArr (m := 7) (b := false) xR xC) ?_) | fail)) | ((with_reducible apply gD_c_append); (first | (first | (refine JD_apM (bs := hdB) (N := 28) (tabE etab_ok xR) xR xR xA xC xA (.cons (.cons (.cons (.cons (.cons (.cons (.cons .nil))))))) rfl rfl xC xR ?_; intro a2 c2 _ _) | (refine JD_apN (es := hdB) (bs := [m.k]) (tabE etab_ok xR) xR xR xA xA (by first | exact .cons .nil) rfl rfl xC (by show 7 + 1 ≤ _; omega) xR ?_; intro a3 c3 _ _)) | fail)) | refine D_move ?_ | refine D_assign ?_ | refine D_fieldAddr ?_ | refine D_load ?_ | refine D_slice ?_ | refine D_convert_u8 ?_ | refine D_convert_r ?_ | ((with_reducible apply gD_load); (first | refine JD_ldM xR xT xC xR xR ?_ | refine JD_ldWM xR xT xW xR ?_ | refine JD_ldSM xR xT (tabS stab_ok xR) xG xC xR ?_ | fail)) | ((with_reducible apply gD_buildSlice); (first | (refine JD_mc rfl xR rfl (al_bs1 xR (tabE etab_ok xR) xK) ?_; intro _) | (refine JD_mc rfl xR rfl (al_bs xR (tabE etab_ok xR) xN xK) ?_; intro _) | fail)) | ((with_reducible apply gD_c_append); (first | (refine JD_ap1 (tabE etab_ok xR) xR xR xT xT xC xR xL xR xO xR ?_; intro _ _ _ _) | (refine JD_app (tabE etab_ok xR) xR xR xT xV xC xL xU xO xR ?_; intro _ _ _ _) | fail)) | ((with_reducible apply gD_go); (first | (refine JD_goq (known_s m.k true (decide_eq_true hk)) (hφ := xF) (h := ?_); rintro _ _ ⟨rfl, rfl⟩; try simp only [List.cons_append, List.nil_append]) | (refine JD_goq (beginning_s) (hφ := xF) (h := ?_); rintro _ _ ⟨rfl, rfl⟩; try simp only [List.cons_append, List.nil_append]) | (refine JD_goq (put_s _ _ (hdB.length + 1) (hdB ++ [m.k]) rfl (by decide) m.f m.fa hf) (hφ := xF) (h := ?_); rintro _ _ ⟨a4, c4, rfl, rfl⟩; try simp only [List.cons_append, List.nil_append]) | (refine JD_goq (put_s _ _ (hdB.length + 1 + 10) (hdB ++ [m.k] ++ endB m.f m.fa) rfl (by decide) m.t m.ta ht) (hφ := xF) (h := ?_); rintro _ _ ⟨a5, c5, rfl, rfl⟩; try simp only [List.cons_append, List.nil_append]) | fail)) | fail)) | fail))
  exact J_ret2 rfl (by rfl) (by rfl) fun w H => ⟨[Ar 5 1 byC (.slice a5 (hdB.length + 1 + 10 + 10) c5) (hdB ++ [m.k] ++ endB m.f m.fa ++ endB m.t m.ta)], ⟨a5, c5, rfl, rfl⟩, H.sel (by (first | ((with_reducible (repeat (first | exact Sb.nil | apply Sb.cons | exact Tk.here | apply Tk.there))); done) | (repeat (first | exact Sb.nil | apply Sb.cons | exact Tk.here | apply Tk.there))))⟩
end Go.Proofs.Ytohahlcjkhgimaa
