/-
  Vw2, Vw3, Vw4, Vw5: merged.
-/
import Derived.Test.YtdnokmpnemaoaaaGreatZViewForeign27
namespace Go.Proofs.YtdnokmpnemaoaaaGreat
set_option linter.unusedSimpArgs false
set_option linter.unusedVariables false
set_option maxRecDepth 20000
set_option maxHeartbeats 4000000
open Go.RowKit Go.Pm

theorem eqF_step {P : Program} {d : Nat} {xs ys : Array Value} {f : Field} {fs : List Field} {v u : Value} {b : Bool} (hn : f.name ≠ "_") (hx : ∀ w, (Go.part f.type xs f.offset).run P w = .ok v w) (hy : ∀ w, (Go.part f.type ys f.offset).run P w = .ok u w) (he : ∀ w, (Op.equalIn d f.type v u).run P w = .ok b w) (w : World) : (Op.eqFields d xs ys (f :: fs)).run P w = if b then (Op.eqFields d xs ys fs).run P w else .ok false w := by
  simp only [Op.eqFields, if_pos hn, Sem.run_bind, hx, hy, he, Result.andThen_ok]
  cases b <;> simp
theorem part_i {P : Program} {t : TypeId} {k : IntKind} (e : P.underlying t = some (.int k)) (xs : Array Value) (o : Nat) (v : Value) (h : xs[o]? = some v) (w : World) : (part t xs o).run P w = .ok v w := by
  simp [part, Sem.run_bind, run_agg e, TypeDesc.isRow, h]
theorem part_b {P : Program} {t : TypeId} (e : P.underlying t = some .bool) (xs : Array Value) (o : Nat) (v : Value) (h : xs[o]? = some v) (w : World) : (part t xs o).run P w = .ok v w := by
  simp [part, Sem.run_bind, run_agg e, TypeDesc.isRow, h]
def eqEnt (a b : Int) (c : Bool) (a' b' : Int) (c' : Bool) : Bool := (a == a') && (b == b') && (c == c')
theorem run_eqEnt (a b : Int) (c : Bool) (a' b' : Int) (c' : Bool) (w : World) : (Op.equalIn 10000 96 (.agg #[.int .i64 a, .int .i64 b, .bool c]) (.agg #[.int .i64 a', .int .i64 b', .bool c'])).run Tryz.prog w = .ok (eqEnt a b c a' b' c') w := by
  have hv := Tryz.underlying96
  have hg : ∀ fs : Array Field, Tryz.prog.underlying 96 = some (.struct fs) → Tryz.prog.fieldsOf 96 = fs := fun fs h => by simp [Program.fieldsOf, h]
  rw [run_equalIn_struct w 9999 96 _ _ (by rw [hg _ hv]; exact hv) (by decide +kernel), hg _ hv]
  rw [eqF_step (by decide) (part_i Tryz.underlying3 _ _ _ rfl) (part_i Tryz.underlying3 _ _ _ rfl) (fun w => run_equalIn_int w 9998 _ _ _ a a' Tryz.underlying3)]
  rw [eqF_step (by decide) (part_i Tryz.underlying3 _ _ _ rfl) (part_i Tryz.underlying3 _ _ _ rfl) (fun w => run_equalIn_int w 9998 _ _ _ b b' Tryz.underlying3)]
  rw [eqF_step (by decide) (part_b Tryz.underlying4 _ _ _ rfl) (part_b Tryz.underlying4 _ _ _ rfl) (fun w => run_equalIn_bool' w 9998 _ c c' Tryz.underlying4)]
  unfold eqEnt
  cases h1 : (a == a') <;> cases h2 : (b == b') <;> cases h3 : (c == c') <;> simp [Op.eqFields]
theorem pe_eqEnt {K : Hl} {L : List HP} {tm : TM} {d : Option Tmp} {T : TypeId} {pos : String} {af : Array Edge} {gd : Option (Nat × Bool)} {yt : TypeId} {x y : Operand} {a b a' b' : Int} {c c' : Bool} (hx : evT tm x = some (.agg #[.int .i64 a, .int .i64 b, .bool c])) (hy : evT tm y = some (.agg #[.int .i64 a', .int .i64 b', .bool c'])) {r : Bool} (hr : eqEnt a b c a' b' c' = r) : PE Tryz.prog K L ⟨d, .binOp .eql 96 x y yt, T, pos, af, gd⟩ (tget tm) (.bool r) := pe_bin hx hy fun w => by
  have hq : (eqGuard .eql 96 x y (.agg #[.int .i64 a, .int .i64 b, .bool c]) (.agg #[.int .i64 a', .int .i64 b', .bool c'])).run Tryz.prog w = .ok () w := run_eqGuard_agg w _ _ x y _ _ (by decide +kernel)
  simp only [Sem.run_bind, hq, Result.andThen_ok, run_eql_struct]
  rw [run_eqEnt, hr]
  rfl
def wantE (x : T.Vt) : Bool := decide (x.1 ≠ 0)
def dueI (E : List T.Ent) : Int := T.cntI lateE E
def wntI (E : List T.Ent) : Int := T.cntI wantE E
theorem late_z : lateE T.zV = false := rfl
theorem want_z : wantE T.zV = false := rfl
abbrev vwL (vb : Nat) (sp : Option Addr) (tb : Nat) (E : List T.Ent) : List HP := [pts vb (vwC sp tb (dueI E) (wntI E)) 98, T.trA tb E]
theorem set_s (vb : Nat) (sp : Option Addr) (tb : Nat) (E : List T.Ent) (p : T.Pf) (x : T.Vt) (hE : T.EOk E) (hp : T.PfN p) (hr : T.Rt p) (hx : T.VN x) (hn : E.length < 4096) : Pact Tryz.prog 50 #[.pointer (some ⟨vb, 0, none⟩), .agg (T.pfC p).toArray, .agg (T.vC x).toArray] (fun _ => True) (vwL vb sp tb E) (fun _ L' => L' = vwL vb sp tb (T.setE E p x)) := by
  refine pact Tryz.func50 rfl Tryz.ntmps50 rfl ?_
  intro W K _
  have h1 := T.cntI_le lateE E
  have h2 := T.cntI_le wantE E
  have e1 : dueI (T.setE E p x) = T.cntI lateE E - T.b2 (lateE (T.oldV E p)) + T.b2 (lateE x) := T.cnt_set late_z hE.s
  have e2 : wntI (T.setE E p x) = T.cntI wantE E - T.b2 (wantE (T.oldV E p)) + T.b2 (wantE x) := T.cnt_set want_z hE.s
  have b1 := T.b2_01 (lateE (T.oldV E p))
  have b2 := T.b2_01 (wantE (T.oldV E p))
  rw [vwL, e1, e2]
  unfold vwL dueI wntI
  obtain ⟨o, ho⟩ : ∃ o, T.oldV E p = o := ⟨_, rfl⟩
  obtain ⟨b, hb⟩ : ∃ b, (T.getL E p).isSome = b := ⟨_, rfl⟩
  have hg := T.get_old tb E p hp o ho b hb
  rw [ho] at b1 b2 e1 e2
  rw [ho]
  obtain ⟨D, hD⟩ : ∃ D, T.cntI lateE E = D := ⟨_, rfl⟩
  obtain ⟨N, hN⟩ : ∃ N, T.cntI wantE E = N := ⟨_, rfl⟩
  rw [hD] at h1 ⊢
  rw [hN] at h2 ⊢
  have k1 := vcount_s vb sp tb D N (-1) o (by omega) (by omega) (by omega)
  have f1 : (D + if lateE o then (-1 : Int) else 0) = D - T.b2 (lateE o) := by unfold T.b2; split <;> omega
  have f2 : (N + if o.1 ≠ 0 then (-1 : Int) else 0) = N - T.b2 (wantE o) := by unfold T.b2 wantE; by_cases h : o.1 = 0 <;> simp [h]; omega
  rw [f1, f2] at k1
  obtain ⟨D1, hD1⟩ : ∃ D1, D - T.b2 (lateE o) = D1 := ⟨_, rfl⟩
  obtain ⟨N1, hN1⟩ : ∃ N1, N - T.b2 (wantE o) = N1 := ⟨_, rfl⟩
  rw [hD1, hN1] at k1 ⊢
  have k2 := vcount_s vb sp tb D1 N1 1 x (by omega) (by omega) (by omega)
  have f3 : (D1 + if lateE x then (1 : Int) else 0) = D1 + T.b2 (lateE x) := rfl
  have f4 : (N1 + if x.1 ≠ 0 then (1 : Int) else 0) = N1 + T.b2 (wantE x) := by unfold T.b2 wantE; by_cases h : x.1 = 0 <;> simp [h]
  rw [f3, f4] at k2
  obtain ⟨D2, hD2⟩ : ∃ D2, D1 + T.b2 (lateE x) = D2 := ⟨_, rfl⟩
  obtain ⟨N2, hN2⟩ : ∃ N2, N1 + T.b2 (wantE x) = N2 := ⟨_, rfl⟩
  rw [hD2, hN2] at k2 ⊢
  have hp2 := T.put_a tb E p x hp hx (by omega)
  rw [T.putE_ok hr (.inr hn)] at hp2
  have hdr := T.drop_a tb E p hp (by omega)
  by_cases hz : x.1 = 0 ∧ x.2.1 = 0 ∧ x.2.2 = false
  · have hz2 : x = T.zV := Prod.ext hz.1 (Prod.ext hz.2.1 hz.2.2)
    have e : T.setE E p x = T.dropL E p := if_pos hz2
    rw [e]
    subst hz2
    (repeat' (first | ((with_reducible apply gL); (first | refine yL0 ?_ | ((with_reducible apply gL_bin_eql); (first | (refine JL_p rfl xR xR (pe_eqEnt xR xR (r := true) rfl) ?_) | fail)) | refine yL ?_ | ((with_reducible apply gL_go); (first | (refine JL_goq (hg) (hφ := xF) (h := ?_); rintro _ _ ⟨rfl, rfl⟩; try simp only [List.cons_append, List.nil_append]) | (refine JL_goq (k1) (hφ := xF) (h := ?_); rintro _ _ rfl; try simp only [List.cons_append, List.nil_append]) | (refine JL_goq (k2) (hφ := xF) (h := ?_); rintro _ _ rfl; try simp only [List.cons_append, List.nil_append]) | (refine JL_goq (hdr) (hφ := xF) (h := ?_); rintro _ _ ⟨rfl, rfl⟩; try simp only [List.cons_append, List.nil_append]) | fail)) | (refine yM ?_; intro _) | fail)) | ((with_reducible apply gD); (first | (refine JD_nil ?_; try simp only [List.cons_append, List.nil_append]) | (refine JD_bar ?_; try simp only [List.cons_append, List.nil_append]) | refine yD ?_ | ((with_reducible apply gD_go); (first | (refine JD_goq (hg) (hφ := xF) (h := ?_); rintro _ _ ⟨rfl, rfl⟩; try simp only [List.cons_append, List.nil_append]) | (refine JD_goq (k1) (hφ := xF) (h := ?_); rintro _ _ rfl; try simp only [List.cons_append, List.nil_append]) | (refine JD_goq (k2) (hφ := xF) (h := ?_); rintro _ _ rfl; try simp only [List.cons_append, List.nil_append]) | (refine JD_goq (hdr) (hφ := xF) (h := ?_); rintro _ _ ⟨rfl, rfl⟩; try simp only [List.cons_append, List.nil_append]) | fail)) | (refine yE ?_; intro _) | fail)) | refine yJ ?_ | ((with_reducible apply gJ_if); (first | (refine J_if xR ?_ ?_ <;> intro _ <;> (try (exfalso; first | contradiction | omega))) | (refine J_ifb xR ?_ ?_ <;> (intro hgb; subst hgb)) | (refine J_ifb xR ?_ ?_ <;> intro _) | fail)) | refine J_draw (id := 1) [0, 1, 2, 3, 4, 5, 6, 7, 8, 9, 10] [11] mixed xC xD xD ?_ | refine J_draw (id := 5) [0, 1, 2, 3, 4] [5] mixed xC xD xD ?_ | refine J_draw (id := 6) [0, 1, 2, 3, 4, 5] [6] mixed xC xD xD ?_ | fail))
    exact J_ret0 rfl fun w H => ⟨_, rfl, H.sel xZ⟩
  · have hz2 : x ≠ T.zV := fun e => hz (by rw [e]; exact ⟨rfl, rfl, rfl⟩)
    have e : T.setE E p x = T.putL E p x := if_neg hz2
    rw [e]
    have hq : eqEnt x.1 x.2.1 x.2.2 0 0 false = false := by
      unfold eqEnt
      rcases h1 : x.1 == 0 with _ | _ <;> rcases h2 : x.2.1 == 0 with _ | _ <;> rcases h3 : x.2.2 with _ | _ <;> simp_all
    (repeat' (first | ((with_reducible apply gL); (first | refine yL0 ?_ | ((with_reducible apply gL_bin_eql); (first | (refine JL_p rfl xR xR (pe_eqEnt xR xR (r := false) hq) ?_) | fail)) | refine yL ?_ | ((with_reducible apply gL_go); (first | (refine JL_goq (hg) (hφ := xF) (h := ?_); rintro _ _ ⟨rfl, rfl⟩; try simp only [List.cons_append, List.nil_append]) | (refine JL_goq (k1) (hφ := xF) (h := ?_); rintro _ _ rfl; try simp only [List.cons_append, List.nil_append]) | (refine JL_goq (k2) (hφ := xF) (h := ?_); rintro _ _ rfl; try simp only [List.cons_append, List.nil_append]) | (refine JL_goq (hp2) (hφ := xF) (h := ?_); rintro _ _ ⟨rfl, rfl⟩; try simp only [List.cons_append, List.nil_append]) | fail)) | (refine yM ?_; intro _) | fail)) | ((with_reducible apply gD); (first | (refine JD_nil ?_; try simp only [List.cons_append, List.nil_append]) | (refine JD_bar ?_; try simp only [List.cons_append, List.nil_append]) | refine yD ?_ | ((with_reducible apply gD_go); (first | (refine JD_goq (hg) (hφ := xF) (h := ?_); rintro _ _ ⟨rfl, rfl⟩; try simp only [List.cons_append, List.nil_append]) | (refine JD_goq (k1) (hφ := xF) (h := ?_); rintro _ _ rfl; try simp only [List.cons_append, List.nil_append]) | (refine JD_goq (k2) (hφ := xF) (h := ?_); rintro _ _ rfl; try simp only [List.cons_append, List.nil_append]) | (refine JD_goq (hp2) (hφ := xF) (h := ?_); rintro _ _ ⟨rfl, rfl⟩; try simp only [List.cons_append, List.nil_append]) | fail)) | (refine yE ?_; intro _) | fail)) | refine yJ ?_ | ((with_reducible apply gJ_if); (first | (refine J_if xR ?_ ?_ <;> intro _ <;> (try (exfalso; first | contradiction | omega))) | (refine J_ifb xR ?_ ?_ <;> (intro hgb; subst hgb)) | (refine J_ifb xR ?_ ?_ <;> intro _) | fail)) | refine J_draw (id := 1) [0, 1, 2, 3, 4, 5, 6, 7, 8, 9, 10] [11] mixed xC xD xD ?_ | refine J_draw (id := 5) [0, 1, 2, 3, 4] [5] mixed xC xD xD ?_ | refine J_draw (id := 6) [0, 1, 2, 3, 4, 5] [6] mixed xC xD xD ?_ | fail))
    exact J_end0 rfl fun w H => ⟨_, rfl, H.sel xZ⟩
end Go.Proofs.YtdnokmpnemaoaaaGreat
namespace Go.Proofs.YtdnokmpnemaoaaaGreat
set_option linter.unusedSimpArgs false
set_option linter.unusedVariables false
set_option maxRecDepth 20000
set_option maxHeartbeats 4000000
open Go.RowKit Go.Pm

abbrev sA (sp : Nat) : Option Addr := some ⟨sp, 0, none⟩
abbrev vsL (vb sp tb : Nat) (E : List T.Ent) (S : List En) (c : Int) : List HP := [pts vb (vwC (sA sp) tb (dueI E) (wntI E)) 98, T.trA tb E, stoA sp S c]
theorem free_w (B : Int) (hB : B ≤ 1000000000) (vb sp tb : Nat) (E : List T.Ent) (S S1 : List En) (c id : Int) (hs : StOk B S c) (h1 : frF S id = S1) : Pact Tryz.prog 49 #[.pointer (some ⟨vb, 0, none⟩), .int .i64 id] (fun _ => True) [pts vb (vwC (sA sp) tb (dueI E) (wntI E)) 98, stoA sp S c] (fun _ L' => L' = [pts vb (vwC (sA sp) tb (dueI E) (wntI E)) 98, stoA sp S1 c]) := h1 ▸ free_v B hB vb sp tb _ _ S c id hs
theorem vdrop_s (B : Int) (hB : B ≤ 1000000000) (vb sp tb : Nat) (E : List T.Ent) (S S1 : List En) (c : Int) (p : T.Pf) (x : T.Vt) (hp : T.PfN p) (hg : T.getL E p = some x) (hE : T.EOk E) (hn : E.length < 4096) (hs : StOk B S c) (h1 : frF S x.1 = S1) : Pact Tryz.prog 66 #[.pointer (some ⟨vb, 0, none⟩), .agg (T.pfC p).toArray] (fun _ => True) (vsL vb sp tb E S c) (fun _ L' => L' = vsL vb sp tb (T.setE E p (0, x.2.1, false)) S1 c) := by
  refine pact Tryz.func66 rfl Tryz.ntmps66 rfl ?_
  intro W K _
  have ho : T.oldV E p = x := by unfold T.oldV; rw [hg]; rfl
  have k := T.get_old tb E p hp _ ho true (by rw [hg]; rfl)
  have hm := hE.e (p, x) ((T.getL_mem hE.s).1 hg)
  have kf := free_w B hB vb sp tb E S S1 c x.1 hs h1
  have ks := set_s vb (sA sp) tb E p (0, x.2.1, false) hE hp hm.1 ⟨by show I64 0; unfold I64; decide, hm.2.2.2⟩ hn
  (repeat' (first | ((with_reducible apply gL); (first | refine yL0 ?_ | refine yL ?_ | ((with_reducible apply gL_go); (first | (refine JL_goq (k) (hφ := xF) (h := ?_); rintro _ _ ⟨rfl, rfl⟩; try simp only [List.cons_append, List.nil_append]) | (refine JL_goq (kf) (hφ := xF) (h := ?_); rintro _ _ rfl; try simp only [List.cons_append, List.nil_append]) | (refine JL_goq (ks) (hφ := xF) (h := ?_); rintro _ _ rfl; try simp only [List.cons_append, List.nil_append]) | fail)) | (refine yM ?_; intro _) | fail)) | ((with_reducible apply gD); (first | (refine JD_nil ?_; try simp only [List.cons_append, List.nil_append]) | (refine JD_bar ?_; try simp only [List.cons_append, List.nil_append]) | refine yD ?_ | ((with_reducible apply gD_go); (first | (refine JD_goq (k) (hφ := xF) (h := ?_); rintro _ _ ⟨rfl, rfl⟩; try simp only [List.cons_append, List.nil_append]) | (refine JD_goq (kf) (hφ := xF) (h := ?_); rintro _ _ rfl; try simp only [List.cons_append, List.nil_append]) | (refine JD_goq (ks) (hφ := xF) (h := ?_); rintro _ _ rfl; try simp only [List.cons_append, List.nil_append]) | fail)) | (refine yE ?_; intro _) | fail)) | refine yJ ?_ | ((with_reducible apply gJ_if); (first | (refine J_if xR ?_ ?_ <;> intro _ <;> (try (exfalso; first | contradiction | omega))) | (refine J_ifb xR ?_ ?_ <;> (intro hgb; subst hgb)) | (refine J_ifb xR ?_ ?_ <;> intro _) | fail)) | refine J_draw (id := 1) [0, 1, 2, 3, 4, 5, 6, 7, 8, 9, 10] [11] mixed xC xD xD ?_ | fail))
  exact J_end0 rfl fun w H => ⟨_, rfl, H.sel xZ⟩
theorem due_s (vb : Nat) (sp : Option Addr) (tb : Nat) (E : List T.Ent) : Pact Tryz.prog 30 #[.pointer (some ⟨vb, 0, none⟩)] (fun _ => True) [pts vb (vwC sp tb (dueI E) (wntI E)) 98] (fun u L' => u = .int .i64 (dueI E) ∧ L' = [pts vb (vwC sp tb (dueI E) (wntI E)) 98]) := by
  refine pact Tryz.func30 rfl Tryz.ntmps30 rfl ?_
  intro W K _
  (repeat' (first | ((with_reducible apply gL); (first | refine yL0 ?_ | refine yL ?_ | ((with_reducible apply gL_go); (first | (refine JL_goq (vis_s vb sp tb (dueI E) (wntI E)) (hφ := xF) (h := ?_); rintro _ _ ⟨rfl, rfl⟩; try simp only [List.cons_append, List.nil_append]) | fail)) | fail)) | refine yJ ?_ | ((with_reducible apply gJ_if); (first | (refine J_if xR ?_ ?_ <;> intro _ <;> (try (exfalso; first | contradiction | omega))) | (refine J_ifb xR ?_ ?_ <;> (intro hgb; subst hgb)) | (refine J_ifb xR ?_ ?_ <;> intro _) | fail)) | fail))
  exact J_ret1 rfl (by rfl) fun w H => ⟨_, ⟨rfl, rfl⟩, H.sel xZ⟩
theorem wantoff_s (B : Int) (hB : B ≤ 1000000000) (vb sp tb : Nat) (E : List T.Ent) (S S1 : List En) (c : Int) (p : T.Pf) (x : T.Vt) (d : At) (hp : T.PfN p) (hr : T.Rt p) (hg : T.getL E p = some x) (hE : T.EOk E) (hn : E.length < 4096) (hs : StOk B S c) (h1 : frF S x.1 = S1) : Pact Tryz.prog 28 #[.pointer (some ⟨vb, 0, none⟩), .agg (T.pfC p).toArray, .agg (atC d).toArray, .bool false] (fun _ => True) (vsL vb sp tb E S c) (fun u L' => u = .int .i64 0 ∧ L' = vsL vb sp tb (T.setE E p (0, x.2.1, false)) S1 c) := by
  refine pact Tryz.func28 rfl Tryz.ntmps28 rfl ?_
  intro W K _
  have k := T.get_old tb E p hp _ rfl _ rfl
  (repeat' (first | ((with_reducible apply gL); (first | refine yL0 ?_ | refine yL ?_ | ((with_reducible apply gL_go); (first | (refine JL_goq (vis_s vb (sA sp) tb (dueI E) (wntI E)) (hφ := xF) (h := ?_); rintro _ _ ⟨rfl, rfl⟩; try simp only [List.cons_append, List.nil_append]) | (refine JL_goq (k) (hφ := xF) (h := ?_); rintro _ _ ⟨rfl, rfl⟩; try simp only [List.cons_append, List.nil_append]) | (refine JL_goq (T.right_b p hp true (decide_eq_true hr)) (hφ := xF) (h := ?_); rintro _ _ ⟨rfl, rfl⟩; try simp only [List.cons_append, List.nil_append]) | (refine JL_goq (vdrop_s B hB vb sp tb E S S1 c p x hp hg hE hn hs h1) (hφ := xF) (h := ?_); rintro _ _ rfl; try simp only [List.cons_append, List.nil_append]) | fail)) | (refine yM ?_; intro _) | ((with_reducible apply gL_gd); (first | (refine JL_guard xR xR ?_ ?_ <;> intro _ <;> (try (exfalso; first | contradiction | omega))) | (refine JL_guardb xR xR ?_ ?_ <;> (intro hgb; subst hgb)) | (refine JL_guardb xR xR ?_ ?_ <;> (intro hgb; fail_if_success (have : type_of% hgb := rfl))) | fail)) | fail)) | ((with_reducible apply gD); (first | (refine JD_nil ?_; try simp only [List.cons_append, List.nil_append]) | (refine JD_bar ?_; try simp only [List.cons_append, List.nil_append]) | refine yD ?_ | ((with_reducible apply gD_go); (first | (refine JD_goq (vis_s vb (sA sp) tb (dueI E) (wntI E)) (hφ := xF) (h := ?_); rintro _ _ ⟨rfl, rfl⟩; try simp only [List.cons_append, List.nil_append]) | (refine JD_goq (k) (hφ := xF) (h := ?_); rintro _ _ ⟨rfl, rfl⟩; try simp only [List.cons_append, List.nil_append]) | (refine JD_goq (T.right_b p hp true (decide_eq_true hr)) (hφ := xF) (h := ?_); rintro _ _ ⟨rfl, rfl⟩; try simp only [List.cons_append, List.nil_append]) | (refine JD_goq (vdrop_s B hB vb sp tb E S S1 c p x hp hg hE hn hs h1) (hφ := xF) (h := ?_); rintro _ _ rfl; try simp only [List.cons_append, List.nil_append]) | fail)) | (refine yE ?_; intro _) | fail)) | refine yJ ?_ | ((with_reducible apply gJ_if); (first | (refine J_if xR ?_ ?_ <;> intro _ <;> (try (exfalso; first | contradiction | omega))) | (refine J_ifb xR ?_ ?_ <;> (intro hgb; subst hgb)) | (refine J_ifb xR ?_ ?_ <;> intro _) | fail)) | refine J_draw (id := 3) [0, 1, 2, 3, 4, 5, 6, 7, 8, 9, 10] [11] mixed xC xD xD ?_ | refine J_draw (id := 13) [0, 1, 2, 3, 4, 5] [6, 7, 8, 9, 10, 11] mixed xC xD xD ?_ | fail))
  exact J_ret1 rfl (by rfl) fun w H => ⟨_, ⟨rfl, rfl⟩, H.sel xZ⟩
theorem want_s (B : Int) (hB0 : 0 ≤ B) (hB : B ≤ 1000000) (vb sp tb : Nat) (E : List T.Ent) (S S1 S2 : List En) (c c1 id : Int) (p : T.Pf) (o : T.Vt) (d : At) (hd : AtF d) (hp : T.PfN p) (hr : T.Rt p) (hok : okN d.nf = true) (ho : T.oldV E p = o) (hE : T.EOk E) (hn : E.length < 4096) (hs : StOk B S c) (hk : keepF S c (bareN d.nf) = ((S1, c1), id, 0)) (hs1 : StOk (B + 1) S1 c1) (hid : I64 id) (hox : T.VN o) (h2 : frF S1 o.1 = S2) : Pact Tryz.prog 28 #[.pointer (some ⟨vb, 0, none⟩), .agg (T.pfC p).toArray, .agg (atC d).toArray, .bool true] (fun w => AtV w d) (vsL vb sp tb E S c) (fun u L' => u = .int .i64 0 ∧ L' = vsL vb sp tb (T.setE E p (id, o.2.1, o.2.2)) S2 c1) := by
  refine pact Tryz.func28 rfl Tryz.ntmps28 rfl ?_
  intro W K hK
  obtain ⟨b, hb⟩ : ∃ b, (T.getL E p).isSome = b := ⟨_, rfl⟩
  have k := T.get_old tb E p hp o ho b hb
  have kc := check_s d hd
  rw [hok] at kc
  have kb := bare_s d hd
  have kf := free_w (B + 1) (by omega) vb sp tb E S1 S2 c1 o.1 hs1 h2
  have ks := set_s vb (sA sp) tb E p (id, o.2.1, o.2.2) hE hp hr ⟨hid, hox.2⟩ hn
  have kl := T.len_a tb E
  cases b
  all_goals (
    (repeat' (first | ((with_reducible apply gL); (first | refine yL0 ?_ | refine yL ?_ | ((with_reducible apply gL_go); (first | (refine JL_goq (vis_s vb (sA sp) tb (dueI E) (wntI E)) (hφ := xF) (h := ?_); rintro _ _ ⟨rfl, rfl⟩; try simp only [List.cons_append, List.nil_append]) | (refine JL_goq (k) (hφ := xF) (h := ?_); rintro _ _ ⟨rfl, rfl⟩; try simp only [List.cons_append, List.nil_append]) | (refine JL_goq (T.right_b p hp true (decide_eq_true hr)) (hφ := xF) (h := ?_); rintro _ _ ⟨rfl, rfl⟩; try simp only [List.cons_append, List.nil_append]) | (refine JL_goq (kc) (hφ := (by (try simp only [List.cons_append, List.nil_append]); exact fun w hr => hK w hr.1)) (h := ?_); rintro _ _ ⟨rfl, rfl⟩; try simp only [List.cons_append, List.nil_append]) | (refine JL_goq (kl) (hφ := xF) (h := ?_); rintro _ _ ⟨rfl, rfl⟩; try simp only [List.cons_append, List.nil_append]) | (refine JL_goq (kb) (hφ := (by (try simp only [List.cons_append, List.nil_append]); exact fun w hr => hK w hr.1)) (h := ?_); rintro _ _ ⟨d', ⟨hd', hnf⟩, rfl, rfl⟩; try simp only [List.cons_append, List.nil_append]) | fail)) | (refine yM ?_; intro _) | ((with_reducible apply gL_gd); (first | (refine JL_guard xR xR ?_ ?_ <;> intro _ <;> (try (exfalso; first | contradiction | omega))) | (refine JL_guardb xR xR ?_ ?_ <;> (intro hgb; subst hgb)) | (refine JL_guardb xR xR ?_ ?_ <;> (intro hgb; fail_if_success (have : type_of% hgb := rfl))) | fail)) | fail)) | ((with_reducible apply gD); (first | (refine JD_nil ?_; try simp only [List.cons_append, List.nil_append]) | (refine JD_bar ?_; try simp only [List.cons_append, List.nil_append]) | refine yD ?_ | ((with_reducible apply gD_go); (first | (refine JD_goq (vis_s vb (sA sp) tb (dueI E) (wntI E)) (hφ := xF) (h := ?_); rintro _ _ ⟨rfl, rfl⟩; try simp only [List.cons_append, List.nil_append]) | (refine JD_goq (k) (hφ := xF) (h := ?_); rintro _ _ ⟨rfl, rfl⟩; try simp only [List.cons_append, List.nil_append]) | (refine JD_goq (T.right_b p hp true (decide_eq_true hr)) (hφ := xF) (h := ?_); rintro _ _ ⟨rfl, rfl⟩; try simp only [List.cons_append, List.nil_append]) | (refine JD_goq (kc) (hφ := (by (try simp only [List.cons_append, List.nil_append]); exact fun w hr => hK w hr.1)) (h := ?_); rintro _ _ ⟨rfl, rfl⟩; try simp only [List.cons_append, List.nil_append]) | (refine JD_goq (kl) (hφ := xF) (h := ?_); rintro _ _ ⟨rfl, rfl⟩; try simp only [List.cons_append, List.nil_append]) | (refine JD_goq (kb) (hφ := (by (try simp only [List.cons_append, List.nil_append]); exact fun w hr => hK w hr.1)) (h := ?_); rintro _ _ ⟨d', ⟨hd', hnf⟩, rfl, rfl⟩; try simp only [List.cons_append, List.nil_append]) | fail)) | (refine yE ?_; intro _) | fail)) | refine yJ ?_ | ((with_reducible apply gJ_if); (first | (refine J_if xR ?_ ?_ <;> intro _ <;> (try (exfalso; first | contradiction | omega))) | (refine J_ifb xR ?_ ?_ <;> (intro hgb; subst hgb)) | (refine J_ifb xR ?_ ?_ <;> intro _) | fail)) | refine J_draw (id := 3) [0, 1, 2, 3, 4, 5, 6, 7, 8, 9, 10] [11] mixed xC xD xD ?_ | refine J_draw (id := 13) [0, 1, 2, 3, 4, 5] [6, 7, 8, 9, 10, 11] mixed xC xD xD ?_ | fail))
    have kk := keep_s B hB0 (by omega) sp S c d' hd' hs
    rw [hnf, hk] at kk
    dsimp only at kk
    (repeat' (first | ((with_reducible apply gL); (first | refine yL0 ?_ | refine yL ?_ | ((with_reducible apply gL_go); (first | (refine JL_goq (kk) (hφ := (by (try simp only [List.cons_append, List.nil_append]); exact fun w hr => hr.has xA)) (h := ?_); rintro _ _ ⟨rfl, rfl⟩; try simp only [List.cons_append, List.nil_append]) | (refine JL_goq (kf) (hφ := xF) (h := ?_); rintro _ _ rfl; try simp only [List.cons_append, List.nil_append]) | (refine JL_goq (ks) (hφ := xF) (h := ?_); rintro _ _ rfl; try simp only [List.cons_append, List.nil_append]) | fail)) | (refine yM ?_; intro _) | ((with_reducible apply gL_gd); (first | (refine JL_guard xR xR ?_ ?_ <;> intro _ <;> (try (exfalso; first | contradiction | omega))) | (refine JL_guardb xR xR ?_ ?_ <;> (intro hgb; subst hgb)) | (refine JL_guardb xR xR ?_ ?_ <;> (intro hgb; fail_if_success (have : type_of% hgb := rfl))) | fail)) | fail)) | ((with_reducible apply gD); (first | (refine JD_nil ?_; try simp only [List.cons_append, List.nil_append]) | (refine JD_bar ?_; try simp only [List.cons_append, List.nil_append]) | refine yD ?_ | ((with_reducible apply gD_go); (first | (refine JD_goq (kk) (hφ := (by (try simp only [List.cons_append, List.nil_append]); exact fun w hr => hr.has xA)) (h := ?_); rintro _ _ ⟨rfl, rfl⟩; try simp only [List.cons_append, List.nil_append]) | (refine JD_goq (kf) (hφ := xF) (h := ?_); rintro _ _ rfl; try simp only [List.cons_append, List.nil_append]) | (refine JD_goq (ks) (hφ := xF) (h := ?_); rintro _ _ rfl; try simp only [List.cons_append, List.nil_append]) | fail)) | (refine yE ?_; intro _) | fail)) | refine yJ ?_ | ((with_reducible apply gJ_if); (first | (refine J_if xR ?_ ?_ <;> intro _ <;> (try (exfalso; first | contradiction | omega))) | (refine J_ifb xR ?_ ?_ <;> (intro hgb; subst hgb)) | (refine J_ifb xR ?_ ?_ <;> intro _) | fail)) | refine J_draw (id := 3) [0, 1, 2, 3, 4, 5, 6, 7, 8, 9, 10] [11] mixed xC xD xD ?_ | refine J_draw (id := 13) [0, 1, 2, 3, 4, 5] [6, 7, 8, 9, 10, 11] mixed xC xD xD ?_ | fail))
    exact J_ret1 rfl (by rfl) fun w H => ⟨_, ⟨rfl, rfl⟩, H.sel xZ⟩)
theorem vnew_s (sp : Nat) : Pact Tryz.prog 15 #[.pointer (some ⟨sp, 0, none⟩)] (fun _ => True) [stoA sp [] 0] (fun u L' => ∃ vb tb, u = .tuple #[.pointer (some ⟨vb, 0, none⟩), .int .i64 0] ∧ L' = vsL vb sp tb [] [] 0) := by
  refine pact Tryz.func15 rfl Tryz.ntmps15 rfl ?_
  intro W K _
  have hf := free_s 0 (by omega) sp [] 0 0 stok_nil
  (repeat' (first | ((with_reducible apply gL); (first | refine yL0 ?_ | refine yL ?_ | ((with_reducible apply gL_go); (first | (refine JL_goq (hf) (hφ := xF) (h := ?_); rintro _ _ ⟨rfl, rfl⟩; try simp only [List.cons_append, List.nil_append]) | (refine JL_goq (T.new_a) (hφ := xF) (h := ?_); rintro _ _ ⟨tb, rfl, rfl⟩; try simp only [List.cons_append, List.nil_append]) | fail)) | (refine yM ?_; intro _) | fail)) | refine yJ ?_ | ((with_reducible apply gJ_if); (first | (refine J_if xR ?_ ?_ <;> intro _ <;> (try (exfalso; first | contradiction | omega))) | (refine J_ifb xR ?_ ?_ <;> (intro hgb; subst hgb)) | (refine J_ifb xR ?_ ?_ <;> intro _) | fail)) | fail))
  exact J_ret2 rfl (by rfl) (by rfl) fun w H => ⟨_, ⟨_, tb, rfl, rfl⟩, H.sel xZ⟩
end Go.Proofs.YtdnokmpnemaoaaaGreat
namespace Go.Proofs.YtdnokmpnemaoaaaGreat
set_option linter.unusedSimpArgs false
set_option linter.unusedVariables false
set_option maxRecDepth 20000
set_option maxHeartbeats 4000000
open Go.RowKit Go.Pm

def thoseL (s : List T.Ent → List T.Ent) (q : T.Vt → Bool) : List T.Pf → List T.Ent → List T.Ent
  | [], pre => pre
  | p :: ks, pre => if q (T.oldV (s pre) p) then thoseL s q ks (pre ++ [(p, T.oldV (s pre) p)]) else thoseL s q ks pre
theorem thoseL_snoc (s : List T.Ent → List T.Ent) (q : T.Vt → Bool) (p : T.Pf) : ∀ (ks : List T.Pf) (pre : List T.Ent), thoseL s q (ks ++ [p]) pre = (if q (T.oldV (s (thoseL s q ks pre)) p) then thoseL s q ks pre ++ [(p, T.oldV (s (thoseL s q ks pre)) p)] else thoseL s q ks pre)
  | [], pre => rfl
  | k :: ks, pre => by
    simp only [List.cons_append, thoseL]
    split
    · exact thoseL_snoc s q p ks _
    · exact thoseL_snoc s q p ks _
def enc2 (e : T.Ent) : List Value := [.agg (T.pfC e.1).toArray, .agg (T.vC e.2).toArray]
abbrev keysOf (s : List T.Ent → List T.Ent) : List T.Pf := T.keysE (s [])
def nextG (s : List T.Ent → List T.Ent) (q : T.Vt → Bool) (pre : List T.Ent) (x : T.Ent) : Prop := ∃ k, pre = thoseL s q ((keysOf s).take k) [] ∧ (keysOf s)[k]? = some x.1 ∧ x.2 = T.oldV (s pre) x.1 ∧ q x.2 = true
theorem those_s (v : Option Addr) (qf : FuncId) : Pact Tryz.prog 47 #[.pointer v, .func (.func qf) #[] #[]] (fun _ => True) [] (fun u L' => ∃ g h, u = .func (.func 81) #[] #[.pointer (some ⟨g, 0, none⟩), .pointer (some ⟨h, 0, none⟩)] ∧ L' = [pts g [.pointer v] 53, pts h [.func (.func qf) #[] #[]] 113]) := by
  refine pact Tryz.func47 rfl Tryz.ntmps47 rfl ?_
  intro W K _
  (repeat' (first | ((with_reducible apply gL); (first | refine yL0 ?_ | refine yL ?_ | (refine yM ?_; intro _) | fail)) | refine yJ ?_ | fail))
  exact J_ret1 rfl (by rfl) fun w H => ⟨_, ⟨_, _, rfl, rfl⟩, H.sel xZ⟩
abbrev QV (vb : Nat) (sp : Option Addr) (tb : Nat) (s : List T.Ent → List T.Ent) (Y : List T.Ent → HP) : Prop := ∃ Y' : List T.Ent → HP, ∀ pre h, Y pre h ↔ sats [pts vb (vwC sp tb (dueI (s pre)) (wntI (s pre))) 98, T.trA tb (s pre), Y' pre] h
theorem those1_it (vb : Nat) (sp : Option Addr) (tb g h : Nat) (s : List T.Ent → List T.Ent) (q : T.Vt → Bool) (qf : FuncId) (ho : ownB Tryz.prog qf = true) (hq : ∀ x, Pact Tryz.prog qf #[.agg (T.vC x).toArray] (fun _ => True) [] (ret0 (.bool (q x)))) (hs : T.EOk (s [])) (hl : (s []).length ≤ 4096) :
    IterQ Tryz.prog 81 (fun l => [yldV l, .pointer (some ⟨g, 0, none⟩), .pointer (some ⟨h, 0, none⟩)]) (fun w => w.cell? ⟨g, 0, none⟩ = some (.pointer (some ⟨vb, 0, none⟩)) ∧ w.cell? ⟨h, 0, none⟩ = some (.func (.func qf) #[] #[])) enc2 (nextG s q) (fun xs => xs = thoseL s q (keysOf s) []) (fun pre => ∃ k, pre = thoseL s q ((keysOf s).take k) []) (QV vb sp tb s) := by
  refine iterQ Tryz.func81 rfl Tryz.ntmps81 (fun _ => rfl) ?_
  intro K0 l Y Yx ⟨Y', hQ⟩ hY W K hK hφ
  have h1 : Kn K (fun w => w.cell? ⟨g, 0, none⟩ = some (.pointer (some ⟨vb, 0, none⟩))) := hφ.left
  have h2 : Kn K (fun w => w.cell? ⟨h, 0, none⟩ = some (.func (.func qf) #[] #[])) := hφ.right
  have opn : ∀ {pre : List T.Ent} {L R : List HP} {w : World}, Ow W K L w → Tk L (Y pre) R → Ow W K (pts vb (vwC sp tb (dueI (s pre)) (wntI (s pre))) 98 :: T.trA tb (s pre) :: Y' pre :: R) w := fun H t => by
    obtain ⟨_, H2⟩ := H.open (α := Unit) t (Bs := fun _ => [pts vb (vwC sp tb (dueI (s _)) (wntI (s _))) 98, T.trA tb (s _), Y' _]) (fun k hk => ⟨(), (hQ _ k).1 hk⟩)
    exact H2
  have sht : ∀ {pre : List T.Ent} {L R : List HP} {w : World}, Ow W K L w → Sb L [pts vb (vwC sp tb (dueI (s pre)) (wntI (s pre))) 98, T.trA tb (s pre), Y' pre] R → Ow W K (Y pre :: R) w := fun H t => H.shut t (fun k hk => (hQ _ k).2 hk)
  have hkl : (keysOf s).length ≤ 4096 := by show (List.map _ _).length ≤ _; rw [List.length_map]; exact hl
  refine J_heap (fun w H => opn H .here) ?_
  obtain ⟨ks, hks⟩ : ∃ ks, keysOf s = ks := ⟨_, rfl⟩
  have hkn : ∀ p ∈ ks, T.PfN p := fun p hp => by
    rw [← hks] at hp
    obtain ⟨e, he, rfl⟩ := List.mem_map.1 hp
    exact (hs.e e he).2.1
  have hall := T.all_a tb (s []) hl
  have ek : T.keysE (s []) = ks := hks
  rw [ek] at hall
  rw [hks] at hkl
  (repeat' (first | ((with_reducible apply gL); (first | refine yL0 ?_ | refine yL ?_ | ((with_reducible apply gL_go); (first | (refine JL_goq (vis_s vb sp tb (dueI (s [])) (wntI (s []))) (hφ := xF) (h := ?_); rintro _ _ ⟨rfl, rfl⟩; try simp only [List.cons_append, List.nil_append]) | (refine JL_goq (hall) (hφ := xF) (h := ?_); rintro _ _ ⟨a, c, rfl, rfl⟩; try simp only [List.cons_append, List.nil_append]) | fail)) | (refine yM ?_; intro _) | ((with_reducible apply gL_gd); (first | (refine JL_guard xR xR ?_ ?_ <;> intro _ <;> (try (exfalso; first | contradiction | omega))) | (refine JL_guardb xR xR ?_ ?_ <;> (intro hgb; subst hgb)) | (refine JL_guardb xR xR ?_ ?_ <;> (intro hgb; fail_if_success (have : type_of% hgb := rfl))) | fail)) | fail)) | ((with_reducible apply gD); (first | (refine JD_nil ?_; try simp only [List.cons_append, List.nil_append]) | (refine JD_bar ?_; try simp only [List.cons_append, List.nil_append]) | refine yD ?_ | ((with_reducible apply gD_go); (first | (refine JD_goq (vis_s vb sp tb (dueI (s [])) (wntI (s []))) (hφ := xF) (h := ?_); rintro _ _ ⟨rfl, rfl⟩; try simp only [List.cons_append, List.nil_append]) | (refine JD_goq (hall) (hφ := xF) (h := ?_); rintro _ _ ⟨a, c, rfl, rfl⟩; try simp only [List.cons_append, List.nil_append]) | fail)) | (refine yE ?_; intro _) | fail)) | refine yJ ?_ | ((with_reducible apply gJ_if); (first | (refine J_if xR ?_ ?_ <;> intro _ <;> (try (exfalso; first | contradiction | omega))) | (refine J_ifb xR ?_ ?_ <;> (intro hgb; subst hgb)) | (refine J_ifb xR ?_ ?_ <;> intro _) | fail)) | refine J_draw (id := 4) [0, 1, 2, 3, 4, 5, 6, 7, 8, 9, 10] [11] mixed xC xD xD ?_ | fail))
  refine J_loop (α := Nat) 0 (fun x => ks.length - x) (fun x => x ≤ ks.length) (fun x => [(0, yldV l), (1, .pointer (some ⟨g, 0, none⟩)), (2, .pointer (some ⟨h, 0, none⟩)), (15, .slice a ks.length c), (16, .int .i64 ks.length), (17, .int .i64 x)])
    (fun x => [Y (thoseL s q (ks.take x) []), Ar 28 2 T.pfC (.slice a ks.length c) ks]) (Nat.zero_le _) ⟨rfl, rfl, rfl, rfl, rfl, rfl, trivial⟩ (fun w H => (sht (pre := []) H xZ).sel xZ) ?_
  intro x hx
  obtain ⟨pre, hpre⟩ : ∃ pre, thoseL s q (ks.take x) [] = pre := ⟨_, rfl⟩
  rw [hpre]
  by_cases hlt : x < ks.length
  · obtain ⟨p, hp⟩ : ∃ p, ks[x]? = some p := ⟨_, List.getElem?_eq_getElem hlt⟩
    have hpn := hkn p (List.mem_of_getElem? hp)
    have hsn : thoseL s q (ks.take (x + 1)) [] = if q (T.oldV (s pre) p) then pre ++ [(p, T.oldV (s pre) p)] else pre := by
      rw [take_snoc hp, thoseL_snoc, hpre]
    obtain ⟨o, hov⟩ : ∃ o, T.oldV (s pre) p = o := ⟨_, rfl⟩
    have kg := T.get_old tb (s pre) p hpn o hov _ rfl
    refine J_heap (fun w H => opn H .here) ?_
    have kq := hq o
    rcases hqo : q o with _ | _
    · rw [hov, hqo] at hsn
      rw [hqo] at kq
      (repeat' (first | ((with_reducible apply gL); (first | refine yL0 ?_ | refine yL ?_ | ((with_reducible apply gL_go); (first | (refine JL_goq (kg) (hφ := xF) (h := ?_); rintro _ _ ⟨rfl, rfl⟩; try simp only [List.cons_append, List.nil_append]) | (refine JL_goq (kq) (hφ := xF) (h := ?_); rintro _ _ ⟨rfl, rfl⟩; try simp only [List.cons_append, List.nil_append]) | fail)) | (refine yM ?_; intro _) | ((with_reducible apply gL_gd); (first | (refine JL_guard xR xR ?_ ?_ <;> intro _ <;> (try (exfalso; first | contradiction | omega))) | (refine JL_guardb xR xR ?_ ?_ <;> (intro hgb; subst hgb)) | (refine JL_guardb xR xR ?_ ?_ <;> (intro hgb; fail_if_success (have : type_of% hgb := rfl))) | fail)) | fail)) | ((with_reducible apply gD); (first | (refine JD_nil ?_; try simp only [List.cons_append, List.nil_append]) | (refine JD_bar ?_; try simp only [List.cons_append, List.nil_append]) | refine yD ?_ | ((with_reducible apply gD_go); (first | (refine JD_goq (kg) (hφ := xF) (h := ?_); rintro _ _ ⟨rfl, rfl⟩; try simp only [List.cons_append, List.nil_append]) | (refine JD_goq (kq) (hφ := xF) (h := ?_); rintro _ _ ⟨rfl, rfl⟩; try simp only [List.cons_append, List.nil_append]) | fail)) | (refine yE ?_; intro _) | fail)) | refine yJ ?_ | ((with_reducible apply gJ_if); (first | (refine J_if xR ?_ ?_ <;> intro _ <;> (try (exfalso; first | contradiction | omega))) | (refine J_ifb xR ?_ ?_ <;> (intro hgb; subst hgb)) | (refine J_ifb xR ?_ ?_ <;> intro _) | fail)) | refine J_draw (id := 4) [0, 1, 2, 3, 4, 5, 6, 7, 8, 9, 10] [11] mixed xC xD xD ?_ | fail))
      refine J_again (x + 1) (by omega) (by omega) ⟨rfl, rfl, rfl, rfl, rfl, rfl, trivial⟩ (fun w H => ?_)
      rw [hsn]
      exact (sht (pre := pre) H xZ).sel xZ
    · rw [hov, hqo] at hsn
      rw [hqo] at kq
      have hG : nextG s q pre (p, o) := ⟨x, by rw [hks]; exact hpre.symm, by rw [hks]; exact hp, hov.symm, hqo⟩
      (repeat' (first | ((with_reducible apply gL); (first | refine yL0 ?_ | refine yL ?_ | ((with_reducible apply gL_go); (first | (refine JL_goq (kg) (hφ := xF) (h := ?_); rintro _ _ ⟨rfl, rfl⟩; try simp only [List.cons_append, List.nil_append]) | (refine JL_goq (kq) (hφ := xF) (h := ?_); rintro _ _ ⟨rfl, rfl⟩; try simp only [List.cons_append, List.nil_append]) | fail)) | (refine yM ?_; intro _) | ((with_reducible apply gL_gd); (first | (refine JL_guard xR xR ?_ ?_ <;> intro _ <;> (try (exfalso; first | contradiction | omega))) | (refine JL_guardb xR xR ?_ ?_ <;> (intro hgb; subst hgb)) | (refine JL_guardb xR xR ?_ ?_ <;> (intro hgb; fail_if_success (have : type_of% hgb := rfl))) | fail)) | fail)) | ((with_reducible apply gD); (first | (refine JD_nil ?_; try simp only [List.cons_append, List.nil_append]) | (refine JD_bar ?_; try simp only [List.cons_append, List.nil_append]) | refine yD ?_ | ((with_reducible apply gD_go); (first | (refine JD_goq (kg) (hφ := xF) (h := ?_); rintro _ _ ⟨rfl, rfl⟩; try simp only [List.cons_append, List.nil_append]) | (refine JD_goq (kq) (hφ := xF) (h := ?_); rintro _ _ ⟨rfl, rfl⟩; try simp only [List.cons_append, List.nil_append]) | fail)) | (refine yE ?_; intro _) | fail)) | refine yJ ?_ | ((with_reducible apply gJ_if); (first | (refine J_if xR ?_ ?_ <;> intro _ <;> (try (exfalso; first | contradiction | omega))) | (refine J_ifb xR ?_ ?_ <;> (intro hgb; subst hgb)) | (refine J_ifb xR ?_ ?_ <;> intro _) | fail)) | refine J_draw (id := 4) [0, 1, 2, 3, 4, 5, 6, 7, 8, 9, 10] [11] mixed xC xD xD ?_ | fail))
      refine JL_heap (fun w H => sht (pre := pre) H xZ) ?_
      refine JL_y (hY pre (p, o) hG) xH xR xR xS xR xR ?_
      rintro _ _ (⟨rfl, rfl⟩ | ⟨rfl, rfl⟩) <;> simp only [List.cons_append, List.nil_append]
      all_goals (repeat' (first | ((with_reducible apply gL); (first | refine yL0 ?_ | refine yL ?_ | (refine yM ?_; intro _) | ((with_reducible apply gL_gd); (first | (refine JL_guard xR xR ?_ ?_ <;> intro _ <;> (try (exfalso; first | contradiction | omega))) | (refine JL_guardb xR xR ?_ ?_ <;> (intro hgb; subst hgb)) | (refine JL_guardb xR xR ?_ ?_ <;> (intro hgb; fail_if_success (have : type_of% hgb := rfl))) | fail)) | fail)) | ((with_reducible apply gD); (first | (refine JD_nil ?_; try simp only [List.cons_append, List.nil_append]) | (refine JD_bar ?_; try simp only [List.cons_append, List.nil_append]) | refine yD ?_ | (refine yE ?_; intro _) | fail)) | refine yJ ?_ | ((with_reducible apply gJ_if); (first | (refine J_if xR ?_ ?_ <;> intro _ <;> (try (exfalso; first | contradiction | omega))) | (refine J_ifb xR ?_ ?_ <;> (intro hgb; subst hgb)) | (refine J_ifb xR ?_ ?_ <;> intro _) | fail)) | refine J_draw (id := 4) [0, 1, 2, 3, 4, 5, 6, 7, 8, 9, 10] [11] mixed xC xD xD ?_ | fail))
      · refine J_again (x + 1) (by omega) (by omega) ⟨rfl, rfl, rfl, rfl, rfl, rfl, trivial⟩ (fun w H => ?_)
        rw [hsn]
        exact H.sel xZ
      · refine J_ret0 rfl fun w H => ⟨[Yx (pre ++ [(p, o)])], .inr ⟨_, ⟨x + 1, ?_⟩, rfl⟩, H.sel xZ⟩
        rw [hks, hsn]
        rfl
  · obtain rfl : x = ks.length := by omega
    rw [List.take_length] at hpre
    (repeat' (first | ((with_reducible apply gL); (first | refine yL0 ?_ | refine yL ?_ | (refine yM ?_; intro _) | ((with_reducible apply gL_gd); (first | (refine JL_guard xR xR ?_ ?_ <;> intro _ <;> (try (exfalso; first | contradiction | omega))) | (refine JL_guardb xR xR ?_ ?_ <;> (intro hgb; subst hgb)) | (refine JL_guardb xR xR ?_ ?_ <;> (intro hgb; fail_if_success (have : type_of% hgb := rfl))) | fail)) | fail)) | ((with_reducible apply gD); (first | (refine JD_nil ?_; try simp only [List.cons_append, List.nil_append]) | (refine JD_bar ?_; try simp only [List.cons_append, List.nil_append]) | refine yD ?_ | (refine yE ?_; intro _) | fail)) | refine yJ ?_ | ((with_reducible apply gJ_if); (first | (refine J_if xR ?_ ?_ <;> intro _ <;> (try (exfalso; first | contradiction | omega))) | (refine J_ifb xR ?_ ?_ <;> (intro hgb; subst hgb)) | (refine J_ifb xR ?_ ?_ <;> intro _) | fail)) | refine J_draw (id := 4) [0, 1, 2, 3, 4, 5, 6, 7, 8, 9, 10] [11] mixed xC xD xD ?_ | fail))
    exact J_end0 rfl fun w H => ⟨[Y pre], .inl ⟨_, by rw [← hpre, hks], rfl⟩, H.sel xZ⟩
end Go.Proofs.YtdnokmpnemaoaaaGreat
namespace Go.Proofs.YtdnokmpnemaoaaaGreat
set_option linter.unusedSimpArgs false
set_option linter.unusedVariables false
set_option maxRecDepth 20000
set_option maxHeartbeats 4000000
open Go.RowKit Go.Pm

theorem sats_one {A : HP} {h : Hl} : sats [A] h ↔ A h := by
  constructor
  · rintro ⟨h1, h2, a, b, _, rfl⟩
    have : h1.add h2 = h1 := by funext x; simp [Hl.add, b x]
    rw [this]; exact a
  · intro a
    exact ⟨h, fun _ => none, a, fun _ => rfl, fun b => .inr rfl, by funext x; simp [Hl.add]⟩
theorem sats_tail {A : HP} {L M : List HP} (e : ∀ h, sats L h ↔ sats M h) (h : Hl) : sats (A :: L) h ↔ sats (A :: M) h := by
  constructor
  · rintro ⟨h1, h2, a, b, d, r⟩; exact ⟨h1, h2, a, (e h2).1 b, d, r⟩
  · rintro ⟨h1, h2, a, b, d, r⟩; exact ⟨h1, h2, a, (e h2).2 b, d, r⟩
theorem sats_group (A B U V : HP) (M : List HP) (h : Hl) : sats (A :: B :: U :: V :: M) h ↔ sats [U, V, sats (A :: B :: M)] h := by
  have p : (A :: B :: U :: V :: M).Perm (U :: V :: A :: B :: M) := by
    refine List.Perm.trans (l₂ := U :: A :: B :: V :: M) ?_ (.cons _ ?_)
    · exact (List.perm_middle (l₁ := [A, B]) (l₂ := V :: M) (a := U))
    · exact (List.perm_middle (l₁ := [A, B]) (l₂ := M) (a := V))
  refine Iff.trans ⟨sats_perm p h, sats_perm p.symm h⟩ (sats_tail (sats_tail fun h => sats_one.symm) h)
theorem qv_of (vb : Nat) (sp : Option Addr) (tb : Nat) (s : List T.Ent → List T.Ent) (M : List T.Ent → List HP) (A B : HP) : QV vb sp tb s (fun pre => sats (A :: B :: pts vb (vwC sp tb (dueI (s pre)) (wntI (s pre))) 98 :: T.trA tb (s pre) :: M pre)) := ⟨fun pre => sats (A :: B :: M pre), fun pre h => sats_group A B _ _ (M pre) h⟩
theorem srt_set {E : List T.Ent} {p : T.Pf} {x : T.Vt} (h : T.Srt E) : T.Srt (T.setE E p x) := by
  unfold T.setE
  split
  · exact T.srt_dropL h
  · exact T.srt_putL h
theorem thoseL_len (s : List T.Ent → List T.Ent) (q : T.Vt → Bool) : ∀ (ks : List T.Pf) (pre : List T.Ent), (thoseL s q ks pre).length ≤ pre.length + ks.length
  | [], pre => by simp [thoseL]
  | k :: ks, pre => by
    simp only [thoseL]
    split
    · have := thoseL_len s q ks (pre ++ [(k, T.oldV (s pre) k)])
      simp only [List.length_append, List.length_cons, List.length_nil] at this ⊢
      omega
    · have := thoseL_len s q ks pre
      simp only [List.length_cons]
      omega
theorem nextG.len {s : List T.Ent → List T.Ent} {q : T.Vt → Bool} {pre : List T.Ent} {x : T.Ent} (h : nextG s q pre x) : pre.length ≤ (s []).length := by
  obtain ⟨k, rfl, _⟩ := h
  have := thoseL_len s q ((keysOf s).take k) []
  have h2 : ((keysOf s).take k).length ≤ (s []).length := by
    rw [List.length_take]
    have : (keysOf s).length = (s []).length := List.length_map _
    omega
  simp only [List.length_nil] at this
  omega
theorem nextG.mem {s : List T.Ent → List T.Ent} {q : T.Vt → Bool} {pre : List T.Ent} {x : T.Ent} (h : nextG s q pre x) : x.1 ∈ keysOf s := by
  obtain ⟨k, _, h, _⟩ := h
  exact List.mem_of_getElem? h
theorem frF_ok {B : Int} {S : List En} {c id : Int} (h : StOk B S c) : StOk B (frF S id) c := by
  unfold frF
  split
  · exact h
  · exact freeF_ok h
theorem key_of {E : List T.Ent} (hE : T.EOk E) {p : T.Pf} (h : p ∈ T.keysE E) : T.Rt p ∧ T.PfN p := by
  obtain ⟨e, he, rfl⟩ := List.mem_map.1 h
  have := hE.e e he
  exact ⟨this.1, this.2.1⟩
theorem zV_n : T.VN T.zV := by unfold T.VN; exact ⟨by unfold T.I64; decide, by unfold T.I64; decide⟩
end Go.Proofs.YtdnokmpnemaoaaaGreat
