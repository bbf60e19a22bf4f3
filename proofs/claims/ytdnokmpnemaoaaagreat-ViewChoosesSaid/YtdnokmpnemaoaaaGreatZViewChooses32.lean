/-
  Vw2: merged.
-/
import Derived.Test.YtdnokmpnemaoaaaGreatZViewChooses31
namespace Go.Proofs.YtdnokmpnemaoaaaGreat
set_option linter.unusedSimpArgs false
set_option linter.unusedVariables false
set_option maxRecDepth 20000
set_option maxHeartbeats 4000000
open Go.RowKit Go.Pm
theorem zd50Vw2 {p q : Prop} (k : p) (h : p → q := by intro hk; first | exact J_draw (id := 1) [0, 1, 2, 3, 4, 5, 6, 7, 8, 9, 10] [11] mixed xC xD xD hk | exact J_draw (id := 5) [0, 1, 2, 3, 4] [5] mixed xC xD xD hk | exact J_draw (id := 6) [0, 1, 2, 3, 4, 5] [6] mixed xC xD xD hk | fail) : q := h k

theorem eqF_step {P : Program} {d : Nat} {xs ys : Array Value} {f : Field} {fs : List Field} {v u : Value} {b : Bool} (hn : f.name ≠ "_") (hx : ∀ w, (Go.part f.type xs f.offset).run P w = .ok v w) (hy : ∀ w, (Go.part f.type ys f.offset).run P w = .ok u w) (he : ∀ w, (Op.equalIn d f.type v u).run P w = .ok b w) (w : World) : (Op.eqFields d xs ys (f :: fs)).run P w = if b then (Op.eqFields d xs ys fs).run P w else .ok false w := by
  simp only [Op.eqFields, if_pos hn, Sem.run_bind, hx, hy, he, Result.andThen_ok]
  cases b <;> simp
theorem part_i {P : Program} {t : TypeId} {k : IntKind} (e : P.underlying t = some (.int k)) (xs : Array Value) (o : Nat) (v : Value) (h : xs[o]? = some v) (w : World) : (part t xs o).run P w = .ok v w := by
  simp [part, Sem.run_bind, run_agg e, TypeDesc.isRow, h]
theorem part_b {P : Program} {t : TypeId} (e : P.underlying t = some .bool) (xs : Array Value) (o : Nat) (v : Value) (h : xs[o]? = some v) (w : World) : (part t xs o).run P w = .ok v w := by
  simp [part, Sem.run_bind, run_agg e, TypeDesc.isRow, h]
def eqEnt (a b : Int) (c : Bool) (a' b' : Int) (c' : Bool) : Bool := (a == a') && (b == b') && (c == c')
theorem run_eqEnt (a b : Int) (c : Bool) (a' b' : Int) (c' : Bool) (w : World) : (Op.equalIn 10000 96 (.agg #[.int .i64 a, .int .i64 b, .bool c]) (.agg #[.int .i64 a', .int .i64 b', .bool c'])).run Tryz.prog w = .ok (eqEnt a b c a' b' c') w := by
  have hv := Tryz.underlying96
  have hg : ∀ fs : Array Field, Tryz.prog.underlying 96 = some (.struct fs) → Tryz.prog.fieldsOf 96 = fs := fun fs h => by simp [Program.fieldsOf, h]
  rw [run_equalIn_struct w 9999 96 _ _ (by rw [hg _ hv]; exact hv) (by decide +kernel), hg _ hv]
  rw [eqF_step (by decide) (part_i Tryz.underlying3 _ _ _ rfl) (part_i Tryz.underlying3 _ _ _ rfl) (fun w => run_equalIn_int w 9998 _ _ _ a a' Tryz.underlying3)]
  rw [eqF_step (by decide) (part_i Tryz.underlying3 _ _ _ rfl) (part_i Tryz.underlying3 _ _ _ rfl) (fun w => run_equalIn_int w 9998 _ _ _ b b' Tryz.underlying3)]
  rw [eqF_step (by decide) (part_b Tryz.underlying4 _ _ _ rfl) (part_b Tryz.underlying4 _ _ _ rfl) (fun w => run_equalIn_bool' w 9998 _ c c' Tryz.underlying4)]
  unfold eqEnt
  cases h1 : (a == a') <;> cases h2 : (b == b') <;> cases h3 : (c == c') <;> simp [Op.eqFields]
theorem pe_eqEnt {K : Hl} {L : List HP} {tm : TM} {d : Option Tmp} {T : TypeId} {pos : String} {af : Array Edge} {gd : Option (Nat × Bool)} {yt : TypeId} {x y : Operand} {a b a' b' : Int} {c c' : Bool} (hx : evT tm x = some (.agg #[.int .i64 a, .int .i64 b, .bool c])) (hy : evT tm y = some (.agg #[.int .i64 a', .int .i64 b', .bool c'])) {r : Bool} (hr : eqEnt a b c a' b' c' = r) : PE Tryz.prog K L ⟨d, .binOp .eql 96 x y yt, T, pos, af, gd⟩ (tget tm) (.bool r) := pe_bin hx hy fun w => by
  have hq : (eqGuard .eql 96 x y (.agg #[.int .i64 a, .int .i64 b, .bool c]) (.agg #[.int .i64 a', .int .i64 b', .bool c'])).run Tryz.prog w = .ok () w := run_eqGuard_agg w _ _ x y _ _ (by decide +kernel)
  simp only [Sem.run_bind, hq, Result.andThen_ok, run_eql_struct]
  rw [run_eqEnt, hr]
  rfl
def wantE (x : T.Vt) : Bool := decide (x.1 ≠ 0)
def dueI (E : List T.Ent) : Int := T.cntI lateE E
def wntI (E : List T.Ent) : Int := T.cntI wantE E
theorem late_z : lateE T.zV = false := rfl
theorem want_z : wantE T.zV = false := rfl
abbrev vwL (vb : Nat) (sp : Option Addr) (tb : Nat) (E : List T.Ent) : List HP := [pts vb (vwC sp tb (dueI E) (wntI E)) 98, T.trA tb E]
theorem set_s (vb : Nat) (sp : Option Addr) (tb : Nat) (E : List T.Ent) (p : T.Pf) (x : T.Vt) (hE : T.EOk E) (hp : T.PfN p) (hr : T.Rt p) (hx : T.VN x) (hn : E.length < 4096) : Pact Tryz.prog 50 #[.pointer (some ⟨vb, 0, none⟩), .agg (T.pfC p).toArray, .agg (T.vC x).toArray] (fun _ => True) (vwL vb sp tb E) (fun _ L' => L' = vwL vb sp tb (T.setE E p x)) := by
  refine pact Tryz.func50 rfl Tryz.ntmps50 rfl ?_
  intro W K _
  have h1 := T.cntI_le lateE E
  have h2 := T.cntI_le wantE E
  have e1 : dueI (T.setE E p x) = T.cntI lateE E - T.b2 (lateE (T.oldV E p)) + T.b2 (lateE x) := T.cnt_set late_z hE.s
  have e2 : wntI (T.setE E p x) = T.cntI wantE E - T.b2 (wantE (T.oldV E p)) + T.b2 (wantE x) := T.cnt_set want_z hE.s
  have b1 := T.b2_01 (lateE (T.oldV E p))
  have b2 := T.b2_01 (wantE (T.oldV E p))
  rw [vwL, e1, e2]
  unfold vwL dueI wntI
  obtain ⟨o, ho⟩ : ∃ o, T.oldV E p = o := ⟨_, rfl⟩
  obtain ⟨b, hb⟩ : ∃ b, (T.getL E p).isSome = b := ⟨_, rfl⟩
  have hg := T.get_old tb E p hp o ho b hb
  rw [ho] at b1 b2 e1 e2
  rw [ho]
  obtain ⟨D, hD⟩ : ∃ D, T.cntI lateE E = D := ⟨_, rfl⟩
  obtain ⟨N, hN⟩ : ∃ N, T.cntI wantE E = N := ⟨_, rfl⟩
  rw [hD] at h1 ⊢
  rw [hN] at h2 ⊢
  have k1 := vcount_s vb sp tb D N (-1) o (by omega) (by omega) (by omega)
  have f1 : (D + if lateE o then (-1 : Int) else 0) = D - T.b2 (lateE o) := by unfold T.b2; split <;> omega
  have f2 : (N + if o.1 ≠ 0 then (-1 : Int) else 0) = N - T.b2 (wantE o) := by unfold T.b2 wantE; by_cases h : o.1 = 0 <;> simp [h]; omega
  rw [f1, f2] at k1
  obtain ⟨D1, hD1⟩ : ∃ D1, D - T.b2 (lateE o) = D1 := ⟨_, rfl⟩
  obtain ⟨N1, hN1⟩ : ∃ N1, N - T.b2 (wantE o) = N1 := ⟨_, rfl⟩
  rw [hD1, hN1] at k1 ⊢
  have k2 := vcount_s vb sp tb D1 N1 1 x (by omega) (by omega) (by omega)
  have f3 : (D1 + if lateE x then (1 : Int) else 0) = D1 + T.b2 (lateE x) := rfl
  have f4 : (N1 + if x.1 ≠ 0 then (1 : Int) else 0) = N1 + T.b2 (wantE x) := by unfold T.b2 wantE; by_cases h : x.1 = 0 <;> simp [h]
  rw [f3, f4] at k2
  obtain ⟨D2, hD2⟩ : ∃ D2, D1 + T.b2 (lateE x) = D2 := ⟨_, rfl⟩
  obtain ⟨N2, hN2⟩ : ∃ N2, N1 + T.b2 (wantE x) = N2 := ⟨_, rfl⟩
  rw [hD2, hN2] at k2 ⊢
  have hp2 := T.put_a tb E p x hp hx (by omega)
  rw [T.putE_ok hr (.inr hn)] at hp2
  have hdr := T.drop_a tb E p hp (by omega)
  by_cases hz : x.1 = 0 ∧ x.2.1 = 0 ∧ x.2.2 = false
  · have hz2 : x = T.zV := Prod.ext hz.1 (Prod.ext hz.2.1 hz.2.2)
    have e : T.setE E p x = T.dropL E p := if_pos hz2
    rw [e]
    subst hz2
    (repeat' (first | (refine gL ?_; first | refine yL0 ?_ | (refine gL_bin_eql ?_; (refine JL_p rfl xR xR (pe_eqEnt xR xR (r := true) rfl) ?_)) | refine yL ?_ | (refine gL_go ?_; first | (refine JL_goq (hg) (hφ := xF) (h := ?_); rintro _ _ ⟨rfl, rfl⟩; try simp only [cAp, nAp]) | (refine JL_goq (k1) (hφ := xF) (h := ?_); rintro _ _ rfl; try simp only [cAp, nAp]) | (refine JL_goq (k2) (hφ := xF) (h := ?_); rintro _ _ rfl; try simp only [cAp, nAp]) | (refine JL_goq (hdr) (hφ := xF) (h := ?_); rintro _ _ ⟨rfl, rfl⟩; try simp only [cAp, nAp])) | (refine yM ?_; intro _)) | (refine gD ?_; first | (refine yN ?_; try simp only [cAp, nAp]) | refine yD ?_ | (refine gD_go ?_; first | (refine JD_goq (hg) (hφ := xF) (h := ?_); rintro _ _ ⟨rfl, rfl⟩; try simp only [cAp, nAp]) | (refine JD_goq (k1) (hφ := xF) (h := ?_); rintro _ _ rfl; try simp only [cAp, nAp]) | (refine JD_goq (k2) (hφ := xF) (h := ?_); rintro _ _ rfl; try simp only [cAp, nAp]) | (refine JD_goq (hdr) (hφ := xF) (h := ?_); rintro _ _ ⟨rfl, rfl⟩; try simp only [cAp, nAp])) | (refine yE ?_; intro _)) | refine yJ ?_ | refine zd50Vw2 ?_ | (refine yI ?_ ?_ <;> intro _ <;> try exact xX) | (refine yK ?_ ?_ <;> intro hgb <;> first | subst hgb | fail_if_success have : type_of% hgb := rfl) | fail))
    exact J_ret0 rfl fun w H => ⟨_, rfl, H.sel xZ⟩
  · have hz2 : x ≠ T.zV := fun e => hz (by rw [e]; exact ⟨rfl, rfl, rfl⟩)
    have e : T.setE E p x = T.putL E p x := if_neg hz2
    rw [e]
    have hq : eqEnt x.1 x.2.1 x.2.2 0 0 false = false := by
      unfold eqEnt
      rcases h1 : x.1 == 0 with _ | _ <;> rcases h2 : x.2.1 == 0 with _ | _ <;> rcases h3 : x.2.2 with _ | _ <;> simp_all
    (repeat' (first | (refine gL ?_; first | refine yL0 ?_ | (refine gL_bin_eql ?_; (refine JL_p rfl xR xR (pe_eqEnt xR xR (r := false) hq) ?_)) | refine yL ?_ | (refine gL_go ?_; first | (refine JL_goq (hg) (hφ := xF) (h := ?_); rintro _ _ ⟨rfl, rfl⟩; try simp only [cAp, nAp]) | (refine JL_goq (k1) (hφ := xF) (h := ?_); rintro _ _ rfl; try simp only [cAp, nAp]) | (refine JL_goq (k2) (hφ := xF) (h := ?_); rintro _ _ rfl; try simp only [cAp, nAp]) | (refine JL_goq (hp2) (hφ := xF) (h := ?_); rintro _ _ ⟨rfl, rfl⟩; try simp only [cAp, nAp])) | (refine yM ?_; intro _)) | (refine gD ?_; first | (refine yN ?_; try simp only [cAp, nAp]) | refine yD ?_ | (refine gD_go ?_; first | (refine JD_goq (hg) (hφ := xF) (h := ?_); rintro _ _ ⟨rfl, rfl⟩; try simp only [cAp, nAp]) | (refine JD_goq (k1) (hφ := xF) (h := ?_); rintro _ _ rfl; try simp only [cAp, nAp]) | (refine JD_goq (k2) (hφ := xF) (h := ?_); rintro _ _ rfl; try simp only [cAp, nAp]) | (refine JD_goq (hp2) (hφ := xF) (h := ?_); rintro _ _ ⟨rfl, rfl⟩; try simp only [cAp, nAp])) | (refine yE ?_; intro _)) | refine yJ ?_ | refine zd50Vw2 ?_ | (refine yI ?_ ?_ <;> intro _ <;> try exact xX) | (refine yK ?_ ?_ <;> intro hgb <;> first | subst hgb | fail_if_success have : type_of% hgb := rfl) | fail))
    exact J_end0 rfl fun w H => ⟨_, rfl, H.sel xZ⟩
end Go.Proofs.YtdnokmpnemaoaaaGreat
