/-
  Aq21, Vw7, Vw8, Ru16, Vc4, Vc5: merged.
-/
import Derived.Test.YtdnokmpnemaoaaaGreatZViewForeign29
namespace Go.Proofs.YtdnokmpnemaoaaaGreat
set_option linter.unusedSimpArgs false
set_option linter.unusedVariables false
set_option maxRecDepth 20000
set_option maxHeartbeats 4000000
open Go.RowKit Go.Pm

theorem u32_el {w : World} (m : Nat) (d : List Value) (_ : d.length = 1) (h : Rs Tryz.prog w m 22 d) : ∃ z : Int, d = u32C z ∧ U32 z := by
  obtain ⟨z, e, h1, h2⟩ := (Rs.rd _ _ _ h).u32 Tryz.underlying22
  exact ⟨z, e, h1, h2⟩
theorem u8_el {w : World} (m : Nat) (d : List Value) (_ : d.length = 1) (h : Rs Tryz.prog w m 5 d) : ∃ z : Int, d = byC z ∧ U8 z := by
  have h0 := leaf_of 5 5 [5] m d (by kernel_rfl) h
  obtain ⟨z, r, e, b, h1⟩ := h0.u8 Tryz.underlying5
  subst e
  obtain rfl := h1.nil'
  exact ⟨z, rfl, b⟩
theorem seg_el {w : World} (m : Nat) (d : List Value) (_ : d.length = 2) (h : Rs Tryz.prog w m 87 d) : ∃ s : Sg, d = sgC s ∧ segV w s ∧ SgN s := by
  have h0 := leaf_of 5 87 [4, 32] m d (by kernel_rfl) h
  obtain ⟨b, r, e, h1⟩ := h0.bool Tryz.underlying4
  subst e
  obtain ⟨a, l, c, r, e, ⟨m', hs⟩, h2⟩ := h1.sl Tryz.underlying32
  subst e
  obtain rfl := h2.nil'
  obtain ⟨es, e, g1, g2, g3, g4, g5⟩ := hs.list (sz := 1) (b := 4) (enc := u32C) (ok := U32) Tryz.underlying32 (by kernel_rfl) (by kernel_rfl) u32_el
  subst e
  exact ⟨⟨b, a, c, es⟩, rfl, g4, by show es.length ≤ 35184372088832; simp only [reachBytes] at g3; omega, g5⟩
theorem raw_el {w : World} (m : Nat) (d : List Value) (_ : d.length = 2) (h : Rs Tryz.prog w m 79 d) : ∃ s : Rw, d = rwC s ∧ rawV w s ∧ RwN s := by
  have h0 := leaf_of 5 79 [3, 77] m d (by kernel_rfl) h
  obtain ⟨b, r, e, hb, h1⟩ := h0.i64 Tryz.underlying3
  subst e
  obtain ⟨a, l, c, r, e, ⟨m', hs⟩, h2⟩ := h1.sl Tryz.underlying77
  subst e
  obtain rfl := h2.nil'
  obtain ⟨es, e, g1, g2, g3, g4, g5⟩ := hs.list (sz := 1) (b := 1) (enc := byC) (ok := U8) Tryz.underlying77 (by kernel_rfl) (by kernel_rfl) u8_el
  subst e
  exact ⟨⟨b, a, c, es⟩, rfl, g4, hb, by show es.length ≤ 140737488355328; simp only [reachBytes] at g3; omega, g5⟩
theorem attrs_leaf {w : World} {cs : List Value} (h0 : Leaf Tryz.prog w [3, 31, 26, 4, 22, 4, 22, 4, 4, 22, 26, 32, 33] cs) : ∃ d : At, cs = atC d ∧ AtN d ∧ AtV w d := by
  obtain ⟨origin, r, e, b4, h5⟩ := h0.i64 Tryz.underlying3
  subst e
  obtain ⟨pa, pl, pc, r, e, ⟨m', hs⟩, h6⟩ := h5.sl Tryz.underlying31
  subst e
  obtain ⟨path, e, g1, g2, g3, g4, g5⟩ := hs.list (sz := 2) (b := 32) (enc := sgC) (ok := fun s => segV w s ∧ SgN s) Tryz.underlying31 (by kernel_rfl) (by kernel_rfl) seg_el
  subst e
  obtain ⟨next, r, e, b5, h7⟩ := h6.u32 Tryz.underlying26
  subst e
  obtain ⟨hasMed, r, e, h8⟩ := h7.bool Tryz.underlying4
  subst e
  obtain ⟨med, r, e, b6, h9⟩ := h8.u32 Tryz.underlying22
  subst e
  obtain ⟨hasLocal, r, e, h10⟩ := h9.bool Tryz.underlying4
  subst e
  obtain ⟨loc, r, e, b7, h11⟩ := h10.u32 Tryz.underlying22
  subst e
  obtain ⟨atomic, r, e, h12⟩ := h11.bool Tryz.underlying4
  subst e
  obtain ⟨hasMaker, r, e, h13⟩ := h12.bool Tryz.underlying4
  subst e
  obtain ⟨makerAS, r, e, b8, h14⟩ := h13.u32 Tryz.underlying22
  subst e
  obtain ⟨maker, r, e, b9, h15⟩ := h14.u32 Tryz.underlying26
  subst e
  obtain ⟨ca, cn, cc, r, e, ⟨m2, hc⟩, h16⟩ := h15.sl Tryz.underlying32
  subst e
  obtain ⟨comms, e, i1, i2, i3, i4, i5⟩ := hc.list (sz := 1) (b := 4) (enc := u32C) (ok := U32) Tryz.underlying32 (by kernel_rfl) (by kernel_rfl) u32_el
  subst e
  obtain ⟨oa, on, oc, r, e, ⟨m3, ho⟩, h17⟩ := h16.sl Tryz.underlying33
  subst e
  obtain ⟨others, e, j1, j2, j3, j4, j5⟩ := ho.list (sz := 2) (b := 32) (enc := rwC) (ok := fun s => rawV w s ∧ RwN s) Tryz.underlying33 (by kernel_rfl) (by kernel_rfl) raw_el
  subst e
  obtain rfl := h17.nil'
  exact ⟨⟨origin, pa, pc, path, next, hasMed, med, hasLocal, loc, atomic, hasMaker, makerAS, maker, ca, cc, comms, oa, oc, others⟩, rfl, ⟨b4, b5, b6, b7, b8, b9, fun s hs => (g5 s hs).2, i5, fun s hs => (j5 s hs).2⟩, ⟨g4, fun s hs => (g5 s hs).1⟩, i4, ⟨j4, fun s hs => (j5 s hs).1⟩⟩
theorem AtV.keep {w w' : World} (hc : ∀ b o u, w.cell? ⟨b, o, none⟩ = some u → w'.cell? ⟨b, o, none⟩ = some u) {d : At} (h : AtV w d) : AtV w' d :=
  ⟨⟨vwKeep hc h.path.vw, fun s hs => vwKeep hc (h.path.segs s hs)⟩, vwKeep hc h.comms, ⟨vwKeep hc h.others.vw, fun s hs => vwKeep hc (h.others.raws s hs)⟩⟩
theorem kn_keep {W : World} {φ : World → Prop} (hk : ∀ {w w' : World}, (∀ b o u, w.cell? ⟨b, o, none⟩ = some u → w'.cell? ⟨b, o, none⟩ = some u) → φ w → φ w') (h : φ W) : Kn (World.all W) φ :=
  Kn.all (fun w ho => hk (fun b o u hu => by
    rw [World.cell?_of_block (w := W) (ho.block b (World.block_lt_of_cell? _ _ hu) (by simp))]
    exact hu) h) fun w w' hh hr => hk (fun b o u hu => by rw [cell?_heap hh]; exact hu) hr
end Go.Proofs.YtdnokmpnemaoaaaGreat
namespace Go.Proofs.YtdnokmpnemaoaaaGreat
set_option linter.unusedSimpArgs false
set_option linter.unusedVariables false
set_option maxRecDepth 20000
set_option maxHeartbeats 4000000
open Go.RowKit Go.Pm

end Go.Proofs.YtdnokmpnemaoaaaGreat
namespace Go.Proofs.YtdnokmpnemaoaaaGreat
set_option linter.unusedSimpArgs false
set_option linter.unusedVariables false
set_option maxRecDepth 20000
set_option maxHeartbeats 4000000
open Go.RowKit Go.Pm

def oneAt (n : Int) : At := ⟨0, none, 0, [], 1, true, n, false, 0, false, false, 0, 0, none, 0, [], none, 0, []⟩
theorem oneAt_f (n : Int) (hn : U32 n) : AtF (oneAt n) := by
  have z : U32 0 := ⟨by omega, by omega⟩
  refine ⟨⟨⟨by simp [oneAt], by simp [oneAt]⟩, ⟨by simp [oneAt], by simp [oneAt]⟩, hn, z, z, z, ?_, ?_, ?_⟩, by simp [oneAt], by simp [oneAt], by simp [oneAt]⟩
  all_goals (intro s hs; exact absurd hs List.not_mem_nil)
theorem oneAt_v (n : Int) (w : World) : AtV w (oneAt n) := ⟨⟨Vw.nil w 2, fun _ h => absurd h List.not_mem_nil⟩, Vw.nil w 1, Vw.nil w 2, fun _ h => absurd h List.not_mem_nil⟩
theorem oneAt_ok (n : Int) : okN (oneAt n).nf = true := okN_t (by simp [oneAt]) rfl (by simp [oneAt]) (by simp [oneAt]) (by simp [oneAt]) (by simp [oneAt]) rfl
abbrev oneC (n : Int) : List Value := [.int .i64 0, .slice none 0 0, .int .u32 1, .bool true, .int .u32 n, .bool false, .int .u32 0, .bool false, .bool false, .int .u32 0, .int .u32 0, .slice none 0 0, .slice none 0 0]
theorem one_s (n : Int) (hn : U32 n) : Pact Tryz.prog 29 #[.int .i64 n] (fun _ => True) [] (ret0 (.agg (atC (oneAt n)).toArray)) := by
  refine pact Tryz.func29 rfl Tryz.ntmps29 rfl ?_
  intro W K _
  obtain ⟨h0, h1⟩ := hn
  (repeat' (first | ((with_reducible apply gL); (first | refine yL0 ?_ | refine yL ?_ | (refine yM ?_; intro _) | fail)) | refine yJ ?_ | fail))
  exact J_retC (cs := oneC n) rfl (by rfl) xA (by rfl) fun w H => ⟨_, ⟨rfl, rfl⟩, H.sel .nil⟩
theorem k1 : keepF [] 0 (oneAt 1).nf = (([⟨1, 1, (oneAt 1).nf⟩], 1), 1, 0) := by
  unfold keepF fndX; rw [oneAt_ok]; rfl
theorem k2 : keepF [⟨1, 1, (oneAt 1).nf⟩] 1 (oneAt 1).nf = (([⟨1, 2, (oneAt 1).nf⟩], 1), 1, 0) := by
  unfold keepF fndX; rw [oneAt_ok]; simp
theorem st1 : StOk 1 [⟨1, 1, (oneAt 1).nf⟩] 1 := by
  have := keepF_ok stok_nil (by omega) (At.nfN (oneAt_f 1 ⟨by omega, by omega⟩).num)
  rw [k1] at this
  exact this
theorem st2 : StOk 2 [⟨1, 2, (oneAt 1).nf⟩] 1 := by
  have := keepF_ok st1 (by omega) (At.nfN (oneAt_f 1 ⟨by omega, by omega⟩).num)
  rw [k2] at this
  exact this
abbrev pX : T.Pf := (167772160, 8)
theorem pX_n : T.PfN pX := by unfold T.PfN T.U32 T.I64; decide
theorem pX_r : T.Rt pX := by decide +kernel
theorem take_one {σ : Vs} {p : T.Pf} {o : T.Vt} (hE : σ.E = [(p, o)]) (hl : lateE o = true) {pre : List T.Ent} (h : TakeOk σ 9 pre) : pre = [(p, o)] := by
  have hk : T.keysE σ.E = [p] := by rw [hE]; rfl
  rcases h with ⟨h, _⟩ | ⟨⟨k, h⟩, h9⟩
  · rw [h, hk]
    have e : T.oldV (tkE σ []) p = o := by
      show T.oldV σ.E p = o
      rw [hE]
      unfold T.oldV
      rw [T.getL_cons_eq rfl]
      rfl
    simp only [thoseL, e, hl, if_true, List.nil_append]
  · exfalso
    have h1 := thoseL_len (tkE σ) lateE ((T.keysE σ.E).take k) []
    rw [← h] at h1
    rw [hk, List.length_take] at h1
    simp only [List.length_cons, List.length_nil] at h1
    omega
theorem take_e (B : Int) (hB0 : 0 ≤ B) (hB : B ≤ 1000000) (vb sp tb : Nat) (E E' : List T.Ent) (S S' : List En) (c c' : Int) (p : T.Pf) (o : T.Vt) (hE : E = [(p, o)]) (hl : lateE o = true) (hs : StOk B S c) (x : Nf) (b : Bool) (hx : whatX S o.1 = x) (hb : whatB S o.1 = b) (ht : tkStep ⟨E, S, c⟩ (p, o) = ⟨E', S', c'⟩) : Pact Tryz.prog 31 #[.pointer (some ⟨vb, 0, none⟩), .int .i64 9] (fun _ => True) (vsL vb sp tb E S c)
    (fun u L' => ∃ (a : Option Addr) (cc : Nat) (d : At), (AtF d ∧ d.nf = x) ∧ u = .slice a 1 cc ∧ L' = [pts vb (vwC (sA sp) tb (dueI E') (wntI E')) 98, T.trA tb E', stoA sp S' c', Ar 85 16 chC (.slice a 1 cc) [⟨p, d, b⟩], has (fun w => AtV w d)]) := by
  have k := vtake_s B hB0 hB vb sp tb ⟨E, S, c⟩ 9 (by omega) hs (by show E.length ≤ 1000; rw [hE]; simp)
  intro W K w hK H
  refine (k W K w hK H).mono fun e w' h => ?_
  obtain ⟨u, L', ⟨pre, hpre, a, cc, l, ⟨h1, h2⟩, rfl, rfl⟩, h5, h6⟩ := h
  obtain rfl := take_one hE hl hpre
  have e1 : tkF ⟨E, S, c⟩ [(p, o)] = ⟨E', S', c'⟩ := ht
  rw [e1] at h6
  have e2 : chL ⟨E, S, c⟩ [(p, o)] = [(p, x, b)] := by
    show [(p, whatX S o.1, whatB S o.1)] = _
    rw [hx, hb]
  rw [e2] at h1
  cases l with
  | nil => cases h1
  | cons y l =>
    cases l with
    | cons _ _ => cases h1
    | nil =>
      obtain ⟨p', d, b'⟩ := y
      simp only [List.map_cons, List.map_nil, chN, List.cons.injEq, Prod.mk.injEq, and_true] at h1
      obtain ⟨rfl, h3, rfl⟩ := h1
      refine ⟨_, _, ⟨a, cc, d, ⟨h2 (Ch.mk p' d b') (List.mem_singleton.2 rfl), h3⟩, rfl, rfl⟩, h5, ?_⟩
      exact (Ow.has (M := [has (fun w => ∀ x ∈ [Ch.mk p' d b'], AtV w x.d)]) (φ := fun w => AtV w d) h6 xZ (fun w hr => hr.has .here (Ch.mk p' d b') (List.mem_singleton.2 rfl))).sel xZ
theorem ts1 : tkStep ⟨[(pX, (1, 0, false))], [⟨1, 1, (oneAt 1).nf⟩], 1⟩ (pX, (1, 0, false)) = ⟨[(pX, (1, 1, false))], [⟨1, 2, (oneAt 1).nf⟩], 1⟩ := by
  have e : agF [⟨1, 1, (oneAt 1).nf⟩] 1 1 = (([⟨1, 2, (oneAt 1).nf⟩], 1), 1) := by
    unfold agF
    rw [if_neg (by decide)]
    have : getX [⟨1, 1, (oneAt 1).nf⟩] 1 = (oneAt 1).nf := rfl
    rw [this, k2]
  unfold tkStep
  have e0 : frF [⟨1, 1, (oneAt 1).nf⟩] (pX, ((1 : Int), (0 : Int), false)).2.2.1 = [⟨1, 1, (oneAt 1).nf⟩] := rfl
  rw [e0, e]
  rfl
theorem ts2 : tkStep ⟨[(pX, (0, 1, false))], [⟨1, 1, (oneAt 1).nf⟩], 1⟩ (pX, (0, 1, false)) = ⟨[], [], 1⟩ := by
  unfold tkStep
  have e0 : frF [⟨1, 1, (oneAt 1).nf⟩] (pX, ((0 : Int), (1 : Int), false)).2.2.1 = [] := rfl
  rw [e0]
  rfl
theorem works_s : Pact Tryz.prog 11 #[] (fun _ => True) [] (ret0 (.bool true)) := by
  refine pact (args := []) Tryz.func11 rfl Tryz.ntmps11 rfl ?_
  intro W K _
  have u1 : U32 1 := ⟨by omega, by omega⟩
  (repeat' (first | ((with_reducible apply gL); (first | (with_reducible apply gL_app) | (with_reducible apply gL_app0) | refine yL0 ?_ | refine yL ?_ | ((with_reducible apply gL_go); (first | (refine JL_goq (new_s) (hφ := xF) (h := ?_); rintro _ _ ⟨sp, rfl, rfl⟩; try simp only [List.cons_append, List.nil_append]) | (refine JL_goq (vnew_s sp) (hφ := xF) (h := ?_); rintro _ _ ⟨vb, tb, rfl, rfl⟩; try simp only [List.cons_append, List.nil_append]) | fail)) | (refine yM ?_; intro _) | fail)) | ((with_reducible apply gD); (first | (refine JD_nil ?_; try simp only [List.cons_append, List.nil_append]) | (refine JD_bar ?_; try simp only [List.cons_append, List.nil_append]) | (with_reducible apply gD_app) | (with_reducible apply gD_app0) | refine yD0 ?_ | refine yD ?_ | ((with_reducible apply gD_go); (first | (refine JD_goq (new_s) (hφ := xF) (h := ?_); rintro _ _ ⟨sp, rfl, rfl⟩; try simp only [List.cons_append, List.nil_append]) | (refine JD_goq (vnew_s sp) (hφ := xF) (h := ?_); rintro _ _ ⟨vb, tb, rfl, rfl⟩; try simp only [List.cons_append, List.nil_append]) | fail)) | ((with_reducible apply gD_gd); (first | (refine JD_guard xR xR ?_ ?_ <;> intro _ <;> (try (exfalso; first | contradiction | omega))) | (refine JD_guardb xR xR ?_ ?_ <;> (intro hgb; subst hgb)) | (refine JD_guardb xR xR ?_ ?_ <;> (intro hgb; fail_if_success (have : type_of% hgb := rfl))) | fail)) | fail)) | refine yJ ?_ | ((with_reducible apply gJ_if); (first | (refine J_if xR ?_ ?_ <;> intro _ <;> (try (exfalso; first | contradiction | omega))) | (refine J_ifb xR ?_ ?_ <;> (intro hgb; subst hgb)) | (refine J_ifb xR ?_ ?_ <;> intro _) | fail)) | refine J_draw (id := 5) [0, 1, 2] [3, 4] mixed xC xD xD ?_ | refine J_draw (id := 9) [0, 1, 2, 3, 4, 5, 6, 7, 8, 9, 10, 11, 12, 13, 14, 15, 16, 17, 18, 19, 20, 21, 22, 23, 24, 25, 26] [27, 28, 29, 30, 31, 32, 33, 34, 35, 36, 37, 38, 39, 40, 41, 42, 43, 44, 45, 46, 47, 48, 49, 50] mixed xC xD xD ?_ | fail))
  have kw := want_s 0 (by omega) (by omega) vb sp tb [] [] [⟨1, 1, (oneAt 1).nf⟩] [⟨1, 1, (oneAt 1).nf⟩] 0 1 1 pX T.zV (oneAt 1) (oneAt_f 1 u1) pX_n pX_r (oneAt_ok 1) rfl ⟨.nil, fun _ h => absurd h List.not_mem_nil⟩ (by decide) stok_nil k1 st1 ⟨by omega, by omega⟩ zV_n rfl
  have e1 : T.setE [] pX (1, T.zV.2.1, T.zV.2.2) = [(pX, (1, 0, false))] := rfl
  rw [e1] at kw
  have kt := take_e 1 (by omega) (by omega) vb sp tb _ _ _ _ _ _ pX (1, 0, false) rfl rfl st1 _ true rfl rfl ts1
  have e2 : T.EOk [(pX, ((1 : Int), (1 : Int), false))] := ⟨List.pairwise_singleton _ _, fun x hx => by
    obtain rfl := List.mem_singleton.1 hx
    exact ⟨pX_r, pX_n, by unfold T.VN T.I64; decide⟩⟩
  have kx := wantoff_s 2 (by omega) vb sp tb [(pX, (1, 1, false))] [⟨1, 2, (oneAt 1).nf⟩] [⟨1, 1, (oneAt 1).nf⟩] 1 pX (1, 1, false) zAt pX_n pX_r rfl e2 (by decide) st2 rfl
  have e3 : T.setE [(pX, ((1 : Int), (1 : Int), false))] pX (0, ((1 : Int), (1 : Int), false).2.1, false) = [(pX, (0, 1, false))] := rfl
  rw [e3] at kx
  have kt2 := take_e 1 (by omega) (by omega) vb sp tb _ _ _ _ _ _ pX (0, 1, false) rfl rfl st1 _ false rfl rfl ts2
  (repeat' (first | ((with_reducible apply gL); (first | (with_reducible apply gL_app) | (with_reducible apply gL_app0) | refine yL0 ?_ | refine yL ?_ | ((with_reducible apply gL_go); (first | (refine JL_goq (one_s 1 u1) (hφ := xF) (h := ?_); rintro _ _ ⟨rfl, rfl⟩; try simp only [List.cons_append, List.nil_append]) | (refine JL_goq (kw) (hφ := (by (try simp only [List.cons_append, List.nil_append]); exact fun w _ => oneAt_v 1 w)) (h := ?_); rintro _ _ ⟨rfl, rfl⟩; try simp only [List.cons_append, List.nil_append]) | (refine JL_goq (due_s vb (sA sp) tb [(pX, (1, 0, false))]) (hφ := xF) (h := ?_); rintro _ _ ⟨rfl, rfl⟩; try simp only [List.cons_append, List.nil_append]) | (refine JL_goq (kt) (hφ := xF) (h := ?_); rintro _ _ ⟨a, cc, d, hd, rfl, rfl⟩; try simp only [List.cons_append, List.nil_append]) | (refine JL_goq (kx) (hφ := xF) (h := ?_); rintro _ _ ⟨rfl, rfl⟩; try simp only [List.cons_append, List.nil_append]) | (refine JL_goq (due_s vb (sA sp) tb [(pX, (0, 1, false))]) (hφ := xF) (h := ?_); rintro _ _ ⟨rfl, rfl⟩; try simp only [List.cons_append, List.nil_append]) | (refine JL_goq (kt2) (hφ := xF) (h := ?_); rintro _ _ ⟨a2, cc2, d2, hd2, rfl, rfl⟩; try simp only [List.cons_append, List.nil_append]) | fail)) | (refine yM ?_; intro _) | fail)) | ((with_reducible apply gD); (first | (refine JD_nil ?_; try simp only [List.cons_append, List.nil_append]) | (refine JD_bar ?_; try simp only [List.cons_append, List.nil_append]) | (with_reducible apply gD_app) | (with_reducible apply gD_app0) | refine yD0 ?_ | refine yD ?_ | ((with_reducible apply gD_go); (first | (refine JD_goq (one_s 1 u1) (hφ := xF) (h := ?_); rintro _ _ ⟨rfl, rfl⟩; try simp only [List.cons_append, List.nil_append]) | (refine JD_goq (kw) (hφ := (by (try simp only [List.cons_append, List.nil_append]); exact fun w _ => oneAt_v 1 w)) (h := ?_); rintro _ _ ⟨rfl, rfl⟩; try simp only [List.cons_append, List.nil_append]) | (refine JD_goq (due_s vb (sA sp) tb [(pX, (1, 0, false))]) (hφ := xF) (h := ?_); rintro _ _ ⟨rfl, rfl⟩; try simp only [List.cons_append, List.nil_append]) | (refine JD_goq (kt) (hφ := xF) (h := ?_); rintro _ _ ⟨a, cc, d, hd, rfl, rfl⟩; try simp only [List.cons_append, List.nil_append]) | (refine JD_goq (kx) (hφ := xF) (h := ?_); rintro _ _ ⟨rfl, rfl⟩; try simp only [List.cons_append, List.nil_append]) | (refine JD_goq (due_s vb (sA sp) tb [(pX, (0, 1, false))]) (hφ := xF) (h := ?_); rintro _ _ ⟨rfl, rfl⟩; try simp only [List.cons_append, List.nil_append]) | (refine JD_goq (kt2) (hφ := xF) (h := ?_); rintro _ _ ⟨a2, cc2, d2, hd2, rfl, rfl⟩; try simp only [List.cons_append, List.nil_append]) | fail)) | ((with_reducible apply gD_gd); (first | (refine JD_guard xR xR ?_ ?_ <;> intro _ <;> (try (exfalso; first | contradiction | omega))) | (refine JD_guardb xR xR ?_ ?_ <;> (intro hgb; subst hgb)) | (refine JD_guardb xR xR ?_ ?_ <;> (intro hgb; fail_if_success (have : type_of% hgb := rfl))) | fail)) | fail)) | refine yJ ?_ | ((with_reducible apply gJ_if); (first | (refine J_if xR ?_ ?_ <;> intro _ <;> (try (exfalso; first | contradiction | omega))) | (refine J_ifb xR ?_ ?_ <;> (intro hgb; subst hgb)) | (refine J_ifb xR ?_ ?_ <;> intro _) | fail)) | refine J_draw (id := 5) [0, 1, 2] [3, 4] mixed xC xD xD ?_ | refine J_draw (id := 9) [0, 1, 2, 3, 4, 5, 6, 7, 8, 9, 10, 11, 12, 13, 14, 15, 16, 17, 18, 19, 20, 21, 22, 23, 24, 25, 26] [27, 28, 29, 30, 31, 32, 33, 34, 35, 36, 37, 38, 39, 40, 41, 42, 43, 44, 45, 46, 47, 48, 49, 50] mixed xC xD xD ?_ | fail))
  have f0 : [Ch.mk pX d true][0]? = some (Ch.mk pX d true) := rfl
  have f1 : [Ch.mk pX d2 false][0]? = some (Ch.mk pX d2 false) := rfl
  (repeat' (first | ((with_reducible apply gL); (first | (with_reducible apply gL_app) | (with_reducible apply gL_app0) | refine yL0 ?_ | refine yL ?_ | ((with_reducible apply gL_go); (first | (refine JL_goq (due_s vb (sA sp) tb []) (hφ := xF) (h := ?_); rintro _ _ ⟨rfl, rfl⟩; try simp only [List.cons_append, List.nil_append]) | fail)) | (refine yM ?_; intro _) | fail)) | ((with_reducible apply gD); (first | (refine JD_nil ?_; try simp only [List.cons_append, List.nil_append]) | (refine JD_bar ?_; try simp only [List.cons_append, List.nil_append]) | (with_reducible apply gD_app) | (with_reducible apply gD_app0) | refine yD0 ?_ | refine yD ?_ | ((with_reducible apply gD_go); (first | (refine JD_goq (due_s vb (sA sp) tb []) (hφ := xF) (h := ?_); rintro _ _ ⟨rfl, rfl⟩; try simp only [List.cons_append, List.nil_append]) | fail)) | ((with_reducible apply gD_gd); (first | (refine JD_guard xR xR ?_ ?_ <;> intro _ <;> (try (exfalso; first | contradiction | omega))) | (refine JD_guardb xR xR ?_ ?_ <;> (intro hgb; subst hgb)) | (refine JD_guardb xR xR ?_ ?_ <;> (intro hgb; fail_if_success (have : type_of% hgb := rfl))) | fail)) | fail)) | refine yJ ?_ | ((with_reducible apply gJ_if); (first | (refine J_if xR ?_ ?_ <;> intro _ <;> (try (exfalso; first | contradiction | omega))) | (refine J_ifb xR ?_ ?_ <;> (intro hgb; subst hgb)) | (refine J_ifb xR ?_ ?_ <;> intro _) | fail)) | refine J_draw (id := 5) [0, 1, 2] [3, 4] mixed xC xD xD ?_ | refine J_draw (id := 9) [0, 1, 2, 3, 4, 5, 6, 7, 8, 9, 10, 11, 12, 13, 14, 15, 16, 17, 18, 19, 20, 21, 22, 23, 24, 25, 26] [27, 28, 29, 30, 31, 32, 33, 34, 35, 36, 37, 38, 39, 40, 41, 42, 43, 44, 45, 46, 47, 48, 49, 50] mixed xC xD xD ?_ | fail))
  exact J_ret1 rfl (by rfl) fun w H => ⟨_, ⟨rfl, rfl⟩, H.sel .nil⟩
end Go.Proofs.YtdnokmpnemaoaaaGreat
namespace Go.Proofs.YtdnokmpnemaoaaaGreat.C
set_option linter.unusedSimpArgs false
set_option linter.unusedVariables false
set_option maxRecDepth 20000
set_option maxHeartbeats 4000000
open Go.RowKit Go.Pm

theorem rhas_s (a : Option Addr) (c : Nat) (p : List Sg) (n : Int) (h8 : p.length ≤ 1000) (hsm : ∀ s ∈ p, SgN s) : Pact Tryz.prog 12 #[.slice a p.length c, .int .u32 n] (fun w => PathV w a c p) [] (ret0 (.bool (hasN (pN p) n))) := by
  refine pact Tryz.func12 rfl Tryz.ntmps12 rfl ?_
  intro W K hK
  have hv : Kn K (fun w => Vw w (.slice a p.length c) 2 p.length (flat sgC p)) := hK.imp fun _ h => h.vw
  rw [hasN_pN]
  (repeat' (first | ((with_reducible apply gL); (first | refine yL0 ?_ | refine yL ?_ | fail)) | refine yJ ?_ | ((with_reducible apply gJ_if); (first | (refine J_if xR ?_ ?_ <;> intro _ <;> (try (exfalso; first | contradiction | omega))) | (refine J_ifb xR ?_ ?_ <;> (intro hgb; subst hgb)) | (refine J_ifb xR ?_ ?_ <;> intro _) | fail)) | fail))
  refine J_loop (α := Nat) 0 (fun x => p.length - x) (fun x => x ≤ p.length ∧ ((p.take x).any fun s => decide (n ∈ s.as_)) = false) (fun x => [(0, .slice a p.length c), (1, .int .u32 n), (5, .int .i64 x)]) (fun x => []) ⟨Nat.zero_le _, rfl⟩ ⟨rfl, rfl, rfl, trivial⟩ (fun w H => H) ?_
  rintro k ⟨hk, hall⟩
  by_cases hlt : k < p.length
  · obtain ⟨s, hs⟩ : ∃ s, p[k]? = some s := ⟨_, List.getElem?_eq_getElem hlt⟩
    have hm := List.mem_of_getElem? hs
    have hsn1 := (hsm s hm).1
    have hu : Kn K (fun w => Vw w (.slice s.a s.as_.length s.c) 1 s.as_.length (flat u32C s.as_)) := hK.imp fun _ h => h.segs s hm
    (repeat' (first | ((with_reducible apply gL); (first | refine yL0 ?_ | refine yL ?_ | fail)) | refine yJ ?_ | ((with_reducible apply gJ_if); (first | (refine J_if xR ?_ ?_ <;> intro _ <;> (try (exfalso; first | contradiction | omega))) | (refine J_ifb xR ?_ ?_ <;> (intro hgb; subst hgb)) | (refine J_ifb xR ?_ ?_ <;> intro _) | fail)) | fail))
    refine J_loop (α := Nat) 0 (fun x => s.as_.length - x) (fun x => x ≤ s.as_.length ∧ n ∉ s.as_.take x) (fun x => [(0, .slice a p.length c), (1, .int .u32 n), (5, .int .i64 k), (6, .int .i64 x)]) (fun x => []) ⟨Nat.zero_le _, by simp⟩ ⟨rfl, rfl, rfl, rfl, trivial⟩ (fun w H => H) ?_
    rintro j ⟨hj, hz⟩
    by_cases hjl : j < s.as_.length
    · obtain ⟨x, hx⟩ : ∃ x, s.as_[j]? = some x := ⟨_, List.getElem?_eq_getElem hjl⟩
      by_cases hxn : x = n
      · subst hxn
        (repeat' (first | ((with_reducible apply gL); (first | refine yL0 ?_ | refine yL ?_ | fail)) | refine yJ ?_ | ((with_reducible apply gJ_if); (first | (refine J_if xR ?_ ?_ <;> intro _ <;> (try (exfalso; first | contradiction | omega))) | (refine J_ifb xR ?_ ?_ <;> (intro hgb; subst hgb)) | (refine J_ifb xR ?_ ?_ <;> intro _) | fail)) | fail))
        all_goals (first | (exfalso; omega) | skip)
        exact J_ret1 rfl (by rfl) fun w H => ⟨_, ⟨by rw [any_yes (g := fun s : Sg => decide (x ∈ s.as_)) hm (decide_eq_true (List.mem_of_getElem? hx))], rfl⟩, H.sel .nil⟩
      · (repeat' (first | ((with_reducible apply gL); (first | refine yL0 ?_ | refine yL ?_ | fail)) | refine yJ ?_ | ((with_reducible apply gJ_if); (first | (refine J_if xR ?_ ?_ <;> intro _ <;> (try (exfalso; first | contradiction | omega))) | (refine J_ifb xR ?_ ?_ <;> (intro hgb; subst hgb)) | (refine J_ifb xR ?_ ?_ <;> intro _) | fail)) | fail))
        all_goals (first | (exfalso; omega) | skip)
        exact J_again (j + 1) (by omega) ⟨by omega, by rw [take_snoc hx]; simp only [List.mem_append, List.mem_singleton]; rintro (h | h); exact hz h; exact hxn h.symm⟩ ⟨rfl, rfl, rfl, rfl, trivial⟩ (fun w H => H.sel .nil)
    · have hje : j = s.as_.length := by omega
      rw [hje, List.take_length] at hz
      (repeat' (first | ((with_reducible apply gL); (first | refine yL0 ?_ | refine yL ?_ | fail)) | refine yJ ?_ | ((with_reducible apply gJ_if); (first | (refine J_if xR ?_ ?_ <;> intro _ <;> (try (exfalso; first | contradiction | omega))) | (refine J_ifb xR ?_ ?_ <;> (intro hgb; subst hgb)) | (refine J_ifb xR ?_ ?_ <;> intro _) | fail)) | fail))
      exact J_again (k + 1) (by omega) ⟨by omega, any_take hs hall (decide_eq_false hz)⟩ ⟨rfl, rfl, rfl, trivial⟩ (fun w H => H.sel .nil)
  · have hke : k = p.length := by omega
    rw [hke, List.take_length] at hall
    (repeat' (first | ((with_reducible apply gL); (first | refine yL0 ?_ | refine yL ?_ | fail)) | refine yJ ?_ | ((with_reducible apply gJ_if); (first | (refine J_if xR ?_ ?_ <;> intro _ <;> (try (exfalso; first | contradiction | omega))) | (refine J_ifb xR ?_ ?_ <;> (intro hgb; subst hgb)) | (refine J_ifb xR ?_ ?_ <;> intro _) | fail)) | fail))
    exact J_ret1 rfl (by rfl) fun w H => ⟨_, ⟨by rw [hall], rfl⟩, H.sel .nil⟩
end Go.Proofs.YtdnokmpnemaoaaaGreat.C
namespace Go.Proofs.YtdnokmpnemaoaaaGreat
set_option linter.unusedSimpArgs false
set_option linter.unusedVariables false
set_option maxRecDepth 20000
set_option maxHeartbeats 4000000
open Go.RowKit Go.Pm

def f0 (pe sy : Int) (q : Qn) : Option Nf := if q.peer = pe ∨ C.hasN q.nf.path sy = true then none else some q.nf
theorem lets0_s (pe sy : Int) (p : T.Pf) (x : B.Cd) (hx : B.CdN x) : Pact Tryz.prog 21 #[.agg (clC pe sy none 0 0).toArray, .agg (T.pfC p).toArray, .agg (B.cdC x).toArray] (fun w => AtV w x.toAt ∧ True) [] (LetsR (f0 pe sy (cnN x)) x) := by
  refine pact Tryz.func21 rfl Tryz.ntmps21 rfl ?_
  intro W K hK
  have hb := hx.f.path
  have kp := C.phas_s x.pa x.pc x.path sy (by omega) hx.f.num.path
  by_cases hpe : x.peer = pe
  · rw [show f0 pe sy (cnN x) = none from if_pos (.inl hpe)]
    (repeat' (first | ((with_reducible apply gL); (first | refine yL0 ?_ | refine yL ?_ | ((with_reducible apply gL_go); (first | (refine JL_goq (kp) (hφ := (by (try simp only [List.cons_append, List.nil_append]); exact fun w hr => (hK w hr.1).1.path)) (h := ?_); rintro _ _ ⟨rfl, rfl⟩; try simp only [List.cons_append, List.nil_append]) | fail)) | (refine yM ?_; intro _) | ((with_reducible apply gL_gd); (first | (refine JL_guard xR xR ?_ ?_ <;> intro _ <;> (try (exfalso; first | contradiction | omega))) | (refine JL_guardb xR xR ?_ ?_ <;> (intro hgb; subst hgb)) | (refine JL_guardb xR xR ?_ ?_ <;> (intro hgb; fail_if_success (have : type_of% hgb := rfl))) | fail)) | fail)) | refine yJ ?_ | ((with_reducible apply gJ_if); (first | (refine J_if xR ?_ ?_ <;> intro _ <;> (try (exfalso; first | contradiction | omega))) | (refine J_ifb xR ?_ ?_ <;> (intro hgb; subst hgb)) | (refine J_ifb xR ?_ ?_ <;> intro _) | fail)) | fail))
    all_goals (first | (exfalso; omega) | skip)
    all_goals exact J_retC1 (cs := B.cdC x) rfl (by rfl) (by rfl) xA (by rfl) fun w H => ⟨_, ⟨x.toAt, hx.f, fun _ h => (by cases h), rfl, rfl⟩, (Ow.hasTrue (φ := fun w => AtV w x.toAt → AtV w x.toAt) H (fun _ h => h)).sel xZ⟩
  · rcases hh : C.hasN (pN x.path) sy with _ | _
    all_goals rw [hh] at kp
    · rw [show f0 pe sy (cnN x) = some x.toAt.nf from if_neg (by rintro (h | h); exact hpe h; rw [show (cnN x).nf.path = pN x.path from rfl, hh] at h; cases h)]
      (repeat' (first | ((with_reducible apply gL); (first | refine yL0 ?_ | refine yL ?_ | ((with_reducible apply gL_go); (first | (refine JL_goq (kp) (hφ := (by (try simp only [List.cons_append, List.nil_append]); exact fun w hr => (hK w hr.1).1.path)) (h := ?_); rintro _ _ ⟨rfl, rfl⟩; try simp only [List.cons_append, List.nil_append]) | fail)) | (refine yM ?_; intro _) | ((with_reducible apply gL_gd); (first | (refine JL_guard xR xR ?_ ?_ <;> intro _ <;> (try (exfalso; first | contradiction | omega))) | (refine JL_guardb xR xR ?_ ?_ <;> (intro hgb; subst hgb)) | (refine JL_guardb xR xR ?_ ?_ <;> (intro hgb; fail_if_success (have : type_of% hgb := rfl))) | fail)) | fail)) | refine yJ ?_ | ((with_reducible apply gJ_if); (first | (refine J_if xR ?_ ?_ <;> intro _ <;> (try (exfalso; first | contradiction | omega))) | (refine J_ifb xR ?_ ?_ <;> (intro hgb; subst hgb)) | (refine J_ifb xR ?_ ?_ <;> intro _) | fail)) | fail))
      all_goals (first | (exfalso; omega) | skip)
      all_goals exact J_retC1 (cs := B.cdC x) rfl (by rfl) (by rfl) xA (by rfl) fun w H => ⟨_, ⟨x.toAt, hx.f, fun _ h => Option.some.inj h, rfl, rfl⟩, (Ow.hasTrue (φ := fun w => AtV w x.toAt → AtV w x.toAt) H (fun _ h => h)).sel xZ⟩
    · rw [show f0 pe sy (cnN x) = none from if_pos (.inr hh)]
      (repeat' (first | ((with_reducible apply gL); (first | refine yL0 ?_ | refine yL ?_ | ((with_reducible apply gL_go); (first | (refine JL_goq (kp) (hφ := (by (try simp only [List.cons_append, List.nil_append]); exact fun w hr => (hK w hr.1).1.path)) (h := ?_); rintro _ _ ⟨rfl, rfl⟩; try simp only [List.cons_append, List.nil_append]) | fail)) | (refine yM ?_; intro _) | ((with_reducible apply gL_gd); (first | (refine JL_guard xR xR ?_ ?_ <;> intro _ <;> (try (exfalso; first | contradiction | omega))) | (refine JL_guardb xR xR ?_ ?_ <;> (intro hgb; subst hgb)) | (refine JL_guardb xR xR ?_ ?_ <;> (intro hgb; fail_if_success (have : type_of% hgb := rfl))) | fail)) | fail)) | refine yJ ?_ | ((with_reducible apply gJ_if); (first | (refine J_if xR ?_ ?_ <;> intro _ <;> (try (exfalso; first | contradiction | omega))) | (refine J_ifb xR ?_ ?_ <;> (intro hgb; subst hgb)) | (refine J_ifb xR ?_ ?_ <;> intro _) | fail)) | fail))
      all_goals (first | (exfalso; omega) | skip)
      all_goals exact J_retC1 (cs := B.cdC x) rfl (by rfl) (by rfl) xA (by rfl) fun w H => ⟨_, ⟨x.toAt, hx.f, fun _ h => (by cases h), rfl, rfl⟩, (Ow.hasTrue (φ := fun w => AtV w x.toAt → AtV w x.toAt) H (fun _ h => h)).sel xZ⟩
end Go.Proofs.YtdnokmpnemaoaaaGreat
namespace Go.Proofs.YtdnokmpnemaoaaaGreat
set_option linter.unusedSimpArgs false
set_option linter.unusedVariables false
set_option maxRecDepth 20000
set_option maxHeartbeats 4000000
open Go.RowKit Go.Pm

theorem at00_f : AtF at00 := by
  have z : U32 0 := ⟨by omega, by omega⟩
  refine ⟨⟨⟨by simp [at00], by simp [at00]⟩, z, z, z, z, z, ?_, ?_, ?_⟩, by simp [at00], by simp [at00], by simp [at00]⟩
  all_goals (intro s hs; exact absurd hs List.not_mem_nil)
theorem at00_v (w : World) : AtV w at00 := ⟨⟨Vw.nil w 2, fun _ h => absurd h List.not_mem_nil⟩, Vw.nil w 1, Vw.nil w 2, fun _ h => absurd h List.not_mem_nil⟩
theorem same00_s : Pact Tryz.prog 10 #[.agg at00C.toArray, .agg at00C.toArray] (fun _ => True) [] (ret0 (.bool true)) := by
  have h := rsame_s at00 at00 at00_f at00_f
  rw [decide_eq_true rfl] at h
  exact C.preP h fun w _ => ⟨at00_v w, at00_v w⟩
theorem bare_of {d e : At} (h : d.nf = bareN e.nf) : d.next = e.next ∧ pN d.path = pN e.path ∧ d.hasMed = e.hasMed ∧ (e.hasMed = true → d.med = e.med) ∧ d.hasLocal = false := by
  have h1 := congrArg Nf.next h
  have h2 := congrArg Nf.path h
  have h3 := congrArg Nf.med h
  have h4 := congrArg Nf.loc h
  simp only [At.nf, bareN] at h1 h2 h3 h4
  refine ⟨h1, h2, ?_, fun hm => ?_, ?_⟩
  · cases h5 : d.hasMed <;> cases h6 : e.hasMed <;> simp [h5, h6] at h3 ⊢
  · cases h5 : d.hasMed <;> simp [h5, hm] at h3 ⊢
    exact h3
  · cases h5 : d.hasLocal <;> simp [h5] at h4 ⊢
def ForR (pe sy : Int) (ds : List B.Cd) (v : Value) (L' : List HP) : Prop :=
  (∀ x ∈ ds, x.peer = pe ∨ C.hasN (pN x.path) sy = true) ∧ v = .tuple #[.agg at00C.toArray, .int .i64 (-1)] ∧ L' = [] ∨
  ∃ (i : Nat) (z : B.Cd) (d' : At), (i < ds.length ∧ ds[i]? = some z ∧ z ∈ ds ∧ z.peer ≠ pe ∧ C.hasN (pN d'.path) sy = false) ∧ AtF d' ∧ (d'.next = z.next ∧ pN d'.path = pN z.path ∧ d'.hasMed = z.hasMed ∧ (z.hasMed = true → d'.med = z.med) ∧ d'.hasLocal = false) ∧ v = .tuple #[.agg (atC d').toArray, .int .i64 i] ∧ L' = [has (fun w => AtV w d')]
theorem forR_of {pe sy : Int} {ds : List B.Cd} {v : Value} {L' : List HP} (h : ChooseR (f0 pe sy) (ds.map cnN) v L') : ForR pe sy ds v L' := by
  rcases h with ⟨hn, h1, h2⟩ | ⟨j, i, y, d', _, he, hd', hnf, h1, h2⟩
  · refine .inl ⟨fun x hx => ?_, h1, h2⟩
    have := letF_nil hn (cnN x) (List.mem_map.2 ⟨x, hx, rfl⟩)
    unfold f0 at this
    split at this
    · assumption
    · cases this
  · obtain ⟨x, n, e1, e2, e3⟩ := letF_mem (List.mem_of_getElem? he)
    rw [List.getElem?_map] at e1
    obtain ⟨z, hz, rfl⟩ := Option.map_eq_some_iff.1 e1
    unfold f0 at e2
    split at e2
    · cases e2
    · rename_i hno
      have hnz : d'.nf = bareN z.toAt.nf := by rw [hnf, e3, ← Option.some.inj e2]; rfl
      have hb := bare_of hnz
      refine .inr ⟨i, z, d', ⟨(List.getElem?_eq_some_iff.1 hz).1, hz, List.mem_of_getElem? hz, fun h => hno (.inl h), ?_⟩, hd', hb, h1, h2⟩
      rw [hb.2.1]
      exact Bool.eq_false_iff.2 fun h => hno (.inr h)
set_option maxRecDepth 4000 in
theorem foreign_s (pe sy : Int) (oa : Option Addr) (on oc : Nat) (p : T.Pf) (a : Option Addr) (c : Nat) (cs : List B.Cd) (hcs : ∀ x ∈ cs, CnN x) (hl : cs.length ≤ 140737488355328) : Pact Tryz.prog 4 #[.agg (clC pe sy oa on oc).toArray, .agg (T.pfC p).toArray, .slice a cs.length c] (fun w => Vw w (.slice a cs.length c) 17 cs.length (flat B.cdC cs) ∧ cnV cs w) [] (ret0 (.bool true)) := by
  refine pact Tryz.func4 rfl Tryz.ntmps4 rfl ?_
  intro W K hK
  have kc := cands_s a c cs hcs hl
  (repeat' (first | ((with_reducible apply gL); (first | (with_reducible apply gL_app) | (with_reducible apply gL_app0) | refine yL0 ?_ | refine yL ?_ | ((with_reducible apply gL_go); (first | (refine JL_goq (works_s) (hφ := xF) (h := ?_); rintro _ _ ⟨rfl, rfl⟩; try simp only [List.cons_append, List.nil_append]) | (refine JL_goq (kc) (hφ := (by (try simp only [List.cons_append, List.nil_append]); exact fun w hr => hK w hr.1)) (h := ?_); rintro _ _ ⟨ds, a2, c2, rfl, hdm, hF, rfl⟩; try simp only [List.cons_append, List.nil_append]) | fail)) | (refine yM ?_; intro _) | fail)) | ((with_reducible apply gD); (first | (refine JD_nil ?_; try simp only [List.cons_append, List.nil_append]) | (refine JD_bar ?_; try simp only [List.cons_append, List.nil_append]) | (with_reducible apply gD_app) | (with_reducible apply gD_app0) | refine yD0 ?_ | refine yD ?_ | ((with_reducible apply gD_go); (first | (refine JD_goq (works_s) (hφ := xF) (h := ?_); rintro _ _ ⟨rfl, rfl⟩; try simp only [List.cons_append, List.nil_append]) | (refine JD_goq (kc) (hφ := (by (try simp only [List.cons_append, List.nil_append]); exact fun w hr => hK w hr.1)) (h := ?_); rintro _ _ ⟨ds, a2, c2, rfl, hdm, hF, rfl⟩; try simp only [List.cons_append, List.nil_append]) | fail)) | ((with_reducible apply gD_gd); (first | (refine JD_guard xR xR ?_ ?_ <;> intro _ <;> (try (exfalso; first | contradiction | omega))) | (refine JD_guardb xR xR ?_ ?_ <;> (intro hgb; subst hgb)) | (refine JD_guardb xR xR ?_ ?_ <;> (intro hgb; fail_if_success (have : type_of% hgb := rfl))) | fail)) | fail)) | refine yJ ?_ | ((with_reducible apply gJ_if); (first | (refine J_if xR ?_ ?_ <;> intro _ <;> (try (exfalso; first | contradiction | omega))) | (refine J_ifb xR ?_ ?_ <;> (intro hgb; subst hgb)) | (refine J_ifb xR ?_ ?_ <;> intro _) | fail)) | refine J_draw (id := 9) [0, 1, 2, 3, 4, 5, 6, 7, 8, 9, 10, 11, 12, 13, 14, 15, 16] [17, 18, 19] mixed xC xD xD ?_ | refine J_draw (id := 15) [0, 1, 2, 3, 4, 5, 6, 7, 8, 9, 10, 11, 12] [13, 14, 15, 16, 17, 18, 19, 20, 21, 22, 23, 24, 25, 26, 27, 28, 29, 30, 31, 32, 33, 34, 35, 36, 37, 38, 39, 40, 41, 42, 43, 44, 45, 46, 47, 48, 49, 50, 51, 52, 53, 54] mixed xC xD xD ?_ | fail))
  have hdl := (cands_again hdm).2
  have ko := Pact.imp (choose_s pe sy none 0 0 p a2 c2 ds (f0 pe sy) (fun _ => True) hF hdl (fun x hx => lets0_s pe sy p x (hF x hx))) fun _ _ => forR_of
  have kz := fun (d : At) (hd : AtF d) => C.rhas_s d.pa d.pc d.path sy (by have := hd.path; omega) hd.num.path
  (repeat' (first | ((with_reducible apply gL); (first | (with_reducible apply gL_app) | (with_reducible apply gL_app0) | refine yL0 ?_ | refine yL ?_ | ((with_reducible apply gL_go); (first | (refine JL_goq (ko) (hφ := (by (try simp only [List.cons_append, List.nil_append]); exact fun w hr => ⟨⟨Src.ar xA w hr, hr.has (φ := cnV ds) xA⟩, trivial⟩)) (h := ?_); rintro _ _ (⟨hno, rfl, rfl⟩ | ⟨i, z, d', ⟨hil, hz, hzm, hpe, hh⟩, hd', hb, rfl, rfl⟩) <;> try simp only [List.cons_append, List.nil_append]) | fail)) | (refine yM ?_; intro _) | fail)) | ((with_reducible apply gD); (first | (refine JD_nil ?_; try simp only [List.cons_append, List.nil_append]) | (refine JD_bar ?_; try simp only [List.cons_append, List.nil_append]) | (with_reducible apply gD_app) | (with_reducible apply gD_app0) | refine yD0 ?_ | refine yD ?_ | ((with_reducible apply gD_go); (first | (refine JD_goq (ko) (hφ := (by (try simp only [List.cons_append, List.nil_append]); exact fun w hr => ⟨⟨Src.ar xA w hr, hr.has (φ := cnV ds) xA⟩, trivial⟩)) (h := ?_); rintro _ _ (⟨hno, rfl, rfl⟩ | ⟨i, z, d', ⟨hil, hz, hzm, hpe, hh⟩, hd', hb, rfl, rfl⟩) <;> try simp only [List.cons_append, List.nil_append]) | fail)) | ((with_reducible apply gD_gd); (first | (refine JD_guard xR xR ?_ ?_ <;> intro _ <;> (try (exfalso; first | contradiction | omega))) | (refine JD_guardb xR xR ?_ ?_ <;> (intro hgb; subst hgb)) | (refine JD_guardb xR xR ?_ ?_ <;> (intro hgb; fail_if_success (have : type_of% hgb := rfl))) | fail)) | fail)) | refine yJ ?_ | ((with_reducible apply gJ_if); (first | (refine J_if xR ?_ ?_ <;> intro _ <;> (try (exfalso; first | contradiction | omega))) | (refine J_ifb xR ?_ ?_ <;> (intro hgb; subst hgb)) | (refine J_ifb xR ?_ ?_ <;> intro _) | fail)) | refine J_draw (id := 9) [0, 1, 2, 3, 4, 5, 6, 7, 8, 9, 10, 11, 12, 13, 14, 15, 16] [17, 18, 19] mixed xC xD xD ?_ | refine J_draw (id := 15) [0, 1, 2, 3, 4, 5, 6, 7, 8, 9, 10, 11, 12] [13, 14, 15, 16, 17, 18, 19, 20, 21, 22, 23, 24, 25, 26, 27, 28, 29, 30, 31, 32, 33, 34, 35, 36, 37, 38, 39, 40, 41, 42, 43, 44, 45, 46, 47, 48, 49, 50, 51, 52, 53, 54] mixed xC xD xD ?_ | fail))
  all_goals (first | (exfalso; omega) | skip)
  · rename_i cb pb ab
    refine J_loop (α := Nat) 0 (fun k => ds.length - k) (fun k => k ≤ ds.length) (fun k => [(2, .slice a2 ds.length c2), (3, .pointer (some ⟨cb, 0, none⟩)), (7, .pointer (some ⟨ab, 0, none⟩)), (9, .int .i64 k)]) (fun _ => [pts cb (clC pe sy none 0 0) 25, pts ab at00C 35, Ar 47 17 B.cdC (.slice a2 ds.length c2) ds, has (cnV ds)]) (Nat.zero_le _) ⟨rfl, rfl, rfl, rfl, trivial⟩ (fun w H => H.sel xZ) ?_
    intro k hk
    by_cases hlt : k < ds.length
    · obtain ⟨x, hs⟩ : ∃ x, ds[k]? = some x := ⟨_, List.getElem?_eq_getElem hlt⟩
      have hm := List.mem_of_getElem? hs
      have hor := hno x hm
      have kx := kz x.toAt (hF x hm).f
      by_cases hpx : x.peer = pe
      · (repeat' (first | ((with_reducible apply gL); (first | (with_reducible apply gL_app) | (with_reducible apply gL_app0) | refine yL0 ?_ | refine yL ?_ | ((with_reducible apply gL_go); (first | (refine JL_goq (kx) (hφ := (by (try simp only [List.cons_append, List.nil_append]); exact fun w hr => (hr.has (φ := cnV ds) xA x hm).path)) (h := ?_); rintro _ _ ⟨rfl, rfl⟩; try simp only [List.cons_append, List.nil_append]) | fail)) | (refine yM ?_; intro _) | fail)) | ((with_reducible apply gD); (first | (refine JD_nil ?_; try simp only [List.cons_append, List.nil_append]) | (refine JD_bar ?_; try simp only [List.cons_append, List.nil_append]) | (with_reducible apply gD_app) | (with_reducible apply gD_app0) | refine yD0 ?_ | refine yD ?_ | ((with_reducible apply gD_go); (first | (refine JD_goq (kx) (hφ := (by (try simp only [List.cons_append, List.nil_append]); exact fun w hr => (hr.has (φ := cnV ds) xA x hm).path)) (h := ?_); rintro _ _ ⟨rfl, rfl⟩; try simp only [List.cons_append, List.nil_append]) | fail)) | ((with_reducible apply gD_gd); (first | (refine JD_guard xR xR ?_ ?_ <;> intro _ <;> (try (exfalso; first | contradiction | omega))) | (refine JD_guardb xR xR ?_ ?_ <;> (intro hgb; subst hgb)) | (refine JD_guardb xR xR ?_ ?_ <;> (intro hgb; fail_if_success (have : type_of% hgb := rfl))) | fail)) | fail)) | refine yJ ?_ | ((with_reducible apply gJ_if); (first | (refine J_if xR ?_ ?_ <;> intro _ <;> (try (exfalso; first | contradiction | omega))) | (refine J_ifb xR ?_ ?_ <;> (intro hgb; subst hgb)) | (refine J_ifb xR ?_ ?_ <;> intro _) | fail)) | refine J_draw (id := 9) [0, 1, 2, 3, 4, 5, 6, 7, 8, 9, 10, 11, 12, 13, 14, 15, 16] [17, 18, 19] mixed xC xD xD ?_ | refine J_draw (id := 15) [0, 1, 2, 3, 4, 5, 6, 7, 8, 9, 10, 11, 12] [13, 14, 15, 16, 17, 18, 19, 20, 21, 22, 23, 24, 25, 26, 27, 28, 29, 30, 31, 32, 33, 34, 35, 36, 37, 38, 39, 40, 41, 42, 43, 44, 45, 46, 47, 48, 49, 50, 51, 52, 53, 54] mixed xC xD xD ?_ | fail))
        all_goals (first | (exfalso; omega) | skip)
        all_goals exact J_again (k + 1) (by omega) hlt ⟨rfl, rfl, rfl, rfl, trivial⟩ (fun w H => H.sel xZ)
      · rw [hor.resolve_left hpx] at kx
        (repeat' (first | ((with_reducible apply gL); (first | (with_reducible apply gL_app) | (with_reducible apply gL_app0) | refine yL0 ?_ | refine yL ?_ | ((with_reducible apply gL_go); (first | (refine JL_goq (kx) (hφ := (by (try simp only [List.cons_append, List.nil_append]); exact fun w hr => (hr.has (φ := cnV ds) xA x hm).path)) (h := ?_); rintro _ _ ⟨rfl, rfl⟩; try simp only [List.cons_append, List.nil_append]) | fail)) | (refine yM ?_; intro _) | fail)) | ((with_reducible apply gD); (first | (refine JD_nil ?_; try simp only [List.cons_append, List.nil_append]) | (refine JD_bar ?_; try simp only [List.cons_append, List.nil_append]) | (with_reducible apply gD_app) | (with_reducible apply gD_app0) | refine yD0 ?_ | refine yD ?_ | ((with_reducible apply gD_go); (first | (refine JD_goq (kx) (hφ := (by (try simp only [List.cons_append, List.nil_append]); exact fun w hr => (hr.has (φ := cnV ds) xA x hm).path)) (h := ?_); rintro _ _ ⟨rfl, rfl⟩; try simp only [List.cons_append, List.nil_append]) | fail)) | ((with_reducible apply gD_gd); (first | (refine JD_guard xR xR ?_ ?_ <;> intro _ <;> (try (exfalso; first | contradiction | omega))) | (refine JD_guardb xR xR ?_ ?_ <;> (intro hgb; subst hgb)) | (refine JD_guardb xR xR ?_ ?_ <;> (intro hgb; fail_if_success (have : type_of% hgb := rfl))) | fail)) | fail)) | refine yJ ?_ | ((with_reducible apply gJ_if); (first | (refine J_if xR ?_ ?_ <;> intro _ <;> (try (exfalso; first | contradiction | omega))) | (refine J_ifb xR ?_ ?_ <;> (intro hgb; subst hgb)) | (refine J_ifb xR ?_ ?_ <;> intro _) | fail)) | refine J_draw (id := 9) [0, 1, 2, 3, 4, 5, 6, 7, 8, 9, 10, 11, 12, 13, 14, 15, 16] [17, 18, 19] mixed xC xD xD ?_ | refine J_draw (id := 15) [0, 1, 2, 3, 4, 5, 6, 7, 8, 9, 10, 11, 12] [13, 14, 15, 16, 17, 18, 19, 20, 21, 22, 23, 24, 25, 26, 27, 28, 29, 30, 31, 32, 33, 34, 35, 36, 37, 38, 39, 40, 41, 42, 43, 44, 45, 46, 47, 48, 49, 50, 51, 52, 53, 54] mixed xC xD xD ?_ | fail))
        all_goals (first | (exfalso; omega) | skip)
        all_goals exact J_again (k + 1) (by omega) hlt ⟨rfl, rfl, rfl, rfl, trivial⟩ (fun w H => H.sel xZ)
    · (repeat' (first | ((with_reducible apply gL); (first | (with_reducible apply gL_app) | (with_reducible apply gL_app0) | refine yL0 ?_ | refine yL ?_ | ((with_reducible apply gL_go); (first | (refine JL_goq (same00_s) (hφ := xF) (h := ?_); rintro _ _ ⟨rfl, rfl⟩; try simp only [List.cons_append, List.nil_append]) | fail)) | (refine yM ?_; intro _) | fail)) | ((with_reducible apply gD); (first | (refine JD_nil ?_; try simp only [List.cons_append, List.nil_append]) | (refine JD_bar ?_; try simp only [List.cons_append, List.nil_append]) | (with_reducible apply gD_app) | (with_reducible apply gD_app0) | refine yD0 ?_ | refine yD ?_ | ((with_reducible apply gD_go); (first | (refine JD_goq (same00_s) (hφ := xF) (h := ?_); rintro _ _ ⟨rfl, rfl⟩; try simp only [List.cons_append, List.nil_append]) | fail)) | ((with_reducible apply gD_gd); (first | (refine JD_guard xR xR ?_ ?_ <;> intro _ <;> (try (exfalso; first | contradiction | omega))) | (refine JD_guardb xR xR ?_ ?_ <;> (intro hgb; subst hgb)) | (refine JD_guardb xR xR ?_ ?_ <;> (intro hgb; fail_if_success (have : type_of% hgb := rfl))) | fail)) | fail)) | refine yJ ?_ | ((with_reducible apply gJ_if); (first | (refine J_if xR ?_ ?_ <;> intro _ <;> (try (exfalso; first | contradiction | omega))) | (refine J_ifb xR ?_ ?_ <;> (intro hgb; subst hgb)) | (refine J_ifb xR ?_ ?_ <;> intro _) | fail)) | refine J_draw (id := 9) [0, 1, 2, 3, 4, 5, 6, 7, 8, 9, 10, 11, 12, 13, 14, 15, 16] [17, 18, 19] mixed xC xD xD ?_ | refine J_draw (id := 15) [0, 1, 2, 3, 4, 5, 6, 7, 8, 9, 10, 11, 12] [13, 14, 15, 16, 17, 18, 19, 20, 21, 22, 23, 24, 25, 26, 27, 28, 29, 30, 31, 32, 33, 34, 35, 36, 37, 38, 39, 40, 41, 42, 43, 44, 45, 46, 47, 48, 49, 50, 51, 52, 53, 54] mixed xC xD xD ?_ | fail))
      all_goals (first | (exfalso; omega) | skip)
      exact J_ret1 rfl (by rfl) fun w H => ⟨_, ⟨rfl, rfl⟩, H.sel .nil⟩
  · have hF2 := (hF z hzm).f
    have kh := kz d' hd'
    rw [hh] at kh
    have ks := psame_s d'.pa d'.pc d'.path z.pa z.pc z.path (by have := hd'.path; omega) (by have := hF2.path; omega) hd'.num.path hF2.num.path
    rw [decide_eq_true hb.2.1] at ks
    obtain ⟨h1, _, h3, h4, h5⟩ := hb
    (repeat' (first | ((with_reducible apply gL); (first | (with_reducible apply gL_app) | (with_reducible apply gL_app0) | refine yL0 ?_ | refine yL ?_ | ((with_reducible apply gL_go); (first | (refine JL_goq (kh) (hφ := (by (try simp only [List.cons_append, List.nil_append]); exact fun w hr => (hr.has (φ := fun w => AtV w d') xA).path)) (h := ?_); rintro _ _ ⟨rfl, rfl⟩; try simp only [List.cons_append, List.nil_append]) | (refine JL_goq (ks) (hφ := (by (try simp only [List.cons_append, List.nil_append]); exact fun w hr => ⟨(hr.has (φ := fun w => AtV w d') xA).path, (hr.has (φ := cnV ds) xA z hzm).path⟩)) (h := ?_); rintro _ _ ⟨rfl, rfl⟩; try simp only [List.cons_append, List.nil_append]) | fail)) | (refine yM ?_; intro _) | fail)) | ((with_reducible apply gD); (first | (refine JD_nil ?_; try simp only [List.cons_append, List.nil_append]) | (refine JD_bar ?_; try simp only [List.cons_append, List.nil_append]) | (with_reducible apply gD_app) | (with_reducible apply gD_app0) | refine yD0 ?_ | refine yD ?_ | ((with_reducible apply gD_go); (first | (refine JD_goq (kh) (hφ := (by (try simp only [List.cons_append, List.nil_append]); exact fun w hr => (hr.has (φ := fun w => AtV w d') xA).path)) (h := ?_); rintro _ _ ⟨rfl, rfl⟩; try simp only [List.cons_append, List.nil_append]) | (refine JD_goq (ks) (hφ := (by (try simp only [List.cons_append, List.nil_append]); exact fun w hr => ⟨(hr.has (φ := fun w => AtV w d') xA).path, (hr.has (φ := cnV ds) xA z hzm).path⟩)) (h := ?_); rintro _ _ ⟨rfl, rfl⟩; try simp only [List.cons_append, List.nil_append]) | fail)) | ((with_reducible apply gD_gd); (first | (refine JD_guard xR xR ?_ ?_ <;> intro _ <;> (try (exfalso; first | contradiction | omega))) | (refine JD_guardb xR xR ?_ ?_ <;> (intro hgb; subst hgb)) | (refine JD_guardb xR xR ?_ ?_ <;> (intro hgb; fail_if_success (have : type_of% hgb := rfl))) | fail)) | fail)) | refine yJ ?_ | ((with_reducible apply gJ_if); (first | (refine J_if xR ?_ ?_ <;> intro _ <;> (try (exfalso; first | contradiction | omega))) | (refine J_ifb xR ?_ ?_ <;> (intro hgb; subst hgb)) | (refine J_ifb xR ?_ ?_ <;> intro _) | fail)) | refine J_draw (id := 9) [0, 1, 2, 3, 4, 5, 6, 7, 8, 9, 10, 11, 12, 13, 14, 15, 16] [17, 18, 19] mixed xC xD xD ?_ | refine J_draw (id := 15) [0, 1, 2, 3, 4, 5, 6, 7, 8, 9, 10, 11, 12] [13, 14, 15, 16, 17, 18, 19, 20, 21, 22, 23, 24, 25, 26, 27, 28, 29, 30, 31, 32, 33, 34, 35, 36, 37, 38, 39, 40, 41, 42, 43, 44, 45, 46, 47, 48, 49, 50, 51, 52, 53, 54] mixed xC xD xD ?_ | fail))
    all_goals first
      | (refine J_ret1 rfl (by rfl) fun w H => ⟨_, ⟨?_, rfl⟩, H.sel .nil⟩; simp [h5]; done)
      | (exfalso; clear ko kz kh ks hK kc; simp_all; done)
end Go.Proofs.YtdnokmpnemaoaaaGreat
