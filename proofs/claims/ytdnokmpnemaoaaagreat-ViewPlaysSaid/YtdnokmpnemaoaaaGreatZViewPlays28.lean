/-
  Aq21, Vw7, Vw8, Vp1, Vp2: merged.
-/
import Derived.Test.YtdnokmpnemaoaaaGreatZViewPlays27
namespace Go.Proofs.YtdnokmpnemaoaaaGreat
set_option linter.unusedSimpArgs false
set_option linter.unusedVariables false
set_option maxRecDepth 20000
set_option maxHeartbeats 4000000
open Go.RowKit Go.Pm

theorem among_s (x : Int) (n : Nat) (h1 : 1 ≤ n) (h2 : n ≤ 1000000) (hx : I64 x) : Pact Tryz.prog 34 #[.int .i64 x, .int .i64 n] (fun _ => True) [] (fun v L' => ∃ k : Nat, v = .int .i64 k ∧ k < n ∧ L' = []) := by
  refine pact Tryz.func34 rfl Tryz.ntmps34 rfl ?_
  intro W K _
  unfold I64 at hx
  (repeat' (first | ((with_reducible apply gL); (first | refine yL0 ?_ | refine yL ?_ | fail)) | refine yJ ?_ | ((with_reducible apply gJ_if); (first | (refine J_if xR ?_ ?_ <;> intro _ <;> (try (exfalso; first | contradiction | omega))) | (refine J_ifb xR ?_ ?_ <;> (intro hgb; subst hgb)) | (refine J_ifb xR ?_ ?_ <;> intro _) | fail)) | fail))
  have h3 : 0 ≤ x % 18446744073709551616 % (n : Int) := Int.emod_nonneg _ (by omega)
  have h4 : x % 18446744073709551616 % (n : Int) < n := Int.emod_lt_of_pos _ (by omega)
  refine J_ret1 rfl (by rfl) fun w H => ⟨_, ⟨(x % 18446744073709551616 % (n : Int)).toNat, ?_, by omega, rfl⟩, H.sel .nil⟩
  rw [w_i64 (by omega) (by omega), Int.toNat_of_nonneg h3]
theorem u32_el {w : World} (m : Nat) (d : List Value) (_ : d.length = 1) (h : Rs Tryz.prog w m 22 d) : ∃ z : Int, d = u32C z ∧ U32 z := by
  obtain ⟨z, e, h1, h2⟩ := (Rs.rd _ _ _ h).u32 Tryz.underlying22
  exact ⟨z, e, h1, h2⟩
theorem u8_el {w : World} (m : Nat) (d : List Value) (_ : d.length = 1) (h : Rs Tryz.prog w m 5 d) : ∃ z : Int, d = byC z ∧ U8 z := by
  have h0 := leaf_of 5 5 [5] m d (by kernel_rfl) h
  obtain ⟨z, r, e, b, h1⟩ := h0.u8 Tryz.underlying5
  subst e
  obtain rfl := h1.nil'
  exact ⟨z, rfl, b⟩
theorem seg_el {w : World} (m : Nat) (d : List Value) (_ : d.length = 2) (h : Rs Tryz.prog w m 87 d) : ∃ s : Sg, d = sgC s ∧ segV w s ∧ SgN s := by
  have h0 := leaf_of 5 87 [4, 32] m d (by kernel_rfl) h
  obtain ⟨b, r, e, h1⟩ := h0.bool Tryz.underlying4
  subst e
  obtain ⟨a, l, c, r, e, ⟨m', hs⟩, h2⟩ := h1.sl Tryz.underlying32
  subst e
  obtain rfl := h2.nil'
  obtain ⟨es, e, g1, g2, g3, g4, g5⟩ := hs.list (sz := 1) (b := 4) (enc := u32C) (ok := U32) Tryz.underlying32 (by kernel_rfl) (by kernel_rfl) u32_el
  subst e
  exact ⟨⟨b, a, c, es⟩, rfl, g4, by show es.length ≤ 35184372088832; simp only [reachBytes] at g3; omega, g5⟩
theorem raw_el {w : World} (m : Nat) (d : List Value) (_ : d.length = 2) (h : Rs Tryz.prog w m 79 d) : ∃ s : Rw, d = rwC s ∧ rawV w s ∧ RwN s := by
  have h0 := leaf_of 5 79 [3, 77] m d (by kernel_rfl) h
  obtain ⟨b, r, e, hb, h1⟩ := h0.i64 Tryz.underlying3
  subst e
  obtain ⟨a, l, c, r, e, ⟨m', hs⟩, h2⟩ := h1.sl Tryz.underlying77
  subst e
  obtain rfl := h2.nil'
  obtain ⟨es, e, g1, g2, g3, g4, g5⟩ := hs.list (sz := 1) (b := 1) (enc := byC) (ok := U8) Tryz.underlying77 (by kernel_rfl) (by kernel_rfl) u8_el
  subst e
  exact ⟨⟨b, a, c, es⟩, rfl, g4, hb, by show es.length ≤ 140737488355328; simp only [reachBytes] at g3; omega, g5⟩
theorem attrs_leaf {w : World} {cs : List Value} (h0 : Leaf Tryz.prog w [3, 31, 26, 4, 22, 4, 22, 4, 4, 22, 26, 32, 33] cs) : ∃ d : At, cs = atC d ∧ AtN d ∧ AtV w d := by
  obtain ⟨origin, r, e, b4, h5⟩ := h0.i64 Tryz.underlying3
  subst e
  obtain ⟨pa, pl, pc, r, e, ⟨m', hs⟩, h6⟩ := h5.sl Tryz.underlying31
  subst e
  obtain ⟨path, e, g1, g2, g3, g4, g5⟩ := hs.list (sz := 2) (b := 32) (enc := sgC) (ok := fun s => segV w s ∧ SgN s) Tryz.underlying31 (by kernel_rfl) (by kernel_rfl) seg_el
  subst e
  obtain ⟨next, r, e, b5, h7⟩ := h6.u32 Tryz.underlying26
  subst e
  obtain ⟨hasMed, r, e, h8⟩ := h7.bool Tryz.underlying4
  subst e
  obtain ⟨med, r, e, b6, h9⟩ := h8.u32 Tryz.underlying22
  subst e
  obtain ⟨hasLocal, r, e, h10⟩ := h9.bool Tryz.underlying4
  subst e
  obtain ⟨loc, r, e, b7, h11⟩ := h10.u32 Tryz.underlying22
  subst e
  obtain ⟨atomic, r, e, h12⟩ := h11.bool Tryz.underlying4
  subst e
  obtain ⟨hasMaker, r, e, h13⟩ := h12.bool Tryz.underlying4
  subst e
  obtain ⟨makerAS, r, e, b8, h14⟩ := h13.u32 Tryz.underlying22
  subst e
  obtain ⟨maker, r, e, b9, h15⟩ := h14.u32 Tryz.underlying26
  subst e
  obtain ⟨ca, cn, cc, r, e, ⟨m2, hc⟩, h16⟩ := h15.sl Tryz.underlying32
  subst e
  obtain ⟨comms, e, i1, i2, i3, i4, i5⟩ := hc.list (sz := 1) (b := 4) (enc := u32C) (ok := U32) Tryz.underlying32 (by kernel_rfl) (by kernel_rfl) u32_el
  subst e
  obtain ⟨oa, on, oc, r, e, ⟨m3, ho⟩, h17⟩ := h16.sl Tryz.underlying33
  subst e
  obtain ⟨others, e, j1, j2, j3, j4, j5⟩ := ho.list (sz := 2) (b := 32) (enc := rwC) (ok := fun s => rawV w s ∧ RwN s) Tryz.underlying33 (by kernel_rfl) (by kernel_rfl) raw_el
  subst e
  obtain rfl := h17.nil'
  exact ⟨⟨origin, pa, pc, path, next, hasMed, med, hasLocal, loc, atomic, hasMaker, makerAS, maker, ca, cc, comms, oa, oc, others⟩, rfl, ⟨b4, b5, b6, b7, b8, b9, fun s hs => (g5 s hs).2, i5, fun s hs => (j5 s hs).2⟩, ⟨g4, fun s hs => (g5 s hs).1⟩, i4, ⟨j4, fun s hs => (j5 s hs).1⟩⟩
theorem AtV.keep {w w' : World} (hc : ∀ b o u, w.cell? ⟨b, o, none⟩ = some u → w'.cell? ⟨b, o, none⟩ = some u) {d : At} (h : AtV w d) : AtV w' d :=
  ⟨⟨vwKeep hc h.path.vw, fun s hs => vwKeep hc (h.path.segs s hs)⟩, vwKeep hc h.comms, ⟨vwKeep hc h.others.vw, fun s hs => vwKeep hc (h.others.raws s hs)⟩⟩
theorem kn_keep {W : World} {φ : World → Prop} (hk : ∀ {w w' : World}, (∀ b o u, w.cell? ⟨b, o, none⟩ = some u → w'.cell? ⟨b, o, none⟩ = some u) → φ w → φ w') (h : φ W) : Kn (World.all W) φ :=
  Kn.all (fun w ho => hk (fun b o u hu => by
    rw [World.cell?_of_block (w := W) (ho.block b (World.block_lt_of_cell? _ _ hu) (by simp))]
    exact hu) h) fun w w' hh hr => hk (fun b o u hu => by rw [cell?_heap hh]; exact hu) hr
end Go.Proofs.YtdnokmpnemaoaaaGreat
namespace Go.Proofs.YtdnokmpnemaoaaaGreat
set_option linter.unusedSimpArgs false
set_option linter.unusedVariables false
set_option maxRecDepth 20000
set_option maxHeartbeats 4000000
open Go.RowKit Go.Pm

end Go.Proofs.YtdnokmpnemaoaaaGreat
namespace Go.Proofs.YtdnokmpnemaoaaaGreat
set_option linter.unusedSimpArgs false
set_option linter.unusedVariables false
set_option maxRecDepth 20000
set_option maxHeartbeats 4000000
open Go.RowKit Go.Pm

def oneAt (n : Int) : At := ⟨0, none, 0, [], 1, true, n, false, 0, false, false, 0, 0, none, 0, [], none, 0, []⟩
theorem oneAt_f (n : Int) (hn : U32 n) : AtF (oneAt n) := by
  have z : U32 0 := ⟨by omega, by omega⟩
  refine ⟨⟨⟨by simp [oneAt], by simp [oneAt]⟩, ⟨by simp [oneAt], by simp [oneAt]⟩, hn, z, z, z, ?_, ?_, ?_⟩, by simp [oneAt], by simp [oneAt], by simp [oneAt]⟩
  all_goals (intro s hs; exact absurd hs List.not_mem_nil)
theorem oneAt_v (n : Int) (w : World) : AtV w (oneAt n) := ⟨⟨Vw.nil w 2, fun _ h => absurd h List.not_mem_nil⟩, Vw.nil w 1, Vw.nil w 2, fun _ h => absurd h List.not_mem_nil⟩
theorem oneAt_ok (n : Int) : okN (oneAt n).nf = true := okN_t (by simp [oneAt]) rfl (by simp [oneAt]) (by simp [oneAt]) (by simp [oneAt]) (by simp [oneAt]) rfl
abbrev oneC (n : Int) : List Value := [.int .i64 0, .slice none 0 0, .int .u32 1, .bool true, .int .u32 n, .bool false, .int .u32 0, .bool false, .bool false, .int .u32 0, .int .u32 0, .slice none 0 0, .slice none 0 0]
theorem one_s (n : Int) (hn : U32 n) : Pact Tryz.prog 29 #[.int .i64 n] (fun _ => True) [] (ret0 (.agg (atC (oneAt n)).toArray)) := by
  refine pact Tryz.func29 rfl Tryz.ntmps29 rfl ?_
  intro W K _
  obtain ⟨h0, h1⟩ := hn
  (repeat' (first | ((with_reducible apply gL); (first | refine yL0 ?_ | refine yL ?_ | (refine yM ?_; intro _) | fail)) | refine yJ ?_ | fail))
  exact J_retC (cs := oneC n) rfl (by rfl) xA (by rfl) fun w H => ⟨_, ⟨rfl, rfl⟩, H.sel .nil⟩
theorem k1 : keepF [] 0 (oneAt 1).nf = (([⟨1, 1, (oneAt 1).nf⟩], 1), 1, 0) := by
  unfold keepF fndX; rw [oneAt_ok]; rfl
theorem k2 : keepF [⟨1, 1, (oneAt 1).nf⟩] 1 (oneAt 1).nf = (([⟨1, 2, (oneAt 1).nf⟩], 1), 1, 0) := by
  unfold keepF fndX; rw [oneAt_ok]; simp
theorem st1 : StOk 1 [⟨1, 1, (oneAt 1).nf⟩] 1 := by
  have := keepF_ok stok_nil (by omega) (At.nfN (oneAt_f 1 ⟨by omega, by omega⟩).num)
  rw [k1] at this
  exact this
theorem st2 : StOk 2 [⟨1, 2, (oneAt 1).nf⟩] 1 := by
  have := keepF_ok st1 (by omega) (At.nfN (oneAt_f 1 ⟨by omega, by omega⟩).num)
  rw [k2] at this
  exact this
abbrev pX : T.Pf := (167772160, 8)
theorem pX_n : T.PfN pX := by unfold T.PfN T.U32 T.I64; decide
theorem pX_r : T.Rt pX := by decide +kernel
theorem take_one {σ : Vs} {p : T.Pf} {o : T.Vt} (hE : σ.E = [(p, o)]) (hl : lateE o = true) {pre : List T.Ent} (h : TakeOk σ 9 pre) : pre = [(p, o)] := by
  have hk : T.keysE σ.E = [p] := by rw [hE]; rfl
  rcases h with ⟨h, _⟩ | ⟨⟨k, h⟩, h9⟩
  · rw [h, hk]
    have e : T.oldV (tkE σ []) p = o := by
      show T.oldV σ.E p = o
      rw [hE]
      unfold T.oldV
      rw [T.getL_cons_eq rfl]
      rfl
    simp only [thoseL, e, hl, if_true, List.nil_append]
  · exfalso
    have h1 := thoseL_len (tkE σ) lateE ((T.keysE σ.E).take k) []
    rw [← h] at h1
    rw [hk, List.length_take] at h1
    simp only [List.length_cons, List.length_nil] at h1
    omega
theorem take_e (B : Int) (hB0 : 0 ≤ B) (hB : B ≤ 1000000) (vb sp tb : Nat) (E E' : List T.Ent) (S S' : List En) (c c' : Int) (p : T.Pf) (o : T.Vt) (hE : E = [(p, o)]) (hl : lateE o = true) (hs : StOk B S c) (x : Nf) (b : Bool) (hx : whatX S o.1 = x) (hb : whatB S o.1 = b) (ht : tkStep ⟨E, S, c⟩ (p, o) = ⟨E', S', c'⟩) : Pact Tryz.prog 31 #[.pointer (some ⟨vb, 0, none⟩), .int .i64 9] (fun _ => True) (vsL vb sp tb E S c)
    (fun u L' => ∃ (a : Option Addr) (cc : Nat) (d : At), (AtF d ∧ d.nf = x) ∧ u = .slice a 1 cc ∧ L' = [pts vb (vwC (sA sp) tb (dueI E') (wntI E')) 98, T.trA tb E', stoA sp S' c', Ar 85 16 chC (.slice a 1 cc) [⟨p, d, b⟩], has (fun w => AtV w d)]) := by
  have k := vtake_s B hB0 hB vb sp tb ⟨E, S, c⟩ 9 (by omega) hs (by show E.length ≤ 1000; rw [hE]; simp)
  intro W K w hK H
  refine (k W K w hK H).mono fun e w' h => ?_
  obtain ⟨u, L', ⟨pre, hpre, a, cc, l, ⟨h1, h2⟩, rfl, rfl⟩, h5, h6⟩ := h
  obtain rfl := take_one hE hl hpre
  have e1 : tkF ⟨E, S, c⟩ [(p, o)] = ⟨E', S', c'⟩ := ht
  rw [e1] at h6
  have e2 : chL ⟨E, S, c⟩ [(p, o)] = [(p, x, b)] := by
    show [(p, whatX S o.1, whatB S o.1)] = _
    rw [hx, hb]
  rw [e2] at h1
  cases l with
  | nil => cases h1
  | cons y l =>
    cases l with
    | cons _ _ => cases h1
    | nil =>
      obtain ⟨p', d, b'⟩ := y
      simp only [List.map_cons, List.map_nil, chN, List.cons.injEq, Prod.mk.injEq, and_true] at h1
      obtain ⟨rfl, h3, rfl⟩ := h1
      refine ⟨_, _, ⟨a, cc, d, ⟨h2 (Ch.mk p' d b') (List.mem_singleton.2 rfl), h3⟩, rfl, rfl⟩, h5, ?_⟩
      exact (Ow.has (M := [has (fun w => ∀ x ∈ [Ch.mk p' d b'], AtV w x.d)]) (φ := fun w => AtV w d) h6 xZ (fun w hr => hr.has .here (Ch.mk p' d b') (List.mem_singleton.2 rfl))).sel xZ
theorem ts1 : tkStep ⟨[(pX, (1, 0, false))], [⟨1, 1, (oneAt 1).nf⟩], 1⟩ (pX, (1, 0, false)) = ⟨[(pX, (1, 1, false))], [⟨1, 2, (oneAt 1).nf⟩], 1⟩ := by
  have e : agF [⟨1, 1, (oneAt 1).nf⟩] 1 1 = (([⟨1, 2, (oneAt 1).nf⟩], 1), 1) := by
    unfold agF
    rw [if_neg (by decide)]
    have : getX [⟨1, 1, (oneAt 1).nf⟩] 1 = (oneAt 1).nf := rfl
    rw [this, k2]
  unfold tkStep
  have e0 : frF [⟨1, 1, (oneAt 1).nf⟩] (pX, ((1 : Int), (0 : Int), false)).2.2.1 = [⟨1, 1, (oneAt 1).nf⟩] := rfl
  rw [e0, e]
  rfl
theorem ts2 : tkStep ⟨[(pX, (0, 1, false))], [⟨1, 1, (oneAt 1).nf⟩], 1⟩ (pX, (0, 1, false)) = ⟨[], [], 1⟩ := by
  unfold tkStep
  have e0 : frF [⟨1, 1, (oneAt 1).nf⟩] (pX, ((0 : Int), (1 : Int), false)).2.2.1 = [] := rfl
  rw [e0]
  rfl
theorem works_s : Pact Tryz.prog 11 #[] (fun _ => True) [] (ret0 (.bool true)) := by
  refine pact (args := []) Tryz.func11 rfl Tryz.ntmps11 rfl ?_
  intro W K _
  have u1 : U32 1 := ⟨by omega, by omega⟩
  (repeat' (first | ((with_reducible apply gL); (first | (with_reducible apply gL_app) | (with_reducible apply gL_app0) | refine yL0 ?_ | refine yL ?_ | ((with_reducible apply gL_go); (first | (refine JL_goq (new_s) (hφ := xF) (h := ?_); rintro _ _ ⟨sp, rfl, rfl⟩; try simp only [List.cons_append, List.nil_append]) | (refine JL_goq (vnew_s sp) (hφ := xF) (h := ?_); rintro _ _ ⟨vb, tb, rfl, rfl⟩; try simp only [List.cons_append, List.nil_append]) | fail)) | (refine yM ?_; intro _) | fail)) | ((with_reducible apply gD); (first | (refine JD_nil ?_; try simp only [List.cons_append, List.nil_append]) | (refine JD_bar ?_; try simp only [List.cons_append, List.nil_append]) | (with_reducible apply gD_app) | (with_reducible apply gD_app0) | refine yD0 ?_ | refine yD ?_ | ((with_reducible apply gD_go); (first | (refine JD_goq (new_s) (hφ := xF) (h := ?_); rintro _ _ ⟨sp, rfl, rfl⟩; try simp only [List.cons_append, List.nil_append]) | (refine JD_goq (vnew_s sp) (hφ := xF) (h := ?_); rintro _ _ ⟨vb, tb, rfl, rfl⟩; try simp only [List.cons_append, List.nil_append]) | fail)) | ((with_reducible apply gD_gd); (first | (refine JD_guard xR xR ?_ ?_ <;> intro _ <;> (try (exfalso; first | contradiction | omega))) | (refine JD_guardb xR xR ?_ ?_ <;> (intro hgb; subst hgb)) | (refine JD_guardb xR xR ?_ ?_ <;> (intro hgb; fail_if_success (have : type_of% hgb := rfl))) | fail)) | fail)) | refine yJ ?_ | ((with_reducible apply gJ_if); (first | (refine J_if xR ?_ ?_ <;> intro _ <;> (try (exfalso; first | contradiction | omega))) | (refine J_ifb xR ?_ ?_ <;> (intro hgb; subst hgb)) | (refine J_ifb xR ?_ ?_ <;> intro _) | fail)) | refine J_draw (id := 5) [0, 1, 2] [3, 4] mixed xC xD xD ?_ | refine J_draw (id := 9) [0, 1, 2, 3, 4, 5, 6, 7, 8, 9, 10, 11, 12, 13, 14, 15, 16, 17, 18, 19, 20, 21, 22, 23, 24, 25, 26] [27, 28, 29, 30, 31, 32, 33, 34, 35, 36, 37, 38, 39, 40, 41, 42, 43, 44, 45, 46, 47, 48, 49, 50] mixed xC xD xD ?_ | fail))
  have kw := want_s 0 (by omega) (by omega) vb sp tb [] [] [⟨1, 1, (oneAt 1).nf⟩] [⟨1, 1, (oneAt 1).nf⟩] 0 1 1 pX T.zV (oneAt 1) (oneAt_f 1 u1) pX_n pX_r (oneAt_ok 1) rfl ⟨.nil, fun _ h => absurd h List.not_mem_nil⟩ (by decide) stok_nil k1 st1 ⟨by omega, by omega⟩ zV_n rfl
  have e1 : T.setE [] pX (1, T.zV.2.1, T.zV.2.2) = [(pX, (1, 0, false))] := rfl
  rw [e1] at kw
  have kt := take_e 1 (by omega) (by omega) vb sp tb _ _ _ _ _ _ pX (1, 0, false) rfl rfl st1 _ true rfl rfl ts1
  have e2 : T.EOk [(pX, ((1 : Int), (1 : Int), false))] := ⟨List.pairwise_singleton _ _, fun x hx => by
    obtain rfl := List.mem_singleton.1 hx
    exact ⟨pX_r, pX_n, by unfold T.VN T.I64; decide⟩⟩
  have kx := wantoff_s 2 (by omega) vb sp tb [(pX, (1, 1, false))] [⟨1, 2, (oneAt 1).nf⟩] [⟨1, 1, (oneAt 1).nf⟩] 1 pX (1, 1, false) zAt pX_n pX_r rfl e2 (by decide) st2 rfl
  have e3 : T.setE [(pX, ((1 : Int), (1 : Int), false))] pX (0, ((1 : Int), (1 : Int), false).2.1, false) = [(pX, (0, 1, false))] := rfl
  rw [e3] at kx
  have kt2 := take_e 1 (by omega) (by omega) vb sp tb _ _ _ _ _ _ pX (0, 1, false) rfl rfl st1 _ false rfl rfl ts2
  (repeat' (first | ((with_reducible apply gL); (first | (with_reducible apply gL_app) | (with_reducible apply gL_app0) | refine yL0 ?_ | refine yL ?_ | ((with_reducible apply gL_go); (first | (refine JL_goq (one_s 1 u1) (hφ := xF) (h := ?_); rintro _ _ ⟨rfl, rfl⟩; try simp only [List.cons_append, List.nil_append]) | (refine JL_goq (kw) (hφ := (by (try simp only [List.cons_append, List.nil_append]); exact fun w _ => oneAt_v 1 w)) (h := ?_); rintro _ _ ⟨rfl, rfl⟩; try simp only [List.cons_append, List.nil_append]) | (refine JL_goq (due_s vb (sA sp) tb [(pX, (1, 0, false))]) (hφ := xF) (h := ?_); rintro _ _ ⟨rfl, rfl⟩; try simp only [List.cons_append, List.nil_append]) | (refine JL_goq (kt) (hφ := xF) (h := ?_); rintro _ _ ⟨a, cc, d, hd, rfl, rfl⟩; try simp only [List.cons_append, List.nil_append]) | (refine JL_goq (kx) (hφ := xF) (h := ?_); rintro _ _ ⟨rfl, rfl⟩; try simp only [List.cons_append, List.nil_append]) | (refine JL_goq (due_s vb (sA sp) tb [(pX, (0, 1, false))]) (hφ := xF) (h := ?_); rintro _ _ ⟨rfl, rfl⟩; try simp only [List.cons_append, List.nil_append]) | (refine JL_goq (kt2) (hφ := xF) (h := ?_); rintro _ _ ⟨a2, cc2, d2, hd2, rfl, rfl⟩; try simp only [List.cons_append, List.nil_append]) | fail)) | (refine yM ?_; intro _) | fail)) | ((with_reducible apply gD); (first | (refine JD_nil ?_; try simp only [List.cons_append, List.nil_append]) | (refine JD_bar ?_; try simp only [List.cons_append, List.nil_append]) | (with_reducible apply gD_app) | (with_reducible apply gD_app0) | refine yD0 ?_ | refine yD ?_ | ((with_reducible apply gD_go); (first | (refine JD_goq (one_s 1 u1) (hφ := xF) (h := ?_); rintro _ _ ⟨rfl, rfl⟩; try simp only [List.cons_append, List.nil_append]) | (refine JD_goq (kw) (hφ := (by (try simp only [List.cons_append, List.nil_append]); exact fun w _ => oneAt_v 1 w)) (h := ?_); rintro _ _ ⟨rfl, rfl⟩; try simp only [List.cons_append, List.nil_append]) | (refine JD_goq (due_s vb (sA sp) tb [(pX, (1, 0, false))]) (hφ := xF) (h := ?_); rintro _ _ ⟨rfl, rfl⟩; try simp only [List.cons_append, List.nil_append]) | (refine JD_goq (kt) (hφ := xF) (h := ?_); rintro _ _ ⟨a, cc, d, hd, rfl, rfl⟩; try simp only [List.cons_append, List.nil_append]) | (refine JD_goq (kx) (hφ := xF) (h := ?_); rintro _ _ ⟨rfl, rfl⟩; try simp only [List.cons_append, List.nil_append]) | (refine JD_goq (due_s vb (sA sp) tb [(pX, (0, 1, false))]) (hφ := xF) (h := ?_); rintro _ _ ⟨rfl, rfl⟩; try simp only [List.cons_append, List.nil_append]) | (refine JD_goq (kt2) (hφ := xF) (h := ?_); rintro _ _ ⟨a2, cc2, d2, hd2, rfl, rfl⟩; try simp only [List.cons_append, List.nil_append]) | fail)) | ((with_reducible apply gD_gd); (first | (refine JD_guard xR xR ?_ ?_ <;> intro _ <;> (try (exfalso; first | contradiction | omega))) | (refine JD_guardb xR xR ?_ ?_ <;> (intro hgb; subst hgb)) | (refine JD_guardb xR xR ?_ ?_ <;> (intro hgb; fail_if_success (have : type_of% hgb := rfl))) | fail)) | fail)) | refine yJ ?_ | ((with_reducible apply gJ_if); (first | (refine J_if xR ?_ ?_ <;> intro _ <;> (try (exfalso; first | contradiction | omega))) | (refine J_ifb xR ?_ ?_ <;> (intro hgb; subst hgb)) | (refine J_ifb xR ?_ ?_ <;> intro _) | fail)) | refine J_draw (id := 5) [0, 1, 2] [3, 4] mixed xC xD xD ?_ | refine J_draw (id := 9) [0, 1, 2, 3, 4, 5, 6, 7, 8, 9, 10, 11, 12, 13, 14, 15, 16, 17, 18, 19, 20, 21, 22, 23, 24, 25, 26] [27, 28, 29, 30, 31, 32, 33, 34, 35, 36, 37, 38, 39, 40, 41, 42, 43, 44, 45, 46, 47, 48, 49, 50] mixed xC xD xD ?_ | fail))
  have f0 : [Ch.mk pX d true][0]? = some (Ch.mk pX d true) := rfl
  have f1 : [Ch.mk pX d2 false][0]? = some (Ch.mk pX d2 false) := rfl
  (repeat' (first | ((with_reducible apply gL); (first | (with_reducible apply gL_app) | (with_reducible apply gL_app0) | refine yL0 ?_ | refine yL ?_ | ((with_reducible apply gL_go); (first | (refine JL_goq (due_s vb (sA sp) tb []) (hφ := xF) (h := ?_); rintro _ _ ⟨rfl, rfl⟩; try simp only [List.cons_append, List.nil_append]) | fail)) | (refine yM ?_; intro _) | fail)) | ((with_reducible apply gD); (first | (refine JD_nil ?_; try simp only [List.cons_append, List.nil_append]) | (refine JD_bar ?_; try simp only [List.cons_append, List.nil_append]) | (with_reducible apply gD_app) | (with_reducible apply gD_app0) | refine yD0 ?_ | refine yD ?_ | ((with_reducible apply gD_go); (first | (refine JD_goq (due_s vb (sA sp) tb []) (hφ := xF) (h := ?_); rintro _ _ ⟨rfl, rfl⟩; try simp only [List.cons_append, List.nil_append]) | fail)) | ((with_reducible apply gD_gd); (first | (refine JD_guard xR xR ?_ ?_ <;> intro _ <;> (try (exfalso; first | contradiction | omega))) | (refine JD_guardb xR xR ?_ ?_ <;> (intro hgb; subst hgb)) | (refine JD_guardb xR xR ?_ ?_ <;> (intro hgb; fail_if_success (have : type_of% hgb := rfl))) | fail)) | fail)) | refine yJ ?_ | ((with_reducible apply gJ_if); (first | (refine J_if xR ?_ ?_ <;> intro _ <;> (try (exfalso; first | contradiction | omega))) | (refine J_ifb xR ?_ ?_ <;> (intro hgb; subst hgb)) | (refine J_ifb xR ?_ ?_ <;> intro _) | fail)) | refine J_draw (id := 5) [0, 1, 2] [3, 4] mixed xC xD xD ?_ | refine J_draw (id := 9) [0, 1, 2, 3, 4, 5, 6, 7, 8, 9, 10, 11, 12, 13, 14, 15, 16, 17, 18, 19, 20, 21, 22, 23, 24, 25, 26] [27, 28, 29, 30, 31, 32, 33, 34, 35, 36, 37, 38, 39, 40, 41, 42, 43, 44, 45, 46, 47, 48, 49, 50] mixed xC xD xD ?_ | fail))
  exact J_ret1 rfl (by rfl) fun w H => ⟨_, ⟨rfl, rfl⟩, H.sel .nil⟩
end Go.Proofs.YtdnokmpnemaoaaaGreat
namespace Go.Proofs.YtdnokmpnemaoaaaGreat
set_option linter.unusedSimpArgs false
set_option linter.unusedVariables false
open Go.RowKit Go.Pm

open T (Pf PfN Rt Ah pfC)
theorem nodup_len {α : Type} [DecidableEq α] : ∀ (l m : List α), l.Pairwise (· ≠ ·) → (∀ x ∈ l, x ∈ m) → l.length ≤ m.length
  | [], _, _, _ => Nat.zero_le _
  | x :: l, m, h, hs => by
    obtain ⟨h1, h2⟩ := List.pairwise_cons.1 h
    have hx := hs x (by simp)
    have h3 := nodup_len l (m.erase x) h2 (fun y hy => (List.mem_erase_of_ne (fun e => h1 y hy e.symm)).2 (hs y (by simp [hy])))
    rw [List.length_erase_of_mem hx] at h3
    have := List.length_pos_of_mem hx
    simp only [List.length_cons]
    omega
theorem stok_len {B : Int} {S : List En} {c : Int} (h : StOk B S c) : (S.length : Int) ≤ c := by
  have hc := h.cnt
  have h1 := nodup_len (S.map fun e => e.id.toNat) (List.range' 1 c.toNat) (by
    rw [List.pairwise_map]
    refine List.Pairwise.imp_of_mem ?_ h.idd
    intro a b ha hb hn he
    have := h.ids a ha
    have := h.ids b hb
    omega) (by
    intro x hx
    obtain ⟨e, he, rfl⟩ := List.mem_map.1 hx
    have := h.ids e he
    rw [List.mem_range'_1]
    omega)
  rw [List.length_map, List.length_range'] at h1
  omega
theorem fnd_mem {B : Int} {S : List En} {c : Int} (h : StOk B S c) {e : En} (he : e ∈ S) : fnd S e.id = some e := by
  obtain ⟨A, C, rfl⟩ := List.append_of_mem he
  have hm := h.mid
  unfold fnd
  rw [List.find?_append, List.find?_eq_none.2 (fun a ha => by simpa using (hm.1 a ha).1), List.find?_cons_of_pos (by simp)]
  rfl
theorem fnd_map {g : En → En} (hg : ∀ a, (g a).id = a.id) (S : List En) (j : Int) : fnd (S.map g) j = (fnd S j).map g := by
  unfold fnd
  rw [List.find?_map]
  have : ((fun e : En => decide (e.id = j)) ∘ g) = fun e : En => decide (e.id = j) := funext fun a => by show decide ((g a).id = j) = _; rw [hg]
  rw [this]
theorem cntF_pos {B : Int} {S : List En} {c : Int} (h : StOk B S c) {j : Int} : 0 < cntF S j ↔ ∃ e, fnd S j = some e := by
  unfold cntF
  cases hf : fnd S j with
  | none => simp
  | some e =>
    obtain ⟨A, C, rfl, _⟩ := fnd_some hf
    have := (h.n e (by simp)).1
    simp; omega
theorem cntF_nn {B : Int} {S : List En} {c : Int} (h : StOk B S c) (j : Int) : 0 ≤ cntF S j := by
  unfold cntF
  cases hf : fnd S j with
  | none => exact Int.le_refl _
  | some e =>
    obtain ⟨A, C, rfl, _⟩ := fnd_some hf
    have := (h.n e (by simp)).1
    show 0 ≤ e.n
    omega
theorem getX_inj {B : Int} {S : List En} {c : Int} (h : StOk B S c) {i j : Int} (hi : 0 < cntF S i) (hj : 0 < cntF S j) (he : getX S i = getX S j) : i = j := by
  obtain ⟨a, ha⟩ := (cntF_pos h).1 hi
  obtain ⟨b, hb⟩ := (cntF_pos h).1 hj
  unfold getX at he
  rw [ha, hb] at he
  dsimp only at he
  obtain ⟨A, C, rfl, h1, _⟩ := fnd_some ha
  have hm := h.mid
  obtain ⟨A2, C2, hs, h2, _⟩ := fnd_some hb
  have hb2 : b ∈ A ++ a :: C := by rw [hs]; simp
  rcases List.mem_append.1 hb2 with h3 | h3
  · exact absurd he.symm (hm.1 b h3).2
  · rcases List.mem_cons.1 h3 with rfl | h3
    · exact h1.symm.trans h2
    · exact absurd he.symm (hm.2 b h3).2
structure KeepV (S : List En) (x : Nf) (S1 : List En) (id : Int) : Prop where
  pos : 0 < id
  cnt : ∀ j, cntF S1 j = cntF S j + if j = id then 1 else 0
  get : ∀ j, 0 < cntF S j → getX S1 j = getX S j
  new : getX S1 id = x
theorem kep_v {B : Int} {S : List En} {c : Int} {x : Nf} (h : StOk B S c) (hB : B < 4096) (hx : okN x = true) : ∃ S1 c1 id, keepF S c x = ((S1, c1), id, 0) ∧ KeepV S x S1 id := by
  have hl := stok_len h
  have hc := h.cnt
  unfold keepF
  rw [hx]
  dsimp only
  cases hf : fndX S x with
  | some e =>
    dsimp only
    have hm : e ∈ S := List.mem_of_find?_eq_some hf
    have hex : e.x = x := by simpa using List.find?_some hf
    have hfe := fnd_mem h hm
    have hg : ∀ j, fnd (S.map (fun a => if a.x = x then (⟨a.id, a.n + 1, a.x⟩ : En) else a)) j = (fnd S j).map (fun a => if a.x = x then (⟨a.id, a.n + 1, a.x⟩ : En) else a) := fnd_map (fun a => by split <;> rfl) S
    refine ⟨_, _, _, rfl, (h.ids e hm).1, fun j => ?_, fun j hj => ?_, ?_⟩
    · unfold cntF
      rw [hg]
      cases hj : fnd S j with
      | none =>
        have : j ≠ e.id := fun he => by rw [he, hfe] at hj; cases hj
        show (0 : Int) = 0 + _
        rw [if_neg this]; rfl
      | some a =>
        have haj : a.id = j := by simpa using List.find?_some hj
        have ham : a ∈ S := List.mem_of_find?_eq_some hj
        show (if a.x = x then (⟨a.id, a.n + 1, a.x⟩ : En) else a).n = a.n + _
        by_cases hax : a.x = x
        · have : j = e.id := by
            refine getX_inj h (i := j) (j := e.id) ((cntF_pos h).2 ⟨a, hj⟩) ((cntF_pos h).2 ⟨e, hfe⟩) ?_
            unfold getX
            rw [hj, hfe]
            exact hax.trans hex.symm
          rw [if_pos hax, if_pos this]
        · have : j ≠ e.id := fun he => by
            rw [he, hfe] at hj
            cases hj
            exact hax hex
          rw [if_neg hax, if_neg this]
          omega
    · obtain ⟨a, ha⟩ := (cntF_pos h).1 hj
      unfold getX
      rw [hg, ha]
      show (if a.x = x then (⟨a.id, a.n + 1, a.x⟩ : En) else a).x = a.x
      split <;> rfl
    · unfold getX
      rw [hg, hfe]
      show (if e.x = x then (⟨e.id, e.n + 1, e.x⟩ : En) else e).x = x
      split <;> exact hex
  | none =>
    dsimp only
    rw [if_neg (by omega)]
    have hn : fnd S (c + 1) = none := by
      refine List.find?_eq_none.2 fun a ha => ?_
      have := (h.ids a ha).2
      simp
      omega
    have hg : ∀ j, fnd (S ++ [⟨c + 1, 1, x⟩]) j = (fnd S j).or (if c + 1 = j then some ⟨c + 1, 1, x⟩ else none) := fun j => by
      unfold fnd
      rw [List.find?_append, List.find?_singleton]
      congr 1
      by_cases h : c + 1 = j <;> simp [h]
    refine ⟨_, _, _, rfl, by omega, fun j => ?_, fun j hj => ?_, ?_⟩
    · unfold cntF
      rw [hg]
      cases hj : fnd S j with
      | none =>
        by_cases hcj : c + 1 = j
        · simp [hcj]
        · have : ¬ j = c + 1 := fun e => hcj e.symm
          simp [hcj, this]
      | some a =>
        have : j ≠ c + 1 := fun e => by rw [e, hn] at hj; cases hj
        simp [this]
    · obtain ⟨a, ha⟩ := (cntF_pos h).1 hj
      unfold getX
      rw [hg, ha]
      rfl
    · unfold getX
      rw [hg, hn]
      simp
theorem fre_v {B : Int} {S : List En} {c id : Int} (h : StOk B S c) (hi : 0 < cntF S id) : (∀ j, cntF (freeF S id).1 j = cntF S j - if j = id then 1 else 0) ∧ ∀ j, 0 < cntF (freeF S id).1 j → getX (freeF S id).1 j = getX S j := by
  obtain ⟨e, he⟩ := (cntF_pos h).1 hi
  have hid : e.id = id := by simpa using List.find?_some he
  unfold freeF
  rw [he]
  dsimp only
  by_cases h1 : e.n = 1
  · rw [if_pos h1]
    have hg : ∀ j, fnd (S.filter (fun a => decide (a.id ≠ id))) j = if j = id then none else fnd S j := fun j => by
      unfold fnd
      rw [List.find?_filter]
      by_cases hj : j = id
      · rw [if_pos hj]
        refine List.find?_eq_none.2 fun a _ => ?_
        simp
        omega
      · rw [if_neg hj]
        congr 1
        funext a
        by_cases ha : a.id = j
        · simp [ha, hj]
        · simp [ha]
    refine ⟨fun j => ?_, fun j hj => ?_⟩
    · dsimp only
      unfold cntF
      rw [hg]
      by_cases hj : j = id
      · rw [if_pos hj, if_pos hj, hj, he]
        show (0 : Int) = e.n - 1
        omega
      · rw [if_neg hj, if_neg hj]
        omega
    · dsimp only at hj ⊢
      unfold cntF at hj
      rw [hg] at hj
      unfold getX
      rw [hg]
      by_cases hji : j = id
      · rw [if_pos hji] at hj
        exact absurd hj (by decide)
      · rw [if_neg hji]
  · rw [if_neg h1]
    have hg : ∀ j, fnd (S.map (fun a => if a.id = id then (⟨a.id, a.n - 1, a.x⟩ : En) else a)) j = (fnd S j).map (fun a => if a.id = id then (⟨a.id, a.n - 1, a.x⟩ : En) else a) := fnd_map (fun a => by split <;> rfl) S
    refine ⟨fun j => ?_, fun j hj => ?_⟩
    · dsimp only
      unfold cntF
      rw [hg]
      cases hj : fnd S j with
      | none =>
        have : j ≠ id := fun e2 => by rw [e2, he] at hj; cases hj
        show (0 : Int) = 0 - _
        rw [if_neg this]; rfl
      | some a =>
        have haj : a.id = j := by simpa using List.find?_some hj
        show (if a.id = id then (⟨a.id, a.n - 1, a.x⟩ : En) else a).n = a.n - _
        rw [haj]
        split <;> simp
    · dsimp only at hj ⊢
      unfold getX
      rw [hg]
      cases fnd S j with
      | none => rfl
      | some a =>
        show (if a.id = id then (⟨a.id, a.n - 1, a.x⟩ : En) else a).x = a.x
        split <;> rfl
end Go.Proofs.YtdnokmpnemaoaaaGreat
namespace Go.Proofs.YtdnokmpnemaoaaaGreat
set_option linter.unusedSimpArgs false
set_option linter.unusedVariables false
open Go.RowKit Go.Pm

open T (Pf PfN Rt Ah pfC)
def i1 (a j : Int) : Int := if j = a then 1 else 0
theorem i1_01 (a j : Int) : 0 ≤ i1 a j ∧ i1 a j ≤ 1 := by unfold i1; split <;> omega
theorem i1_0 {j : Int} (h : 0 < j) : i1 0 j = 0 := by unfold i1; rw [if_neg (by omega)]
def cU (E : List T.Ent) (j : Int) : Int := T.cntI (fun v => decide (v.1 = j)) E + T.cntI (fun v => decide (v.2.1 = j)) E
structure Rl (E : List T.Ent) (S : List En) : Prop where
  cnt : ∀ j, 0 < j → cntF S j = cU E j
  e : ∀ e ∈ E, 0 ≤ e.2.1 ∧ 0 ≤ e.2.2.1 ∧ e.2 ≠ T.zV ∧ (e.2.2.2 = true → e.2.1 ≠ 0)
structure Qv where
  w : Bool
  s : Bool
  a : Bool
  x : Nf
  y : Nf
def entV (S : List En) (v : T.Vt) : Qv := ⟨decide (v.1 ≠ 0), decide (v.2.1 ≠ 0), v.2.2, whatX S v.1, whatX S v.2.1⟩
def lkV (E : List T.Ent) (S : List En) (q : Pf) : Option Qv := (T.getL E q).map (entV S)
theorem b2_i1 (a j : Int) : T.b2 (decide (a = j)) = i1 a j := by
  unfold T.b2 i1
  by_cases e : j = a
  · simp [e]
  · have : ¬ a = j := fun h => e h.symm
    simp [e, this]
theorem cU_set {E : List T.Ent} {p : Pf} {x : T.Vt} (h : T.Srt E) {j : Int} (hj : 0 < j) : cU (T.setE E p x) j = cU E j - (i1 (T.oldV E p).1 j + i1 (T.oldV E p).2.1 j) + (i1 x.1 j + i1 x.2.1 j) := by
  have z1 : (fun v : T.Vt => decide (v.1 = j)) T.zV = false := decide_eq_false (by show ¬ (0 : Int) = j; omega)
  have z2 : (fun v : T.Vt => decide (v.2.1 = j)) T.zV = false := decide_eq_false (by show ¬ (0 : Int) = j; omega)
  unfold cU
  rw [T.cnt_set z1 h, T.cnt_set z2 h, b2_i1, b2_i1, b2_i1, b2_i1]
  omega
theorem cI_one {q : T.Vt → Bool} {E : List T.Ent} {p : Pf} {v : T.Vt} (h : T.Srt E) (hg : T.getL E p = some v) (hq : q v = true) : 1 ≤ T.cntI q E := by
  have hm : (p, v) ∈ E.filter fun e => q e.2 := List.mem_filter.2 ⟨(T.getL_mem h).1 hg, hq⟩
  have := List.length_pos_of_mem hm
  unfold T.cntI
  omega
theorem cU_w {E : List T.Ent} {p : Pf} {v : T.Vt} (h : T.Srt E) (hg : T.getL E p = some v) : 1 ≤ cU E v.1 := by
  have h1 := cI_one (q := fun u => decide (u.1 = v.1)) h hg (by simp)
  have h2 := (T.cntI_le (fun u => decide (u.2.1 = v.1)) E).1
  unfold cU
  omega
theorem cU_s {E : List T.Ent} {p : Pf} {v : T.Vt} (h : T.Srt E) (hg : T.getL E p = some v) : 1 ≤ cU E v.2.1 := by
  have h1 := cI_one (q := fun u => decide (u.2.1 = v.2.1)) h hg (by simp)
  have h2 := (T.cntI_le (fun u => decide (u.1 = v.2.1)) E).1
  unfold cU
  omega
theorem cU_ws {E : List T.Ent} {p : Pf} {v : T.Vt} (h : T.Srt E) (hg : T.getL E p = some v) (he : v.1 = v.2.1) : 2 ≤ cU E v.1 := by
  have h1 := cI_one (q := fun u => decide (u.1 = v.1)) h hg (by simp)
  have h2 := cI_one (q := fun u => decide (u.2.1 = v.1)) h hg (by simp [he])
  unfold cU
  omega
theorem getL_set {E : List T.Ent} (h : T.Srt E) (p : Pf) (x : T.Vt) (q : Pf) : T.getL (T.setE E p x) q = if q = p then (if x = T.zV then none else some x) else T.getL E q := by
  unfold T.setE
  by_cases hx : x = T.zV
  · rw [if_pos hx, if_pos hx, T.getL_drop h]
  · rw [if_neg hx, if_neg hx, T.getL_put h]
theorem mem_setE {E : List T.Ent} {p : Pf} {x : T.Vt} {e : T.Ent} (h : T.Srt E) (he : e ∈ T.setE E p x) : (e = (p, x) ∧ x ≠ T.zV) ∨ e ∈ E := by
  unfold T.setE at he
  split at he
  · exact .inr (List.mem_filter.1 he).1
  · rename_i hx
    rcases (T.mem_putL h).1 he with h1 | ⟨h1, _⟩
    · exact .inl ⟨h1, hx⟩
    · exact .inr h1
theorem Rl.w {E : List T.Ent} {S : List En} (h : Rl E S) (hE : T.Srt E) {q : Pf} {v : T.Vt} (hg : T.getL E q = some v) (h0 : v.1 ≠ 0) : 0 < v.1 ∧ 0 < cntF S v.1 := by
  have h1 := (h.e _ ((T.getL_mem hE).1 hg)).1
  dsimp only at h1
  have h2 := cU_w hE hg
  have h3 := h.cnt v.1 (by omega)
  omega
theorem Rl.s {E : List T.Ent} {S : List En} (h : Rl E S) (hE : T.Srt E) {q : Pf} {v : T.Vt} (hg : T.getL E q = some v) (h0 : v.2.1 ≠ 0) : 0 < v.2.1 ∧ 0 < cntF S v.2.1 := by
  have h1 := (h.e _ ((T.getL_mem hE).1 hg)).2.1
  dsimp only at h1
  have h2 := cU_s hE hg
  have h3 := h.cnt v.2.1 (by omega)
  omega
theorem rl_set {E : List T.Ent} {S S' : List En} {p : Pf} {x : T.Vt} (h : Rl E S) (hE : T.Srt E) (hx : 0 ≤ x.1 ∧ 0 ≤ x.2.1 ∧ (x.2.2 = true → x.1 ≠ 0)) (hc : ∀ j, 0 < j → cntF S' j = cntF S j - (i1 (T.oldV E p).1 j + i1 (T.oldV E p).2.1 j) + (i1 x.1 j + i1 x.2.1 j)) (hg : ∀ j, 0 < j → 0 < cntF S j → 0 < cntF S' j → getX S' j = getX S j) : Rl (T.setE E p x) S' ∧ ∀ q, lkV (T.setE E p x) S' q = if q = p then (if x = T.zV then none else some (entV S' x)) else lkV E S q := by
  have hR : Rl (T.setE E p x) S' := ⟨fun j hj => by rw [hc j hj, h.cnt j hj, cU_set hE hj], fun e he => by
    rcases mem_setE hE he with ⟨rfl, h1⟩ | h1
    · exact ⟨hx.1, hx.2.1, h1, hx.2.2⟩
    · exact h.e e h1⟩
  refine ⟨hR, fun q => ?_⟩
  have hE2 : T.Srt (T.setE E p x) := srt_set hE
  have hq := getL_set hE p x q
  unfold lkV
  rw [hq]
  by_cases e : q = p
  · rw [if_pos e, if_pos e]
    split <;> rfl
  · rw [if_neg e] at hq ⊢
    rw [if_neg e]
    cases hv : T.getL E q with
    | none => rfl
    | some v =>
      rw [hv] at hq
      have e1 : whatX S' v.1 = whatX S v.1 := by
        unfold whatX
        by_cases h0 : v.1 = 0
        · rw [if_pos h0, if_pos h0]
        · rw [if_neg h0, if_neg h0]
          have a := h.w hE hv h0
          exact hg _ a.1 a.2 (hR.w hE2 hq h0).2
      have e2 : whatX S' v.2.1 = whatX S v.2.1 := by
        unfold whatX
        by_cases h0 : v.2.1 = 0
        · rw [if_pos h0, if_pos h0]
        · rw [if_neg h0, if_neg h0]
          have a := h.s hE hv h0
          exact hg _ a.1 a.2 (hR.s hE2 hq h0).2
      show some (entV S' v) = some (entV S v)
      unfold entV
      rw [e1, e2]
theorem frF_st {B : Int} {S : List En} {c id : Int} (hs : StOk B S c) (h0 : 0 ≤ id) (hp : 0 < id → 0 < cntF S id) : (∀ j, 0 < j → cntF (frF S id) j = cntF S j - i1 id j) ∧ ∀ j, 0 < cntF (frF S id) j → getX (frF S id) j = getX S j := by
  unfold frF
  by_cases h : id = 0
  · rw [if_pos h, h]
    exact ⟨fun j hj => by rw [i1_0 hj]; omega, fun _ _ => rfl⟩
  · rw [if_neg h]
    obtain ⟨f1, f2⟩ := fre_v hs (hp (by omega))
    exact ⟨fun j _ => f1 j, f2⟩
theorem agF_st {B : Int} {S : List En} {c id : Int} (hs : StOk B S c) (hB0 : 0 ≤ B) (hB : B < 4096) (h0 : 0 ≤ id) (hp : 0 < id → 0 < cntF S id) : (agF S c id).2 = id ∧ (∀ j, 0 < j → cntF (agF S c id).1.1 j = cntF S j + i1 id j) ∧ ∀ j, 0 < cntF S j → getX (agF S c id).1.1 j = getX S j := by
  unfold agF
  by_cases h : id = 0
  · rw [if_pos h, h]
    exact ⟨rfl, fun j hj => by rw [i1_0 hj]; show cntF S j = _; omega, fun _ _ => rfl⟩
  · rw [if_neg h]
    have hc := hp (by omega)
    obtain ⟨e, he⟩ := (cntF_pos hs).1 hc
    have hm : e ∈ S := List.mem_of_find?_eq_some he
    have hgx : getX S id = e.x := by unfold getX; rw [he]
    have hok : okN (getX S id) = true := by rw [hgx]; exact (hs.ok e hm).1
    have hnn : NfN (getX S id) := by rw [hgx]; exact (hs.ok e hm).2
    obtain ⟨S1, c1, id1, hk, kv⟩ := kep_v hs hB hok
    have hs1 : StOk (B + 1) S1 c1 := by have := keepF_ok hs hB0 hnn; rw [hk] at this; exact this
    rw [hk]
    dsimp only
    have k1 := kv.cnt id
    have k2 := kv.cnt id1
    have k3 := cntF_nn hs id1
    rw [if_pos rfl] at k2
    have hid : id1 = id := getX_inj hs1 (by omega) (by split at k1 <;> omega) (by rw [kv.new, kv.get id hc])
    subst hid
    exact ⟨rfl, fun j _ => kv.cnt j, kv.get⟩
def qz : Qv := ⟨false, false, false, zAt.nf, zAt.nf⟩
def lkD (E : List T.Ent) (S : List En) (q : Pf) : Qv := (lkV E S q).getD qz
theorem lkD_old (E : List T.Ent) (S : List En) (q : Pf) : lkD E S q = entV S (T.oldV E q) := by
  unfold lkD lkV T.oldV
  cases T.getL E q with
  | none => rfl
  | some v => rfl
theorem Rl.old {E : List T.Ent} {S : List En} (h : Rl E S) (hE : T.Srt E) (p : Pf) : 0 ≤ (T.oldV E p).1 ∧ 0 ≤ (T.oldV E p).2.1 ∧ ((T.oldV E p).2.2 = true → (T.oldV E p).1 ≠ 0) ∧ (0 < (T.oldV E p).1 → 0 < cntF S (T.oldV E p).1) ∧ (0 < (T.oldV E p).2.1 → 0 < cntF S (T.oldV E p).2.1) := by
  unfold T.oldV
  cases hg : T.getL E p with
  | none => exact ⟨Int.le_refl _, Int.le_refl _, fun k => Bool.noConfusion k, fun k => absurd k (Int.lt_irrefl 0), fun k => absurd k (Int.lt_irrefl 0)⟩
  | some v =>
    obtain ⟨h1, h2, _, h4⟩ := h.e _ ((T.getL_mem hE).1 hg)
    exact ⟨h1, h2, h4, fun k => (h.w hE hg (by show v.1 ≠ 0; have : 0 < v.1 := k; omega)).2, fun k => (h.s hE hg (by show v.2.1 ≠ 0; have : 0 < v.2.1 := k; omega)).2⟩
theorem op_want {B : Int} {E : List T.Ent} {S S1 : List En} {c c1 id : Int} {p : Pf} {X : Nf} (h : Rl E S) (hE : T.Srt E) (hs : StOk B S c) (hB0 : 0 ≤ B) (hX : NfN X) (hk : keepF S c X = ((S1, c1), id, 0)) (kv : KeepV S X S1 id) : Rl (T.setE E p (id, (T.oldV E p).2.1, (T.oldV E p).2.2)) (frF S1 (T.oldV E p).1) ∧ ∀ q, lkV (T.setE E p (id, (T.oldV E p).2.1, (T.oldV E p).2.2)) (frF S1 (T.oldV E p).1) q = if q = p then some ⟨true, (lkD E S p).s, (lkD E S p).a, X, (lkD E S p).y⟩ else lkV E S q := by
  have hs1 : StOk (B + 1) S1 c1 := by have := keepF_ok hs hB0 hX; rw [hk] at this; exact this
  obtain ⟨o1, o2, o3, o4, o5⟩ := h.old hE p
  have hid := kv.pos
  obtain ⟨f1, f2⟩ := frF_st hs1 o1 (fun k => by have := kv.cnt (T.oldV E p).1; have := o4 k; split at * <;> omega)
  have hz : ¬ ((id, (T.oldV E p).2.1, (T.oldV E p).2.2) : T.Vt) = T.zV := fun k => by
    have : id = 0 := congrArg Prod.fst k
    omega
  have hcnt : ∀ j, 0 < j → cntF (frF S1 (T.oldV E p).1) j = cntF S j - (i1 (T.oldV E p).1 j + i1 (T.oldV E p).2.1 j) + (i1 id j + i1 (T.oldV E p).2.1 j) := fun j hj => by
    have k1 := f1 j hj
    have k2 := kv.cnt j
    have k3 : (if j = id then (1 : Int) else 0) = i1 id j := rfl
    rw [k3] at k2
    omega
  have hget : ∀ j, 0 < j → 0 < cntF S j → 0 < cntF (frF S1 (T.oldV E p).1) j → getX (frF S1 (T.oldV E p).1) j = getX S j := fun j _ a b => by rw [f2 j b, kv.get j a]
  obtain ⟨r1, r2⟩ := rl_set (p := p) (x := (id, (T.oldV E p).2.1, (T.oldV E p).2.2)) h hE ⟨by dsimp only; omega, o2, fun _ => by dsimp only; omega⟩ hcnt hget
  refine ⟨r1, fun q => ?_⟩
  rw [r2 q, if_neg hz]
  by_cases e : q = p
  · rw [if_pos e, if_pos e, lkD_old]
    have hg2 : T.getL (T.setE E p (id, (T.oldV E p).2.1, (T.oldV E p).2.2)) p = some (id, (T.oldV E p).2.1, (T.oldV E p).2.2) := by rw [getL_set hE, if_pos rfl, if_neg hz]
    have e1 : whatX (frF S1 (T.oldV E p).1) id = X := by
      unfold whatX
      rw [if_neg (by omega), f2 id (r1.w (srt_set hE) hg2 (by dsimp only; omega)).2, kv.new]
    have e2 : whatX (frF S1 (T.oldV E p).1) (T.oldV E p).2.1 = whatX S (T.oldV E p).2.1 := by
      unfold whatX
      by_cases h0 : (T.oldV E p).2.1 = 0
      · rw [if_pos h0, if_pos h0]
      · rw [if_neg h0, if_neg h0]
        exact hget _ (by omega) (o5 (by omega)) (r1.s (srt_set hE) hg2 h0).2
    unfold entV
    dsimp only
    rw [e1, e2, decide_eq_true (show id ≠ 0 by omega)]
  · rw [if_neg e, if_neg e]
theorem op_off {B : Int} {E : List T.Ent} {S : List En} {c : Int} {p : Pf} (h : Rl E S) (hE : T.Srt E) (hs : StOk B S c) : Rl (T.setE E p (0, (T.oldV E p).2.1, false)) (frF S (T.oldV E p).1) ∧ ∀ q, lkV (T.setE E p (0, (T.oldV E p).2.1, false)) (frF S (T.oldV E p).1) q = if q = p then (if (lkD E S p).s = true then some ⟨false, true, false, zAt.nf, (lkD E S p).y⟩ else none) else lkV E S q := by
  obtain ⟨o1, o2, o3, o4, o5⟩ := h.old hE p
  obtain ⟨f1, f2⟩ := frF_st hs o1 o4
  have hcnt : ∀ j, 0 < j → cntF (frF S (T.oldV E p).1) j = cntF S j - (i1 (T.oldV E p).1 j + i1 (T.oldV E p).2.1 j) + (i1 0 j + i1 (T.oldV E p).2.1 j) := fun j hj => by
    have k1 := f1 j hj
    have k2 := i1_0 hj
    omega
  have hget : ∀ j, 0 < j → 0 < cntF S j → 0 < cntF (frF S (T.oldV E p).1) j → getX (frF S (T.oldV E p).1) j = getX S j := fun j _ _ b => f2 j b
  obtain ⟨r1, r2⟩ := rl_set (p := p) (x := (0, (T.oldV E p).2.1, false)) h hE ⟨Int.le_refl _, o2, fun k => by cases k⟩ hcnt hget
  refine ⟨r1, fun q => ?_⟩
  rw [r2 q]
  by_cases e : q = p
  · rw [if_pos e, if_pos e, lkD_old]
    by_cases h0 : (T.oldV E p).2.1 = 0
    · have hz : ((0, (T.oldV E p).2.1, false) : T.Vt) = T.zV := by rw [h0]
      rw [if_pos hz, if_neg (by unfold entV; simp [h0])]
    · have hz : ¬ ((0, (T.oldV E p).2.1, false) : T.Vt) = T.zV := fun k => h0 (congrArg (fun z : T.Vt => z.2.1) k)
      rw [if_neg hz, if_pos (by unfold entV; simp [h0])]
      have hg2 : T.getL (T.setE E p (0, (T.oldV E p).2.1, false)) p = some (0, (T.oldV E p).2.1, false) := by rw [getL_set hE, if_pos rfl, if_neg hz]
      have e2 : whatX (frF S (T.oldV E p).1) (T.oldV E p).2.1 = whatX S (T.oldV E p).2.1 := by
        unfold whatX
        rw [if_neg h0, if_neg h0]
        exact hget _ (by omega) (o5 (by omega)) (r1.s (srt_set hE) hg2 h0).2
      unfold entV
      dsimp only
      rw [e2, decide_eq_true h0]
      rfl
  · rw [if_neg e, if_neg e]
def tkQ (o : Qv) : Option Qv := if o.w = true then some ⟨true, true, false, o.x, o.x⟩ else none
theorem op_take {B : Int} {E : List T.Ent} {S : List En} {c : Int} {p : Pf} {v : T.Vt} (h : Rl E S) (hE : T.Srt E) (hs : StOk B S c) (hB0 : 0 ≤ B) (hB : B < 4096) (hg : T.getL E p = some v) : Rl (tkStep ⟨E, S, c⟩ (p, v)).E (tkStep ⟨E, S, c⟩ (p, v)).S ∧ ∀ q, lkV (tkStep ⟨E, S, c⟩ (p, v)).E (tkStep ⟨E, S, c⟩ (p, v)).S q = if q = p then tkQ (entV S v) else lkV E S q := by
  have ho : T.oldV E p = v := by unfold T.oldV; rw [hg]; rfl
  obtain ⟨o1, o2, o3, o4, o5⟩ := h.old hE p
  rw [ho] at o1 o2 o3 o4 o5
  obtain ⟨f1, f2⟩ := frF_st hs o2 o5
  have hw : 0 < v.1 → 0 < cntF (frF S v.2.1) v.1 := fun k => by
    have k1 := f1 v.1 k
    have k2 := h.cnt v.1 k
    have k3 := cU_w hE hg
    by_cases e : v.1 = v.2.1
    · have k4 := cU_ws hE hg e
      have k5 := (i1_01 v.2.1 v.1).2
      omega
    · have k6 : i1 v.2.1 v.1 = 0 := by unfold i1; rw [if_neg e]
      omega
  obtain ⟨g0, g1, g2⟩ := agF_st (frF_ok hs) hB0 hB o1 hw
  have hE' : (tkStep ⟨E, S, c⟩ (p, v)).E = T.setE E p (v.1, v.1, false) := by
    show T.setE E p (v.1, (agF (frF S v.2.1) c v.1).2, false) = _
    rw [g0]
  have hS' : (tkStep ⟨E, S, c⟩ (p, v)).S = (agF (frF S v.2.1) c v.1).1.1 := rfl
  rw [hE', hS']
  have hcnt : ∀ j, 0 < j → cntF (agF (frF S v.2.1) c v.1).1.1 j = cntF S j - (i1 (T.oldV E p).1 j + i1 (T.oldV E p).2.1 j) + (i1 v.1 j + i1 v.1 j) := fun j hj => by
    have k1 := f1 j hj
    have k2 := g1 j hj
    rw [ho]
    omega
  have hget : ∀ j, 0 < j → 0 < cntF S j → 0 < cntF (agF (frF S v.2.1) c v.1).1.1 j → getX (agF (frF S v.2.1) c v.1).1.1 j = getX S j := fun j hj a b => by
    by_cases hz : 0 < cntF (frF S v.2.1) j
    · rw [g2 j hz, f2 j hz]
    · have k1 := g1 j hj
      have k2 := i1_01 v.1 j
      have k3 : j = v.1 := Decidable.byContradiction fun k => by
        have : i1 v.1 j = 0 := by unfold i1; rw [if_neg k]
        omega
      exact absurd (k3 ▸ hw (k3 ▸ hj)) hz
  obtain ⟨r1, r2⟩ := rl_set (p := p) (x := (v.1, v.1, false)) h hE ⟨o1, o1, fun k => by cases k⟩ hcnt hget
  refine ⟨r1, fun q => ?_⟩
  rw [r2 q]
  by_cases e : q = p
  · rw [if_pos e, if_pos e]
    unfold tkQ
    by_cases h0 : v.1 = 0
    · have hz : ((v.1, v.1, false) : T.Vt) = T.zV := by rw [h0]
      rw [if_pos hz, if_neg (by unfold entV; simp [h0])]
    · have hz : ¬ ((v.1, v.1, false) : T.Vt) = T.zV := fun k => h0 (congrArg (fun z : T.Vt => z.1) k)
      rw [if_neg hz, if_pos (by unfold entV; simp [h0])]
      have hg2 : T.getL (T.setE E p (v.1, v.1, false)) p = some (v.1, v.1, false) := by rw [getL_set hE, if_pos rfl, if_neg hz]
      have e2 : whatX (agF (frF S v.2.1) c v.1).1.1 v.1 = whatX S v.1 := by
        unfold whatX
        rw [if_neg h0, if_neg h0]
        have a := h.w hE hg h0
        exact hget _ a.1 a.2 (r1.w (srt_set hE) hg2 h0).2
      unfold entV
      dsimp only
      rw [e2, decide_eq_true h0]
  · rw [if_neg e, if_neg e]
theorem op_again {E : List T.Ent} {S : List En} {p : Pf} {v : T.Vt} (h : Rl E S) (hE : T.Srt E) (hg : T.getL E p = some v) (hw : v.1 ≠ 0) : Rl (T.setE E p (v.1, v.2.1, true)) S ∧ ∀ q, lkV (T.setE E p (v.1, v.2.1, true)) S q = if q = p then some ⟨true, (entV S v).s, true, (entV S v).x, (entV S v).y⟩ else lkV E S q := by
  have ho : T.oldV E p = v := by unfold T.oldV; rw [hg]; rfl
  obtain ⟨o1, o2, o3, o4, o5⟩ := h.old hE p
  rw [ho] at o1 o2 o3 o4 o5
  obtain ⟨r1, r2⟩ := rl_set (p := p) (x := (v.1, v.2.1, true)) (S' := S) h hE ⟨o1, o2, fun _ => hw⟩ (fun j hj => by rw [ho]; dsimp only; omega) (fun _ _ _ _ => rfl)
  have hz : ¬ ((v.1, v.2.1, true) : T.Vt) = T.zV := fun k => hw (congrArg (fun z : T.Vt => z.1) k)
  refine ⟨r1, fun q => ?_⟩
  rw [r2 q, if_neg hz]
  by_cases e : q = p
  · rw [if_pos e, if_pos e]
    unfold entV
    dsimp only
    rw [decide_eq_true hw]
  · rw [if_neg e, if_neg e]
theorem op_reset {B : Int} {E : List T.Ent} {S : List En} {c : Int} {p : Pf} {v : T.Vt} (h : Rl E S) (hE : T.Srt E) (hs : StOk B S c) (hg : T.getL E p = some v) : Rl (T.setE E p T.zV) (frF (frF S v.1) v.2.1) ∧ ∀ q, lkV (T.setE E p T.zV) (frF (frF S v.1) v.2.1) q = if q = p then none else lkV E S q := by
  have ho : T.oldV E p = v := by unfold T.oldV; rw [hg]; rfl
  obtain ⟨o1, o2, o3, o4, o5⟩ := h.old hE p
  rw [ho] at o1 o2 o3 o4 o5
  obtain ⟨f1, f2⟩ := frF_st hs o1 o4
  obtain ⟨g1, g2⟩ := frF_st (frF_ok (id := v.1) hs) o2 (fun k => by
    have k1 := f1 v.2.1 k
    have k2 := h.cnt v.2.1 k
    have k3 := cU_s hE hg
    by_cases e : v.1 = v.2.1
    · have k4 := cU_ws hE hg e
      rw [e] at k4
      have k5 := (i1_01 v.1 v.2.1).2
      omega
    · have k6 : i1 v.1 v.2.1 = 0 := by unfold i1; rw [if_neg (fun k => e k.symm)]
      omega)
  obtain ⟨r1, r2⟩ := rl_set (p := p) (x := T.zV) (S' := frF (frF S v.1) v.2.1) h hE ⟨Int.le_refl _, Int.le_refl _, fun k => by cases k⟩ (fun j hj => by
    have k0 := i1_0 hj
    rw [ho, g1 j hj, f1 j hj]
    show _ = _ + (i1 0 j + i1 0 j)
    omega) (fun j hj _ b => by
    rw [g2 j b]
    refine f2 j ?_
    have k1 := g1 j hj
    have k2 := (i1_01 v.2.1 j).1
    omega)
  refine ⟨r1, fun q => ?_⟩
  rw [r2 q, if_pos rfl]
end Go.Proofs.YtdnokmpnemaoaaaGreat
