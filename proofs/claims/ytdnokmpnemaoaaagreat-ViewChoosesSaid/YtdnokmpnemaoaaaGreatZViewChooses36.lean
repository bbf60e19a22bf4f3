/-
  Vw8, Ru16, Vc4, Jy: merged.
-/
import Derived.Test.YtdnokmpnemaoaaaGreatZViewChooses35
import Derived.Maps.RangeRun
namespace Go.Proofs.YtdnokmpnemaoaaaGreat
set_option linter.unusedSimpArgs false
set_option linter.unusedVariables false
set_option maxRecDepth 20000
set_option maxHeartbeats 4000000
open Go.RowKit Go.Pm
theorem zd11Vw8 {p q : Prop} (k : p) (h : p → q := by intro hk; first | exact J_draw (id := 5) [0, 1, 2] [3, 4] mixed xC xD xD hk | exact J_draw (id := 9) [0, 1, 2, 3, 4, 5, 6, 7, 8, 9, 10, 11, 12, 13, 14, 15, 16, 17, 18, 19, 20, 21, 22, 23, 24, 25, 26] [27, 28, 29, 30, 31, 32, 33, 34, 35, 36, 37, 38, 39, 40, 41, 42, 43, 44, 45, 46, 47, 48, 49, 50] mixed xC xD xD hk | fail) : q := h k

def oneAt (n : Int) : At := ⟨0, none, 0, [], 1, true, n, false, 0, false, false, 0, 0, none, 0, [], none, 0, []⟩
theorem oneAt_f (n : Int) (hn : U32 n) : AtF (oneAt n) := by
  have z : U32 0 := ⟨by omega, by omega⟩
  refine ⟨⟨⟨by simp [oneAt], by simp [oneAt]⟩, ⟨by simp [oneAt], by simp [oneAt]⟩, hn, z, z, z, ?_, ?_, ?_⟩, by simp [oneAt], by simp [oneAt], by simp [oneAt]⟩
  all_goals (intro s hs; exact absurd hs List.not_mem_nil)
theorem oneAt_v (n : Int) (w : World) : AtV w (oneAt n) := ⟨⟨Vw.nil w 2, fun _ h => absurd h List.not_mem_nil⟩, Vw.nil w 1, Vw.nil w 2, fun _ h => absurd h List.not_mem_nil⟩
theorem oneAt_ok (n : Int) : okN (oneAt n).nf = true := okN_t (by simp [oneAt]) rfl (by simp [oneAt]) (by simp [oneAt]) (by simp [oneAt]) (by simp [oneAt]) rfl
abbrev oneC (n : Int) : List Value := [.int .i64 0, .slice none 0 0, .int .u32 1, .bool true, .int .u32 n, .bool false, .int .u32 0, .bool false, .bool false, .int .u32 0, .int .u32 0, .slice none 0 0, .slice none 0 0]
theorem one_s (n : Int) (hn : U32 n) : Pact Tryz.prog 29 #[.int .i64 n] (fun _ => True) [] (ret0 (.agg (atC (oneAt n)).toArray)) := by
  refine pact Tryz.func29 rfl Tryz.ntmps29 rfl ?_
  intro W K _
  obtain ⟨h0, h1⟩ := hn
  (repeat' (first | (refine gL ?_; first | refine yL0 ?_ | refine yL ?_ | (refine yM ?_; intro _)) | refine yJ ?_ | fail))
  exact J_retC (cs := oneC n) rfl (by rfl) xA (by rfl) fun w H => ⟨_, ⟨rfl, rfl⟩, H.sel .nil⟩
theorem k1 : keepF [] 0 (oneAt 1).nf = (([⟨1, 1, (oneAt 1).nf⟩], 1), 1, 0) := by
  unfold keepF fndX; rw [oneAt_ok]; rfl
theorem k2 : keepF [⟨1, 1, (oneAt 1).nf⟩] 1 (oneAt 1).nf = (([⟨1, 2, (oneAt 1).nf⟩], 1), 1, 0) := by
  unfold keepF fndX; rw [oneAt_ok]; simp
theorem st1 : StOk 1 [⟨1, 1, (oneAt 1).nf⟩] 1 := by
  have := keepF_ok stok_nil (by omega) (At.nfN (oneAt_f 1 ⟨by omega, by omega⟩).num)
  rw [k1] at this
  exact this
theorem st2 : StOk 2 [⟨1, 2, (oneAt 1).nf⟩] 1 := by
  have := keepF_ok st1 (by omega) (At.nfN (oneAt_f 1 ⟨by omega, by omega⟩).num)
  rw [k2] at this
  exact this
abbrev pX : T.Pf := (167772160, 8)
theorem pX_n : T.PfN pX := by unfold T.PfN T.U32 T.I64; decide
theorem pX_r : T.Rt pX := by decide +kernel
theorem take_one {σ : Vs} {p : T.Pf} {o : T.Vt} (hE : σ.E = [(p, o)]) (hl : lateE o = true) {pre : List T.Ent} (h : TakeOk σ 9 pre) : pre = [(p, o)] := by
  have hk : T.keysE σ.E = [p] := by rw [hE]; rfl
  rcases h with ⟨h, _⟩ | ⟨⟨k, h⟩, h9⟩
  · rw [h, hk]
    have e : T.oldV (tkE σ []) p = o := by
      show T.oldV σ.E p = o
      rw [hE]
      unfold T.oldV
      rw [T.getL_cons_eq rfl]
      rfl
    simp only [thoseL, e, hl, if_true, List.nil_append]
  · exfalso
    have h1 := thoseL_len (tkE σ) lateE ((T.keysE σ.E).take k) []
    rw [← h] at h1
    rw [hk, List.length_take] at h1
    simp only [List.length_cons, List.length_nil] at h1
    omega
theorem take_e (B : Int) (hB0 : 0 ≤ B) (hB : B ≤ 1000000) (vb sp tb : Nat) (E E' : List T.Ent) (S S' : List En) (c c' : Int) (p : T.Pf) (o : T.Vt) (hE : E = [(p, o)]) (hl : lateE o = true) (hs : StOk B S c) (x : Nf) (b : Bool) (hx : whatX S o.1 = x) (hb : whatB S o.1 = b) (ht : tkStep ⟨E, S, c⟩ (p, o) = ⟨E', S', c'⟩) : Pact Tryz.prog 31 #[.pointer (some ⟨vb, 0, none⟩), .int .i64 9] (fun _ => True) (vsL vb sp tb E S c)
    (fun u L' => ∃ (a : Option Addr) (cc : Nat) (d : At), (AtF d ∧ d.nf = x) ∧ u = .slice a 1 cc ∧ L' = [pts vb (vwC (sA sp) tb (dueI E') (wntI E')) 98, T.trA tb E', stoA sp S' c', Ar 85 16 chC (.slice a 1 cc) [⟨p, d, b⟩], has (fun w => AtV w d)]) := by
  have k := vtake_s B hB0 hB vb sp tb ⟨E, S, c⟩ 9 (by omega) hs (by show E.length ≤ 1000; rw [hE]; simp)
  intro W K w hK H
  refine (k W K w hK H).mono fun e w' h => ?_
  obtain ⟨u, L', ⟨pre, hpre, a, cc, l, ⟨h1, h2⟩, rfl, rfl⟩, h5, h6⟩ := h
  obtain rfl := take_one hE hl hpre
  have e1 : tkF ⟨E, S, c⟩ [(p, o)] = ⟨E', S', c'⟩ := ht
  rw [e1] at h6
  have e2 : chL ⟨E, S, c⟩ [(p, o)] = [(p, x, b)] := by
    show [(p, whatX S o.1, whatB S o.1)] = _
    rw [hx, hb]
  rw [e2] at h1
  cases l with
  | nil => cases h1
  | cons y l =>
    cases l with
    | cons _ _ => cases h1
    | nil =>
      obtain ⟨p', d, b'⟩ := y
      simp only [List.map_cons, List.map_nil, chN, List.cons.injEq, Prod.mk.injEq, and_true] at h1
      obtain ⟨rfl, h3, rfl⟩ := h1
      refine ⟨_, _, ⟨a, cc, d, ⟨h2 (Ch.mk p' d b') (List.mem_singleton.2 rfl), h3⟩, rfl, rfl⟩, h5, ?_⟩
      exact (Ow.has (M := [has (fun w => ∀ x ∈ [Ch.mk p' d b'], AtV w x.d)]) (φ := fun w => AtV w d) h6 xZ (fun w hr => hr.has .here (Ch.mk p' d b') (List.mem_singleton.2 rfl))).sel xZ
theorem ts1 : tkStep ⟨[(pX, (1, 0, false))], [⟨1, 1, (oneAt 1).nf⟩], 1⟩ (pX, (1, 0, false)) = ⟨[(pX, (1, 1, false))], [⟨1, 2, (oneAt 1).nf⟩], 1⟩ := by
  have e : agF [⟨1, 1, (oneAt 1).nf⟩] 1 1 = (([⟨1, 2, (oneAt 1).nf⟩], 1), 1) := by
    unfold agF
    rw [if_neg (by decide)]
    have : getX [⟨1, 1, (oneAt 1).nf⟩] 1 = (oneAt 1).nf := rfl
    rw [this, k2]
  unfold tkStep
  have e0 : frF [⟨1, 1, (oneAt 1).nf⟩] (pX, ((1 : Int), (0 : Int), false)).2.2.1 = [⟨1, 1, (oneAt 1).nf⟩] := rfl
  rw [e0, e]
  rfl
theorem ts2 : tkStep ⟨[(pX, (0, 1, false))], [⟨1, 1, (oneAt 1).nf⟩], 1⟩ (pX, (0, 1, false)) = ⟨[], [], 1⟩ := by
  unfold tkStep
  have e0 : frF [⟨1, 1, (oneAt 1).nf⟩] (pX, ((0 : Int), (1 : Int), false)).2.2.1 = [] := rfl
  rw [e0]
  rfl
theorem works_s : Pact Tryz.prog 11 #[] (fun _ => True) [] (ret0 (.bool true)) := by
  refine pact (args := []) Tryz.func11 rfl Tryz.ntmps11 rfl ?_
  intro W K _
  have u1 : U32 1 := ⟨by omega, by omega⟩
  (repeat' (first | (refine gL ?_; first | (with_reducible apply gL_app) | (with_reducible apply gL_app0) | refine yL0 ?_ | refine yL ?_ | (refine gL_go ?_; first | (refine JL_goq (new_s) (hφ := xF) (h := ?_); rintro _ _ ⟨sp, rfl, rfl⟩; try simp only [cAp, nAp]) | (refine JL_goq (vnew_s sp) (hφ := xF) (h := ?_); rintro _ _ ⟨vb, tb, rfl, rfl⟩; try simp only [cAp, nAp])) | (refine yM ?_; intro _)) | (refine gD ?_; first | (refine yN ?_; try simp only [cAp, nAp]) | (with_reducible apply gD_app) | (with_reducible apply gD_app0) | refine yD0 ?_ | refine yD ?_ | (refine gD_go ?_; first | (refine JD_goq (new_s) (hφ := xF) (h := ?_); rintro _ _ ⟨sp, rfl, rfl⟩; try simp only [cAp, nAp]) | (refine JD_goq (vnew_s sp) (hφ := xF) (h := ?_); rintro _ _ ⟨vb, tb, rfl, rfl⟩; try simp only [cAp, nAp]))) | refine yJ ?_ | refine zd11Vw8 ?_ | (refine yI ?_ ?_ <;> intro _ <;> try exact xX) | (refine yK ?_ ?_ <;> intro hgb <;> first | subst hgb | fail_if_success have : type_of% hgb := rfl) | fail))
  have kw := want_s 0 (by omega) (by omega) vb sp tb [] [] [⟨1, 1, (oneAt 1).nf⟩] [⟨1, 1, (oneAt 1).nf⟩] 0 1 1 pX T.zV (oneAt 1) (oneAt_f 1 u1) pX_n pX_r (oneAt_ok 1) rfl ⟨.nil, fun _ h => absurd h List.not_mem_nil⟩ (by decide) stok_nil k1 st1 ⟨by omega, by omega⟩ zV_n rfl
  have e1 : T.setE [] pX (1, T.zV.2.1, T.zV.2.2) = [(pX, (1, 0, false))] := rfl
  rw [e1] at kw
  have kt := take_e 1 (by omega) (by omega) vb sp tb _ _ _ _ _ _ pX (1, 0, false) rfl rfl st1 _ true rfl rfl ts1
  have e2 : T.EOk [(pX, ((1 : Int), (1 : Int), false))] := ⟨List.pairwise_singleton _ _, fun x hx => by
    obtain rfl := List.mem_singleton.1 hx
    exact ⟨pX_r, pX_n, by unfold T.VN T.I64; decide⟩⟩
  have kx := wantoff_s 2 (by omega) vb sp tb [(pX, (1, 1, false))] [⟨1, 2, (oneAt 1).nf⟩] [⟨1, 1, (oneAt 1).nf⟩] 1 pX (1, 1, false) zAt pX_n pX_r rfl e2 (by decide) st2 rfl
  have e3 : T.setE [(pX, ((1 : Int), (1 : Int), false))] pX (0, ((1 : Int), (1 : Int), false).2.1, false) = [(pX, (0, 1, false))] := rfl
  rw [e3] at kx
  have kt2 := take_e 1 (by omega) (by omega) vb sp tb _ _ _ _ _ _ pX (0, 1, false) rfl rfl st1 _ false rfl rfl ts2
  (repeat' (first | (refine gL ?_; first | (with_reducible apply gL_app) | (with_reducible apply gL_app0) | refine yL0 ?_ | refine yL ?_ | (refine gL_go ?_; first | (refine JL_goq (one_s 1 u1) (hφ := xF) (h := ?_); rintro _ _ ⟨rfl, rfl⟩; try simp only [cAp, nAp]) | (refine JL_goq (kw) (hφ := (by (try simp only [cAp, nAp]); exact fun w _ => oneAt_v 1 w)) (h := ?_); rintro _ _ ⟨rfl, rfl⟩; try simp only [cAp, nAp]) | (refine JL_goq (due_s vb (sA sp) tb [(pX, (1, 0, false))]) (hφ := xF) (h := ?_); rintro _ _ ⟨rfl, rfl⟩; try simp only [cAp, nAp]) | (refine JL_goq (kt) (hφ := xF) (h := ?_); rintro _ _ ⟨a, cc, d, hd, rfl, rfl⟩; try simp only [cAp, nAp]) | (refine JL_goq (kx) (hφ := xF) (h := ?_); rintro _ _ ⟨rfl, rfl⟩; try simp only [cAp, nAp]) | (refine JL_goq (due_s vb (sA sp) tb [(pX, (0, 1, false))]) (hφ := xF) (h := ?_); rintro _ _ ⟨rfl, rfl⟩; try simp only [cAp, nAp]) | (refine JL_goq (kt2) (hφ := xF) (h := ?_); rintro _ _ ⟨a2, cc2, d2, hd2, rfl, rfl⟩; try simp only [cAp, nAp])) | (refine yM ?_; intro _)) | (refine gD ?_; first | (refine yN ?_; try simp only [cAp, nAp]) | (with_reducible apply gD_app) | (with_reducible apply gD_app0) | refine yD0 ?_ | refine yD ?_ | (refine gD_go ?_; first | (refine JD_goq (one_s 1 u1) (hφ := xF) (h := ?_); rintro _ _ ⟨rfl, rfl⟩; try simp only [cAp, nAp]) | (refine JD_goq (kw) (hφ := (by (try simp only [cAp, nAp]); exact fun w _ => oneAt_v 1 w)) (h := ?_); rintro _ _ ⟨rfl, rfl⟩; try simp only [cAp, nAp]) | (refine JD_goq (due_s vb (sA sp) tb [(pX, (1, 0, false))]) (hφ := xF) (h := ?_); rintro _ _ ⟨rfl, rfl⟩; try simp only [cAp, nAp]) | (refine JD_goq (kt) (hφ := xF) (h := ?_); rintro _ _ ⟨a, cc, d, hd, rfl, rfl⟩; try simp only [cAp, nAp]) | (refine JD_goq (kx) (hφ := xF) (h := ?_); rintro _ _ ⟨rfl, rfl⟩; try simp only [cAp, nAp]) | (refine JD_goq (due_s vb (sA sp) tb [(pX, (0, 1, false))]) (hφ := xF) (h := ?_); rintro _ _ ⟨rfl, rfl⟩; try simp only [cAp, nAp]) | (refine JD_goq (kt2) (hφ := xF) (h := ?_); rintro _ _ ⟨a2, cc2, d2, hd2, rfl, rfl⟩; try simp only [cAp, nAp]))) | refine yJ ?_ | refine zd11Vw8 ?_ | (refine yI ?_ ?_ <;> intro _ <;> try exact xX) | (refine yK ?_ ?_ <;> intro hgb <;> first | subst hgb | fail_if_success have : type_of% hgb := rfl) | fail))
  have f0 : [Ch.mk pX d true][0]? = some (Ch.mk pX d true) := rfl
  have f1 : [Ch.mk pX d2 false][0]? = some (Ch.mk pX d2 false) := rfl
  (repeat' (first | (refine gL ?_; first | (with_reducible apply gL_app) | (with_reducible apply gL_app0) | refine yL0 ?_ | refine yL ?_ | (refine gL_go ?_; (refine JL_goq (due_s vb (sA sp) tb []) (hφ := xF) (h := ?_); rintro _ _ ⟨rfl, rfl⟩; try simp only [cAp, nAp])) | (refine yM ?_; intro _)) | (refine gD ?_; first | (refine yN ?_; try simp only [cAp, nAp]) | (with_reducible apply gD_app) | (with_reducible apply gD_app0) | refine yD0 ?_ | refine yD ?_ | (refine gD_go ?_; (refine JD_goq (due_s vb (sA sp) tb []) (hφ := xF) (h := ?_); rintro _ _ ⟨rfl, rfl⟩; try simp only [cAp, nAp]))) | refine yJ ?_ | refine zd11Vw8 ?_ | (refine yI ?_ ?_ <;> intro _ <;> try exact xX) | (refine yK ?_ ?_ <;> intro hgb <;> first | subst hgb | fail_if_success have : type_of% hgb := rfl) | fail))
  exact J_ret1 rfl (by rfl) fun w H => ⟨_, ⟨rfl, rfl⟩, H.sel .nil⟩
end Go.Proofs.YtdnokmpnemaoaaaGreat
namespace Go.Proofs.YtdnokmpnemaoaaaGreat.C
set_option linter.unusedSimpArgs false
set_option linter.unusedVariables false
set_option maxRecDepth 20000
set_option maxHeartbeats 4000000
open Go.RowKit Go.Pm

theorem rwithin_s (p q : Pf) (hp : PfN p) (hq : PfN q) : Pact Tryz.prog 96 #[.agg (pfC p).toArray, .agg (pfC q).toArray] (fun _ => True) [] (ret0 (.bool (decide (Wi p q)))) := by
  refine pact Tryz.func96 rfl Tryz.ntmps96 rfl ?_
  intro W K _
  have h1 := hp.1
  have h2 := hq.1
  unfold U32 at h1 h2
  have hpos := pw_pos p.2
  have d1 : p.1 / pw p.2 ≤ p.1 := Int.ediv_le_self _ h1.1
  have d2 : q.1 / pw p.2 ≤ q.1 := Int.ediv_le_self _ h2.1
  have d3 : 0 ≤ p.1 / pw p.2 := Int.ediv_nonneg h1.1 (by omega)
  have d4 : 0 ≤ q.1 / pw p.2 := Int.ediv_nonneg h2.1 (by omega)
  (repeat' (first | (refine gL ?_; first | refine yL0 ?_ | refine yL ?_ | (refine yM ?_; intro _)) | (refine gD ?_; first | (refine yN ?_; try simp only [cAp, nAp]) | refine yD0 ?_ | refine yD ?_ | (refine gD_go ?_; first | (refine JD_goq (rright_s p hp) (hφ := xF) (h := ?_); rintro _ _ ⟨rfl, rfl⟩; try simp only [cAp, nAp]) | (refine JD_goq (rright_s q hq) (hφ := xF) (h := ?_); rintro _ _ ⟨rfl, rfl⟩; try simp only [cAp, nAp]) | (refine JD_goq (size_s p.2 (show Rt p from by assumption).1 (show Rt p from by assumption).2.1) (hφ := xF) (h := ?_); rintro _ _ ⟨rfl, rfl⟩; try simp only [cAp, nAp]))) | refine yJ ?_ | refine J_draw (id := 1) [0] [1, 2, 3, 4, 5, 6, 7, 8, 9, 10, 11, 12, 13, 14, 15, 16, 17, 18, 21, 22, 23, 24, 25, 19, 20, 26, 27, 28, 29, 30] mixed xC xD xD ?_ | (refine yI ?_ ?_ <;> intro _ <;> try exact xX) | (refine yK ?_ ?_ <;> intro hgb <;> first | subst hgb | fail_if_success have : type_of% hgb := rfl) | fail))
  all_goals (refine J_ret1 rfl (by rfl) fun w H => ⟨[], ⟨?_, rfl⟩, H.sel .nil⟩)
  all_goals congr 1
  · rename_i h1 h2 h3
    simp [Wi, h1, h2, h3]
  · rename_i h1 h2 h3
    simp [Wi, h1, h2, h3]
  · rename_i h1 h2
    simp [Wi, h1, h2]
  · rename_i h1
    simp [Wi, h1]
theorem rfirst_s (a : Option Addr) (c : Nat) (p : List Sg) (h8 : p.length ≤ 1000) (hsm : ∀ s ∈ p, SgN s) : Pact Tryz.prog 97 #[.slice a p.length c] (fun w => PathV w a c p) [] (ret0 (.tuple #[.int .u32 ((firstN (pN p)).getD 0), .bool (firstN (pN p)).isSome])) := by
  refine pact Tryz.func97 rfl Tryz.ntmps97 rfl ?_
  intro W K hK
  have hv : Kn K (fun w => Vw w (.slice a p.length c) 2 p.length (flat sgC p)) := hK.imp fun _ h => h.vw
  cases p with
  | nil =>
    (repeat' (first | (refine gL ?_; first | refine yL0 ?_ | refine yL ?_) | refine yJ ?_ | (refine yI ?_ ?_ <;> intro _ <;> try exact xX) | (refine yK ?_ ?_ <;> intro hgb <;> first | subst hgb | fail_if_success have : type_of% hgb := rfl) | fail))
    refine J_ret2 rfl (by rfl) (by rfl) fun w H => ⟨[], ⟨rfl, rfl⟩, H.sel .nil⟩
  | cons s p =>
    have hs : (s :: p)[0]? = some s := rfl
    have hlen : (s :: p).length = p.length + 1 := rfl
    have hsn1 := (hsm s (by simp)).1
    have hu : Kn K (fun w => Vw w (.slice s.a s.as_.length s.c) 1 s.as_.length (flat u32C s.as_)) := hK.imp fun _ h => h.segs s (by simp)
    have hf : firstN (pN (s :: p)) = if s.set then none else s.as_.head? := by
      obtain ⟨st, sa, sc, l⟩ := s
      cases st <;> cases l <;> rfl
    rw [hf]
    rcases hset : s.set with _ | _
    · by_cases hl0 : s.as_ = []
      · have hle : s.as_.length = 0 := by rw [hl0]; rfl
        (repeat' (first | (refine gL ?_; first | refine yL0 ?_ | refine yL ?_) | refine yJ ?_ | (refine yI ?_ ?_ <;> intro _ <;> try exact xX) | (refine yK ?_ ?_ <;> intro hgb <;> first | subst hgb | fail_if_success have : type_of% hgb := rfl) | fail))
        all_goals (first | (exfalso; omega) | (exfalso; simp_all; done) | skip)
        all_goals (refine J_ret2 rfl (by rfl) (by rfl) fun w H => ⟨[], ⟨?_, rfl⟩, H.sel .nil⟩; rw [hl0]; rfl)
      · obtain ⟨z, l, hzl⟩ := List.exists_cons_of_ne_nil hl0
        have hz : s.as_[0]? = some z := by rw [hzl]; rfl
        have hal := List.length_pos_iff.2 hl0
        (repeat' (first | (refine gL ?_; first | refine yL0 ?_ | refine yL ?_) | refine yJ ?_ | (refine yI ?_ ?_ <;> intro _ <;> try exact xX) | (refine yK ?_ ?_ <;> intro hgb <;> first | subst hgb | fail_if_success have : type_of% hgb := rfl) | fail))
        all_goals (first | (exfalso; omega) | (exfalso; simp_all; done) | skip)
        all_goals (refine J_ret2 rfl (by rfl) (by rfl) fun w H => ⟨[], ⟨?_, rfl⟩, H.sel .nil⟩; rw [hzl]; rfl)
    · (repeat' (first | (refine gL ?_; first | refine yL0 ?_ | refine yL ?_) | refine yJ ?_ | (refine yI ?_ ?_ <;> intro _ <;> try exact xX) | (refine yK ?_ ?_ <;> intro hgb <;> first | subst hgb | fail_if_success have : type_of% hgb := rfl) | fail))
      all_goals (first | (exfalso; omega) | (exfalso; simp_all; done) | skip)
      all_goals exact J_ret2 rfl (by rfl) (by rfl) fun w H => ⟨[], ⟨rfl, rfl⟩, H.sel .nil⟩
theorem rorigin_s (a : Option Addr) (c : Nat) (p : List Sg) (h8 : p.length ≤ 1000) (hsm : ∀ s ∈ p, SgN s) : Pact Tryz.prog 98 #[.slice a p.length c] (fun w => PathV w a c p) [] (ret0 (.tuple #[.int .u32 ((originN (pN p)).getD 0), .bool (originN (pN p)).isSome])) := by
  refine pact Tryz.func98 rfl Tryz.ntmps98 rfl ?_
  intro W K hK
  have hv : Kn K (fun w => Vw w (.slice a p.length c) 2 p.length (flat sgC p)) := hK.imp fun _ h => h.vw
  by_cases h0 : p = []
  · subst h0
    (repeat' (first | (refine gL ?_; first | refine yL0 ?_ | refine yL ?_) | refine yJ ?_ | (refine yI ?_ ?_ <;> intro _ <;> try exact xX) | (refine yK ?_ ?_ <;> intro hgb <;> first | subst hgb | fail_if_success have : type_of% hgb := rfl) | fail))
    refine J_ret2 rfl (by rfl) (by rfl) fun w H => ⟨[], ⟨rfl, rfl⟩, H.sel .nil⟩
  · have hpl := List.length_pos_iff.2 h0
    obtain ⟨s, hs, hs2⟩ := last_get h0
    have ho := originN_last hs2
    have hm := List.mem_of_getElem? hs
    have hsn1 := (hsm s hm).1
    have hu : Kn K (fun w => Vw w (.slice s.a s.as_.length s.c) 1 s.as_.length (flat u32C s.as_)) := hK.imp fun _ h => h.segs s hm
    rw [ho]
    rcases hset : s.set with _ | _
    · by_cases hl0 : s.as_ = []
      · have hle : s.as_.length = 0 := by rw [hl0]; rfl
        (repeat' (first | (refine gL ?_; first | refine yL0 ?_ | refine yL ?_) | refine yJ ?_ | (refine yI ?_ ?_ <;> intro _ <;> try exact xX) | (refine yK ?_ ?_ <;> intro hgb <;> first | subst hgb | fail_if_success have : type_of% hgb := rfl) | fail))
        all_goals (first | (exfalso; omega) | (exfalso; simp_all; done) | skip)
        all_goals (refine J_ret2 rfl (by rfl) (by rfl) fun w H => ⟨[], ⟨?_, rfl⟩, H.sel .nil⟩; rw [hl0]; rfl)
      · have hal := List.length_pos_iff.2 hl0
        obtain ⟨z, hz, hz2⟩ := last_get hl0
        (repeat' (first | (refine gL ?_; first | refine yL0 ?_ | refine yL ?_) | refine yJ ?_ | (refine yI ?_ ?_ <;> intro _ <;> try exact xX) | (refine yK ?_ ?_ <;> intro hgb <;> first | subst hgb | fail_if_success have : type_of% hgb := rfl) | fail))
        all_goals (first | (exfalso; omega) | (exfalso; simp_all; done) | skip)
        all_goals (refine J_ret2 rfl (by rfl) (by rfl) fun w H => ⟨[], ⟨?_, rfl⟩, H.sel .nil⟩; rw [hz2]; rfl)
    · (repeat' (first | (refine gL ?_; first | refine yL0 ?_ | refine yL ?_) | refine yJ ?_ | (refine yI ?_ ?_ <;> intro _ <;> try exact xX) | (refine yK ?_ ?_ <;> intro hgb <;> first | subst hgb | fail_if_success have : type_of% hgb := rfl) | fail))
      all_goals (first | (exfalso; omega) | (exfalso; simp_all; done) | skip)
      all_goals exact J_ret2 rfl (by rfl) (by rfl) fun w H => ⟨[], ⟨rfl, rfl⟩, H.sel .nil⟩
theorem rhas_s (a : Option Addr) (c : Nat) (p : List Sg) (n : Int) (h8 : p.length ≤ 1000) (hsm : ∀ s ∈ p, SgN s) : Pact Tryz.prog 12 #[.slice a p.length c, .int .u32 n] (fun w => PathV w a c p) [] (ret0 (.bool (hasN (pN p) n))) := by
  refine pact Tryz.func12 rfl Tryz.ntmps12 rfl ?_
  intro W K hK
  have hv : Kn K (fun w => Vw w (.slice a p.length c) 2 p.length (flat sgC p)) := hK.imp fun _ h => h.vw
  rw [hasN_pN]
  (repeat' (first | (refine gL ?_; first | refine yL0 ?_ | refine yL ?_) | refine yJ ?_ | (refine yI ?_ ?_ <;> intro _ <;> try exact xX) | (refine yK ?_ ?_ <;> intro hgb <;> first | subst hgb | fail_if_success have : type_of% hgb := rfl) | fail))
  refine J_loop (α := Nat) 0 (fun x => p.length - x) (fun x => x ≤ p.length ∧ ((p.take x).any fun s => decide (n ∈ s.as_)) = false) (fun x => [(0, .slice a p.length c), (1, .int .u32 n), (5, .int .i64 x)]) (fun x => []) ⟨Nat.zero_le _, rfl⟩ ⟨rfl, rfl, rfl, trivial⟩ (fun w H => H) ?_
  rintro k ⟨hk, hall⟩
  by_cases hlt : k < p.length
  · obtain ⟨s, hs⟩ : ∃ s, p[k]? = some s := ⟨_, List.getElem?_eq_getElem hlt⟩
    have hm := List.mem_of_getElem? hs
    have hsn1 := (hsm s hm).1
    have hu : Kn K (fun w => Vw w (.slice s.a s.as_.length s.c) 1 s.as_.length (flat u32C s.as_)) := hK.imp fun _ h => h.segs s hm
    (repeat' (first | (refine gL ?_; first | refine yL0 ?_ | refine yL ?_) | refine yJ ?_ | (refine yI ?_ ?_ <;> intro _ <;> try exact xX) | (refine yK ?_ ?_ <;> intro hgb <;> first | subst hgb | fail_if_success have : type_of% hgb := rfl) | fail))
    refine J_loop (α := Nat) 0 (fun x => s.as_.length - x) (fun x => x ≤ s.as_.length ∧ n ∉ s.as_.take x) (fun x => [(0, .slice a p.length c), (1, .int .u32 n), (5, .int .i64 k), (6, .int .i64 x)]) (fun x => []) ⟨Nat.zero_le _, by simp⟩ ⟨rfl, rfl, rfl, rfl, trivial⟩ (fun w H => H) ?_
    rintro j ⟨hj, hz⟩
    by_cases hjl : j < s.as_.length
    · obtain ⟨x, hx⟩ : ∃ x, s.as_[j]? = some x := ⟨_, List.getElem?_eq_getElem hjl⟩
      by_cases hxn : x = n
      · subst hxn
        (repeat' (first | (refine gL ?_; first | refine yL0 ?_ | refine yL ?_) | refine yJ ?_ | (refine yI ?_ ?_ <;> intro _ <;> try exact xX) | (refine yK ?_ ?_ <;> intro hgb <;> first | subst hgb | fail_if_success have : type_of% hgb := rfl) | fail))
        all_goals (first | (exfalso; omega) | skip)
        exact J_ret1 rfl (by rfl) fun w H => ⟨_, ⟨by rw [any_yes (g := fun s : Sg => decide (x ∈ s.as_)) hm (decide_eq_true (List.mem_of_getElem? hx))], rfl⟩, H.sel .nil⟩
      · (repeat' (first | (refine gL ?_; first | refine yL0 ?_ | refine yL ?_) | refine yJ ?_ | (refine yI ?_ ?_ <;> intro _ <;> try exact xX) | (refine yK ?_ ?_ <;> intro hgb <;> first | subst hgb | fail_if_success have : type_of% hgb := rfl) | fail))
        all_goals (first | (exfalso; omega) | skip)
        exact J_again (j + 1) (by omega) ⟨by omega, by rw [take_snoc hx]; simp only [List.mem_append, List.mem_singleton]; rintro (h | h); exact hz h; exact hxn h.symm⟩ ⟨rfl, rfl, rfl, rfl, trivial⟩ (fun w H => H.sel .nil)
    · have hje : j = s.as_.length := by omega
      rw [hje, List.take_length] at hz
      (repeat' (first | (refine gL ?_; first | refine yL0 ?_ | refine yL ?_) | refine yJ ?_ | (refine yI ?_ ?_ <;> intro _ <;> try exact xX) | (refine yK ?_ ?_ <;> intro hgb <;> first | subst hgb | fail_if_success have : type_of% hgb := rfl) | fail))
      exact J_again (k + 1) (by omega) ⟨by omega, any_take hs hall (decide_eq_false hz)⟩ ⟨rfl, rfl, rfl, trivial⟩ (fun w H => H.sel .nil)
  · have hke : k = p.length := by omega
    rw [hke, List.take_length] at hall
    (repeat' (first | (refine gL ?_; first | refine yL0 ?_ | refine yL ?_) | refine yJ ?_ | (refine yI ?_ ?_ <;> intro _ <;> try exact xX) | (refine yK ?_ ?_ <;> intro hgb <;> first | subst hgb | fail_if_success have : type_of% hgb := rfl) | fail))
    exact J_ret1 rfl (by rfl) fun w H => ⟨_, ⟨by rw [hall], rfl⟩, H.sel .nil⟩
theorem rlen_s (a : Option Addr) (c : Nat) (p : List Sg) (h8 : p.length ≤ 1000) (hsm : ∀ s ∈ p, SgN s) : Pact Tryz.prog 99 #[.slice a p.length c] (fun w => PathV w a c p) [] (ret0 (.int .i64 (lenN (pN p)))) := by
  refine pact Tryz.func99 rfl Tryz.ntmps99 rfl ?_
  intro W K hK
  have hv : Kn K (fun w => Vw w (.slice a p.length c) 2 p.length (flat sgC p)) := hK.imp fun _ h => h.vw
  (repeat' (first | (refine gL ?_; first | refine yL0 ?_ | refine yL ?_) | refine yJ ?_ | (refine yI ?_ ?_ <;> intro _ <;> try exact xX) | (refine yK ?_ ?_ <;> intro hgb <;> first | subst hgb | fail_if_success have : type_of% hgb := rfl) | fail))
  refine J_loop (α := Nat) 0 (fun x => p.length - x) (fun x => x ≤ p.length) (fun x => [(0, .slice a p.length c), (3, .int .i64 (lenN (pN (p.take x)))), (4, .int .i64 x)]) (fun x => []) (Nat.zero_le _) ⟨rfl, rfl, rfl, trivial⟩ (fun w H => H) ?_
  rintro k hk
  have htk := lenN_le (p.take k) (fun s hs => hsm s (List.take_subset _ _ hs))
  have hlk : (p.take k).length ≤ 1000 := by rw [List.length_take]; omega
  obtain ⟨N, hN⟩ : ∃ N, lenN (pN (p.take k)) = N := ⟨_, rfl⟩
  rw [hN] at htk ⊢
  have hNb : N ≤ 35184372088832000 := by omega
  by_cases hlt : k < p.length
  · obtain ⟨s, hs⟩ : ∃ s, p[k]? = some s := ⟨_, List.getElem?_eq_getElem hlt⟩
    have hm := List.mem_of_getElem? hs
    have hsn1 := (hsm s hm).1
    have hst : lenN (pN (p.take (k + 1))) = N + (if s.set then 1 else s.as_.length) := by
      rw [take_snoc hs]
      unfold pN at hN ⊢
      rw [List.map_append, lenN_append, hN]
      simp [lenN]
    (repeat' (first | (refine gL ?_; first | refine yL0 ?_ | refine yL ?_) | refine yJ ?_ | (refine yI ?_ ?_ <;> intro _ <;> try exact xX) | (refine yK ?_ ?_ <;> intro hgb <;> first | subst hgb | fail_if_success have : type_of% hgb := rfl) | fail))
    all_goals (refine J_again (k + 1) (by omega) (by omega) ⟨rfl, ?_, rfl, trivial⟩ (fun w H => H.sel .nil); rw [hst]; show some _ = some _; simp [*])
  · have hke : k = p.length := by omega
    rw [hke, List.take_length] at hN
    (repeat' (first | (refine gL ?_; first | refine yL0 ?_ | refine yL ?_) | refine yJ ?_ | (refine yI ?_ ?_ <;> intro _ <;> try exact xX) | (refine yK ?_ ?_ <;> intro hgb <;> first | subst hgb | fail_if_success have : type_of% hgb := rfl) | fail))
    exact J_ret1 rfl (by rfl) fun w H => ⟨_, ⟨by rw [hN], rfl⟩, H.sel .nil⟩
end Go.Proofs.YtdnokmpnemaoaaaGreat.C
namespace Go.Proofs.YtdnokmpnemaoaaaGreat
set_option linter.unusedSimpArgs false
set_option linter.unusedVariables false
set_option maxRecDepth 20000
set_option maxHeartbeats 4000000
open Go.RowKit Go.Pm

def f0 (pe sy : Int) (q : Qn) : Option Nf := if q.peer = pe ∨ C.hasN q.nf.path sy = true then none else some q.nf
theorem lets0_s (pe sy : Int) (oa : Option Addr) (oc : Nat) (p : T.Pf) (x : B.Cd) (hx : B.CdN x) : Pact Tryz.prog 21 #[.agg (clC pe sy oa 0 oc).toArray, .agg (T.pfC p).toArray, .agg (B.cdC x).toArray] (fun w => AtV w x.toAt ∧ True) [] (LetsR (f0 pe sy (cnN x)) x) := by
  refine pact Tryz.func21 rfl Tryz.ntmps21 rfl ?_
  intro W K hK
  have hb := hx.f.path
  have kp := C.phas_s x.pa x.pc x.path sy (by omega) hx.f.num.path
  by_cases hpe : x.peer = pe
  · rw [show f0 pe sy (cnN x) = none from if_pos (.inl hpe)]
    (repeat' (first | (refine gL ?_; first | refine yL0 ?_ | refine yL ?_ | (refine gL_go ?_; (refine JL_goq (kp) (hφ := (by (try simp only [cAp, nAp]); exact fun w hr => (hK w hr.1).1.path)) (h := ?_); rintro _ _ ⟨rfl, rfl⟩; try simp only [cAp, nAp])) | (refine yM ?_; intro _)) | refine yJ ?_ | (refine yI ?_ ?_ <;> intro _ <;> try exact xX) | (refine yK ?_ ?_ <;> intro hgb <;> first | subst hgb | fail_if_success have : type_of% hgb := rfl) | fail))
    all_goals (first | (exfalso; omega) | skip)
    all_goals exact J_retC1 (cs := B.cdC x) rfl (by rfl) (by rfl) xA (by rfl) fun w H => ⟨_, ⟨x.toAt, hx.f, fun _ h => (by cases h), rfl, rfl⟩, (Ow.hasTrue (φ := fun w => AtV w x.toAt → AtV w x.toAt) H (fun _ h => h)).sel xZ⟩
  · rcases hh : C.hasN (pN x.path) sy with _ | _
    all_goals rw [hh] at kp
    · rw [show f0 pe sy (cnN x) = some x.toAt.nf from if_neg (by rintro (h | h); exact hpe h; rw [show (cnN x).nf.path = pN x.path from rfl, hh] at h; cases h)]
      (repeat' (first | (refine gL ?_; first | refine yL0 ?_ | refine yL ?_ | (refine gL_go ?_; (refine JL_goq (kp) (hφ := (by (try simp only [cAp, nAp]); exact fun w hr => (hK w hr.1).1.path)) (h := ?_); rintro _ _ ⟨rfl, rfl⟩; try simp only [cAp, nAp])) | (refine yM ?_; intro _)) | refine yJ ?_ | (refine yI ?_ ?_ <;> intro _ <;> try exact xX) | (refine yK ?_ ?_ <;> intro hgb <;> first | subst hgb | fail_if_success have : type_of% hgb := rfl) | fail))
      all_goals (first | (exfalso; omega) | skip)
      all_goals exact J_retC1 (cs := B.cdC x) rfl (by rfl) (by rfl) xA (by rfl) fun w H => ⟨_, ⟨x.toAt, hx.f, fun _ h => Option.some.inj h, rfl, rfl⟩, (Ow.hasTrue (φ := fun w => AtV w x.toAt → AtV w x.toAt) H (fun _ h => h)).sel xZ⟩
    · rw [show f0 pe sy (cnN x) = none from if_pos (.inr hh)]
      (repeat' (first | (refine gL ?_; first | refine yL0 ?_ | refine yL ?_ | (refine gL_go ?_; (refine JL_goq (kp) (hφ := (by (try simp only [cAp, nAp]); exact fun w hr => (hK w hr.1).1.path)) (h := ?_); rintro _ _ ⟨rfl, rfl⟩; try simp only [cAp, nAp])) | (refine yM ?_; intro _)) | refine yJ ?_ | (refine yI ?_ ?_ <;> intro _ <;> try exact xX) | (refine yK ?_ ?_ <;> intro hgb <;> first | subst hgb | fail_if_success have : type_of% hgb := rfl) | fail))
      all_goals (first | (exfalso; omega) | skip)
      all_goals exact J_retC1 (cs := B.cdC x) rfl (by rfl) (by rfl) xA (by rfl) fun w H => ⟨_, ⟨x.toAt, hx.f, fun _ h => (by cases h), rfl, rfl⟩, (Ow.hasTrue (φ := fun w => AtV w x.toAt → AtV w x.toAt) H (fun _ h => h)).sel xZ⟩
end Go.Proofs.YtdnokmpnemaoaaaGreat
namespace Go.Pm
set_option linter.unusedSimpArgs false
set_option linter.unusedVariables false
open Go.RowKit
section
variable {κ : Type} [DecidableEq κ] {kv : κ → Value}
variable {P : Program} {n : Nat} {W : World} {K : Hl} {F : Fp} {k : List It} {tm : TM} {L L' R S M M' : List HP} {T : TypeId} {pos : String} {af : Array Edge} {gd : Option (Nat × Bool)} {ops : Array Oper} {rest nx : List Oper} {d : Tmp}
omit [DecidableEq κ] in
theorem wpI_value {o : Oper} {a : Act} {w w' : World} {next : Act → World → Prop} {v : Value} (hr : (execOp a.eval o).run P w = .ok (.value v) w') (h : next (a.put o.dst v) w') : wpI P o a w next := wpI_of_wp (by
  unfold Oper.wp
  rw [hr]
  exact h)
omit [DecidableEq κ] in
theorem Rdw.mq {b : Nat} {es : List (κ × Value)} {w : World} (h : Rdw K L w) (t : Tk L (mq kv b es) R) : ∃ q, Pm.mq kv b es q ∧ q.inn w := h.tk t
end
end Go.Pm
