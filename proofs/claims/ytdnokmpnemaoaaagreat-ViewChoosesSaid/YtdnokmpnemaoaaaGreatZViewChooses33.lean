/-
  Vw3: merged.
-/
import Derived.Test.YtdnokmpnemaoaaaGreatZViewChooses32
namespace Go.Proofs.YtdnokmpnemaoaaaGreat
set_option linter.unusedSimpArgs false
set_option linter.unusedVariables false
set_option maxRecDepth 20000
set_option maxHeartbeats 4000000
open Go.RowKit Go.Pm
theorem zd66Vw3 {p q : Prop} (k : p) (h : p → q := by intro hk; first | exact J_draw (id := 1) [0, 1, 2, 3, 4, 5, 6, 7, 8, 9, 10] [11] mixed xC xD xD hk | fail) : q := h k
theorem zd28Vw3 {p q : Prop} (k : p) (h : p → q := by intro hk; first | exact J_draw (id := 3) [0, 1, 2, 3, 4, 5, 6, 7, 8, 9, 10] [11] mixed xC xD xD hk | exact J_draw (id := 13) [0, 1, 2, 3, 4, 5] [6, 7, 8, 9, 10, 11] mixed xC xD xD hk | fail) : q := h k

abbrev sA (sp : Nat) : Option Addr := some ⟨sp, 0, none⟩
abbrev vsL (vb sp tb : Nat) (E : List T.Ent) (S : List En) (c : Int) : List HP := [pts vb (vwC (sA sp) tb (dueI E) (wntI E)) 98, T.trA tb E, stoA sp S c]
theorem free_w (B : Int) (hB : B ≤ 1000000000) (vb sp tb : Nat) (E : List T.Ent) (S S1 : List En) (c id : Int) (hs : StOk B S c) (h1 : frF S id = S1) : Pact Tryz.prog 49 #[.pointer (some ⟨vb, 0, none⟩), .int .i64 id] (fun _ => True) [pts vb (vwC (sA sp) tb (dueI E) (wntI E)) 98, stoA sp S c] (fun _ L' => L' = [pts vb (vwC (sA sp) tb (dueI E) (wntI E)) 98, stoA sp S1 c]) := h1 ▸ free_v B hB vb sp tb _ _ S c id hs
theorem vdrop_s (B : Int) (hB : B ≤ 1000000000) (vb sp tb : Nat) (E : List T.Ent) (S S1 : List En) (c : Int) (p : T.Pf) (x : T.Vt) (hp : T.PfN p) (hg : T.getL E p = some x) (hE : T.EOk E) (hn : E.length < 4096) (hs : StOk B S c) (h1 : frF S x.1 = S1) : Pact Tryz.prog 66 #[.pointer (some ⟨vb, 0, none⟩), .agg (T.pfC p).toArray] (fun _ => True) (vsL vb sp tb E S c) (fun _ L' => L' = vsL vb sp tb (T.setE E p (0, x.2.1, false)) S1 c) := by
  refine pact Tryz.func66 rfl Tryz.ntmps66 rfl ?_
  intro W K _
  have ho : T.oldV E p = x := by unfold T.oldV; rw [hg]; rfl
  have k := T.get_old tb E p hp _ ho true (by rw [hg]; rfl)
  have hm := hE.e (p, x) ((T.getL_mem hE.s).1 hg)
  have kf := free_w B hB vb sp tb E S S1 c x.1 hs h1
  have ks := set_s vb (sA sp) tb E p (0, x.2.1, false) hE hp hm.1 ⟨by show I64 0; unfold I64; decide, hm.2.2.2⟩ hn
  (repeat' (first | (refine gL ?_; first | refine yL0 ?_ | refine yL ?_ | (refine gL_go ?_; first | (refine JL_goq (k) (hφ := xF) (h := ?_); rintro _ _ ⟨rfl, rfl⟩; try simp only [cAp, nAp]) | (refine JL_goq (kf) (hφ := xF) (h := ?_); rintro _ _ rfl; try simp only [cAp, nAp]) | (refine JL_goq (ks) (hφ := xF) (h := ?_); rintro _ _ rfl; try simp only [cAp, nAp])) | (refine yM ?_; intro _)) | (refine gD ?_; first | (refine yN ?_; try simp only [cAp, nAp]) | refine yD ?_ | (refine gD_go ?_; first | (refine JD_goq (k) (hφ := xF) (h := ?_); rintro _ _ ⟨rfl, rfl⟩; try simp only [cAp, nAp]) | (refine JD_goq (kf) (hφ := xF) (h := ?_); rintro _ _ rfl; try simp only [cAp, nAp]) | (refine JD_goq (ks) (hφ := xF) (h := ?_); rintro _ _ rfl; try simp only [cAp, nAp])) | (refine yE ?_; intro _)) | refine yJ ?_ | refine zd66Vw3 ?_ | (refine yI ?_ ?_ <;> intro _ <;> try exact xX) | (refine yK ?_ ?_ <;> intro hgb <;> first | subst hgb | fail_if_success have : type_of% hgb := rfl) | fail))
  exact J_end0 rfl fun w H => ⟨_, rfl, H.sel xZ⟩
theorem due_s (vb : Nat) (sp : Option Addr) (tb : Nat) (E : List T.Ent) : Pact Tryz.prog 30 #[.pointer (some ⟨vb, 0, none⟩)] (fun _ => True) [pts vb (vwC sp tb (dueI E) (wntI E)) 98] (fun u L' => u = .int .i64 (dueI E) ∧ L' = [pts vb (vwC sp tb (dueI E) (wntI E)) 98]) := by
  refine pact Tryz.func30 rfl Tryz.ntmps30 rfl ?_
  intro W K _
  (repeat' (first | (refine gL ?_; first | refine yL0 ?_ | refine yL ?_ | (refine gL_go ?_; (refine JL_goq (vis_s vb sp tb (dueI E) (wntI E)) (hφ := xF) (h := ?_); rintro _ _ ⟨rfl, rfl⟩; try simp only [cAp, nAp]))) | refine yJ ?_ | (refine yI ?_ ?_ <;> intro _ <;> try exact xX) | (refine yK ?_ ?_ <;> intro hgb <;> first | subst hgb | fail_if_success have : type_of% hgb := rfl) | fail))
  exact J_ret1 rfl (by rfl) fun w H => ⟨_, ⟨rfl, rfl⟩, H.sel xZ⟩
theorem wantoff_s (B : Int) (hB : B ≤ 1000000000) (vb sp tb : Nat) (E : List T.Ent) (S S1 : List En) (c : Int) (p : T.Pf) (x : T.Vt) (d : At) (hp : T.PfN p) (hr : T.Rt p) (hg : T.getL E p = some x) (hE : T.EOk E) (hn : E.length < 4096) (hs : StOk B S c) (h1 : frF S x.1 = S1) : Pact Tryz.prog 28 #[.pointer (some ⟨vb, 0, none⟩), .agg (T.pfC p).toArray, .agg (atC d).toArray, .bool false] (fun _ => True) (vsL vb sp tb E S c) (fun u L' => u = .int .i64 0 ∧ L' = vsL vb sp tb (T.setE E p (0, x.2.1, false)) S1 c) := by
  refine pact Tryz.func28 rfl Tryz.ntmps28 rfl ?_
  intro W K _
  have k := T.get_old tb E p hp _ rfl _ rfl
  (repeat' (first | (refine gL ?_; first | refine yL0 ?_ | refine yL ?_ | (refine gL_go ?_; first | (refine JL_goq (vis_s vb (sA sp) tb (dueI E) (wntI E)) (hφ := xF) (h := ?_); rintro _ _ ⟨rfl, rfl⟩; try simp only [cAp, nAp]) | (refine JL_goq (k) (hφ := xF) (h := ?_); rintro _ _ ⟨rfl, rfl⟩; try simp only [cAp, nAp]) | (refine JL_goq (T.right_b p hp true (decide_eq_true hr)) (hφ := xF) (h := ?_); rintro _ _ ⟨rfl, rfl⟩; try simp only [cAp, nAp]) | (refine JL_goq (vdrop_s B hB vb sp tb E S S1 c p x hp hg hE hn hs h1) (hφ := xF) (h := ?_); rintro _ _ rfl; try simp only [cAp, nAp])) | (refine yM ?_; intro _)) | (refine gD ?_; first | (refine yN ?_; try simp only [cAp, nAp]) | refine yD ?_ | (refine gD_go ?_; first | (refine JD_goq (vis_s vb (sA sp) tb (dueI E) (wntI E)) (hφ := xF) (h := ?_); rintro _ _ ⟨rfl, rfl⟩; try simp only [cAp, nAp]) | (refine JD_goq (k) (hφ := xF) (h := ?_); rintro _ _ ⟨rfl, rfl⟩; try simp only [cAp, nAp]) | (refine JD_goq (T.right_b p hp true (decide_eq_true hr)) (hφ := xF) (h := ?_); rintro _ _ ⟨rfl, rfl⟩; try simp only [cAp, nAp]) | (refine JD_goq (vdrop_s B hB vb sp tb E S S1 c p x hp hg hE hn hs h1) (hφ := xF) (h := ?_); rintro _ _ rfl; try simp only [cAp, nAp])) | (refine yE ?_; intro _)) | refine yJ ?_ | refine zd28Vw3 ?_ | (refine yI ?_ ?_ <;> intro _ <;> try exact xX) | (refine yK ?_ ?_ <;> intro hgb <;> first | subst hgb | fail_if_success have : type_of% hgb := rfl) | fail))
  exact J_ret1 rfl (by rfl) fun w H => ⟨_, ⟨rfl, rfl⟩, H.sel xZ⟩
theorem want_s (B : Int) (hB0 : 0 ≤ B) (hB : B ≤ 1000000) (vb sp tb : Nat) (E : List T.Ent) (S S1 S2 : List En) (c c1 id : Int) (p : T.Pf) (o : T.Vt) (d : At) (hd : AtF d) (hp : T.PfN p) (hr : T.Rt p) (hok : okN d.nf = true) (ho : T.oldV E p = o) (hE : T.EOk E) (hn : E.length < 4096) (hs : StOk B S c) (hk : keepF S c (bareN d.nf) = ((S1, c1), id, 0)) (hs1 : StOk (B + 1) S1 c1) (hid : I64 id) (hox : T.VN o) (h2 : frF S1 o.1 = S2) : Pact Tryz.prog 28 #[.pointer (some ⟨vb, 0, none⟩), .agg (T.pfC p).toArray, .agg (atC d).toArray, .bool true] (fun w => AtV w d) (vsL vb sp tb E S c) (fun u L' => u = .int .i64 0 ∧ L' = vsL vb sp tb (T.setE E p (id, o.2.1, o.2.2)) S2 c1) := by
  refine pact Tryz.func28 rfl Tryz.ntmps28 rfl ?_
  intro W K hK
  obtain ⟨b, hb⟩ : ∃ b, (T.getL E p).isSome = b := ⟨_, rfl⟩
  have k := T.get_old tb E p hp o ho b hb
  have kc := check_s d hd
  rw [hok] at kc
  have kb := bare_s d hd
  have kf := free_w (B + 1) (by omega) vb sp tb E S1 S2 c1 o.1 hs1 h2
  have ks := set_s vb (sA sp) tb E p (id, o.2.1, o.2.2) hE hp hr ⟨hid, hox.2⟩ hn
  have kl := T.len_a tb E
  cases b
  all_goals (
    (repeat' (first | (refine gL ?_; first | refine yL0 ?_ | refine yL ?_ | (refine gL_go ?_; first | (refine JL_goq (vis_s vb (sA sp) tb (dueI E) (wntI E)) (hφ := xF) (h := ?_); rintro _ _ ⟨rfl, rfl⟩; try simp only [cAp, nAp]) | (refine JL_goq (k) (hφ := xF) (h := ?_); rintro _ _ ⟨rfl, rfl⟩; try simp only [cAp, nAp]) | (refine JL_goq (T.right_b p hp true (decide_eq_true hr)) (hφ := xF) (h := ?_); rintro _ _ ⟨rfl, rfl⟩; try simp only [cAp, nAp]) | (refine JL_goq (kc) (hφ := (by (try simp only [cAp, nAp]); exact fun w hr => hK w hr.1)) (h := ?_); rintro _ _ ⟨rfl, rfl⟩; try simp only [cAp, nAp]) | (refine JL_goq (kl) (hφ := xF) (h := ?_); rintro _ _ ⟨rfl, rfl⟩; try simp only [cAp, nAp]) | (refine JL_goq (kb) (hφ := (by (try simp only [cAp, nAp]); exact fun w hr => hK w hr.1)) (h := ?_); rintro _ _ ⟨d', ⟨hd', hnf⟩, rfl, rfl⟩; try simp only [cAp, nAp])) | (refine yM ?_; intro _)) | (refine gD ?_; first | (refine yN ?_; try simp only [cAp, nAp]) | refine yD ?_ | (refine gD_go ?_; first | (refine JD_goq (vis_s vb (sA sp) tb (dueI E) (wntI E)) (hφ := xF) (h := ?_); rintro _ _ ⟨rfl, rfl⟩; try simp only [cAp, nAp]) | (refine JD_goq (k) (hφ := xF) (h := ?_); rintro _ _ ⟨rfl, rfl⟩; try simp only [cAp, nAp]) | (refine JD_goq (T.right_b p hp true (decide_eq_true hr)) (hφ := xF) (h := ?_); rintro _ _ ⟨rfl, rfl⟩; try simp only [cAp, nAp]) | (refine JD_goq (kc) (hφ := (by (try simp only [cAp, nAp]); exact fun w hr => hK w hr.1)) (h := ?_); rintro _ _ ⟨rfl, rfl⟩; try simp only [cAp, nAp]) | (refine JD_goq (kl) (hφ := xF) (h := ?_); rintro _ _ ⟨rfl, rfl⟩; try simp only [cAp, nAp]) | (refine JD_goq (kb) (hφ := (by (try simp only [cAp, nAp]); exact fun w hr => hK w hr.1)) (h := ?_); rintro _ _ ⟨d', ⟨hd', hnf⟩, rfl, rfl⟩; try simp only [cAp, nAp])) | (refine yE ?_; intro _)) | refine yJ ?_ | refine zd28Vw3 ?_ | (refine yI ?_ ?_ <;> intro _ <;> try exact xX) | (refine yK ?_ ?_ <;> intro hgb <;> first | subst hgb | fail_if_success have : type_of% hgb := rfl) | fail))
    have kk := keep_s B hB0 (by omega) sp S c d' hd' hs
    rw [hnf, hk] at kk
    dsimp only at kk
    (repeat' (first | (refine gL ?_; first | refine yL0 ?_ | refine yL ?_ | (refine gL_go ?_; first | (refine JL_goq (kk) (hφ := (by (try simp only [cAp, nAp]); exact fun w hr => hr.has xA)) (h := ?_); rintro _ _ ⟨rfl, rfl⟩; try simp only [cAp, nAp]) | (refine JL_goq (kf) (hφ := xF) (h := ?_); rintro _ _ rfl; try simp only [cAp, nAp]) | (refine JL_goq (ks) (hφ := xF) (h := ?_); rintro _ _ rfl; try simp only [cAp, nAp])) | (refine yM ?_; intro _)) | (refine gD ?_; first | (refine yN ?_; try simp only [cAp, nAp]) | refine yD ?_ | (refine gD_go ?_; first | (refine JD_goq (kk) (hφ := (by (try simp only [cAp, nAp]); exact fun w hr => hr.has xA)) (h := ?_); rintro _ _ ⟨rfl, rfl⟩; try simp only [cAp, nAp]) | (refine JD_goq (kf) (hφ := xF) (h := ?_); rintro _ _ rfl; try simp only [cAp, nAp]) | (refine JD_goq (ks) (hφ := xF) (h := ?_); rintro _ _ rfl; try simp only [cAp, nAp])) | (refine yE ?_; intro _)) | refine yJ ?_ | refine zd28Vw3 ?_ | (refine yI ?_ ?_ <;> intro _ <;> try exact xX) | (refine yK ?_ ?_ <;> intro hgb <;> first | subst hgb | fail_if_success have : type_of% hgb := rfl) | fail))
    exact J_ret1 rfl (by rfl) fun w H => ⟨_, ⟨rfl, rfl⟩, H.sel xZ⟩)
theorem vnew_s (sp : Nat) : Pact Tryz.prog 15 #[.pointer (some ⟨sp, 0, none⟩)] (fun _ => True) [stoA sp [] 0] (fun u L' => ∃ vb tb, u = .tuple #[.pointer (some ⟨vb, 0, none⟩), .int .i64 0] ∧ L' = vsL vb sp tb [] [] 0) := by
  refine pact Tryz.func15 rfl Tryz.ntmps15 rfl ?_
  intro W K _
  have hf := free_s 0 (by omega) sp [] 0 0 stok_nil
  (repeat' (first | (refine gL ?_; first | refine yL0 ?_ | refine yL ?_ | (refine gL_go ?_; first | (refine JL_goq (hf) (hφ := xF) (h := ?_); rintro _ _ ⟨rfl, rfl⟩; try simp only [cAp, nAp]) | (refine JL_goq (T.new_a) (hφ := xF) (h := ?_); rintro _ _ ⟨tb, rfl, rfl⟩; try simp only [cAp, nAp])) | (refine yM ?_; intro _)) | refine yJ ?_ | (refine yI ?_ ?_ <;> intro _ <;> try exact xX) | (refine yK ?_ ?_ <;> intro hgb <;> first | subst hgb | fail_if_success have : type_of% hgb := rfl) | fail))
  exact J_ret2 rfl (by rfl) (by rfl) fun w H => ⟨_, ⟨_, tb, rfl, rfl⟩, H.sel xZ⟩
end Go.Proofs.YtdnokmpnemaoaaaGreat
