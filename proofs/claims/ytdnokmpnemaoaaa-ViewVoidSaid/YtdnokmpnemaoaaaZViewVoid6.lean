/-
  ViewVoid: a view that no call made has and does nothing.
-/
import Derived.Test.YtdnokmpnemaoaaaZViewVoid5
import Derived.HandedShaped
import Derived.SizedLaws
namespace Go.Proofs.Ytdnokmpnemaoaaa
set_option linter.unusedSimpArgs false
set_option linter.unusedVariables false
set_option maxRecDepth 20000
set_option maxHeartbeats 4000000
open Go.RowKit Go.Pm

abbrev sA (sp : Nat) : Option Addr := some ⟨sp, 0, none⟩
/-- A view and its store. -/
abbrev vsL (vb sp tb : Nat) (E : List T.Ent) (S : List En) (c : Int) : List HP := [pts vb (vwC (sA sp) tb (dueI E) (wntI E)) 36, T.trA tb E, stoA sp S c]
theorem free_w (B : Int) (hB : B ≤ 1000000000) (vb sp tb : Nat) (E : List T.Ent) (S S1 : List En) (c id : Int) (hs : StOk B S c) (h1 : frF S id = S1) : Pact Try.prog 21 #[.pointer (some ⟨vb, 0, none⟩), .int .i64 id] (fun _ => True) [pts vb (vwC (sA sp) tb (dueI E) (wntI E)) 36, stoA sp S c] (fun _ L' => L' = [pts vb (vwC (sA sp) tb (dueI E) (wntI E)) 36, stoA sp S1 c]) := h1 ▸ free_v B hB vb sp tb _ _ S c id hs
theorem vdrop_none (vb : Nat) (sp : Option Addr) (tb : Nat) (E : List T.Ent) (p : T.Pf) (hp : T.PfN p) (hg : T.getL E p = none) : Pact Try.prog 28 #[.pointer (some ⟨vb, 0, none⟩), .agg (T.pfC p).toArray] (fun _ => True) (vwL vb sp tb E) (fun _ L' => L' = vwL vb sp tb E) := by
  refine pact Try.func28 rfl Try.ntmps28 rfl ?_
  intro W K _
  have ho : T.oldV E p = T.zV := by unfold T.oldV; rw [hg]; rfl
  have k := T.get_old tb E p hp _ ho false (by rw [hg]; rfl)
  (repeat' (first | ((with_reducible apply gL); (first | refine yL0 ?_ | refine yL ?_ | ((with_reducible apply gL_go); (first | (refine JL_goq (k) (hφ := xF) (h := ?_); rintro _ _ ⟨rfl, rfl⟩; try simp only [List.cons_append, List.nil_append]) | fail)) | (refine yM ?_; intro _) | fail)) | ((with_reducible apply gD); (first | (refine JD_nil ?_; try simp only [List.cons_append, List.nil_append]) | (refine JD_bar ?_; try simp only [List.cons_append, List.nil_append]) | refine yD ?_ | ((with_reducible apply gD_go); (first | (refine JD_goq (k) (hφ := xF) (h := ?_); rintro _ _ ⟨rfl, rfl⟩; try simp only [List.cons_append, List.nil_append]) | fail)) | (refine yE ?_; intro _) | fail)) | refine yJ ?_ | ((with_reducible apply gJ_if); (first | (refine J_if xR ?_ ?_ <;> intro _ <;> (try (exfalso; first | contradiction | omega))) | (refine J_ifb xR ?_ ?_ <;> (intro hgb; subst hgb)) | (refine J_ifb xR ?_ ?_ <;> intro _) | fail)) | refine J_draw (id := 1) [0, 1, 2, 3, 4, 5, 6, 7, 8, 9, 10] [11] mixed xC xD xD ?_ | fail))
  exact J_ret0 rfl fun w H => ⟨_, rfl, H.sel xZ⟩
theorem vdrop_s (B : Int) (hB : B ≤ 1000000000) (vb sp tb : Nat) (E : List T.Ent) (S S1 : List En) (c : Int) (p : T.Pf) (x : T.Vt) (hp : T.PfN p) (hg : T.getL E p = some x) (hE : T.EOk E) (hn : E.length < 4096) (hs : StOk B S c) (h1 : frF S x.1 = S1) : Pact Try.prog 28 #[.pointer (some ⟨vb, 0, none⟩), .agg (T.pfC p).toArray] (fun _ => True) (vsL vb sp tb E S c) (fun _ L' => L' = vsL vb sp tb (T.setE E p (0, x.2.1, false)) S1 c) := by
  refine pact Try.func28 rfl Try.ntmps28 rfl ?_
  intro W K _
  have ho : T.oldV E p = x := by unfold T.oldV; rw [hg]; rfl
  have k := T.get_old tb E p hp _ ho true (by rw [hg]; rfl)
  have hm := hE.e (p, x) ((T.getL_mem hE.s).1 hg)
  have kf := free_w B hB vb sp tb E S S1 c x.1 hs h1
  have ks := set_s vb (sA sp) tb E p (0, x.2.1, false) hE hp hm.1 ⟨by show I64 0; unfold I64; decide, hm.2.2.2⟩ hn
  (repeat' (first | ((with_reducible apply gL); (first | refine yL0 ?_ | refine yL ?_ | ((with_reducible apply gL_go); (first | (refine JL_goq (k) (hφ := xF) (h := ?_); rintro _ _ ⟨rfl, rfl⟩; try simp only [List.cons_append, List.nil_append]) | (refine JL_goq (kf) (hφ := xF) (h := ?_); rintro _ _ rfl; try simp only [List.cons_append, List.nil_append]) | (refine JL_goq (ks) (hφ := xF) (h := ?_); rintro _ _ rfl; try simp only [List.cons_append, List.nil_append]) | fail)) | (refine yM ?_; intro _) | fail)) | ((with_reducible apply gD); (first | (refine JD_nil ?_; try simp only [List.cons_append, List.nil_append]) | (refine JD_bar ?_; try simp only [List.cons_append, List.nil_append]) | refine yD ?_ | ((with_reducible apply gD_go); (first | (refine JD_goq (k) (hφ := xF) (h := ?_); rintro _ _ ⟨rfl, rfl⟩; try simp only [List.cons_append, List.nil_append]) | (refine JD_goq (kf) (hφ := xF) (h := ?_); rintro _ _ rfl; try simp only [List.cons_append, List.nil_append]) | (refine JD_goq (ks) (hφ := xF) (h := ?_); rintro _ _ rfl; try simp only [List.cons_append, List.nil_append]) | fail)) | (refine yE ?_; intro _) | fail)) | refine yJ ?_ | ((with_reducible apply gJ_if); (first | (refine J_if xR ?_ ?_ <;> intro _ <;> (try (exfalso; first | contradiction | omega))) | (refine J_ifb xR ?_ ?_ <;> (intro hgb; subst hgb)) | (refine J_ifb xR ?_ ?_ <;> intro _) | fail)) | refine J_draw (id := 1) [0, 1, 2, 3, 4, 5, 6, 7, 8, 9, 10] [11] mixed xC xD xD ?_ | fail))
  exact J_end0 rfl fun w H => ⟨_, rfl, H.sel xZ⟩
theorem due_s (vb : Nat) (sp : Option Addr) (tb : Nat) (E : List T.Ent) : Pact Try.prog 11 #[.pointer (some ⟨vb, 0, none⟩)] (fun _ => True) [pts vb (vwC sp tb (dueI E) (wntI E)) 36] (fun u L' => u = .int .i64 (dueI E) ∧ L' = [pts vb (vwC sp tb (dueI E) (wntI E)) 36]) := by
  refine pact Try.func11 rfl Try.ntmps11 rfl ?_
  intro W K _
  (repeat' (first | ((with_reducible apply gL); (first | refine yL0 ?_ | refine yL ?_ | ((with_reducible apply gL_go); (first | (refine JL_goq (vis_s vb sp tb (dueI E) (wntI E)) (hφ := xF) (h := ?_); rintro _ _ ⟨rfl, rfl⟩; try simp only [List.cons_append, List.nil_append]) | fail)) | fail)) | refine yJ ?_ | ((with_reducible apply gJ_if); (first | (refine J_if xR ?_ ?_ <;> intro _ <;> (try (exfalso; first | contradiction | omega))) | (refine J_ifb xR ?_ ?_ <;> (intro hgb; subst hgb)) | (refine J_ifb xR ?_ ?_ <;> intro _) | fail)) | fail))
  exact J_ret1 rfl (by rfl) fun w H => ⟨_, ⟨rfl, rfl⟩, H.sel xZ⟩
theorem vlen_s (vb : Nat) (sp : Option Addr) (tb : Nat) (E : List T.Ent) : Pact Try.prog 14 #[.pointer (some ⟨vb, 0, none⟩)] (fun _ => True) [pts vb (vwC sp tb (dueI E) (wntI E)) 36] (fun u L' => u = .int .i64 (wntI E) ∧ L' = [pts vb (vwC sp tb (dueI E) (wntI E)) 36]) := by
  refine pact Try.func14 rfl Try.ntmps14 rfl ?_
  intro W K _
  (repeat' (first | ((with_reducible apply gL); (first | refine yL0 ?_ | refine yL ?_ | ((with_reducible apply gL_go); (first | (refine JL_goq (vis_s vb sp tb (dueI E) (wntI E)) (hφ := xF) (h := ?_); rintro _ _ ⟨rfl, rfl⟩; try simp only [List.cons_append, List.nil_append]) | fail)) | fail)) | refine yJ ?_ | ((with_reducible apply gJ_if); (first | (refine J_if xR ?_ ?_ <;> intro _ <;> (try (exfalso; first | contradiction | omega))) | (refine J_ifb xR ?_ ?_ <;> (intro hgb; subst hgb)) | (refine J_ifb xR ?_ ?_ <;> intro _) | fail)) | fail))
  exact J_ret1 rfl (by rfl) fun w H => ⟨_, ⟨rfl, rfl⟩, H.sel xZ⟩
theorem wantbad_s (vb : Nat) (sp : Option Addr) (tb : Nat) (E : List T.Ent) (p : T.Pf) (d : At) (told : Bool) (hp : T.PfN p) (hr : ¬ T.Rt p) : Pact Try.prog 10 #[.pointer (some ⟨vb, 0, none⟩), .agg (T.pfC p).toArray, .agg (atC d).toArray, .bool told] (fun _ => True) (vwL vb sp tb E) (fun u L' => u = .int .i64 2 ∧ L' = vwL vb sp tb E) := by
  refine pact Try.func10 rfl Try.ntmps10 rfl ?_
  intro W K _
  have k := T.get_old tb E p hp _ rfl _ rfl
  (repeat' (first | ((with_reducible apply gL); (first | refine yL0 ?_ | refine yL ?_ | ((with_reducible apply gL_go); (first | (refine JL_goq (vis_s vb sp tb (dueI E) (wntI E)) (hφ := xF) (h := ?_); rintro _ _ ⟨rfl, rfl⟩; try simp only [List.cons_append, List.nil_append]) | (refine JL_goq (k) (hφ := xF) (h := ?_); rintro _ _ ⟨rfl, rfl⟩; try simp only [List.cons_append, List.nil_append]) | (refine JL_goq (T.right_b p hp false (decide_eq_false hr)) (hφ := xF) (h := ?_); rintro _ _ ⟨rfl, rfl⟩; try simp only [List.cons_append, List.nil_append]) | fail)) | (refine yM ?_; intro _) | ((with_reducible apply gL_gd); (first | (refine JL_guard xR xR ?_ ?_ <;> intro _ <;> (try (exfalso; first | contradiction | omega))) | (refine JL_guardb xR xR ?_ ?_ <;> (intro hgb; subst hgb)) | (refine JL_guardb xR xR ?_ ?_ <;> (intro hgb; fail_if_success (have : type_of% hgb := rfl))) | fail)) | fail)) | ((with_reducible apply gD); (first | (refine JD_nil ?_; try simp only [List.cons_append, List.nil_append]) | (refine JD_bar ?_; try simp only [List.cons_append, List.nil_append]) | refine yD ?_ | ((with_reducible apply gD_go); (first | (refine JD_goq (vis_s vb sp tb (dueI E) (wntI E)) (hφ := xF) (h := ?_); rintro _ _ ⟨rfl, rfl⟩; try simp only [List.cons_append, List.nil_append]) | (refine JD_goq (k) (hφ := xF) (h := ?_); rintro _ _ ⟨rfl, rfl⟩; try simp only [List.cons_append, List.nil_append]) | (refine JD_goq (T.right_b p hp false (decide_eq_false hr)) (hφ := xF) (h := ?_); rintro _ _ ⟨rfl, rfl⟩; try simp only [List.cons_append, List.nil_append]) | fail)) | (refine yE ?_; intro _) | fail)) | refine yJ ?_ | ((with_reducible apply gJ_if); (first | (refine J_if xR ?_ ?_ <;> intro _ <;> (try (exfalso; first | contradiction | omega))) | (refine J_ifb xR ?_ ?_ <;> (intro hgb; subst hgb)) | (refine J_ifb xR ?_ ?_ <;> intro _) | fail)) | refine J_draw (id := 3) [0, 1, 2, 3, 4, 5, 6, 7, 8, 9, 10] [11] mixed xC xD xD ?_ | refine J_draw (id := 13) [0, 1, 2, 3, 4, 5] [6, 7, 8, 9, 10, 11] mixed xC xD xD ?_ | fail))
  exact J_ret1 rfl (by rfl) fun w H => ⟨_, ⟨rfl, rfl⟩, H.sel xZ⟩
theorem wantchk_s (vb : Nat) (sp : Option Addr) (tb : Nat) (E : List T.Ent) (p : T.Pf) (d : At) (hd : AtF d) (hp : T.PfN p) (hr : T.Rt p) (hok : okN d.nf = false) : Pact Try.prog 10 #[.pointer (some ⟨vb, 0, none⟩), .agg (T.pfC p).toArray, .agg (atC d).toArray, .bool true] (fun w => AtV w d) (vwL vb sp tb E) (fun u L' => u = .int .i64 2 ∧ L' = vwL vb sp tb E) := by
  refine pact Try.func10 rfl Try.ntmps10 rfl ?_
  intro W K hK
  have k := T.get_old tb E p hp _ rfl _ rfl
  have kc := check_s d hd
  rw [hok] at kc
  (repeat' (first | ((with_reducible apply gL); (first | refine yL0 ?_ | refine yL ?_ | ((with_reducible apply gL_go); (first | (refine JL_goq (vis_s vb sp tb (dueI E) (wntI E)) (hφ := xF) (h := ?_); rintro _ _ ⟨rfl, rfl⟩; try simp only [List.cons_append, List.nil_append]) | (refine JL_goq (k) (hφ := xF) (h := ?_); rintro _ _ ⟨rfl, rfl⟩; try simp only [List.cons_append, List.nil_append]) | (refine JL_goq (T.right_b p hp true (decide_eq_true hr)) (hφ := xF) (h := ?_); rintro _ _ ⟨rfl, rfl⟩; try simp only [List.cons_append, List.nil_append]) | (refine JL_goq (kc) (hφ := (by (try simp only [List.cons_append, List.nil_append]); exact fun w hr => hK w hr.1)) (h := ?_); rintro _ _ ⟨rfl, rfl⟩; try simp only [List.cons_append, List.nil_append]) | fail)) | (refine yM ?_; intro _) | ((with_reducible apply gL_gd); (first | (refine JL_guard xR xR ?_ ?_ <;> intro _ <;> (try (exfalso; first | contradiction | omega))) | (refine JL_guardb xR xR ?_ ?_ <;> (intro hgb; subst hgb)) | (refine JL_guardb xR xR ?_ ?_ <;> (intro hgb; fail_if_success (have : type_of% hgb := rfl))) | fail)) | fail)) | ((with_reducible apply gD); (first | (refine JD_nil ?_; try simp only [List.cons_append, List.nil_append]) | (refine JD_bar ?_; try simp only [List.cons_append, List.nil_append]) | refine yD ?_ | ((with_reducible apply gD_go); (first | (refine JD_goq (vis_s vb sp tb (dueI E) (wntI E)) (hφ := xF) (h := ?_); rintro _ _ ⟨rfl, rfl⟩; try simp only [List.cons_append, List.nil_append]) | (refine JD_goq (k) (hφ := xF) (h := ?_); rintro _ _ ⟨rfl, rfl⟩; try simp only [List.cons_append, List.nil_append]) | (refine JD_goq (T.right_b p hp true (decide_eq_true hr)) (hφ := xF) (h := ?_); rintro _ _ ⟨rfl, rfl⟩; try simp only [List.cons_append, List.nil_append]) | (refine JD_goq (kc) (hφ := (by (try simp only [List.cons_append, List.nil_append]); exact fun w hr => hK w hr.1)) (h := ?_); rintro _ _ ⟨rfl, rfl⟩; try simp only [List.cons_append, List.nil_append]) | fail)) | (refine yE ?_; intro _) | fail)) | refine yJ ?_ | ((with_reducible apply gJ_if); (first | (refine J_if xR ?_ ?_ <;> intro _ <;> (try (exfalso; first | contradiction | omega))) | (refine J_ifb xR ?_ ?_ <;> (intro hgb; subst hgb)) | (refine J_ifb xR ?_ ?_ <;> intro _) | fail)) | refine J_draw (id := 3) [0, 1, 2, 3, 4, 5, 6, 7, 8, 9, 10] [11] mixed xC xD xD ?_ | refine J_draw (id := 13) [0, 1, 2, 3, 4, 5] [6, 7, 8, 9, 10, 11] mixed xC xD xD ?_ | fail))
  exact J_ret1 rfl (by rfl) fun w H => ⟨_, ⟨rfl, rfl⟩, H.sel xZ⟩
theorem wantoff_none (vb : Nat) (sp : Option Addr) (tb : Nat) (E : List T.Ent) (p : T.Pf) (d : At) (hp : T.PfN p) (hr : T.Rt p) (hg : T.getL E p = none) : Pact Try.prog 10 #[.pointer (some ⟨vb, 0, none⟩), .agg (T.pfC p).toArray, .agg (atC d).toArray, .bool false] (fun _ => True) (vwL vb sp tb E) (fun u L' => u = .int .i64 0 ∧ L' = vwL vb sp tb E) := by
  refine pact Try.func10 rfl Try.ntmps10 rfl ?_
  intro W K _
  have k := T.get_old tb E p hp _ rfl _ rfl
  (repeat' (first | ((with_reducible apply gL); (first | refine yL0 ?_ | refine yL ?_ | ((with_reducible apply gL_go); (first | (refine JL_goq (vis_s vb sp tb (dueI E) (wntI E)) (hφ := xF) (h := ?_); rintro _ _ ⟨rfl, rfl⟩; try simp only [List.cons_append, List.nil_append]) | (refine JL_goq (k) (hφ := xF) (h := ?_); rintro _ _ ⟨rfl, rfl⟩; try simp only [List.cons_append, List.nil_append]) | (refine JL_goq (T.right_b p hp true (decide_eq_true hr)) (hφ := xF) (h := ?_); rintro _ _ ⟨rfl, rfl⟩; try simp only [List.cons_append, List.nil_append]) | (refine JL_goq (vdrop_none vb sp tb E p hp hg) (hφ := xF) (h := ?_); rintro _ _ rfl; try simp only [List.cons_append, List.nil_append]) | fail)) | (refine yM ?_; intro _) | ((with_reducible apply gL_gd); (first | (refine JL_guard xR xR ?_ ?_ <;> intro _ <;> (try (exfalso; first | contradiction | omega))) | (refine JL_guardb xR xR ?_ ?_ <;> (intro hgb; subst hgb)) | (refine JL_guardb xR xR ?_ ?_ <;> (intro hgb; fail_if_success (have : type_of% hgb := rfl))) | fail)) | fail)) | ((with_reducible apply gD); (first | (refine JD_nil ?_; try simp only [List.cons_append, List.nil_append]) | (refine JD_bar ?_; try simp only [List.cons_append, List.nil_append]) | refine yD ?_ | ((with_reducible apply gD_go); (first | (refine JD_goq (vis_s vb sp tb (dueI E) (wntI E)) (hφ := xF) (h := ?_); rintro _ _ ⟨rfl, rfl⟩; try simp only [List.cons_append, List.nil_append]) | (refine JD_goq (k) (hφ := xF) (h := ?_); rintro _ _ ⟨rfl, rfl⟩; try simp only [List.cons_append, List.nil_append]) | (refine JD_goq (T.right_b p hp true (decide_eq_true hr)) (hφ := xF) (h := ?_); rintro _ _ ⟨rfl, rfl⟩; try simp only [List.cons_append, List.nil_append]) | (refine JD_goq (vdrop_none vb sp tb E p hp hg) (hφ := xF) (h := ?_); rintro _ _ rfl; try simp only [List.cons_append, List.nil_append]) | fail)) | (refine yE ?_; intro _) | fail)) | refine yJ ?_ | ((with_reducible apply gJ_if); (first | (refine J_if xR ?_ ?_ <;> intro _ <;> (try (exfalso; first | contradiction | omega))) | (refine J_ifb xR ?_ ?_ <;> (intro hgb; subst hgb)) | (refine J_ifb xR ?_ ?_ <;> intro _) | fail)) | refine J_draw (id := 3) [0, 1, 2, 3, 4, 5, 6, 7, 8, 9, 10] [11] mixed xC xD xD ?_ | refine J_draw (id := 13) [0, 1, 2, 3, 4, 5] [6, 7, 8, 9, 10, 11] mixed xC xD xD ?_ | fail))
  exact J_ret1 rfl (by rfl) fun w H => ⟨_, ⟨rfl, rfl⟩, H.sel xZ⟩
theorem wantoff_s (B : Int) (hB : B ≤ 1000000000) (vb sp tb : Nat) (E : List T.Ent) (S S1 : List En) (c : Int) (p : T.Pf) (x : T.Vt) (d : At) (hp : T.PfN p) (hr : T.Rt p) (hg : T.getL E p = some x) (hE : T.EOk E) (hn : E.length < 4096) (hs : StOk B S c) (h1 : frF S x.1 = S1) : Pact Try.prog 10 #[.pointer (some ⟨vb, 0, none⟩), .agg (T.pfC p).toArray, .agg (atC d).toArray, .bool false] (fun _ => True) (vsL vb sp tb E S c) (fun u L' => u = .int .i64 0 ∧ L' = vsL vb sp tb (T.setE E p (0, x.2.1, false)) S1 c) := by
  refine pact Try.func10 rfl Try.ntmps10 rfl ?_
  intro W K _
  have k := T.get_old tb E p hp _ rfl _ rfl
  (repeat' (first | ((with_reducible apply gL); (first | refine yL0 ?_ | refine yL ?_ | ((with_reducible apply gL_go); (first | (refine JL_goq (vis_s vb (sA sp) tb (dueI E) (wntI E)) (hφ := xF) (h := ?_); rintro _ _ ⟨rfl, rfl⟩; try simp only [List.cons_append, List.nil_append]) | (refine JL_goq (k) (hφ := xF) (h := ?_); rintro _ _ ⟨rfl, rfl⟩; try simp only [List.cons_append, List.nil_append]) | (refine JL_goq (T.right_b p hp true (decide_eq_true hr)) (hφ := xF) (h := ?_); rintro _ _ ⟨rfl, rfl⟩; try simp only [List.cons_append, List.nil_append]) | (refine JL_goq (vdrop_s B hB vb sp tb E S S1 c p x hp hg hE hn hs h1) (hφ := xF) (h := ?_); rintro _ _ rfl; try simp only [List.cons_append, List.nil_append]) | fail)) | (refine yM ?_; intro _) | ((with_reducible apply gL_gd); (first | (refine JL_guard xR xR ?_ ?_ <;> intro _ <;> (try (exfalso; first | contradiction | omega))) | (refine JL_guardb xR xR ?_ ?_ <;> (intro hgb; subst hgb)) | (refine JL_guardb xR xR ?_ ?_ <;> (intro hgb; fail_if_success (have : type_of% hgb := rfl))) | fail)) | fail)) | ((with_reducible apply gD); (first | (refine JD_nil ?_; try simp only [List.cons_append, List.nil_append]) | (refine JD_bar ?_; try simp only [List.cons_append, List.nil_append]) | refine yD ?_ | ((with_reducible apply gD_go); (first | (refine JD_goq (vis_s vb (sA sp) tb (dueI E) (wntI E)) (hφ := xF) (h := ?_); rintro _ _ ⟨rfl, rfl⟩; try simp only [List.cons_append, List.nil_append]) | (refine JD_goq (k) (hφ := xF) (h := ?_); rintro _ _ ⟨rfl, rfl⟩; try simp only [List.cons_append, List.nil_append]) | (refine JD_goq (T.right_b p hp true (decide_eq_true hr)) (hφ := xF) (h := ?_); rintro _ _ ⟨rfl, rfl⟩; try simp only [List.cons_append, List.nil_append]) | (refine JD_goq (vdrop_s B hB vb sp tb E S S1 c p x hp hg hE hn hs h1) (hφ := xF) (h := ?_); rintro _ _ rfl; try simp only [List.cons_append, List.nil_append]) | fail)) | (refine yE ?_; intro _) | fail)) | refine yJ ?_ | ((with_reducible apply gJ_if); (first | (refine J_if xR ?_ ?_ <;> intro _ <;> (try (exfalso; first | contradiction | omega))) | (refine J_ifb xR ?_ ?_ <;> (intro hgb; subst hgb)) | (refine J_ifb xR ?_ ?_ <;> intro _) | fail)) | refine J_draw (id := 3) [0, 1, 2, 3, 4, 5, 6, 7, 8, 9, 10] [11] mixed xC xD xD ?_ | refine J_draw (id := 13) [0, 1, 2, 3, 4, 5] [6, 7, 8, 9, 10, 11] mixed xC xD xD ?_ | fail))
  exact J_ret1 rfl (by rfl) fun w H => ⟨_, ⟨rfl, rfl⟩, H.sel xZ⟩
theorem want_s (B : Int) (hB0 : 0 ≤ B) (hB : B ≤ 1000000) (vb sp tb : Nat) (E : List T.Ent) (S S1 S2 : List En) (c c1 id : Int) (p : T.Pf) (o : T.Vt) (d : At) (hd : AtF d) (hp : T.PfN p) (hr : T.Rt p) (hok : okN d.nf = true) (ho : T.oldV E p = o) (hE : T.EOk E) (hn : E.length < 4096) (hs : StOk B S c) (hk : keepF S c (bareN d.nf) = ((S1, c1), id, 0)) (hs1 : StOk (B + 1) S1 c1) (hid : I64 id) (hox : T.VN o) (h2 : frF S1 o.1 = S2) : Pact Try.prog 10 #[.pointer (some ⟨vb, 0, none⟩), .agg (T.pfC p).toArray, .agg (atC d).toArray, .bool true] (fun w => AtV w d) (vsL vb sp tb E S c) (fun u L' => u = .int .i64 0 ∧ L' = vsL vb sp tb (T.setE E p (id, o.2.1, o.2.2)) S2 c1) := by
  refine pact Try.func10 rfl Try.ntmps10 rfl ?_
  intro W K hK
  obtain ⟨b, hb⟩ : ∃ b, (T.getL E p).isSome = b := ⟨_, rfl⟩
  have k := T.get_old tb E p hp o ho b hb
  have kc := check_s d hd
  rw [hok] at kc
  have kb := bare_s d hd
  have kf := free_w (B + 1) (by omega) vb sp tb E S1 S2 c1 o.1 hs1 h2
  have ks := set_s vb (sA sp) tb E p (id, o.2.1, o.2.2) hE hp hr ⟨hid, hox.2⟩ hn
  have kl := T.len_a tb E
  cases b
  all_goals (
    (repeat' (first | ((with_reducible apply gL); (first | refine yL0 ?_ | refine yL ?_ | ((with_reducible apply gL_go); (first | (refine JL_goq (vis_s vb (sA sp) tb (dueI E) (wntI E)) (hφ := xF) (h := ?_); rintro _ _ ⟨rfl, rfl⟩; try simp only [List.cons_append, List.nil_append]) | (refine JL_goq (k) (hφ := xF) (h := ?_); rintro _ _ ⟨rfl, rfl⟩; try simp only [List.cons_append, List.nil_append]) | (refine JL_goq (T.right_b p hp true (decide_eq_true hr)) (hφ := xF) (h := ?_); rintro _ _ ⟨rfl, rfl⟩; try simp only [List.cons_append, List.nil_append]) | (refine JL_goq (kc) (hφ := (by (try simp only [List.cons_append, List.nil_append]); exact fun w hr => hK w hr.1)) (h := ?_); rintro _ _ ⟨rfl, rfl⟩; try simp only [List.cons_append, List.nil_append]) | (refine JL_goq (kl) (hφ := xF) (h := ?_); rintro _ _ ⟨rfl, rfl⟩; try simp only [List.cons_append, List.nil_append]) | (refine JL_goq (kb) (hφ := (by (try simp only [List.cons_append, List.nil_append]); exact fun w hr => hK w hr.1)) (h := ?_); rintro _ _ ⟨d', ⟨hd', hnf⟩, rfl, rfl⟩; try simp only [List.cons_append, List.nil_append]) | fail)) | (refine yM ?_; intro _) | ((with_reducible apply gL_gd); (first | (refine JL_guard xR xR ?_ ?_ <;> intro _ <;> (try (exfalso; first | contradiction | omega))) | (refine JL_guardb xR xR ?_ ?_ <;> (intro hgb; subst hgb)) | (refine JL_guardb xR xR ?_ ?_ <;> (intro hgb; fail_if_success (have : type_of% hgb := rfl))) | fail)) | fail)) | ((with_reducible apply gD); (first | (refine JD_nil ?_; try simp only [List.cons_append, List.nil_append]) | (refine JD_bar ?_; try simp only [List.cons_append, List.nil_append]) | refine yD ?_ | ((with_reducible apply gD_go); (first | (refine JD_goq (vis_s vb (sA sp) tb (dueI E) (wntI E)) (hφ := xF) (h := ?_); rintro _ _ ⟨rfl, rfl⟩; try simp only [List.cons_append, List.nil_append]) | (refine JD_goq (k) (hφ := xF) (h := ?_); rintro _ _ ⟨rfl, rfl⟩; try simp only [List.cons_append, List.nil_append]) | (refine JD_goq (T.right_b p hp true (decide_eq_true hr)) (hφ := xF) (h := ?_); rintro _ _ ⟨rfl, rfl⟩; try simp only [List.cons_append, List.nil_append]) | (refine JD_goq (kc) (hφ := (by (try simp only [List.cons_append, List.nil_append]); exact fun w hr => hK w hr.1)) (h := ?_); rintro _ _ ⟨rfl, rfl⟩; try simp only [List.cons_append, List.nil_append]) | (refine JD_goq (kl) (hφ := xF) (h := ?_); rintro _ _ ⟨rfl, rfl⟩; try simp only [List.cons_append, List.nil_append]) | (refine JD_goq (kb) (hφ := (by (try simp only [List.cons_append, List.nil_append]); exact fun w hr => hK w hr.1)) (h := ?_); rintro _ _ ⟨d', ⟨hd', hnf⟩, rfl, rfl⟩; try simp only [List.cons_append, List.nil_append]) | fail)) | (refine yE ?_; intro _) | fail)) | refine yJ ?_ | ((with_reducible apply gJ_if); (first | (refine J_if xR ?_ ?_ <;> intro _ <;> (try (exfalso; first | contradiction | omega))) | (refine J_ifb xR ?_ ?_ <;> (intro hgb; subst hgb)) | (refine J_ifb xR ?_ ?_ <;> intro _) | fail)) | refine J_draw (id := 3) [0, 1, 2, 3, 4, 5, 6, 7, 8, 9, 10] [11] mixed xC xD xD ?_ | refine J_draw (id := 13) [0, 1, 2, 3, 4, 5] [6, 7, 8, 9, 10, 11] mixed xC xD xD ?_ | fail))
    have kk := keep_s B hB0 (by omega) sp S c d' hd' hs
    rw [hnf, hk] at kk
    dsimp only at kk
    (repeat' (first | ((with_reducible apply gL); (first | refine yL0 ?_ | refine yL ?_ | ((with_reducible apply gL_go); (first | (refine JL_goq (kk) (hφ := (by (try simp only [List.cons_append, List.nil_append]); exact fun w hr => hr.has xA)) (h := ?_); rintro _ _ ⟨rfl, rfl⟩; try simp only [List.cons_append, List.nil_append]) | (refine JL_goq (kf) (hφ := xF) (h := ?_); rintro _ _ rfl; try simp only [List.cons_append, List.nil_append]) | (refine JL_goq (ks) (hφ := xF) (h := ?_); rintro _ _ rfl; try simp only [List.cons_append, List.nil_append]) | fail)) | (refine yM ?_; intro _) | ((with_reducible apply gL_gd); (first | (refine JL_guard xR xR ?_ ?_ <;> intro _ <;> (try (exfalso; first | contradiction | omega))) | (refine JL_guardb xR xR ?_ ?_ <;> (intro hgb; subst hgb)) | (refine JL_guardb xR xR ?_ ?_ <;> (intro hgb; fail_if_success (have : type_of% hgb := rfl))) | fail)) | fail)) | ((with_reducible apply gD); (first | (refine JD_nil ?_; try simp only [List.cons_append, List.nil_append]) | (refine JD_bar ?_; try simp only [List.cons_append, List.nil_append]) | refine yD ?_ | ((with_reducible apply gD_go); (first | (refine JD_goq (kk) (hφ := (by (try simp only [List.cons_append, List.nil_append]); exact fun w hr => hr.has xA)) (h := ?_); rintro _ _ ⟨rfl, rfl⟩; try simp only [List.cons_append, List.nil_append]) | (refine JD_goq (kf) (hφ := xF) (h := ?_); rintro _ _ rfl; try simp only [List.cons_append, List.nil_append]) | (refine JD_goq (ks) (hφ := xF) (h := ?_); rintro _ _ rfl; try simp only [List.cons_append, List.nil_append]) | fail)) | (refine yE ?_; intro _) | fail)) | refine yJ ?_ | ((with_reducible apply gJ_if); (first | (refine J_if xR ?_ ?_ <;> intro _ <;> (try (exfalso; first | contradiction | omega))) | (refine J_ifb xR ?_ ?_ <;> (intro hgb; subst hgb)) | (refine J_ifb xR ?_ ?_ <;> intro _) | fail)) | refine J_draw (id := 3) [0, 1, 2, 3, 4, 5, 6, 7, 8, 9, 10] [11] mixed xC xD xD ?_ | refine J_draw (id := 13) [0, 1, 2, 3, 4, 5] [6, 7, 8, 9, 10, 11] mixed xC xD xD ?_ | fail))
    exact J_ret1 rfl (by rfl) fun w H => ⟨_, ⟨rfl, rfl⟩, H.sel xZ⟩)
theorem wanted_s (vb sp tb : Nat) (E : List T.Ent) (S : List En) (c : Int) (p : T.Pf) (hp : T.PfN p) : Pact Try.prog 7 #[.pointer (some ⟨vb, 0, none⟩), .agg (T.pfC p).toArray] (fun _ => True) (vsL vb sp tb E S c) (fun u L' => ∃ d', (AtF d' ∧ d'.nf = whatX S (T.oldV E p).1) ∧ u = .tuple #[.agg (atC d').toArray, .bool (whatB S (T.oldV E p).1)] ∧ L' = [pts vb (vwC (sA sp) tb (dueI E) (wntI E)) 36, T.trA tb E, stoA sp S c, has (fun w => AtV w d')]) := by
  refine pact Try.func7 rfl Try.ntmps7 rfl ?_
  intro W K _
  obtain ⟨o, ho⟩ : ∃ o, T.oldV E p = o := ⟨_, rfl⟩
  have k := T.get_old tb E p hp o ho _ rfl
  rw [ho]
  (repeat' (first | ((with_reducible apply gL); (first | refine yL0 ?_ | refine yL ?_ | ((with_reducible apply gL_go); (first | (refine JL_goq (vis_s vb (sA sp) tb (dueI E) (wntI E)) (hφ := xF) (h := ?_); rintro _ _ ⟨rfl, rfl⟩; try simp only [List.cons_append, List.nil_append]) | (refine JL_goq (k) (hφ := xF) (h := ?_); rintro _ _ ⟨rfl, rfl⟩; try simp only [List.cons_append, List.nil_append]) | (refine JL_goq (what_v vb sp tb (dueI E) (wntI E) S c o.1) (hφ := xF) (h := ?_); rintro _ _ ⟨d', hd', rfl, rfl⟩; try simp only [List.cons_append, List.nil_append]) | fail)) | (refine yM ?_; intro _) | fail)) | ((with_reducible apply gD); (first | (refine JD_nil ?_; try simp only [List.cons_append, List.nil_append]) | (refine JD_bar ?_; try simp only [List.cons_append, List.nil_append]) | refine yD ?_ | ((with_reducible apply gD_go); (first | (refine JD_goq (vis_s vb (sA sp) tb (dueI E) (wntI E)) (hφ := xF) (h := ?_); rintro _ _ ⟨rfl, rfl⟩; try simp only [List.cons_append, List.nil_append]) | (refine JD_goq (k) (hφ := xF) (h := ?_); rintro _ _ ⟨rfl, rfl⟩; try simp only [List.cons_append, List.nil_append]) | (refine JD_goq (what_v vb sp tb (dueI E) (wntI E) S c o.1) (hφ := xF) (h := ?_); rintro _ _ ⟨d', hd', rfl, rfl⟩; try simp only [List.cons_append, List.nil_append]) | fail)) | (refine yE ?_; intro _) | fail)) | refine yJ ?_ | ((with_reducible apply gJ_if); (first | (refine J_if xR ?_ ?_ <;> intro _ <;> (try (exfalso; first | contradiction | omega))) | (refine J_ifb xR ?_ ?_ <;> (intro hgb; subst hgb)) | (refine J_ifb xR ?_ ?_ <;> intro _) | fail)) | refine J_draw (id := 3) [0, 1, 2, 3, 4, 5, 6, 7, 8, 9, 10] [11] mixed xC xD xD ?_ | fail))
  exact J_retC1 (cs := atC d') rfl (by rfl) (by rfl) xA (by rfl) fun w H => ⟨_, ⟨d', hd', rfl, rfl⟩, H.sel xZ⟩
theorem said_s (vb sp tb : Nat) (E : List T.Ent) (S : List En) (c : Int) (p : T.Pf) (hp : T.PfN p) : Pact Try.prog 8 #[.pointer (some ⟨vb, 0, none⟩), .agg (T.pfC p).toArray] (fun _ => True) (vsL vb sp tb E S c) (fun u L' => ∃ d', (AtF d' ∧ d'.nf = whatX S (T.oldV E p).2.1) ∧ u = .tuple #[.agg (atC d').toArray, .bool (whatB S (T.oldV E p).2.1)] ∧ L' = [pts vb (vwC (sA sp) tb (dueI E) (wntI E)) 36, T.trA tb E, stoA sp S c, has (fun w => AtV w d')]) := by
  refine pact Try.func8 rfl Try.ntmps8 rfl ?_
  intro W K _
  obtain ⟨o, ho⟩ : ∃ o, T.oldV E p = o := ⟨_, rfl⟩
  have k := T.get_old tb E p hp o ho _ rfl
  rw [ho]
  (repeat' (first | ((with_reducible apply gL); (first | refine yL0 ?_ | refine yL ?_ | ((with_reducible apply gL_go); (first | (refine JL_goq (vis_s vb (sA sp) tb (dueI E) (wntI E)) (hφ := xF) (h := ?_); rintro _ _ ⟨rfl, rfl⟩; try simp only [List.cons_append, List.nil_append]) | (refine JL_goq (k) (hφ := xF) (h := ?_); rintro _ _ ⟨rfl, rfl⟩; try simp only [List.cons_append, List.nil_append]) | (refine JL_goq (what_v vb sp tb (dueI E) (wntI E) S c o.2.1) (hφ := xF) (h := ?_); rintro _ _ ⟨d', hd', rfl, rfl⟩; try simp only [List.cons_append, List.nil_append]) | fail)) | (refine yM ?_; intro _) | fail)) | ((with_reducible apply gD); (first | (refine JD_nil ?_; try simp only [List.cons_append, List.nil_append]) | (refine JD_bar ?_; try simp only [List.cons_append, List.nil_append]) | refine yD ?_ | ((with_reducible apply gD_go); (first | (refine JD_goq (vis_s vb (sA sp) tb (dueI E) (wntI E)) (hφ := xF) (h := ?_); rintro _ _ ⟨rfl, rfl⟩; try simp only [List.cons_append, List.nil_append]) | (refine JD_goq (k) (hφ := xF) (h := ?_); rintro _ _ ⟨rfl, rfl⟩; try simp only [List.cons_append, List.nil_append]) | (refine JD_goq (what_v vb sp tb (dueI E) (wntI E) S c o.2.1) (hφ := xF) (h := ?_); rintro _ _ ⟨d', hd', rfl, rfl⟩; try simp only [List.cons_append, List.nil_append]) | fail)) | (refine yE ?_; intro _) | fail)) | refine yJ ?_ | ((with_reducible apply gJ_if); (first | (refine J_if xR ?_ ?_ <;> intro _ <;> (try (exfalso; first | contradiction | omega))) | (refine J_ifb xR ?_ ?_ <;> (intro hgb; subst hgb)) | (refine J_ifb xR ?_ ?_ <;> intro _) | fail)) | refine J_draw (id := 3) [0, 1, 2, 3, 4, 5, 6, 7, 8, 9, 10] [11] mixed xC xD xD ?_ | fail))
  exact J_retC1 (cs := atC d') rfl (by rfl) (by rfl) xA (by rfl) fun w H => ⟨_, ⟨d', hd', rfl, rfl⟩, H.sel xZ⟩
theorem vnew_s (sp : Nat) : Pact Try.prog 9 #[.pointer (some ⟨sp, 0, none⟩)] (fun _ => True) [stoA sp [] 0] (fun u L' => ∃ vb tb, u = .tuple #[.pointer (some ⟨vb, 0, none⟩), .int .i64 0] ∧ L' = vsL vb sp tb [] [] 0) := by
  refine pact Try.func9 rfl Try.ntmps9 rfl ?_
  intro W K _
  have hf := free_s 0 (by omega) sp [] 0 0 stok_nil
  (repeat' (first | ((with_reducible apply gL); (first | refine yL0 ?_ | refine yL ?_ | ((with_reducible apply gL_go); (first | (refine JL_goq (hf) (hφ := xF) (h := ?_); rintro _ _ ⟨rfl, rfl⟩; try simp only [List.cons_append, List.nil_append]) | (refine JL_goq (T.new_a) (hφ := xF) (h := ?_); rintro _ _ ⟨tb, rfl, rfl⟩; try simp only [List.cons_append, List.nil_append]) | fail)) | (refine yM ?_; intro _) | fail)) | refine yJ ?_ | ((with_reducible apply gJ_if); (first | (refine J_if xR ?_ ?_ <;> intro _ <;> (try (exfalso; first | contradiction | omega))) | (refine J_ifb xR ?_ ?_ <;> (intro hgb; subst hgb)) | (refine J_ifb xR ?_ ?_ <;> intro _) | fail)) | fail))
  exact J_ret2 rfl (by rfl) (by rfl) fun w H => ⟨_, ⟨_, tb, rfl, rfl⟩, H.sel xZ⟩
end Go.Proofs.Ytdnokmpnemaoaaa
namespace Go.Proofs.Ytdnokmpnemaoaaa
set_option linter.unusedSimpArgs false
set_option linter.unusedVariables false
set_option maxRecDepth 20000
set_option maxHeartbeats 4000000
open Go.RowKit Go.Pm

/-- What is handed out: the keys one by one, each as it is by then. -/
def thoseL (s : List T.Ent → List T.Ent) (q : T.Vt → Bool) : List T.Pf → List T.Ent → List T.Ent
  | [], pre => pre
  | p :: ks, pre => if q (T.oldV (s pre) p) then thoseL s q ks (pre ++ [(p, T.oldV (s pre) p)]) else thoseL s q ks pre
theorem thoseL_snoc (s : List T.Ent → List T.Ent) (q : T.Vt → Bool) (p : T.Pf) : ∀ (ks : List T.Pf) (pre : List T.Ent), thoseL s q (ks ++ [p]) pre = (if q (T.oldV (s (thoseL s q ks pre)) p) then thoseL s q ks pre ++ [(p, T.oldV (s (thoseL s q ks pre)) p)] else thoseL s q ks pre)
  | [], pre => rfl
  | k :: ks, pre => by
    simp only [List.cons_append, thoseL]
    split
    · exact thoseL_snoc s q p ks _
    · exact thoseL_snoc s q p ks _
def enc2 (e : T.Ent) : List Value := [.agg (T.pfC e.1).toArray, .agg (T.vC e.2).toArray]
abbrev keysOf (s : List T.Ent → List T.Ent) : List T.Pf := T.keysE (s [])
/-- What is handed out next. -/
def nextG (s : List T.Ent → List T.Ent) (q : T.Vt → Bool) (pre : List T.Ent) (x : T.Ent) : Prop := ∃ k, pre = thoseL s q ((keysOf s).take k) [] ∧ (keysOf s)[k]? = some x.1 ∧ x.2 = T.oldV (s pre) x.1 ∧ q x.2 = true
theorem those_s (v : Option Addr) (qf : FuncId) : Pact Try.prog 17 #[.pointer v, .func (.func qf) #[] #[]] (fun _ => True) [] (fun u L' => ∃ g h, u = .func (.func 35) #[] #[.pointer (some ⟨g, 0, none⟩), .pointer (some ⟨h, 0, none⟩)] ∧ L' = [pts g [.pointer v] 32, pts h [.func (.func qf) #[] #[]] 56]) := by
  refine pact Try.func17 rfl Try.ntmps17 rfl ?_
  intro W K _
  (repeat' (first | ((with_reducible apply gL); (first | refine yL0 ?_ | refine yL ?_ | (refine yM ?_; intro _) | fail)) | refine yJ ?_ | fail))
  exact J_ret1 rfl (by rfl) fun w H => ⟨_, ⟨_, _, rfl, rfl⟩, H.sel xZ⟩
abbrev QV (vb : Nat) (sp : Option Addr) (tb : Nat) (s : List T.Ent → List T.Ent) (Y : List T.Ent → HP) : Prop := ∃ Y' : List T.Ent → HP, ∀ pre h, Y pre h ↔ sats [pts vb (vwC sp tb (dueI (s pre)) (wntI (s pre))) 36, T.trA tb (s pre), Y' pre] h
theorem those1_it (vb : Nat) (sp : Option Addr) (tb g h : Nat) (s : List T.Ent → List T.Ent) (q : T.Vt → Bool) (qf : FuncId) (ho : ownB Try.prog qf = true) (hq : ∀ x, Pact Try.prog qf #[.agg (T.vC x).toArray] (fun _ => True) [] (ret0 (.bool (q x)))) (hs : T.EOk (s [])) (hl : (s []).length ≤ 4096) :
    IterQ Try.prog 35 (fun l => [yldV l, .pointer (some ⟨g, 0, none⟩), .pointer (some ⟨h, 0, none⟩)]) (fun w => w.cell? ⟨g, 0, none⟩ = some (.pointer (some ⟨vb, 0, none⟩)) ∧ w.cell? ⟨h, 0, none⟩ = some (.func (.func qf) #[] #[])) enc2 (nextG s q) (fun xs => xs = thoseL s q (keysOf s) []) (fun pre => ∃ k, pre = thoseL s q ((keysOf s).take k) []) (QV vb sp tb s) := by
  refine iterQ Try.func35 rfl Try.ntmps35 (fun _ => rfl) ?_
  intro K0 l Y Yx ⟨Y', hQ⟩ hY W K hK hφ
  have h1 : Kn K (fun w => w.cell? ⟨g, 0, none⟩ = some (.pointer (some ⟨vb, 0, none⟩))) := hφ.left
  have h2 : Kn K (fun w => w.cell? ⟨h, 0, none⟩ = some (.func (.func qf) #[] #[])) := hφ.right
  have opn : ∀ {pre : List T.Ent} {L R : List HP} {w : World}, Ow W K L w → Tk L (Y pre) R → Ow W K (pts vb (vwC sp tb (dueI (s pre)) (wntI (s pre))) 36 :: T.trA tb (s pre) :: Y' pre :: R) w := fun H t => by
    obtain ⟨_, H2⟩ := H.open (α := Unit) t (Bs := fun _ => [pts vb (vwC sp tb (dueI (s _)) (wntI (s _))) 36, T.trA tb (s _), Y' _]) (fun k hk => ⟨(), (hQ _ k).1 hk⟩)
    exact H2
  have sht : ∀ {pre : List T.Ent} {L R : List HP} {w : World}, Ow W K L w → Sb L [pts vb (vwC sp tb (dueI (s pre)) (wntI (s pre))) 36, T.trA tb (s pre), Y' pre] R → Ow W K (Y pre :: R) w := fun H t => H.shut t (fun k hk => (hQ _ k).2 hk)
  have hkl : (keysOf s).length ≤ 4096 := by show (List.map _ _).length ≤ _; rw [List.length_map]; exact hl
  refine J_heap (fun w H => opn H .here) ?_
  obtain ⟨ks, hks⟩ : ∃ ks, keysOf s = ks := ⟨_, rfl⟩
  have hkn : ∀ p ∈ ks, T.PfN p := fun p hp => by
    rw [← hks] at hp
    obtain ⟨e, he, rfl⟩ := List.mem_map.1 hp
    exact (hs.e e he).2.1
  have hall := T.all_a tb (s []) hl
  have ek : T.keysE (s []) = ks := hks
  rw [ek] at hall
  rw [hks] at hkl
  (repeat' (first | ((with_reducible apply gL); (first | refine yL0 ?_ | refine yL ?_ | ((with_reducible apply gL_go); (first | (refine JL_goq (vis_s vb sp tb (dueI (s [])) (wntI (s []))) (hφ := xF) (h := ?_); rintro _ _ ⟨rfl, rfl⟩; try simp only [List.cons_append, List.nil_append]) | (refine JL_goq (hall) (hφ := xF) (h := ?_); rintro _ _ ⟨a, c, rfl, rfl⟩; try simp only [List.cons_append, List.nil_append]) | fail)) | (refine yM ?_; intro _) | ((with_reducible apply gL_gd); (first | (refine JL_guard xR xR ?_ ?_ <;> intro _ <;> (try (exfalso; first | contradiction | omega))) | (refine JL_guardb xR xR ?_ ?_ <;> (intro hgb; subst hgb)) | (refine JL_guardb xR xR ?_ ?_ <;> (intro hgb; fail_if_success (have : type_of% hgb := rfl))) | fail)) | fail)) | ((with_reducible apply gD); (first | (refine JD_nil ?_; try simp only [List.cons_append, List.nil_append]) | (refine JD_bar ?_; try simp only [List.cons_append, List.nil_append]) | refine yD ?_ | ((with_reducible apply gD_go); (first | (refine JD_goq (vis_s vb sp tb (dueI (s [])) (wntI (s []))) (hφ := xF) (h := ?_); rintro _ _ ⟨rfl, rfl⟩; try simp only [List.cons_append, List.nil_append]) | (refine JD_goq (hall) (hφ := xF) (h := ?_); rintro _ _ ⟨a, c, rfl, rfl⟩; try simp only [List.cons_append, List.nil_append]) | fail)) | (refine yE ?_; intro _) | fail)) | refine yJ ?_ | ((with_reducible apply gJ_if); (first | (refine J_if xR ?_ ?_ <;> intro _ <;> (try (exfalso; first | contradiction | omega))) | (refine J_ifb xR ?_ ?_ <;> (intro hgb; subst hgb)) | (refine J_ifb xR ?_ ?_ <;> intro _) | fail)) | refine J_draw (id := 4) [0, 1, 2, 3, 4, 5, 6, 7, 8, 9, 10] [11] mixed xC xD xD ?_ | fail))
  refine J_loop (α := Nat) 0 (fun x => ks.length - x) (fun x => x ≤ ks.length) (fun x => [(0, yldV l), (1, .pointer (some ⟨g, 0, none⟩)), (2, .pointer (some ⟨h, 0, none⟩)), (15, .slice a ks.length c), (16, .int .i64 ks.length), (17, .int .i64 x)])
    (fun x => [Y (thoseL s q (ks.take x) []), Ar 25 2 T.pfC (.slice a ks.length c) ks]) (Nat.zero_le _) ⟨rfl, rfl, rfl, rfl, rfl, rfl, trivial⟩ (fun w H => (sht (pre := []) H xZ).sel xZ) ?_
  intro x hx
  obtain ⟨pre, hpre⟩ : ∃ pre, thoseL s q (ks.take x) [] = pre := ⟨_, rfl⟩
  rw [hpre]
  by_cases hlt : x < ks.length
  · obtain ⟨p, hp⟩ : ∃ p, ks[x]? = some p := ⟨_, List.getElem?_eq_getElem hlt⟩
    have hpn := hkn p (List.mem_of_getElem? hp)
    have hsn : thoseL s q (ks.take (x + 1)) [] = if q (T.oldV (s pre) p) then pre ++ [(p, T.oldV (s pre) p)] else pre := by
      rw [take_snoc hp, thoseL_snoc, hpre]
    obtain ⟨o, hov⟩ : ∃ o, T.oldV (s pre) p = o := ⟨_, rfl⟩
    have kg := T.get_old tb (s pre) p hpn o hov _ rfl
    refine J_heap (fun w H => opn H .here) ?_
    have kq := hq o
    rcases hqo : q o with _ | _
    · rw [hov, hqo] at hsn
      rw [hqo] at kq
      (repeat' (first | ((with_reducible apply gL); (first | refine yL0 ?_ | refine yL ?_ | ((with_reducible apply gL_go); (first | (refine JL_goq (kg) (hφ := xF) (h := ?_); rintro _ _ ⟨rfl, rfl⟩; try simp only [List.cons_append, List.nil_append]) | (refine JL_goq (kq) (hφ := xF) (h := ?_); rintro _ _ ⟨rfl, rfl⟩; try simp only [List.cons_append, List.nil_append]) | fail)) | (refine yM ?_; intro _) | ((with_reducible apply gL_gd); (first | (refine JL_guard xR xR ?_ ?_ <;> intro _ <;> (try (exfalso; first | contradiction | omega))) | (refine JL_guardb xR xR ?_ ?_ <;> (intro hgb; subst hgb)) | (refine JL_guardb xR xR ?_ ?_ <;> (intro hgb; fail_if_success (have : type_of% hgb := rfl))) | fail)) | fail)) | ((with_reducible apply gD); (first | (refine JD_nil ?_; try simp only [List.cons_append, List.nil_append]) | (refine JD_bar ?_; try simp only [List.cons_append, List.nil_append]) | refine yD ?_ | ((with_reducible apply gD_go); (first | (refine JD_goq (kg) (hφ := xF) (h := ?_); rintro _ _ ⟨rfl, rfl⟩; try simp only [List.cons_append, List.nil_append]) | (refine JD_goq (kq) (hφ := xF) (h := ?_); rintro _ _ ⟨rfl, rfl⟩; try simp only [List.cons_append, List.nil_append]) | fail)) | (refine yE ?_; intro _) | fail)) | refine yJ ?_ | ((with_reducible apply gJ_if); (first | (refine J_if xR ?_ ?_ <;> intro _ <;> (try (exfalso; first | contradiction | omega))) | (refine J_ifb xR ?_ ?_ <;> (intro hgb; subst hgb)) | (refine J_ifb xR ?_ ?_ <;> intro _) | fail)) | refine J_draw (id := 4) [0, 1, 2, 3, 4, 5, 6, 7, 8, 9, 10] [11] mixed xC xD xD ?_ | fail))
      refine J_again (x + 1) (by omega) (by omega) ⟨rfl, rfl, rfl, rfl, rfl, rfl, trivial⟩ (fun w H => ?_)
      rw [hsn]
      exact (sht (pre := pre) H xZ).sel xZ
    · rw [hov, hqo] at hsn
      rw [hqo] at kq
      have hG : nextG s q pre (p, o) := ⟨x, by rw [hks]; exact hpre.symm, by rw [hks]; exact hp, hov.symm, hqo⟩
      (repeat' (first | ((with_reducible apply gL); (first | refine yL0 ?_ | refine yL ?_ | ((with_reducible apply gL_go); (first | (refine JL_goq (kg) (hφ := xF) (h := ?_); rintro _ _ ⟨rfl, rfl⟩; try simp only [List.cons_append, List.nil_append]) | (refine JL_goq (kq) (hφ := xF) (h := ?_); rintro _ _ ⟨rfl, rfl⟩; try simp only [List.cons_append, List.nil_append]) | fail)) | (refine yM ?_; intro _) | ((with_reducible apply gL_gd); (first | (refine JL_guard xR xR ?_ ?_ <;> intro _ <;> (try (exfalso; first | contradiction | omega))) | (refine JL_guardb xR xR ?_ ?_ <;> (intro hgb; subst hgb)) | (refine JL_guardb xR xR ?_ ?_ <;> (intro hgb; fail_if_success (have : type_of% hgb := rfl))) | fail)) | fail)) | ((with_reducible apply gD); (first | (refine JD_nil ?_; try simp only [List.cons_append, List.nil_append]) | (refine JD_bar ?_; try simp only [List.cons_append, List.nil_append]) | refine yD ?_ | ((with_reducible apply gD_go); (first | (refine JD_goq (kg) (hφ := xF) (h := ?_); rintro _ _ ⟨rfl, rfl⟩; try simp only [List.cons_append, List.nil_append]) | (refine JD_goq (kq) (hφ := xF) (h := ?_); rintro _ _ ⟨rfl, rfl⟩; try simp only [List.cons_append, List.nil_append]) | fail)) | (refine yE ?_; intro _) | fail)) | refine yJ ?_ | ((with_reducible apply gJ_if); (first | (refine J_if xR ?_ ?_ <;> intro _ <;> (try (exfalso; first | contradiction | omega))) | (refine J_ifb xR ?_ ?_ <;> (intro hgb; subst hgb)) | (refine J_ifb xR ?_ ?_ <;> intro _) | fail)) | refine J_draw (id := 4) [0, 1, 2, 3, 4, 5, 6, 7, 8, 9, 10] [11] mixed xC xD xD ?_ | fail))
      refine JL_heap (fun w H => sht (pre := pre) H xZ) ?_
      refine JL_y (hY pre (p, o) hG) xH xR xR xS xR xR ?_
      rintro _ _ (⟨rfl, rfl⟩ | ⟨rfl, rfl⟩) <;> simp only [List.cons_append, List.nil_append]
      all_goals (repeat' (first | ((with_reducible apply gL); (first | refine yL0 ?_ | refine yL ?_ | (refine yM ?_; intro _) | ((with_reducible apply gL_gd); (first | (refine JL_guard xR xR ?_ ?_ <;> intro _ <;> (try (exfalso; first | contradiction | omega))) | (refine JL_guardb xR xR ?_ ?_ <;> (intro hgb; subst hgb)) | (refine JL_guardb xR xR ?_ ?_ <;> (intro hgb; fail_if_success (have : type_of% hgb := rfl))) | fail)) | fail)) | ((with_reducible apply gD); (first | (refine JD_nil ?_; try simp only [List.cons_append, List.nil_append]) | (refine JD_bar ?_; try simp only [List.cons_append, List.nil_append]) | refine yD ?_ | (refine yE ?_; intro _) | fail)) | refine yJ ?_ | ((with_reducible apply gJ_if); (first | (refine J_if xR ?_ ?_ <;> intro _ <;> (try (exfalso; first | contradiction | omega))) | (refine J_ifb xR ?_ ?_ <;> (intro hgb; subst hgb)) | (refine J_ifb xR ?_ ?_ <;> intro _) | fail)) | refine J_draw (id := 4) [0, 1, 2, 3, 4, 5, 6, 7, 8, 9, 10] [11] mixed xC xD xD ?_ | fail))
      · refine J_again (x + 1) (by omega) (by omega) ⟨rfl, rfl, rfl, rfl, rfl, rfl, trivial⟩ (fun w H => ?_)
        rw [hsn]
        exact H.sel xZ
      · refine J_ret0 rfl fun w H => ⟨[Yx (pre ++ [(p, o)])], .inr ⟨_, ⟨x + 1, ?_⟩, rfl⟩, H.sel xZ⟩
        rw [hks, hsn]
        rfl
  · obtain rfl : x = ks.length := by omega
    rw [List.take_length] at hpre
    (repeat' (first | ((with_reducible apply gL); (first | refine yL0 ?_ | refine yL ?_ | (refine yM ?_; intro _) | ((with_reducible apply gL_gd); (first | (refine JL_guard xR xR ?_ ?_ <;> intro _ <;> (try (exfalso; first | contradiction | omega))) | (refine JL_guardb xR xR ?_ ?_ <;> (intro hgb; subst hgb)) | (refine JL_guardb xR xR ?_ ?_ <;> (intro hgb; fail_if_success (have : type_of% hgb := rfl))) | fail)) | fail)) | ((with_reducible apply gD); (first | (refine JD_nil ?_; try simp only [List.cons_append, List.nil_append]) | (refine JD_bar ?_; try simp only [List.cons_append, List.nil_append]) | refine yD ?_ | (refine yE ?_; intro _) | fail)) | refine yJ ?_ | ((with_reducible apply gJ_if); (first | (refine J_if xR ?_ ?_ <;> intro _ <;> (try (exfalso; first | contradiction | omega))) | (refine J_ifb xR ?_ ?_ <;> (intro hgb; subst hgb)) | (refine J_ifb xR ?_ ?_ <;> intro _) | fail)) | refine J_draw (id := 4) [0, 1, 2, 3, 4, 5, 6, 7, 8, 9, 10] [11] mixed xC xD xD ?_ | fail))
    exact J_end0 rfl fun w H => ⟨[Y pre], .inl ⟨_, by rw [← hpre, hks], rfl⟩, H.sel xZ⟩
end Go.Proofs.Ytdnokmpnemaoaaa
namespace Go.Proofs.Ytdnokmpnemaoaaa
set_option linter.unusedSimpArgs false
set_option linter.unusedVariables false
set_option maxRecDepth 20000
set_option maxHeartbeats 4000000
open Go.RowKit Go.Pm

theorem sats_one {A : HP} {h : Hl} : sats [A] h ↔ A h := by
  constructor
  · rintro ⟨h1, h2, a, b, _, rfl⟩
    have : h1.add h2 = h1 := by funext x; simp [Hl.add, b x]
    rw [this]; exact a
  · intro a
    exact ⟨h, fun _ => none, a, fun _ => rfl, fun b => .inr rfl, by funext x; simp [Hl.add]⟩
theorem sats_tail {A : HP} {L M : List HP} (e : ∀ h, sats L h ↔ sats M h) (h : Hl) : sats (A :: L) h ↔ sats (A :: M) h := by
  constructor
  · rintro ⟨h1, h2, a, b, d, r⟩; exact ⟨h1, h2, a, (e h2).1 b, d, r⟩
  · rintro ⟨h1, h2, a, b, d, r⟩; exact ⟨h1, h2, a, (e h2).2 b, d, r⟩
theorem sats_group (A B U V : HP) (M : List HP) (h : Hl) : sats (A :: B :: U :: V :: M) h ↔ sats [U, V, sats (A :: B :: M)] h := by
  have p : (A :: B :: U :: V :: M).Perm (U :: V :: A :: B :: M) := by
    refine List.Perm.trans (l₂ := U :: A :: B :: V :: M) ?_ (.cons _ ?_)
    · exact (List.perm_middle (l₁ := [A, B]) (l₂ := V :: M) (a := U))
    · exact (List.perm_middle (l₁ := [A, B]) (l₂ := M) (a := V))
  refine Iff.trans ⟨sats_perm p h, sats_perm p.symm h⟩ (sats_tail (sats_tail fun h => sats_one.symm) h)
theorem qv_of (vb : Nat) (sp : Option Addr) (tb : Nat) (s : List T.Ent → List T.Ent) (M : List T.Ent → List HP) (A B : HP) : QV vb sp tb s (fun pre => sats (A :: B :: pts vb (vwC sp tb (dueI (s pre)) (wntI (s pre))) 36 :: T.trA tb (s pre) :: M pre)) := ⟨fun pre => sats (A :: B :: M pre), fun pre h => sats_group A B _ _ (M pre) h⟩
/-- Entries behind some settings. -/
def sF (f : T.Ent → T.Vt) (E : List T.Ent) (pre : List T.Ent) : List T.Ent := pre.foldl (fun E e => T.setE E e.1 (f e)) E
theorem sF_snoc (f : T.Ent → T.Vt) (E pre : List T.Ent) (x : T.Ent) : sF f E (pre ++ [x]) = T.setE (sF f E pre) x.1 (f x) := by unfold sF; rw [List.foldl_append]; rfl
theorem srt_set {E : List T.Ent} {p : T.Pf} {x : T.Vt} (h : T.Srt E) : T.Srt (T.setE E p x) := by
  unfold T.setE
  split
  · exact T.srt_dropL h
  · exact T.srt_putL h
theorem sF_len (f : T.Ent → T.Vt) : ∀ {pre E : List T.Ent}, T.Srt E → (sF f E pre).length ≤ E.length + pre.length
  | [], E, _ => by simp [sF]
  | x :: pre, E, h => by
    have h1 := sF_len f (pre := pre) (srt_set (p := x.1) (x := f x) h)
    have h2 := T.set_len (p := x.1) (x := f x) h
    show (sF f (T.setE E x.1 (f x)) pre).length ≤ _
    simp only [List.length_cons]
    omega
theorem thoseL_len (s : List T.Ent → List T.Ent) (q : T.Vt → Bool) : ∀ (ks : List T.Pf) (pre : List T.Ent), (thoseL s q ks pre).length ≤ pre.length + ks.length
  | [], pre => by simp [thoseL]
  | k :: ks, pre => by
    simp only [thoseL]
    split
    · have := thoseL_len s q ks (pre ++ [(k, T.oldV (s pre) k)])
      simp only [List.length_append, List.length_cons, List.length_nil] at this ⊢
      omega
    · have := thoseL_len s q ks pre
      simp only [List.length_cons]
      omega
theorem nextG.len {s : List T.Ent → List T.Ent} {q : T.Vt → Bool} {pre : List T.Ent} {x : T.Ent} (h : nextG s q pre x) : pre.length ≤ (s []).length := by
  obtain ⟨k, rfl, _⟩ := h
  have := thoseL_len s q ((keysOf s).take k) []
  have h2 : ((keysOf s).take k).length ≤ (s []).length := by
    rw [List.length_take]
    have : (keysOf s).length = (s []).length := List.length_map _
    omega
  simp only [List.length_nil] at this
  omega
theorem nextG.mem {s : List T.Ent → List T.Ent} {q : T.Vt → Bool} {pre : List T.Ent} {x : T.Ent} (h : nextG s q pre x) : x.1 ∈ keysOf s := by
  obtain ⟨k, _, h, _⟩ := h
  exact List.mem_of_getElem? h
def rsS (S : List En) (pre : List T.Ent) : List En := pre.foldl (fun S e => frF (frF S e.2.1) e.2.2.1) S
theorem rsS_snoc (S : List En) (pre : List T.Ent) (x : T.Ent) : rsS S (pre ++ [x]) = frF (frF (rsS S pre) x.2.1) x.2.2.1 := by unfold rsS; rw [List.foldl_append]; rfl
theorem frF_ok {B : Int} {S : List En} {c id : Int} (h : StOk B S c) : StOk B (frF S id) c := by
  unfold frF
  split
  · exact h
  · exact freeF_ok h
theorem rsS_ok {B c : Int} : ∀ {pre : List T.Ent} {S : List En}, StOk B S c → StOk B (rsS S pre) c
  | [], _, h => h
  | x :: pre, S, h => rsS_ok (pre := pre) (frF_ok (frF_ok h))
theorem key_of {E : List T.Ent} (hE : T.EOk E) {p : T.Pf} (h : p ∈ T.keysE E) : T.Rt p ∧ T.PfN p := by
  obtain ⟨e, he, rfl⟩ := List.mem_map.1 h
  have := hE.e e he
  exact ⟨this.1, this.2.1⟩
theorem zV_n : T.VN T.zV := by unfold T.VN; exact ⟨by unfold T.I64; decide, by unfold T.I64; decide⟩
abbrev rsE (E pre : List T.Ent) : List T.Ent := sF (fun _ => T.zV) E pre
theorem vreset_s (B : Int) (hB : B ≤ 1000000) (vb sp tb : Nat) (E : List T.Ent) (S : List En) (c : Int) (hs : StOk B S c) (hn : E.length ≤ 1000) : Pact Try.prog 6 #[.pointer (some ⟨vb, 0, none⟩)] (fun _ => True) (vsL vb sp tb E S c) (fun _ L' => ∃ xs, xs = thoseL (rsE E) (fun _ => true) (T.keysE E) [] ∧ L' = vsL vb sp tb (rsE E xs) (rsS S xs) c) := by
  refine pact Try.func6 rfl Try.ntmps6 rfl ?_
  intro W K _
  refine J_fact (φ := T.EOk E) (fun w H => T.trOk H xA) ?_
  intro hE
  (repeat' (first | ((with_reducible apply gL); (first | refine yL0 ?_ | refine yL ?_ | ((with_reducible apply gL_go); (first | (refine JL_goq (those_s (some ⟨vb, 0, none⟩) 20) (hφ := xF) (h := ?_); rintro _ _ ⟨g, h, rfl, rfl⟩; try simp only [List.cons_append, List.nil_append]) | fail)) | (refine yM ?_; intro _) | fail)) | refine yJ ?_ | fail))
  rename_i b
  refine J_rangeQ (first := []) (lb := [.pointer (some ⟨g, 0, none⟩), .pointer (some ⟨h, 0, none⟩)]) (those1_it vb (sA sp) tb g h (rsE E) (fun _ => true) 20 (by decide +kernel) whatever_s hE (by show E.length ≤ 4096; omega)) rfl rfl rfl (by decide +kernel) rfl (fun _ => rfl)
    (fun pre => [pts vb (vwC (sA sp) tb (dueI (rsE E pre)) (wntI (rsE E pre))) 36, T.trA tb (rsE E pre), stoA sp (rsS S pre) c, pts b [.pointer (some ⟨vb, 0, none⟩)] 32]) (fun _ _ => [pu False]) (fun A B => qv_of vb (sA sp) tb (rsE E) (fun pre => [stoA sp (rsS S pre) c, pts b [.pointer (some ⟨vb, 0, none⟩)] 32]) A B) xZ (fun w hr => ⟨hr.cell xA rfl, hr.cell xA rfl⟩) ?_ ?_ ?_
  · rintro W3 K3 l3 pre ⟨p, o⟩ hle hG
    have hk := key_of hE hG.mem
    have hlp := hG.len
    have hl : (rsE E pre).length ≤ E.length + pre.length := sF_len (fun _ => T.zV) (pre := pre) hE.s
    have hlp2 : pre.length ≤ E.length := hlp
    simp only [parTM, enc2]
    (repeat' (first | ((with_reducible apply gL); (first | refine yL0 ?_ | refine yL ?_ | (refine yM ?_; intro _) | fail)) | refine yJ ?_ | fail))
    refine J_body ?_
    intro K4 hle4 hrec
    refine J_fact (φ := T.EOk (rsE E pre)) (fun w H => T.trOk H xA) ?_
    intro hE2
    have kf1 := free_w B (by omega) vb sp tb (rsE E pre) (rsS S pre) _ c o.1 (rsS_ok hs) rfl
    have kf2 := free_w B (by omega) vb sp tb (rsE E pre) (frF (rsS S pre) o.1) _ c o.2.1 (frF_ok (rsS_ok hs)) rfl
    have ks := set_s vb (sA sp) tb (rsE E pre) p T.zV hE2 hk.2 hk.1 zV_n (by omega)
    (repeat' (first | ((with_reducible apply gL); (first | refine yL0 ?_ | refine yL ?_ | ((with_reducible apply gL_go); (first | (refine JL_goq (kf1) (hφ := xF) (h := ?_); rintro _ _ rfl; try simp only [List.cons_append, List.nil_append]) | (refine JL_goq (kf2) (hφ := xF) (h := ?_); rintro _ _ rfl; try simp only [List.cons_append, List.nil_append]) | (refine JL_goq (ks) (hφ := xF) (h := ?_); rintro _ _ rfl; try simp only [List.cons_append, List.nil_append]) | fail)) | (refine yM ?_; intro _) | fail)) | refine yJ ?_ | fail))
    refine J_rnd fun w H => ?_
    rw [show rsE E (pre ++ [(p, o)]) = T.setE (rsE E pre) p T.zV from sF_snoc _ _ _ _, rsS_snoc]
    exact H.sel xZ
  · intro D xs hxs
    simp only [List.cons_append, List.nil_append]
    (repeat' (first | ((with_reducible apply gL); (first | refine yL0 ?_ | refine yL ?_ | (refine yM ?_; intro _) | fail)) | refine yJ ?_ | fail))
    exact J_end0M (Ds := [D]) (dec_enc [D]) rfl fun w H => ⟨_, ⟨xs, hxs, rfl⟩, H.sel (M := [dfr D, pts vb (vwC (sA sp) tb (dueI (rsE E xs)) (wntI (rsE E xs))) 36, T.trA tb (rsE E xs), stoA sp (rsS S xs) c]) xZ⟩
  · intro D c pre _
    exact J_fact (φ := False) (fun w H => H.pu (p := False) (by simp only [List.cons_append, List.nil_append]; (first | ((with_reducible (repeat (first | exact Tk.here | apply Tk.there))); done) | ((simp only [List.cons_append, List.nil_append]); (with_reducible (repeat (first | exact Tk.here | apply Tk.there))); done) | fail))) (fun h => h.elim)
def agV (e : T.Ent) : T.Vt := (e.2.1, e.2.2.1, true)
abbrev agE (E pre : List T.Ent) : List T.Ent := sF agV E pre
theorem vagain_s (vb : Nat) (sp : Option Addr) (tb : Nat) (E : List T.Ent) (hn : E.length ≤ 1000) : Pact Try.prog 5 #[.pointer (some ⟨vb, 0, none⟩)] (fun _ => True) (vwL vb sp tb E) (fun _ L' => ∃ xs, xs = thoseL (agE E) wantE (T.keysE E) [] ∧ L' = vwL vb sp tb (agE E xs)) := by
  refine pact Try.func5 rfl Try.ntmps5 rfl ?_
  intro W K _
  refine J_fact (φ := T.EOk E) (fun w H => T.trOk H xA) ?_
  intro hE
  (repeat' (first | ((with_reducible apply gL); (first | refine yL0 ?_ | refine yL ?_ | ((with_reducible apply gL_go); (first | (refine JL_goq (those_s (some ⟨vb, 0, none⟩) 18) (hφ := xF) (h := ?_); rintro _ _ ⟨g, h, rfl, rfl⟩; try simp only [List.cons_append, List.nil_append]) | fail)) | (refine yM ?_; intro _) | fail)) | refine yJ ?_ | fail))
  rename_i b
  refine J_rangeQ (first := []) (lb := [.pointer (some ⟨g, 0, none⟩), .pointer (some ⟨h, 0, none⟩)]) (those1_it vb sp tb g h (agE E) wantE 18 (by decide +kernel) wants_s hE (by show E.length ≤ 4096; omega)) rfl rfl rfl (by decide +kernel) rfl (fun _ => rfl)
    (fun pre => [pts vb (vwC sp tb (dueI (agE E pre)) (wntI (agE E pre))) 36, T.trA tb (agE E pre), pts b [.pointer (some ⟨vb, 0, none⟩)] 32]) (fun _ _ => [pu False]) (fun A B => qv_of vb sp tb (agE E) (fun pre => [pts b [.pointer (some ⟨vb, 0, none⟩)] 32]) A B) xZ (fun w hr => ⟨hr.cell xA rfl, hr.cell xA rfl⟩) ?_ ?_ ?_
  · rintro W3 K3 l3 pre ⟨p, o⟩ hle hG
    have hk := key_of hE hG.mem
    have hlp := hG.len
    have hl : (agE E pre).length ≤ E.length + pre.length := sF_len agV (pre := pre) hE.s
    have hlp2 : pre.length ≤ E.length := hlp
    obtain ⟨_, _, _, hov, _⟩ := hG
    simp only [parTM, enc2]
    (repeat' (first | ((with_reducible apply gL); (first | refine yL0 ?_ | refine yL ?_ | (refine yM ?_; intro _) | fail)) | refine yJ ?_ | fail))
    refine J_body ?_
    intro K4 hle4 hrec
    refine J_fact (φ := T.EOk (agE E pre)) (fun w H => T.trOk H xA) ?_
    intro hE2
    have hvo : T.VN o := by
      have : o = T.oldV (agE E pre) p := hov
      rw [this]
      unfold T.oldV
      cases hg : T.getL (agE E pre) p with
      | none => exact zV_n
      | some x => exact (hE2.e (p, x) ((T.getL_mem hE2.s).1 hg)).2.2
    have ks := set_s vb sp tb (agE E pre) p (o.1, o.2.1, true) hE2 hk.2 hk.1 hvo (by omega)
    (repeat' (first | ((with_reducible apply gL); (first | refine yL0 ?_ | refine yL ?_ | ((with_reducible apply gL_go); (first | (refine JL_goq (ks) (hφ := xF) (h := ?_); rintro _ _ rfl; try simp only [List.cons_append, List.nil_append]) | fail)) | (refine yM ?_; intro _) | fail)) | refine yJ ?_ | fail))
    refine J_rnd fun w H => ?_
    rw [show agE E (pre ++ [(p, o)]) = T.setE (agE E pre) p (o.1, o.2.1, true) from sF_snoc _ _ _ _]
    exact H.sel xZ
  · intro D xs hxs
    simp only [List.cons_append, List.nil_append]
    (repeat' (first | ((with_reducible apply gL); (first | refine yL0 ?_ | refine yL ?_ | (refine yM ?_; intro _) | fail)) | refine yJ ?_ | fail))
    exact J_end0M (Ds := [D]) (dec_enc [D]) rfl fun w H => ⟨_, ⟨xs, hxs, rfl⟩, H.sel (M := [dfr D, pts vb (vwC sp tb (dueI (agE E xs)) (wntI (agE E xs))) 36, T.trA tb (agE E xs)]) xZ⟩
  · intro D c pre _
    exact J_fact (φ := False) (fun w H => H.pu (p := False) (by simp only [List.cons_append, List.nil_append]; (first | ((with_reducible (repeat (first | exact Tk.here | apply Tk.there))); done) | ((simp only [List.cons_append, List.nil_append]); (with_reducible (repeat (first | exact Tk.here | apply Tk.there))); done) | fail))) (fun h => h.elim)
/-- What has been collected. -/
def accK (g : Nat) (xs : List T.Pf) : HP := fun h => ∃ y : Option Addr × Nat, sats [pts g [.slice y.1 xs.length y.2] 46, Ar 25 2 T.pfC (.slice y.1 xs.length y.2) xs] h
theorem vall_s (vb : Nat) (sp : Option Addr) (tb : Nat) (E : List T.Ent) (hn : E.length ≤ 1000) : Pact Try.prog 13 #[.pointer (some ⟨vb, 0, none⟩)] (fun _ => True) (vwL vb sp tb E) (fun u L' => ∃ xs a c, xs = (thoseL (fun _ => E) wantE (T.keysE E) []).map (·.1) ∧ u = .slice a xs.length c ∧ L' = [pts vb (vwC sp tb (dueI E) (wntI E)) 36, T.trA tb E, Ar 25 2 T.pfC (.slice a xs.length c) xs]) := by
  refine pact Try.func13 rfl Try.ntmps13 rfl ?_
  intro W K _
  refine J_fact (φ := T.EOk E) (fun w H => T.trOk H xA) ?_
  intro hE
  (repeat' (first | ((with_reducible apply gL); (first | refine yL0 ?_ | refine yL ?_ | ((with_reducible apply gL_go); (first | (refine JL_goq (those_s (some ⟨vb, 0, none⟩) 18) (hφ := xF) (h := ?_); rintro _ _ ⟨g, h, rfl, rfl⟩; try simp only [List.cons_append, List.nil_append]) | fail)) | (refine yM ?_; intro _) | (refine yA ?_; intro _ _ _ _) | fail)) | refine yJ ?_ | fail))
  rename_i b
  refine J_heap (L' := [pts vb (vwC sp tb (dueI E) (wntI E)) 36, T.trA tb E, accK b [], pts g [.pointer (some ⟨vb, 0, none⟩)] 32, pts h [.func (.func 18) #[] #[]] 56]) (fun w H => ?_) ?_
  · exact (Ow.shut (A := accK b []) (Ow.arNil (e := 25) (sz := 2) (enc := T.pfC) H) (M := [pts b [.slice none 0 0] 46, Ar 25 2 T.pfC (.slice none 0 0) ([] : List T.Pf)]) xZ (fun k hk => ⟨(none, 0), hk⟩)).sel xZ
  refine J_rangeQ (first := []) (lb := [.pointer (some ⟨g, 0, none⟩), .pointer (some ⟨h, 0, none⟩)]) (those1_it vb sp tb g h (fun _ => E) wantE 18 (by decide +kernel) wants_s hE (by show E.length ≤ 4096; omega)) rfl rfl rfl (by decide +kernel) rfl (fun _ => rfl)
    (fun pre => [pts vb (vwC sp tb (dueI E) (wntI E)) 36, T.trA tb E, accK b (pre.map (·.1))]) (fun _ _ => [pu False]) (fun A B => qv_of vb sp tb (fun _ => E) (fun pre => [accK b (pre.map (·.1))]) A B) xZ (fun w hr => ⟨hr.cell xA rfl, hr.cell xA rfl⟩) ?_ ?_ ?_
  · rintro W3 K3 l3 pre ⟨p, o⟩ hle hG
    have hlp : pre.length ≤ E.length := hG.len
    obtain ⟨xs, hxs⟩ : ∃ xs, pre.map (·.1) = xs := ⟨_, rfl⟩
    have hxl : xs.length ≤ 1000 := by rw [← hxs, List.length_map]; omega
    have hm : (pre ++ [(p, o)]).map (·.1) = xs ++ [p] := by rw [List.map_append, hxs]; rfl
    simp only [parTM, enc2]
    rw [hxs]
    refine J_open (fun w H => H.open (A := accK b xs) xA (α := Option Addr × Nat) (Bs := fun y => [pts b [.slice y.1 xs.length y.2] 46, Ar 25 2 T.pfC (.slice y.1 xs.length y.2) xs]) (fun _ h => h)) ?_
    rintro ⟨a, c⟩
    simp only [List.cons_append, List.nil_append]
    (repeat' (first | ((with_reducible apply gL); (first | refine yL0 ?_ | refine yL ?_ | (refine yM ?_; intro _) | (refine yA ?_; intro _ _ _ _) | fail)) | refine yJ ?_ | fail))
    refine J_body ?_
    intro K4 hle4 hrec
    (repeat' (first | ((with_reducible apply gL); (first | refine yL0 ?_ | ((with_reducible apply gL_c_append); (first | (refine JL_ap1 (z := p) (tabE etab_ok xR) xR xR xA xA xC xR xL xR (by omega) xR xR ?_; intro ad c2 _ _) | fail)) | refine yL ?_ | (refine yM ?_; intro _) | (refine yA ?_; intro _ _ _ _) | fail)) | refine yJ ?_ | fail))
    refine J_rnd fun w H => ?_
    rw [hm]
    rw [show xs.length + 1 = (xs ++ [p]).length by simp] at H
    exact (H.shut (M := [pts b [.slice ad (xs ++ [p]).length c2] 46, Ar 25 2 T.pfC (.slice ad (xs ++ [p]).length c2) (xs ++ [p])]) (A := accK b (xs ++ [p])) xZ (fun k hk => ⟨(ad, c2), hk⟩)).sel xZ
  · intro D xs hxs
    simp only [List.cons_append, List.nil_append]
    obtain ⟨ys, hys⟩ : ∃ ys, xs.map (·.1) = ys := ⟨_, rfl⟩
    rw [hys]
    refine J_open (fun w H => H.open (A := accK b ys) xA (α := Option Addr × Nat) (Bs := fun y => [pts b [.slice y.1 ys.length y.2] 46, Ar 25 2 T.pfC (.slice y.1 ys.length y.2) ys]) (fun _ h => h)) ?_
    rintro ⟨a, c⟩
    simp only [List.cons_append, List.nil_append]
    (repeat' (first | ((with_reducible apply gL); (first | refine yL0 ?_ | refine yL ?_ | (refine yM ?_; intro _) | (refine yA ?_; intro _ _ _ _) | fail)) | refine yJ ?_ | fail))
    exact J_ret1M (Ds := [D]) (dec_enc [D]) rfl (by rfl) fun w H => ⟨_, ⟨ys, a, c, by rw [← hys, hxs], rfl, rfl⟩, H.sel (M := [dfr D, pts vb (vwC sp tb (dueI E) (wntI E)) 36, T.trA tb E, Ar 25 2 T.pfC (.slice a ys.length c) ys]) xZ⟩
  · intro D c pre _
    exact J_fact (φ := False) (fun w H => H.pu (p := False) (by simp only [List.cons_append, List.nil_append]; (first | ((with_reducible (repeat (first | exact Tk.here | apply Tk.there))); done) | ((simp only [List.cons_append, List.nil_append]); (with_reducible (repeat (first | exact Tk.here | apply Tk.there))); done) | fail))) (fun h => h.elim)
end Go.Proofs.Ytdnokmpnemaoaaa
namespace Go.Proofs.Ytdnokmpnemaoaaa
set_option linter.unusedSimpArgs false
set_option linter.unusedVariables false
set_option maxRecDepth 20000
set_option maxHeartbeats 4000000
open Go.RowKit Go.Pm

/-- Entries and the store. -/
structure Vs where
  E : List T.Ent
  S : List En
  c : Int
/-- One that is due is taken. -/
noncomputable def tkStep (σ : Vs) (e : T.Ent) : Vs :=
  ⟨T.setE σ.E e.1 (e.2.1, (agF (frF σ.S e.2.2.1) σ.c e.2.1).2, false), (agF (frF σ.S e.2.2.1) σ.c e.2.1).1.1, (agF (frF σ.S e.2.2.1) σ.c e.2.1).1.2⟩
noncomputable def tkF (σ : Vs) (pre : List T.Ent) : Vs := pre.foldl tkStep σ
noncomputable def tkE (σ : Vs) (pre : List T.Ent) : List T.Ent := (tkF σ pre).E
theorem tkF_snoc (σ : Vs) (pre : List T.Ent) (x : T.Ent) : tkF σ (pre ++ [x]) = tkStep (tkF σ pre) x := by unfold tkF; rw [List.foldl_append]; rfl
theorem tkF_len : ∀ {pre : List T.Ent} {σ : Vs}, T.Srt σ.E → (tkF σ pre).E.length ≤ σ.E.length + pre.length
  | [], _, _ => by simp [tkF]
  | x :: pre, σ, h => by
    have h1 := tkF_len (pre := pre) (σ := tkStep σ x) (srt_set h)
    have h2 : (tkStep σ x).E.length ≤ σ.E.length + 1 := T.set_len h
    show (tkF (tkStep σ x) pre).E.length ≤ _
    simp only [List.length_cons]
    omega
theorem getX_n {B : Int} {S : List En} {c id : Int} (h : StOk B S c) : NfN (getX S id) := by
  unfold getX
  rcases hf : fnd S id with _ | e
  · exact At.nfN zAt_f.num
  · obtain ⟨A, C, rfl, _, _⟩ := fnd_some hf
    exact (h.ok e (by simp)).2
theorem keepF_id {B : Int} {S : List En} {c : Int} {x : Nf} (h : StOk B S c) : 0 ≤ (keepF S c x).2.1 ∧ (keepF S c x).2.1 ≤ B + 1 := by
  have hc := h.cnt
  unfold keepF
  split
  · dsimp only; omega
  · split
    · rename_i e hf
      obtain ⟨A, C, rfl, _, _⟩ := fndX_some hf
      have := h.ids e (by simp)
      dsimp only; omega
    · split <;> (dsimp only; omega)
theorem agF_ok {B : Int} {S : List En} {c id : Int} (h : StOk B S c) (hB : 0 ≤ B) : StOk (B + 1) (agF S c id).1.1 (agF S c id).1.2 ∧ 0 ≤ (agF S c id).2 ∧ (agF S c id).2 ≤ B + 1 := by
  unfold agF
  split
  · exact ⟨h.mono (by omega), by dsimp only; omega⟩
  · exact ⟨keepF_ok h hB (getX_n h), keepF_id h⟩
theorem tkStep_ok {B : Int} {σ : Vs} {x : T.Ent} (h : StOk B σ.S σ.c) (hB : 0 ≤ B) : StOk (B + 1) (tkStep σ x).S (tkStep σ x).c := (agF_ok (frF_ok h) hB).1
theorem tkF_ok : ∀ {pre : List T.Ent} {B : Int} {σ : Vs}, StOk B σ.S σ.c → 0 ≤ B → StOk (B + pre.length) (tkF σ pre).S (tkF σ pre).c
  | [], B, σ, h, _ => by
    have : B + (([] : List T.Ent).length : Int) = B := by simp
    rw [this]; exact h
  | x :: pre, B, σ, h, hB => by
    have h1 := tkF_ok (pre := pre) (tkStep_ok (x := x) h hB) (by omega)
    have : B + ((x :: pre).length : Int) = B + 1 + (pre.length : Int) := by simp; omega
    rw [this]
    exact h1
/-- A change. -/
structure Ch where
  p : T.Pf
  d : At
  told : Bool
def chC (x : Ch) : List Value := [.int .u32 x.p.1, .int .i64 x.p.2, .int .i64 x.d.origin, .slice x.d.pa x.d.path.length x.d.pc, .int .u32 x.d.next, .bool x.d.hasMed, .int .u32 x.d.med, .bool x.d.hasLocal, .int .u32 x.d.loc, .bool x.d.atomic, .bool x.d.hasMaker, .int .u32 x.d.makerAS, .int .u32 x.d.maker, .slice x.d.ca x.d.comms.length x.d.cc, .slice x.d.oa x.d.others.length x.d.oc, .bool x.told]
def chN (x : Ch) : T.Pf × Nf × Bool := (x.p, x.d.nf, x.told)
noncomputable def chL : Vs → List T.Ent → List (T.Pf × Nf × Bool)
  | _, [] => []
  | σ, e :: r => (e.1, whatX σ.S e.2.1, whatB σ.S e.2.1) :: chL (tkStep σ e) r
theorem chL_snoc (x : T.Ent) : ∀ (pre : List T.Ent) (σ : Vs), chL σ (pre ++ [x]) = chL σ pre ++ [(x.1, whatX (tkF σ pre).S x.2.1, whatB (tkF σ pre).S x.2.1)]
  | [], σ => rfl
  | y :: pre, σ => by
    simp only [List.cons_append, chL]
    rw [chL_snoc x pre]
    rfl
theorem chL_len : ∀ (pre : List T.Ent) (σ : Vs), (chL σ pre).length = pre.length
  | [], _ => rfl
  | y :: pre, σ => by simp only [chL, List.length_cons, chL_len pre]
structure Cx where
  ad : Option Addr
  c : Nat
  l : List Ch
abbrev accCL (g : Nat) (y : Cx) : List HP := [pts g [.slice y.ad y.l.length y.c] 44, Ar 52 16 chC (.slice y.ad y.l.length y.c) y.l, has (fun w => ∀ x ∈ y.l, AtV w x.d)]
/-- What has been collected. -/
def accC (g : Nat) (L : List (T.Pf × Nf × Bool)) : HP := fun h => ∃ y : Cx, (y.l.map chN = L ∧ ∀ x ∈ y.l, AtF x.d) ∧ sats (accCL g y) h
theorem accOpen {W : World} {K : Hl} {L R : List HP} {w : World} {g : Nat} {M : List (T.Pf × Nf × Bool)} (H : Ow W K L w) (t : Tk L (accC g M) R) : ∃ y : {y : Cx // y.l.map chN = M ∧ ∀ x ∈ y.l, AtF x.d}, Ow W K (accCL g y.1 ++ R) w :=
  H.open t (Bs := fun y : {y : Cx // y.l.map chN = M ∧ ∀ x ∈ y.l, AtF x.d} => accCL g y.1) (fun _ ⟨y, h1, h2⟩ => ⟨⟨y, h1⟩, h2⟩)
theorem accShut {W : World} {K : Hl} {L R : List HP} {w : World} {g : Nat} {M : List (T.Pf × Nf × Bool)} {ad : Option Addr} {c n : Nat} {l : List Ch} (hn : l.length = n) (hl : l.map chN = M) (hf : ∀ x ∈ l, AtF x.d) (H : Ow W K L w) (t : Sb L [pts g [.slice ad n c] 44, Ar 52 16 chC (.slice ad n c) l, has (fun w => ∀ x ∈ l, AtV w x.d)] R) : Ow W K (accC g M :: R) w := by
  subst hn
  exact H.shut t (fun k hk => ⟨⟨ad, c, l⟩, ⟨hl, hf⟩, hk⟩)
def TakeOk (σ : Vs) (n : Int) (pre : List T.Ent) : Prop := (pre = thoseL (tkE σ) lateE (T.keysE σ.E) [] ∧ (pre.length : Int) < n) ∨ ((∃ k, pre = thoseL (tkE σ) lateE ((T.keysE σ.E).take k) []) ∧ (pre.length : Int) = n)
def TakeR (vb sp tb : Nat) (σ : Vs) (n : Int) (u : Value) (L' : List HP) : Prop := ∃ pre, TakeOk σ n pre ∧ ∃ (a : Option Addr) (cc : Nat) (l : List Ch), (l.map chN = chL σ pre ∧ ∀ x ∈ l, AtF x.d) ∧ u = .slice a l.length cc ∧ L' = [pts vb (vwC (sA sp) tb (dueI (tkF σ pre).E) (wntI (tkF σ pre).E)) 36, T.trA tb (tkF σ pre).E, stoA sp (tkF σ pre).S (tkF σ pre).c, Ar 52 16 chC (.slice a l.length cc) l, has (fun w => ∀ x ∈ l, AtV w x.d)]
theorem vtake0_s (vb : Nat) (n : Int) (hn : n < 1) : Pact Try.prog 12 #[.pointer (some ⟨vb, 0, none⟩), .int .i64 n] (fun _ => True) [] (ret0 (.slice none 0 0)) := by
  refine pact Try.func12 rfl Try.ntmps12 rfl ?_
  intro W K _
  (repeat' (first | ((with_reducible apply gL); (first | refine yL0 ?_ | refine yL ?_ | (refine yM ?_; intro _) | (refine yA ?_; intro _ _ _ _) | fail)) | ((with_reducible apply gD); (first | (refine JD_nil ?_; try simp only [List.cons_append, List.nil_append]) | (refine JD_bar ?_; try simp only [List.cons_append, List.nil_append]) | refine yD ?_ | fail)) | refine yJ ?_ | ((with_reducible apply gJ_if); (first | (refine J_if xR ?_ ?_ <;> intro _ <;> (try (exfalso; first | contradiction | omega))) | (refine J_ifb xR ?_ ?_ <;> (intro hgb; subst hgb)) | (refine J_ifb xR ?_ ?_ <;> intro _) | fail)) | refine J_draw (id := 10) [0, 1, 2, 3, 4, 5, 6, 7, 8] [9] mixed xC xD xD ?_ | fail))
  exact J_ret1 rfl (by rfl) fun w H => ⟨_, ⟨rfl, rfl⟩, H.sel .nil⟩
/-- What a round leaves. -/
def ixT (vb sp tb : Nat) (σ : Vs) (n : Int) (bl bv bn : Nat) : Code → List T.Ent → List HP
  | .exit 0, pre => [pu ((pre.length : Int) = n), pts vb (vwC (sA sp) tb (dueI (tkE σ pre)) (wntI (tkE σ pre))) 36, T.trA tb (tkE σ pre), stoA sp (tkF σ pre).S (tkF σ pre).c, accC bl (chL σ pre), pts bv [.pointer (some ⟨vb, 0, none⟩)] 32, pts bn [.int .i64 n] 3]
  | _, _ => [pu False]
theorem vtake_s (B : Int) (hB0 : 0 ≤ B) (hB : B ≤ 1000000) (vb sp tb : Nat) (σ : Vs) (n : Int) (hn1 : 1 ≤ n) (hs : StOk B σ.S σ.c) (hn : σ.E.length ≤ 1000) : Pact Try.prog 12 #[.pointer (some ⟨vb, 0, none⟩), .int .i64 n] (fun _ => True) (vsL vb sp tb σ.E σ.S σ.c) (TakeR vb sp tb σ n) := by
  refine pact Try.func12 rfl Try.ntmps12 rfl ?_
  intro W K _
  refine J_fact (φ := T.EOk σ.E) (fun w H => T.trOk H xA) ?_
  intro hE
  (repeat' (first | ((with_reducible apply gL); (first | refine yL0 ?_ | refine yL ?_ | ((with_reducible apply gL_go); (first | (refine JL_goq (those_s (some ⟨vb, 0, none⟩) 33) (hφ := xF) (h := ?_); rintro _ _ ⟨g, h, rfl, rfl⟩; try simp only [List.cons_append, List.nil_append]) | fail)) | (refine yM ?_; intro _) | (refine yA ?_; intro _ _ _ _) | fail)) | ((with_reducible apply gD); (first | (refine JD_nil ?_; try simp only [List.cons_append, List.nil_append]) | (refine JD_bar ?_; try simp only [List.cons_append, List.nil_append]) | refine yD ?_ | ((with_reducible apply gD_go); (first | (refine JD_goq (those_s (some ⟨vb, 0, none⟩) 33) (hφ := xF) (h := ?_); rintro _ _ ⟨g, h, rfl, rfl⟩; try simp only [List.cons_append, List.nil_append]) | fail)) | fail)) | refine yJ ?_ | ((with_reducible apply gJ_if); (first | (refine J_if xR ?_ ?_ <;> intro _ <;> (try (exfalso; first | contradiction | omega))) | (refine J_ifb xR ?_ ?_ <;> (intro hgb; subst hgb)) | (refine J_ifb xR ?_ ?_ <;> intro _) | fail)) | refine J_draw (id := 10) [0, 1, 2, 3, 4, 5, 6, 7, 8] [9] mixed xC xD xD ?_ | fail))
  rename_i bv bn bl hnn
  refine J_heap (L' := [pu ((([] : List T.Ent).length : Int) < n), pts vb (vwC (sA sp) tb (dueI (tkE σ [])) (wntI (tkE σ []))) 36, T.trA tb (tkE σ []), stoA sp (tkF σ []).S (tkF σ []).c, accC bl (chL σ []), pts bv [.pointer (some ⟨vb, 0, none⟩)] 32, pts bn [.int .i64 n] 3, pts g [.pointer (some ⟨vb, 0, none⟩)] 32, pts h [.func (.func 33) #[] #[]] 56]) (fun w H => ?_) ?_
  · have H := Ow.hasTrue (φ := fun w => ∀ x ∈ ([] : List Ch), AtV w x.d) (Ow.arNil (e := 52) (sz := 16) (enc := chC) H) (by intro _ _ h; exact absurd h List.not_mem_nil)
    have H := Ow.mkPu (p := ((([] : List T.Ent).length : Int) < n)) (accShut (g := bl) (M := chL σ []) (l := []) rfl rfl (fun _ h => absurd h List.not_mem_nil) H xZ) (by simp; omega)
    exact H.sel xZ
  refine J_rangeQ (first := []) (lb := [.pointer (some ⟨g, 0, none⟩), .pointer (some ⟨h, 0, none⟩)]) (those1_it vb (sA sp) tb g h (tkE σ) lateE 33 (by decide +kernel) late_s hE (by show σ.E.length ≤ 4096; omega)) rfl rfl rfl (by decide +kernel) rfl (fun _ => rfl)
    (fun pre => [pts vb (vwC (sA sp) tb (dueI (tkE σ pre)) (wntI (tkE σ pre))) 36, T.trA tb (tkE σ pre), pu ((pre.length : Int) < n), stoA sp (tkF σ pre).S (tkF σ pre).c, accC bl (chL σ pre), pts bv [.pointer (some ⟨vb, 0, none⟩)] 32, pts bn [.int .i64 n] 3]) (ixT vb sp tb σ n bl bv bn) (fun A B => qv_of vb (sA sp) tb (tkE σ) (fun pre => [pu ((pre.length : Int) < n), stoA sp (tkF σ pre).S (tkF σ pre).c, accC bl (chL σ pre), pts bv [.pointer (some ⟨vb, 0, none⟩)] 32, pts bn [.int .i64 n] 3]) A B) xZ (fun w hr => ⟨hr.cell xA rfl, hr.cell xA rfl⟩) ?_ ?_ ?_
  · rintro W3 K3 l3 pre ⟨p, o⟩ hle hG
    have hk := key_of hE hG.mem
    have hlp : pre.length ≤ σ.E.length := hG.len
    have hl : (tkE σ pre).length ≤ σ.E.length + pre.length := tkF_len hE.s
    have hst : StOk (B + pre.length) (tkF σ pre).S (tkF σ pre).c := tkF_ok hs hB0
    obtain ⟨_, _, _, hov, _⟩ := hG
    have hsn := tkF_snoc σ pre (p, o)
    have hcn := chL_snoc (p, o) pre σ
    have hcl := chL_len pre σ
    obtain ⟨CL, hCL⟩ : ∃ CL, chL σ pre = CL := ⟨_, rfl⟩
    rw [hCL] at hcn hcl
    unfold tkE at hl
    obtain ⟨τ, hτ⟩ : ∃ τ, tkF σ pre = τ := ⟨_, rfl⟩
    rw [hτ] at hst hl hsn hcn
    obtain ⟨E1, S1, c1⟩ := τ
    dsimp only at hst hl hcn
    obtain ⟨S2, hS2⟩ : ∃ S2, frF S1 o.2.1 = S2 := ⟨_, rfl⟩
    have hst2 : StOk (B + pre.length) S2 c1 := by rw [← hS2]; exact frF_ok hst
    have hag := agF_ok (id := o.1) hst2 (by omega)
    obtain ⟨⟨⟨S3, c3⟩, id⟩, ha⟩ : ∃ x, agF S2 c1 o.1 = x := ⟨_, rfl⟩
    rw [ha] at hag
    dsimp only at hag
    have hsn2 : tkF σ (pre ++ [(p, o)]) = ⟨T.setE E1 p (o.1, id, false), S3, c3⟩ := by
      rw [hsn]; unfold tkStep; dsimp only; rw [hS2, ha]
    simp only [parTM, enc2]
    unfold tkE
    simp only [hτ, hCL]
    (repeat' (first | ((with_reducible apply gL); (first | refine yL0 ?_ | refine yL ?_ | (refine yM ?_; intro _) | (refine yA ?_; intro _ _ _ _) | fail)) | ((with_reducible apply gD); (first | (refine JD_nil ?_; try simp only [List.cons_append, List.nil_append]) | (refine JD_bar ?_; try simp only [List.cons_append, List.nil_append]) | refine yD ?_ | fail)) | refine yJ ?_ | ((with_reducible apply gJ_if); (first | (refine J_if xR ?_ ?_ <;> intro _ <;> (try (exfalso; first | contradiction | omega))) | (refine J_ifb xR ?_ ?_ <;> (intro hgb; subst hgb)) | (refine J_ifb xR ?_ ?_ <;> intro _) | fail)) | refine J_draw (id := 10) [0, 1, 2, 3, 4, 5, 6, 7, 8] [9] mixed xC xD xD ?_ | fail))
    refine J_body ?_
    intro K4 hle4 hrec
    refine J_fact (φ := T.EOk E1) (fun w H => T.trOk H xA) ?_
    intro hE2
    have hvo : T.VN o := by
      have : o = T.oldV E1 p := by
        have h1 : o = T.oldV (tkE σ pre) p := hov
        unfold tkE at h1
        rw [hτ] at h1
        exact h1
      rw [this]
      unfold T.oldV
      cases hg : T.getL E1 p with
      | none => exact zV_n
      | some x => exact (hE2.e (p, x) ((T.getL_mem hE2.s).1 hg)).2.2
    have hvi : T.VN (o.1, id, false) := ⟨hvo.1, by show T.I64 id; unfold T.I64; omega⟩
    refine J_open (fun w H => accOpen H xA) ?_
    rintro ⟨⟨ad, cc, l⟩, hl1, hl2⟩
    dsimp only at hl1 hl2
    simp only [List.cons_append, List.nil_append]
    have hll : l.length = pre.length := by rw [← hcl, ← hl1, List.length_map]
    have kw := what_v vb sp tb (dueI E1) (wntI E1) S1 c1 o.1
    have kf := free_w (B + pre.length) (by omega) vb sp tb E1 S1 S2 c1 o.2.1 hst hS2
    have ka := again_v (B + pre.length) (by omega) (by omega) vb sp tb (dueI E1) (wntI E1) S2 c1 o.1 hst2
    rw [ha] at ka
    dsimp only at ka
    have ks := set_s vb (sA sp) tb E1 p (o.1, id, false) hE2 hk.2 hk.1 hvi (by omega)
    (repeat' (first | ((with_reducible apply gL); (first | refine yL0 ?_ | ((with_reducible apply gL_c_append); (first | (refine JL_ap1 (z := Ch.mk p d' (whatB S1 o.1)) (tabE etab_ok xR) xR xR xA xA xC xR xL xR (by omega) xR xR ?_; intro ad2 c2 _ _) | fail)) | refine yL ?_ | ((with_reducible apply gL_go); (first | (refine JL_goq (kw) (hφ := xF) (h := ?_); rintro _ _ ⟨d', hd', rfl, rfl⟩; try simp only [List.cons_append, List.nil_append]) | (refine JL_goq (kf) (hφ := xF) (h := ?_); rintro _ _ rfl; try simp only [List.cons_append, List.nil_append]) | (refine JL_goq (ka) (hφ := xF) (h := ?_); rintro _ _ ⟨rfl, rfl⟩; try simp only [List.cons_append, List.nil_append]) | (refine JL_goq (ks) (hφ := xF) (h := ?_); rintro _ _ rfl; try simp only [List.cons_append, List.nil_append]) | fail)) | (refine yM ?_; intro _) | (refine yA ?_; intro _ _ _ _) | fail)) | ((with_reducible apply gD); (first | (refine JD_nil ?_; try simp only [List.cons_append, List.nil_append]) | (refine JD_bar ?_; try simp only [List.cons_append, List.nil_append]) | refine yD ?_ | ((with_reducible apply gD_go); (first | (refine JD_goq (kw) (hφ := xF) (h := ?_); rintro _ _ ⟨d', hd', rfl, rfl⟩; try simp only [List.cons_append, List.nil_append]) | (refine JD_goq (kf) (hφ := xF) (h := ?_); rintro _ _ rfl; try simp only [List.cons_append, List.nil_append]) | (refine JD_goq (ka) (hφ := xF) (h := ?_); rintro _ _ ⟨rfl, rfl⟩; try simp only [List.cons_append, List.nil_append]) | (refine JD_goq (ks) (hφ := xF) (h := ?_); rintro _ _ rfl; try simp only [List.cons_append, List.nil_append]) | fail)) | fail)) | refine yJ ?_ | ((with_reducible apply gJ_if); (first | (refine J_if xR ?_ ?_ <;> intro _ <;> (try (exfalso; first | contradiction | omega))) | (refine J_ifb xR ?_ ?_ <;> (intro hgb; subst hgb)) | (refine J_ifb xR ?_ ?_ <;> intro _) | fail)) | refine J_draw (id := 10) [0, 1, 2, 3, 4, 5, 6, 7, 8] [9] mixed xC xD xD ?_ | fail))
    all_goals (
      have hsh : ∀ {L R : List HP} {w : World}, Ow W3 K4 L w → Sb L [pts bl [.slice ad2 (l.length + 1) c2] 44, Ar 52 16 chC (.slice ad2 (l.length + 1) c2) (l ++ [Ch.mk p d' (whatB S1 o.1)]), has (fun w => ∀ x ∈ l, AtV w x.d), has (fun w => AtV w d')] R → Ow W3 K4 (accC bl (chL σ (pre ++ [(p, o)])) :: R) w := fun H t => by
        have H := H.sb t
        have H := Ow.has (M := [has (fun w => ∀ x ∈ l, AtV w x.d), has (fun w => AtV w d')]) (φ := fun w => ∀ x ∈ l ++ [Ch.mk p d' (whatB S1 o.1)], AtV w x.d) H xZ (fun w hr x hx => by
          rcases List.mem_append.1 hx with hx | hx
          · exact hr.has .here x hx
          · obtain rfl := List.mem_singleton.1 hx
            exact hr.has (.there .here))
        refine accShut (n := l.length + 1) (l := l ++ [Ch.mk p d' (whatB S1 o.1)]) (by rw [List.length_append]; rfl) ?_ (fun x hx => ?_) H xZ
        · rw [hcn, List.map_append, hl1]
          show _ ++ [(p, d'.nf, whatB S1 o.1)] = _
          rw [hd'.2]
        · rcases List.mem_append.1 hx with hx | hx
          · exact hl2 x hx
          · obtain rfl := List.mem_singleton.1 hx
            exact hd'.1)
    · rename_i hnq
      refine J_rndExit rfl fun w H => ?_
      have H := Ow.mkPu (p := (((pre ++ [(p, o)]).length : Int) = n)) (hsh H xZ) (by rw [List.length_append]; simp only [List.length_cons, List.length_nil]; omega)
      simp only [ixT, tkE, hsn2]
      exact H.sel xZ
    · rename_i hnq
      refine J_fact (φ := (pre.length : Int) < n) (fun w H => H.pu (p := (pre.length : Int) < n) xA) ?_
      intro hpn
      refine J_rnd fun w H => ?_
      have H := Ow.mkPu (p := (((pre ++ [(p, o)]).length : Int) < n)) (hsh H xZ) (by rw [List.length_append]; simp only [List.length_cons, List.length_nil]; omega)
      rw [hsn2]
      exact H.sel xZ
  · intro D xs hxs
    simp only [List.cons_append, List.nil_append]
    refine J_fact (φ := (xs.length : Int) < n) (fun w H => H.pu (p := (xs.length : Int) < n) xA) ?_
    intro hpn
    refine J_open (fun w H => accOpen H xA) ?_
    rintro ⟨⟨ad, cc, l⟩, hl1, hl2⟩
    dsimp only at hl1 hl2
    simp only [List.cons_append, List.nil_append]
    (repeat' (first | ((with_reducible apply gL); (first | refine yL0 ?_ | refine yL ?_ | (refine yM ?_; intro _) | (refine yA ?_; intro _ _ _ _) | fail)) | ((with_reducible apply gD); (first | (refine JD_nil ?_; try simp only [List.cons_append, List.nil_append]) | (refine JD_bar ?_; try simp only [List.cons_append, List.nil_append]) | refine yD ?_ | fail)) | refine yJ ?_ | ((with_reducible apply gJ_if); (first | (refine J_if xR ?_ ?_ <;> intro _ <;> (try (exfalso; first | contradiction | omega))) | (refine J_ifb xR ?_ ?_ <;> (intro hgb; subst hgb)) | (refine J_ifb xR ?_ ?_ <;> intro _) | fail)) | refine J_draw (id := 10) [0, 1, 2, 3, 4, 5, 6, 7, 8] [9] mixed xC xD xD ?_ | fail))
    exact J_ret1M (Ds := [D]) (dec_enc [D]) rfl (by rfl) fun w H => ⟨_, ⟨xs, .inl ⟨hxs, hpn⟩, ad, cc, l, ⟨hl1, hl2⟩, rfl, rfl⟩, H.sel (M := [dfr D, pts vb (vwC (sA sp) tb (dueI (tkF σ xs).E) (wntI (tkF σ xs).E)) 36, T.trA tb (tkF σ xs).E, stoA sp (tkF σ xs).S (tkF σ xs).c, Ar 52 16 chC (.slice ad l.length cc) l, has (fun w => ∀ x ∈ l, AtV w x.d)]) xZ⟩
  · intro D c xs hxs
    have no : ∀ {R R2 : List HP} {k : List It} {tm : TM}, R = [pu False] → J Try.prog 50 W K (fpost Try.prog Try.f12 W K (TakeR vb sp tb σ n)) k tm (dfr D :: (R ++ R2)) := fun e => by
      subst e
      exact J_fact (φ := False) (fun w H => H.pu (p := False) (by simp only [List.cons_append, List.nil_append]; (first | ((with_reducible (repeat (first | exact Tk.here | apply Tk.there))); done) | ((simp only [List.cons_append, List.nil_append]); (with_reducible (repeat (first | exact Tk.here | apply Tk.there))); done) | fail))) (fun h => h.elim)
    cases c with
    | exit id =>
      by_cases hid : id = 0
      · subst hid
        simp only [ixT, List.cons_append, List.nil_append]
        refine J_fact (φ := (xs.length : Int) = n) (fun w H => H.pu (p := (xs.length : Int) = n) xA) ?_
        intro hpn
        refine J_open (fun w H => accOpen H xA) ?_
        rintro ⟨⟨ad, cc, l⟩, hl1, hl2⟩
        dsimp only at hl1 hl2
        simp only [List.cons_append, List.nil_append]
        (repeat' (first | ((with_reducible apply gL); (first | refine yL0 ?_ | refine yL ?_ | (refine yM ?_; intro _) | (refine yA ?_; intro _ _ _ _) | fail)) | ((with_reducible apply gD); (first | (refine JD_nil ?_; try simp only [List.cons_append, List.nil_append]) | (refine JD_bar ?_; try simp only [List.cons_append, List.nil_append]) | refine yD ?_ | fail)) | refine yJ ?_ | ((with_reducible apply gJ_if); (first | (refine J_if xR ?_ ?_ <;> intro _ <;> (try (exfalso; first | contradiction | omega))) | (refine J_ifb xR ?_ ?_ <;> (intro hgb; subst hgb)) | (refine J_ifb xR ?_ ?_ <;> intro _) | fail)) | refine J_draw (id := 10) [0, 1, 2, 3, 4, 5, 6, 7, 8] [9] mixed xC xD xD ?_ | fail))
        exact J_ret1M (Ds := [D]) (dec_enc [D]) rfl (by rfl) fun w H => ⟨_, ⟨xs, .inr ⟨hxs, hpn⟩, ad, cc, l, ⟨hl1, hl2⟩, rfl, rfl⟩, H.sel (M := [dfr D, pts vb (vwC (sA sp) tb (dueI (tkF σ xs).E) (wntI (tkF σ xs).E)) 36, T.trA tb (tkF σ xs).E, stoA sp (tkF σ xs).S (tkF σ xs).c, Ar 52 16 chC (.slice ad l.length cc) l, has (fun w => ∀ x ∈ l, AtV w x.d)]) xZ⟩
      · exact no (by unfold ixT; split <;> first | rfl | (rename_i e; cases e; exact absurd rfl hid))
    | _ => exact no rfl
end Go.Proofs.Ytdnokmpnemaoaaa
namespace Go.Pm
set_option linter.unusedSimpArgs false
set_option linter.unusedVariables false
open Go.RowKit

/-- As Rd; besides each slice's memory, and each string, is within the reach. -/
def Rs (P : Program) (w : World) : Nat → TypeId → List Value → Prop
  | 0, _, _ => False
  | n + 1, t, cs => match P.underlying t with
    | some .bool => ∃ b, cs = [.bool b]
    | some (.int k) => ∃ m, cs = [.int k m] ∧ (Lit.int k m).wf = true
    | some .string => ∃ s : ByteArray, cs = [.string s] ∧ s.size ≤ reachBytes
    | some (.slice e) => cs = [.slice none 0 0] ∨ ∃ (a : Addr) (len cap : Nat), cs = [.slice (some a) len cap] ∧ len ≤ cap ∧ cap ≤ maxLen ∧ cap * P.bytesOf e ≤ reachBytes ∧
        ∀ i, i < cap → ∃ ds : List Value, ds.length = P.cellsOf e ∧ (∀ j, j < ds.length → w.cell? (a.add (i * P.cellsOf e + j)) = ds[j]?) ∧ Rs P w n e ds
    | some (.struct fs) => cs.length = P.cellsOf t ∧ ∀ f, f ∈ fs.toList → Rs P w n f.type ((cs.drop f.offset).take (P.cellsOf f.type))
    | some (.array m e) => cs.length = P.cellsOf t ∧ ∀ i, i < m → Rs P w n e ((cs.drop (i * P.cellsOf e)).take (P.cellsOf e))
    | _ => True

theorem weightsAll_mem {H : Type} {P : Program} {e : TypeId} {ds : List (DataW H)} {d : DataW H} (h : d ∈ ds) {m : Nat} (hm : m ∈ d.weights P e) : m ∈ DataW.weightsAll P e ds := by
  induction ds with
  | nil => cases h
  | cons x r ih =>
    unfold DataW.weightsAll
    rcases List.mem_cons.1 h with rfl | h
    · exact List.mem_append_left _ hm
    · exact List.mem_append_right _ (ih h)
theorem weightsEach_mem {H : Type} {P : Program} : ∀ {ts : List TypeId} {ds : List (DataW H)} {i : Nat} {t : TypeId} {d : DataW H}, ts[i]? = some t → ds[i]? = some d → ∀ {m : Nat}, m ∈ d.weights P t → m ∈ DataW.weightsEach P ts ds
  | [], _, _, _, _, h, _, _, _ => by simp at h
  | _ :: _, [], _, _, _, _, h, _, _ => by simp at h
  | t :: ts, d :: ds, 0, _, _, h1, h2, m, hm => by
    simp only [List.getElem?_cons_zero, Option.some.injEq] at h1 h2
    subst h1 h2
    unfold DataW.weightsEach
    exact List.mem_append_left _ hm
  | t :: ts, d :: ds, i + 1, _, _, h1, h2, m, hm => by
    unfold DataW.weightsEach
    exact List.mem_append_right _ (weightsEach_mem (by simpa using h1) (by simpa using h2) hm)

theorem Rs.ofTrod {H : Type} {enc : TypeId × Value → H} {P : Program} {w : World} {base : Nat} {held : Bool} : ∀ (n : Nat) (t : TypeId) (cs : List Value) (x : DataW H × List MemPlace),
    DataW.trod enc P w base (fun _ => true) held n t cs = some x → (∀ m ∈ x.1.weights P t, m ≤ reachBytes) → Rs P w n t cs := by
  intro n
  induction n with
  | zero => intro t cs x h; simp [DataW.trod] at h
  | succ n ih =>
    intro t cs x h hz
    unfold Rs
    split
    · rename_i hu
      obtain ⟨b, rfl, _⟩ := DataW.trod_bool hu h
      exact ⟨b, rfl⟩
    · rename_i k hu
      obtain ⟨m, rfl, _, hw⟩ := DataW.trod_int hu h
      exact ⟨m, rfl, hw⟩
    · rename_i hu
      obtain ⟨s, rfl, rfl, hw⟩ := DataW.trod_string hu h
      exact ⟨s, rfl, by have := hz s.data.toList.length (by simp [DataW.weights]); simpa using this⟩
    · rename_i e hu
      rcases DataW.trod_slice hu h with ⟨h1, _⟩ | ⟨a, len, cap, elems, rest, m, hm, hcs, hx, _, hl, hcm, hel, he, hr, _⟩
      · exact .inl h1
      · obtain rfl : m = n := by omega
        obtain ⟨hrl, hr⟩ := hr rfl
        subst hx
        have hwe : DataW.weights P t (.slice (elems.map (·.1)) (rest.map (·.1)) : DataW H) = ((elems.map (·.1)).length + (rest.map (·.1)).length) * P.bytesOf e :: (DataW.weightsAll P e (elems.map (·.1)) ++ DataW.weightsAll P e (rest.map (·.1))) := by
          rw [DataW.weights, hu]
        have hz' : ∀ m ∈ DataW.weights P t (.slice (elems.map (·.1)) (rest.map (·.1)) : DataW H), m ≤ reachBytes := hz
        rw [hwe] at hz'
        refine .inr ⟨a, len, cap, hcs, hl, hcm, ?_, fun i hi => ?_⟩
        · have := hz' _ (List.mem_cons_self ..)
          simp only [List.length_map] at this
          rwa [show elems.length + rest.length = cap by omega] at this
        · have key : ∃ y, (w.cells? base (a.add (i * P.cellsOf e)) (P.cellsOf e)).bind (DataW.trod enc P w base (fun _ => true) held m e) = some y ∧ (∀ k ∈ y.1.weights P e, k ≤ reachBytes) := by
            by_cases hil : i < len
            · rw [he i hil, List.getElem?_eq_getElem (by omega)]
              exact ⟨_, rfl, fun k hk => hz' k (List.mem_cons_of_mem _ (List.mem_append_left _ (weightsAll_mem (List.mem_map_of_mem (List.getElem_mem _)) hk)))⟩
            · have h4 := hr (i - len) (by omega)
              rw [show len + (i - len) = i by omega, List.getElem?_eq_getElem (by omega)] at h4
              exact ⟨_, h4, fun k hk => hz' k (List.mem_cons_of_mem _ (List.mem_append_right _ (weightsAll_mem (List.mem_map_of_mem (List.getElem_mem _)) hk)))⟩
          obtain ⟨y, hy, hyz⟩ := key
          cases hc : w.cells? base (a.add (i * P.cellsOf e)) (P.cellsOf e) with
          | none => simp [hc] at hy
          | some ds =>
            simp only [hc, Option.bind_some] at hy
            obtain ⟨_, hlen, hcell⟩ := World.cells?_some hc
            refine ⟨ds, hlen, fun j hj => ?_, ih _ _ _ hy hyz⟩
            rw [← hcell j (by omega), addr_add_add]
    · rename_i fs hu
      obtain ⟨xs, m, hm, hx, hl, hxl, hf⟩ := DataW.trod_struct hu h
      obtain rfl : m = n := by omega
      subst hx
      have hz' : ∀ m ∈ DataW.weightsEach P (fs.toList.map (·.type)) (xs.map (·.1)), m ≤ reachBytes := fun k hk => hz k (by show k ∈ DataW.weights P t (.agg (xs.map (·.1)) : DataW H); rw [DataW.weights, hu]; exact hk)
      refine ⟨hl, fun f hfm => ?_⟩
      obtain ⟨i, hi⟩ := List.getElem?_of_mem hfm
      have hi' : fs[i]? = some f := by simpa using hi
      have h3 := hf i f hi'
      have hil : i < xs.length := by
        have := (List.getElem?_eq_some_iff.1 hi).1
        simp at this
        omega
      rw [List.getElem?_eq_getElem hil] at h3
      exact ih _ _ _ h3 fun k hk => hz' k (weightsEach_mem (i := i) (t := f.type) (by simp [hi]) (d := xs[i].1) (by simp [List.getElem?_eq_getElem hil]) hk)
    · rename_i m e hu
      obtain ⟨xs, m', hm, hx, hl, hxl, hf⟩ := DataW.trod_array hu h
      obtain rfl : m' = n := by omega
      subst hx
      have hz' : ∀ m ∈ DataW.weightsAll P e (xs.map (·.1)), m ≤ reachBytes := fun k hk => hz k (by show k ∈ DataW.weights P t (.agg (xs.map (·.1)) : DataW H); rw [DataW.weights, hu]; exact hk)
      refine ⟨hl, fun i hi => ?_⟩
      have h3 := hf i hi
      rw [List.getElem?_eq_getElem (by omega)] at h3
      exact ih _ _ _ h3 fun k hk => hz' k (weightsAll_mem (List.mem_map_of_mem (List.getElem_mem _)) hk)
    · trivial

theorem Rs.ofTrod' {H : Type} {enc : TypeId × Value → H} {P : Program} {w : World} {base : Nat} {held : Bool} {t : TypeId} {v : Value} {d : DataW H} {ps : List MemPlace}
    (h : DataW.Trod enc P w base (fun _ => true) held t v d ps) (hz : ∀ m ∈ d.weights P t, m ≤ reachBytes) : ∃ n, Rs P w n t v.cells.toList := by
  obtain ⟨n, h⟩ := h
  exact ⟨n, Rs.ofTrod n _ _ _ h hz⟩

theorem Rs.rd {P : Program} {w : World} : ∀ (n : Nat) (t : TypeId) (cs : List Value), Rs P w n t cs → Rd P w n t cs := by
  intro n
  induction n with
  | zero => intro t cs h; exact h
  | succ n ih =>
    intro t cs h
    unfold Rs at h
    unfold Rd
    split
    · rename_i hu; simpa only [hu] using h
    · rename_i k hu; simpa only [hu] using h
    · rename_i hu
      simp only [hu] at h
      obtain ⟨s, hs, hl⟩ := h
      exact ⟨s, hs, by unfold reachBytes at hl; unfold maxLen; omega⟩
    · rename_i e hu
      simp only [hu] at h
      rcases h with h | ⟨a, len, cap, hcs, hl, hm, _, he⟩
      · exact .inl h
      · exact .inr ⟨a, len, cap, hcs, hl, hm, fun i hi => by
          obtain ⟨ds, h1, h2, h3⟩ := he i hi
          exact ⟨ds, h1, h2, ih _ _ h3⟩⟩
    · rename_i fs hu
      simp only [hu] at h
      exact ⟨h.1, fun f hf => ih _ _ (h.2 f hf)⟩
    · rename_i m e hu
      simp only [hu] at h
      exact ⟨h.1, fun i hi => ih _ _ (h.2 i hi)⟩
    · trivial

theorem Rs.slice {P : Program} {w : World} {n : Nat} {t e : TypeId} {cs : List Value} (h : Rs P w n t cs) (hu : P.underlying t = some (.slice e)) :
    cs = [.slice none 0 0] ∨ ∃ (a : Addr) (len cap m : Nat), cs = [.slice (some a) len cap] ∧ len ≤ cap ∧ cap ≤ maxLen ∧ cap * P.bytesOf e ≤ reachBytes ∧
        ∀ i, i < cap → ∃ ds : List Value, ds.length = P.cellsOf e ∧ (∀ j, j < ds.length → w.cell? (a.add (i * P.cellsOf e + j)) = ds[j]?) ∧ Rs P w m e ds := by
  cases n with
  | zero => exact h.elim
  | succ n =>
    unfold Rs at h
    simp only [hu] at h
    rcases h with h | ⟨a, len, cap, h1, h2, h3, h4, h5⟩
    · exact .inl h
    · exact .inr ⟨a, len, cap, n, h1, h2, h3, h4, h5⟩

/-- The elements of a slice that came in: of each its cells, and what they are. -/
theorem Rs.elems {P : Program} {w : World} {n : Nat} {t e : TypeId} {a : Option Addr} {len cap sz : Nat} (h : Rs P w n t [.slice a len cap]) (hu : P.underlying t = some (.slice e)) (hc : P.cellsOf e = sz) :
    len ≤ cap ∧ cap ≤ maxLen ∧ cap * P.bytesOf e ≤ reachBytes ∧ ∃ (m : Nat) (ds : List (List Value)), ds.length = len ∧ Vw w (.slice a len cap) sz len ds.flatten ∧ ∀ d ∈ ds, d.length = sz ∧ Rs P w m e d := by
  rcases h.slice hu with h | ⟨x, l, c, m, h1, h2, h3, h4, h5⟩
  · cases h
    exact ⟨Nat.le_refl _, by simp [maxLen], by simp, 0, [], rfl, by simpa using Vw.nil w sz, by simp⟩
  · cases h1
    refine ⟨h2, h3, h4, m, ?_⟩
    obtain ⟨f, hf⟩ := choose_lt (n := len) (p := fun i (d : List Value) => d.length = sz ∧ (∀ j, j < sz → w.cell? (x.add (i * sz + j)) = d[j]?) ∧ Rs P w m e d) (by
      intro i hi
      obtain ⟨d, h6, h7, h8⟩ := h5 i (by omega)
      rw [hc] at h6 h7
      exact ⟨d, h6, fun j hj => h7 j (by omega), h8⟩)
    have hfl : ∀ k, k ≤ len → ((List.range k).map f).flatten.length = k * sz := by
      intro k
      induction k with
      | zero => intro _; simp
      | succ k ih => intro hk; rw [List.range_succ, List.map_append, List.flatten_append, List.length_append, ih (by omega)]; simp [(hf k (by omega)).1, Nat.succ_mul]
    refine ⟨(List.range len).map f, by simp, ⟨_, _, rfl, hfl len (Nat.le_refl _), h2, h3, (fun h => by cases h), fun hne => ?_⟩, ?_⟩
    · have hcell : ∀ k, k ≤ len → ∀ j u, ((List.range k).map f).flatten[j]? = some u → w.cell? (x.add j) = some u := by
        intro k
        induction k with
        | zero => intro _ j u hu; simp at hu
        | succ k ih =>
          intro hk j u hu
          rw [List.range_succ, List.map_append, List.flatten_append, List.getElem?_append] at hu
          split at hu
          · exact ih (by omega) j u hu
          · rename_i hj
            rw [hfl k (by omega)] at hu hj
            simp only [List.map_cons, List.map_nil, List.flatten_cons, List.flatten_nil, List.append_nil] at hu
            have hjl : j - k * sz < sz := by
              have := (List.getElem?_eq_some_iff.1 hu).1
              rw [(hf k (by omega)).1] at this
              exact this
            have := (hf k (by omega)).2.1 (j - k * sz) hjl
            rw [show k * sz + (j - k * sz) = j by omega] at this
            rw [this]
            exact hu
      have h0 : ∃ u, ((List.range len).map f).flatten[0]? = some u := by
        cases hq : ((List.range len).map f).flatten with
        | nil => exact (hne hq).elim
        | cons u r => exact ⟨u, rfl⟩
      obtain ⟨u0, hu0⟩ := h0
      have hc0 := hcell len (Nat.le_refl _) 0 u0 hu0
      obtain ⟨b, off, spot⟩ := x
      have hspot : spot = Option.none := by simpa [Addr.add] using World.cell?_spot hc0
      subst hspot
      exact ⟨b, off, rfl, fun j u hu => by have := hcell len (Nat.le_refl _) j u hu; rwa [addr_add_plain] at this⟩
    · intro d hd
      obtain ⟨i, hi, rfl⟩ := List.mem_map.1 hd
      have hi' : i < len := by simpa using hi
      exact ⟨(hf i hi').1, (hf i hi').2.2⟩

theorem Rs.only {P : Program} {w w' : World} (ho : Only [] w w') : ∀ (n : Nat) (t : TypeId) (cs : List Value), Rs P w n t cs → Rs P w' n t cs := by
  intro n
  induction n with
  | zero => intro t cs h; exact h
  | succ n ih =>
    intro t cs h
    unfold Rs at h ⊢
    split
    · rename_i hu; simpa only [hu] using h
    · rename_i k hu; simpa only [hu] using h
    · rename_i hu; simpa only [hu] using h
    · rename_i e hu
      simp only [hu] at h
      rcases h with h | ⟨a, len, cap, hcs, hl, hm, hz, he⟩
      · exact .inl h
      · refine .inr ⟨a, len, cap, hcs, hl, hm, hz, fun i hi => ?_⟩
        obtain ⟨ds, h1, h2, h3⟩ := he i hi
        refine ⟨ds, h1, fun j hj => ?_, ih _ _ h3⟩
        have h4 := h2 j hj
        have hlt : (a.add (i * P.cellsOf e + j)).block < w.heap.size := by
          rw [List.getElem?_eq_getElem hj] at h4
          exact World.block_lt_of_cell? w _ h4
        rw [World.cell?_of_block (w := w) (ho.block _ hlt (by simp))]
        exact h4
    · rename_i fs hu
      simp only [hu] at h
      exact ⟨h.1, fun f hf => ih _ _ (h.2 f hf)⟩
    · rename_i m e hu
      simp only [hu] at h
      exact ⟨h.1, fun i hi => ih _ _ (h.2 i hi)⟩
    · trivial
theorem Rs.struct {P : Program} {w : World} {n : Nat} {t : TypeId} {cs : List Value} {fs : Array Field} (h : Rs P w n t cs) (hu : P.underlying t = some (.struct fs)) :
    cs.length = P.cellsOf t ∧ ∃ m, ∀ f, f ∈ fs.toList → Rs P w m f.type ((cs.drop f.offset).take (P.cellsOf f.type)) := by
  cases n with
  | zero => exact h.elim
  | succ n => unfold Rs at h; simp only [hu] at h; exact ⟨h.1, n, h.2⟩
/-- A field of a struct, by its place: its type, where its cells begin, how many there are. -/
theorem Rs.field {P : Program} {w : World} {n : Nat} {t : TypeId} {cs : List Value} {fs : Array Field} (h : Rs P w n t cs) (hu : P.underlying t = some (.struct fs)) (i : Nat) (t' : TypeId) (off sz : Nat)
    (h1 : (fs[i]?).map (fun f => (f.type, f.offset)) = some (t', off)) (h2 : P.cellsOf t' = sz) : ∃ m, Rs P w m t' ((cs.drop off).take sz) := by
  obtain ⟨_, m, hf⟩ := h.struct hu
  cases hi : fs[i]? with
  | none => simp [hi] at h1
  | some f =>
    simp only [hi, Option.map_some, Option.some.injEq, Prod.mk.injEq] at h1
    obtain ⟨rfl, rfl⟩ := h1
    subst h2
    exact ⟨m, hf f (List.mem_of_getElem? (i := i) (by simpa using hi))⟩
end Go.Pm
namespace Go.Pm
set_option linter.unusedSimpArgs false
set_option linter.unusedVariables false
open Go.RowKit

theorem Pact.law {P : Program} {f : FuncId} {args : Array Value} {φ : World → Prop} {W : World} (S : Pact P f args φ [] (fun v L => v = .bool true ∧ L = [])) (h : Kn (World.all W) φ) :
    Calls P f args W fun e w' => e = .returned (.bool true) ∧ Only [] W w' :=
  (S W (World.all W) W h (Ow.start W)).mono fun e w' ⟨v, L', ⟨hv, hl⟩, he, H⟩ => by
    subst hv
    exact ⟨he, H.fin⟩

theorem cell?_heap {w w' : World} (h : w'.heap = w.heap) (a : Addr) : w'.cell? a = w.cell? a := by
  have : w' = { w' with heap := w.heap } := by rw [← h]
  unfold World.cell?
  rw [h]
theorem Rs.heap {P : Program} {w w' : World} (hh : w'.heap = w.heap) : ∀ (n : Nat) (t : TypeId) (cs : List Value), Rs P w n t cs → Rs P w' n t cs := by
  intro n
  induction n with
  | zero => intro t cs h; exact h
  | succ n ih =>
    intro t cs h
    unfold Rs at h ⊢
    split
    · rename_i hu; simpa only [hu] using h
    · rename_i k hu; simpa only [hu] using h
    · rename_i hu; simpa only [hu] using h
    · rename_i e hu
      simp only [hu] at h
      rcases h with h | ⟨a, len, cap, hcs, hl, hm, hz, he⟩
      · exact .inl h
      · refine .inr ⟨a, len, cap, hcs, hl, hm, hz, fun i hi => ?_⟩
        obtain ⟨ds, h1, h2, h3⟩ := he i hi
        exact ⟨ds, h1, fun j hj => by rw [cell?_heap hh]; exact h2 j hj, ih _ _ h3⟩
    · rename_i fs hu
      simp only [hu] at h
      exact ⟨h.1, fun f hf => ih _ _ (h.2 f hf)⟩
    · rename_i m e hu
      simp only [hu] at h
      exact ⟨h.1, fun i hi => ih _ _ (h.2 i hi)⟩
    · trivial
theorem Rs.kn {P : Program} {W : World} {n : Nat} {t : TypeId} {cs : List Value} (h : Rs P W n t cs) : Kn (World.all W) (fun w => Rs P w n t cs) :=
  Kn.all (fun _ ho => Rs.only ho n t cs h) fun _ _ hh hr => Rs.heap hh n t cs hr
theorem Rs.of_weights {H : Type} {enc : TypeId × Value → H} {P : Program} {w : World} {base : Nat} {held : Bool} {ts : List TypeId} {ds : List (DataW H)} (hz : (DataW.weightsEach P ts ds).all (· ≤ reachBytes) = true) (i : Nat) {t : TypeId} {d : DataW H} (h1 : ts[i]? = some t) (h2 : ds[i]? = some d)
    {v : Value} {ps : List MemPlace} (h : DataW.Trod enc P w base (fun _ => true) held t v d ps) : ∃ n, Rs P w n t v.cells.toList :=
  Rs.ofTrod' h fun m hm => by
    have := List.all_eq_true.1 hz m (weightsEach_mem h1 h2 hm)
    simpa using this

/-! The cells of a struct, one by one. -/
def flatF (P : Program) (r : TypeId → Option (List TypeId)) : List Field → Nat → Option (List TypeId)
  | [], _ => some []
  | f :: fs, o => if f.offset = o then match r f.type, flatF P r fs (o + P.cellsOf f.type) with
      | some a, some b => if a.length = P.cellsOf f.type then some (a ++ b) else none
      | _, _ => none
    else none
def flatT (P : Program) : Nat → TypeId → Option (List TypeId)
  | 0, _ => none
  | n + 1, t => match P.underlying t with
    | some (.struct fs) => match flatF P (flatT P n) fs.toList 0 with
      | some a => if a.length = P.cellsOf t then some a else none
      | none => none
    | some (.array m e) => match flatT P n e with
      | some a => if a.length = P.cellsOf e ∧ m * P.cellsOf e = P.cellsOf t then some (List.replicate m a).flatten else none
      | none => none
    | some .bool => some [t]
    | some (.int _) => some [t]
    | some .string => some [t]
    | some (.slice _) => some [t]
    | _ => none
def Leaf (P : Program) (w : World) : List TypeId → List Value → Prop
  | [], cs => cs = []
  | t :: ts, cs => ∃ c r, cs = c :: r ∧ (∃ m, Rs P w m t [c]) ∧ Leaf P w ts r
theorem Leaf.append {P : Program} {w : World} : ∀ {ts us : List TypeId} {cs ds : List Value}, Leaf P w ts cs → Leaf P w us ds → Leaf P w (ts ++ us) (cs ++ ds)
  | [], _, _, _, h, k => by cases h; exact k
  | _ :: _, _, _, _, ⟨c, r, e, h1, h2⟩, k => by subst e; exact ⟨c, _, rfl, h1, Leaf.append h2 k⟩
theorem Leaf.len {P : Program} {w : World} : ∀ {ts : List TypeId} {cs : List Value}, Leaf P w ts cs → cs.length = ts.length
  | [], _, h => by cases h; rfl
  | _ :: _, _, ⟨c, r, e, _, h2⟩ => by subst e; simp [Leaf.len h2]
theorem leaf_fields {P : Program} {w : World} {r : TypeId → Option (List TypeId)} (hr : ∀ t ts m cs, r t = some ts → Rs P w m t cs → Leaf P w ts cs) : ∀ (fs : List Field) (o : Nat) (ts : List TypeId) (m : Nat) (all : List Value),
    flatF P r fs o = some ts → (∀ f ∈ fs, Rs P w m f.type ((all.drop f.offset).take (P.cellsOf f.type))) → Leaf P w ts ((all.drop o).take ts.length)
  | [], _, ts, _, _, h, _ => by
    simp only [flatF, Option.some.injEq] at h
    subst h
    simp [Leaf]
  | f :: fs, o, ts, m, all, h, hf => by
    simp only [flatF] at h
    split at h
    · rename_i ho
      split at h
      · rename_i a b ha hb
        split at h
        · rename_i hl
          cases h
          have h1 := hr _ _ _ _ ha (hf f (List.mem_cons_self ..))
          have h2 := leaf_fields hr fs _ b m all hb fun g hg => hf g (List.mem_cons_of_mem _ hg)
          rw [ho] at h1
          have := h1.append h2
          rw [List.length_append, List.take_add, List.drop_drop]
          rw [hl]
          exact this
        · cases h
      · cases h
    · cases h
theorem leaf_of {P : Program} {w : World} : ∀ (k : Nat) (t : TypeId) (ts : List TypeId) (m : Nat) (cs : List Value), flatT P k t = some ts → Rs P w m t cs → Leaf P w ts cs := by
  intro k
  induction k with
  | zero => intro t ts m cs h; simp [flatT] at h
  | succ k ih =>
    intro t ts m cs h hr
    have one : ∀ c, cs = [c] → ts = [t] → Leaf P w ts cs := fun c e e2 => by subst e e2; exact ⟨c, [], rfl, ⟨m, hr⟩, rfl⟩
    simp only [flatT] at h
    split at h
    · rename_i fs hu
      split at h
      · rename_i a ha
        split at h
        · rename_i hal
          cases h
          obtain ⟨hl, m', hf⟩ := hr.struct hu
          have h1 := leaf_fields (w := w) (fun t ts m cs => ih t ts m cs) fs.toList 0 _ m' cs ha hf
          rw [List.drop_zero, List.take_of_length_le (by omega)] at h1
          exact h1
        · cases h
      · cases h
    · rename_i x e hu
      split at h
      · rename_i a ha
        split at h
        · rename_i hal
          cases h
          obtain ⟨hal, htl⟩ := hal
          cases m with
          | zero => exact hr.elim
          | succ m =>
            unfold Rs at hr
            simp only [hu] at hr
            obtain ⟨hl, hf⟩ := hr
            have key : ∀ y, y ≤ x → Leaf P w (List.replicate y a).flatten (cs.take (y * P.cellsOf e)) := by
              intro y
              induction y with
              | zero => intro _; simp [Leaf]
              | succ y ihy =>
                intro hy
                have h1 := (ihy (by omega)).append (ih _ _ _ _ ha (hf y (by omega)))
                rw [Nat.succ_mul, List.take_add, List.replicate_succ', List.flatten_append]
                simpa using h1
            have := key x (Nat.le_refl _)
            rw [List.take_of_length_le (by omega)] at this
            exact this
        · cases h
      · cases h
    · rename_i hu
      cases h
      cases m with
      | zero => exact hr.elim
      | succ m => have hr' := hr; unfold Rs at hr'; simp only [hu] at hr'; obtain ⟨b, e⟩ := hr'; exact one _ e rfl
    · rename_i hu
      cases h
      cases m with
      | zero => exact hr.elim
      | succ m => have hr' := hr; unfold Rs at hr'; simp only [hu] at hr'; obtain ⟨b, e, _⟩ := hr'; exact one _ e rfl
    · rename_i hu
      cases h
      cases m with
      | zero => exact hr.elim
      | succ m => have hr' := hr; unfold Rs at hr'; simp only [hu] at hr'; obtain ⟨b, e, _⟩ := hr'; exact one _ e rfl
    · rename_i hu
      cases h
      cases m with
      | zero => exact hr.elim
      | succ m => have hr' := hr; unfold Rs at hr'; simp only [hu] at hr'; rcases hr' with e | ⟨a, l, c, e, _⟩ <;> exact one _ e rfl
    · cases h

theorem Leaf.one {P : Program} {w : World} {t : TypeId} {ts : List TypeId} {cs : List Value} (h : Leaf P w (t :: ts) cs) : ∃ c r, cs = c :: r ∧ (∃ m, Rs P w m t [c]) ∧ Leaf P w ts r := h
theorem Leaf.nil' {P : Program} {w : World} {cs : List Value} (h : Leaf P w [] cs) : cs = [] := h
theorem Leaf.int {P : Program} {w : World} {t : TypeId} {ts : List TypeId} {cs : List Value} {k : IntKind} (h : Leaf P w (t :: ts) cs) (hu : P.underlying t = some (.int k)) : ∃ z r, cs = .int k z :: r ∧ (Lit.int k z).wf = true ∧ Leaf P w ts r := by
  obtain ⟨c, r, rfl, ⟨m, h1⟩, h2⟩ := h
  obtain ⟨z, e, h3⟩ := (Rs.rd _ _ _ h1).int hu
  cases e
  exact ⟨z, r, rfl, h3, h2⟩
theorem Leaf.i64 {P : Program} {w : World} {t : TypeId} {ts : List TypeId} {cs : List Value} (h : Leaf P w (t :: ts) cs) (hu : P.underlying t = some (.int .i64)) : ∃ z r, cs = .int .i64 z :: r ∧ (-9223372036854775808 ≤ z ∧ z ≤ 9223372036854775807) ∧ Leaf P w ts r := by
  obtain ⟨z, r, e, h1, h2⟩ := h.int hu
  exact ⟨z, r, e, bounds_i64 h1, h2⟩
theorem Leaf.u32 {P : Program} {w : World} {t : TypeId} {ts : List TypeId} {cs : List Value} (h : Leaf P w (t :: ts) cs) (hu : P.underlying t = some (.int .u32)) : ∃ z r, cs = .int .u32 z :: r ∧ (0 ≤ z ∧ z ≤ 4294967295) ∧ Leaf P w ts r := by
  obtain ⟨z, r, e, h1, h2⟩ := h.int hu
  exact ⟨z, r, e, bounds_u32 h1, h2⟩
theorem Leaf.u8 {P : Program} {w : World} {t : TypeId} {ts : List TypeId} {cs : List Value} (h : Leaf P w (t :: ts) cs) (hu : P.underlying t = some (.int .u8)) : ∃ z r, cs = .int .u8 z :: r ∧ (0 ≤ z ∧ z ≤ 255) ∧ Leaf P w ts r := by
  obtain ⟨z, r, e, h1, h2⟩ := h.int hu
  exact ⟨z, r, e, bounds_u8 h1, h2⟩
theorem Leaf.bool {P : Program} {w : World} {t : TypeId} {ts : List TypeId} {cs : List Value} (h : Leaf P w (t :: ts) cs) (hu : P.underlying t = some .bool) : ∃ z r, cs = .bool z :: r ∧ Leaf P w ts r := by
  obtain ⟨c, r, rfl, ⟨m, h1⟩, h2⟩ := h
  obtain ⟨z, e⟩ := (Rs.rd _ _ _ h1).bool hu
  cases e
  exact ⟨z, r, rfl, h2⟩
theorem Leaf.sl {P : Program} {w : World} {t e : TypeId} {ts : List TypeId} {cs : List Value} (h : Leaf P w (t :: ts) cs) (hu : P.underlying t = some (.slice e)) : ∃ a l c r, cs = .slice a l c :: r ∧ (∃ m, Rs P w m t [.slice a l c]) ∧ Leaf P w ts r := by
  obtain ⟨v, r, rfl, ⟨m, h1⟩, h2⟩ := h
  rcases h1.slice hu with e | ⟨a, l, c, _, e, _⟩
  · cases e
    exact ⟨none, 0, 0, r, rfl, ⟨m, h1⟩, h2⟩
  · cases e
    exact ⟨some a, l, c, r, rfl, ⟨m, h1⟩, h2⟩
/-- A slice that came in, as a list. -/
theorem Rs.list {P : Program} {w : World} {n : Nat} {t e : TypeId} {a : Option Addr} {l c sz b : Nat} {α : Type} {enc : α → List Value} {ok : α → Prop} (h : Rs P w n t [.slice a l c]) (hu : P.underlying t = some (.slice e)) (hc : P.cellsOf e = sz) (hb : P.bytesOf e = b)
    (hx : ∀ m d, d.length = sz → Rs P w m e d → ∃ x, d = enc x ∧ ok x) :
    ∃ es : List α, es.length = l ∧ l ≤ c ∧ c ≤ maxLen ∧ c * b ≤ reachBytes ∧ Vw w (.slice a es.length c) sz es.length (flat enc es) ∧ ∀ x ∈ es, ok x := by
  obtain ⟨h1, h2, h3, m, ds, h4, h5, h6⟩ := h.elems hu hc
  subst hb
  have : ∃ es : List α, ds = es.map enc ∧ ∀ x ∈ es, ok x := by
    clear h4 h5
    induction ds with
    | nil => exact ⟨[], rfl, by simp⟩
    | cons d ds ih =>
      obtain ⟨es, e1, e2⟩ := ih fun d hd => h6 d (List.mem_cons_of_mem _ hd)
      obtain ⟨hl, hr⟩ := h6 d (List.mem_cons_self ..)
      obtain ⟨x, e3, e4⟩ := hx m d hl hr
      exact ⟨x :: es, by simp [e1, e3], fun y hy => by
        rcases List.mem_cons.1 hy with rfl | hy
        · exact e4
        · exact e2 y hy⟩
  obtain ⟨es, e1, e2⟩ := this
  subst e1
  have hel : es.length = l := by simpa using h4
  subst hel
  exact ⟨es, rfl, h1, h2, h3, by simpa [flat, List.flatMap] using h5, e2⟩
/-! What came in is known of any later world. -/
theorem vwKeep {w w' : World} (hc : ∀ b o u, w.cell? ⟨b, o, none⟩ = some u → w'.cell? ⟨b, o, none⟩ = some u) {v : Value} {sz n : Nat} {xs : List Value} (h : Vw w v sz n xs) : Vw w' v sz n xs := by
  obtain ⟨a, cap, rfl, h1, h2, h3, h4, h5⟩ := h
  refine ⟨a, cap, rfl, h1, h2, h3, h4, fun hne => ?_⟩
  obtain ⟨b, off, h6, h7⟩ := h5 hne
  exact ⟨b, off, h6, fun j u hu => hc _ _ _ (h7 j u hu)⟩
theorem vwKn {W : World} {v : Value} {sz n : Nat} {xs : List Value} (h : Vw W v sz n xs) : Kn (World.all W) (fun w => Vw w v sz n xs) :=
  Kn.all (fun w ho => vwKeep (fun b o u hu => by
    rw [World.cell?_of_block (w := W) (ho.block b (World.block_lt_of_cell? _ _ hu) (by simp))]
    exact hu) h) fun w w' hh hr => vwKeep (fun b o u hu => by rw [cell?_heap hh]; exact hu) hr
theorem i64Arg {P : Program} {W : World} {m : Nat} {t : TypeId} {z : Int} (hu : P.underlying t = some (.int .i64)) (h : Rs P W m t (Value.int .i64 z).cells.toList) : -9223372036854775808 ≤ z ∧ z ≤ 9223372036854775807 := by
  obtain ⟨y, e, h3⟩ := (Rs.rd _ _ _ h).int hu
  cases e
  exact bounds_i64 h3
theorem u32Arg {P : Program} {W : World} {m : Nat} {t : TypeId} {z : Int} (hu : P.underlying t = some (.int .u32)) (h : Rs P W m t (Value.int .u32 z).cells.toList) : 0 ≤ z ∧ z ≤ 4294967295 := by
  obtain ⟨y, e, h3⟩ := (Rs.rd _ _ _ h).int hu
  cases e
  exact bounds_u32 h3
end Go.Pm
namespace Go.Proofs.Ytdnokmpnemaoaaa
set_option linter.unusedSimpArgs false
set_option linter.unusedVariables false
open Go.RowKit Go.Pm

theorem u32_el {w : World} (m : Nat) (d : List Value) (_ : d.length = 1) (h : Rs Try.prog w m 22 d) : ∃ z : Int, d = u32C z ∧ U32 z := by
  obtain ⟨z, e, h1, h2⟩ := (Rs.rd _ _ _ h).u32 Try.underlying22
  exact ⟨z, e, h1, h2⟩
theorem u8_el {w : World} (m : Nat) (d : List Value) (_ : d.length = 1) (h : Rs Try.prog w m 5 d) : ∃ z : Int, d = byC z ∧ U8 z := by
  have h0 := leaf_of 5 5 [5] m d (by kernel_rfl) h
  obtain ⟨z, r, e, b, h1⟩ := h0.u8 Try.underlying5
  subst e
  obtain rfl := h1.nil'
  exact ⟨z, rfl, b⟩
theorem seg_el {w : World} (m : Nat) (d : List Value) (_ : d.length = 2) (h : Rs Try.prog w m 108 d) : ∃ s : Sg, d = sgC s ∧ segV w s ∧ SgN s := by
  have h0 := leaf_of 5 108 [4, 27] m d (by kernel_rfl) h
  obtain ⟨b, r, e, h1⟩ := h0.bool Try.underlying4
  subst e
  obtain ⟨a, l, c, r, e, ⟨m', hs⟩, h2⟩ := h1.sl Try.underlying27
  subst e
  obtain rfl := h2.nil'
  obtain ⟨es, e, g1, g2, g3, g4, g5⟩ := hs.list (sz := 1) (b := 4) (enc := u32C) (ok := U32) Try.underlying27 (by kernel_rfl) (by kernel_rfl) u32_el
  subst e
  exact ⟨⟨b, a, c, es⟩, rfl, g4, by show es.length ≤ 35184372088832; simp only [reachBytes] at g3; omega, g5⟩
theorem raw_el {w : World} (m : Nat) (d : List Value) (_ : d.length = 2) (h : Rs Try.prog w m 113 d) : ∃ s : Rw, d = rwC s ∧ rawV w s ∧ RwN s := by
  have h0 := leaf_of 5 113 [3, 111] m d (by kernel_rfl) h
  obtain ⟨b, r, e, hb, h1⟩ := h0.i64 Try.underlying3
  subst e
  obtain ⟨a, l, c, r, e, ⟨m', hs⟩, h2⟩ := h1.sl Try.underlying111
  subst e
  obtain rfl := h2.nil'
  obtain ⟨es, e, g1, g2, g3, g4, g5⟩ := hs.list (sz := 1) (b := 1) (enc := byC) (ok := U8) Try.underlying111 (by kernel_rfl) (by kernel_rfl) u8_el
  subst e
  exact ⟨⟨b, a, c, es⟩, rfl, g4, hb, by show es.length ≤ 140737488355328; simp only [reachBytes] at g3; omega, g5⟩
theorem attrs_leaf {w : World} {cs : List Value} (h0 : Leaf Try.prog w [3, 26, 23, 4, 22, 4, 22, 4, 4, 22, 23, 27, 28] cs) : ∃ d : At, cs = atC d ∧ AtN d ∧ AtV w d := by
  obtain ⟨origin, r, e, b4, h5⟩ := h0.i64 Try.underlying3
  subst e
  obtain ⟨pa, pl, pc, r, e, ⟨m', hs⟩, h6⟩ := h5.sl Try.underlying26
  subst e
  obtain ⟨path, e, g1, g2, g3, g4, g5⟩ := hs.list (sz := 2) (b := 32) (enc := sgC) (ok := fun s => segV w s ∧ SgN s) Try.underlying26 (by kernel_rfl) (by kernel_rfl) seg_el
  subst e
  obtain ⟨next, r, e, b5, h7⟩ := h6.u32 Try.underlying23
  subst e
  obtain ⟨hasMed, r, e, h8⟩ := h7.bool Try.underlying4
  subst e
  obtain ⟨med, r, e, b6, h9⟩ := h8.u32 Try.underlying22
  subst e
  obtain ⟨hasLocal, r, e, h10⟩ := h9.bool Try.underlying4
  subst e
  obtain ⟨loc, r, e, b7, h11⟩ := h10.u32 Try.underlying22
  subst e
  obtain ⟨atomic, r, e, h12⟩ := h11.bool Try.underlying4
  subst e
  obtain ⟨hasMaker, r, e, h13⟩ := h12.bool Try.underlying4
  subst e
  obtain ⟨makerAS, r, e, b8, h14⟩ := h13.u32 Try.underlying22
  subst e
  obtain ⟨maker, r, e, b9, h15⟩ := h14.u32 Try.underlying23
  subst e
  obtain ⟨ca, cn, cc, r, e, ⟨m2, hc⟩, h16⟩ := h15.sl Try.underlying27
  subst e
  obtain ⟨comms, e, i1, i2, i3, i4, i5⟩ := hc.list (sz := 1) (b := 4) (enc := u32C) (ok := U32) Try.underlying27 (by kernel_rfl) (by kernel_rfl) u32_el
  subst e
  obtain ⟨oa, on, oc, r, e, ⟨m3, ho⟩, h17⟩ := h16.sl Try.underlying28
  subst e
  obtain ⟨others, e, j1, j2, j3, j4, j5⟩ := ho.list (sz := 2) (b := 32) (enc := rwC) (ok := fun s => rawV w s ∧ RwN s) Try.underlying28 (by kernel_rfl) (by kernel_rfl) raw_el
  subst e
  obtain rfl := h17.nil'
  exact ⟨⟨origin, pa, pc, path, next, hasMed, med, hasLocal, loc, atomic, hasMaker, makerAS, maker, ca, cc, comms, oa, oc, others⟩, rfl, ⟨b4, b5, b6, b7, b8, b9, fun s hs => (g5 s hs).2, i5, fun s hs => (j5 s hs).2⟩, ⟨g4, fun s hs => (g5 s hs).1⟩, i4, ⟨j4, fun s hs => (j5 s hs).1⟩⟩
theorem attrs_el {w : World} (m : Nat) (d : List Value) (h : Rs Try.prog w m 30 d) : ∃ x : At, d = atC x ∧ AtN x ∧ AtV w x :=
  attrs_leaf (leaf_of 5 30 _ m d (by kernel_rfl) h)
theorem AtV.keep {w w' : World} (hc : ∀ b o u, w.cell? ⟨b, o, none⟩ = some u → w'.cell? ⟨b, o, none⟩ = some u) {d : At} (h : AtV w d) : AtV w' d :=
  ⟨⟨vwKeep hc h.path.vw, fun s hs => vwKeep hc (h.path.segs s hs)⟩, vwKeep hc h.comms, ⟨vwKeep hc h.others.vw, fun s hs => vwKeep hc (h.others.raws s hs)⟩⟩
theorem kn_keep {W : World} {φ : World → Prop} (hk : ∀ {w w' : World}, (∀ b o u, w.cell? ⟨b, o, none⟩ = some u → w'.cell? ⟨b, o, none⟩ = some u) → φ w → φ w') (h : φ W) : Kn (World.all W) φ :=
  Kn.all (fun w ho => hk (fun b o u hu => by
    rw [World.cell?_of_block (w := W) (ho.block b (World.block_lt_of_cell? _ _ hu) (by simp))]
    exact hu) h) fun w w' hh hr => hk (fun b o u hu => by rw [cell?_heap hh]; exact hu) hr
theorem attrs_arg {W : World} {n : Nat} {cs : Array Value} (h : Rs Try.prog W n 30 (Value.agg cs).cells.toList) : ∃ d : At, cs = (atC d).toArray ∧ AtN d ∧ Kn (World.all W) (fun w => AtV w d) := by
  obtain ⟨d, e, h1, h2⟩ := attrs_el n cs.toList h
  exact ⟨d, by rw [← e], h1, kn_keep (fun hc h => AtV.keep hc h) h2⟩
end Go.Proofs.Ytdnokmpnemaoaaa
namespace Go.Proofs.Ytdnokmpnemaoaaa
set_option linter.unusedSimpArgs false
set_option linter.unusedVariables false
set_option maxRecDepth 20000
set_option maxHeartbeats 4000000
open Go.RowKit Go.Pm

abbrev vzC : List Value := [.pointer none, .pointer none, .int .i64 0, .int .i64 0]
theorem visvoid_k (vb : Nat) : Pact Try.prog 22 #[.pointer (some ⟨vb, 0, none⟩)] (fun w => w.cell? ⟨vb, 0 + 1, none⟩ = some (.pointer none)) [] (ret0 (.bool false)) := by
  refine pact Try.func22 rfl Try.ntmps22 rfl ?_
  intro W K hK
  (repeat' (first | ((with_reducible apply gL); (first | refine yL0 ?_ | refine yL ?_ | ((with_reducible apply gL_gd); (first | (refine JL_guard xR xR ?_ ?_ <;> intro _ <;> (try (exfalso; first | contradiction | omega))) | (refine JL_guardb xR xR ?_ ?_ <;> (intro hgb; subst hgb)) | (refine JL_guardb xR xR ?_ ?_ <;> (intro hgb; fail_if_success (have : type_of% hgb := rfl))) | fail)) | fail)) | refine yJ ?_ | fail))
  exact J_ret1 rfl (by rfl) fun w H => ⟨_, ⟨rfl, rfl⟩, H.sel .nil⟩
theorem those1_nil (g h : Nat) : Iter Try.prog 35 (fun l => [yldV l, .pointer (some ⟨g, 0, none⟩), .pointer (some ⟨h, 0, none⟩)]) (fun w => w.cell? ⟨g, 0, none⟩ = some (.pointer none)) enc2 0 (fun xs => xs = []) (fun _ => False) := by
  refine iter Try.func35 rfl Try.ntmps35 (fun _ => rfl) ?_
  intro K0 l Y Yx hY W K hK h1
  (repeat' (first | ((with_reducible apply gL); (first | refine yL0 ?_ | refine yL ?_ | ((with_reducible apply gL_go); (first | (refine JL_goq (visnil_s) (hφ := xF) (h := ?_); rintro _ _ ⟨rfl, rfl⟩; try simp only [List.cons_append, List.nil_append]) | fail)) | (refine yM ?_; intro _) | ((with_reducible apply gL_gd); (first | (refine JL_guard xR xR ?_ ?_ <;> intro _ <;> (try (exfalso; first | contradiction | omega))) | (refine JL_guardb xR xR ?_ ?_ <;> (intro hgb; subst hgb)) | (refine JL_guardb xR xR ?_ ?_ <;> (intro hgb; fail_if_success (have : type_of% hgb := rfl))) | fail)) | fail)) | ((with_reducible apply gD); (first | (refine JD_nil ?_; try simp only [List.cons_append, List.nil_append]) | (refine JD_bar ?_; try simp only [List.cons_append, List.nil_append]) | refine yD ?_ | ((with_reducible apply gD_go); (first | (refine JD_goq (visnil_s) (hφ := xF) (h := ?_); rintro _ _ ⟨rfl, rfl⟩; try simp only [List.cons_append, List.nil_append]) | fail)) | (refine yE ?_; intro _) | fail)) | refine yJ ?_ | ((with_reducible apply gJ_if); (first | (refine J_if xR ?_ ?_ <;> intro _ <;> (try (exfalso; first | contradiction | omega))) | (refine J_ifb xR ?_ ?_ <;> (intro hgb; subst hgb)) | (refine J_ifb xR ?_ ?_ <;> intro _) | fail)) | refine J_draw (id := 4) [0, 1, 2, 3, 4, 5, 6, 7, 8, 9, 10] [11] mixed xC xD xD ?_ | fail))
  exact J_ret0 rfl fun w H => ⟨[Y []], .inl ⟨[], rfl, rfl⟩, H.sel xZ⟩
theorem those1_void (vb g h : Nat) : Iter Try.prog 35 (fun l => [yldV l, .pointer (some ⟨g, 0, none⟩), .pointer (some ⟨h, 0, none⟩)]) (fun w => w.cell? ⟨g, 0, none⟩ = some (.pointer (some ⟨vb, 0, none⟩)) ∧ w.cell? ⟨vb, 0 + 1, none⟩ = some (.pointer none)) enc2 0 (fun xs => xs = []) (fun _ => False) := by
  refine iter Try.func35 rfl Try.ntmps35 (fun _ => rfl) ?_
  intro K0 l Y Yx hY W K hK hφ
  have h1 : Kn K (fun w => w.cell? ⟨g, 0, none⟩ = some (.pointer (some ⟨vb, 0, none⟩))) := hφ.left
  (repeat' (first | ((with_reducible apply gL); (first | refine yL0 ?_ | refine yL ?_ | ((with_reducible apply gL_go); (first | (refine JL_goq (visvoid_k vb) (hφ := (by (try simp only [List.cons_append, List.nil_append]); exact fun w hr => (hφ w hr.1).2)) (h := ?_); rintro _ _ ⟨rfl, rfl⟩; try simp only [List.cons_append, List.nil_append]) | fail)) | (refine yM ?_; intro _) | ((with_reducible apply gL_gd); (first | (refine JL_guard xR xR ?_ ?_ <;> intro _ <;> (try (exfalso; first | contradiction | omega))) | (refine JL_guardb xR xR ?_ ?_ <;> (intro hgb; subst hgb)) | (refine JL_guardb xR xR ?_ ?_ <;> (intro hgb; fail_if_success (have : type_of% hgb := rfl))) | fail)) | fail)) | ((with_reducible apply gD); (first | (refine JD_nil ?_; try simp only [List.cons_append, List.nil_append]) | (refine JD_bar ?_; try simp only [List.cons_append, List.nil_append]) | refine yD ?_ | ((with_reducible apply gD_go); (first | (refine JD_goq (visvoid_k vb) (hφ := (by (try simp only [List.cons_append, List.nil_append]); exact fun w hr => (hφ w hr.1).2)) (h := ?_); rintro _ _ ⟨rfl, rfl⟩; try simp only [List.cons_append, List.nil_append]) | fail)) | (refine yE ?_; intro _) | fail)) | refine yJ ?_ | ((with_reducible apply gJ_if); (first | (refine J_if xR ?_ ?_ <;> intro _ <;> (try (exfalso; first | contradiction | omega))) | (refine J_ifb xR ?_ ?_ <;> (intro hgb; subst hgb)) | (refine J_ifb xR ?_ ?_ <;> intro _) | fail)) | refine J_draw (id := 4) [0, 1, 2, 3, 4, 5, 6, 7, 8, 9, 10] [11] mixed xC xD xD ?_ | fail))
  exact J_ret0 rfl fun w H => ⟨[Y []], .inl ⟨[], rfl, rfl⟩, H.sel xZ⟩
theorem vagain_nil : Pact Try.prog 5 #[.pointer none] (fun _ => True) [] (fun _ L' => L' = []) := by
  refine pact Try.func5 rfl Try.ntmps5 rfl ?_
  intro W K _
  (repeat' (first | ((with_reducible apply gL); (first | refine yL0 ?_ | refine yL ?_ | ((with_reducible apply gL_go); (first | (refine JL_goq (those_s none 18) (hφ := xF) (h := ?_); rintro _ _ ⟨g, h, rfl, rfl⟩; try simp only [List.cons_append, List.nil_append]) | fail)) | (refine yM ?_; intro _) | fail)) | refine yJ ?_ | fail))
  refine J_range (first := []) (lb := [.pointer (some ⟨g, 0, none⟩), .pointer (some ⟨h, 0, none⟩)]) (those1_nil g h) rfl rfl rfl (by decide +kernel) rfl (fun _ => rfl) (fun _ => []) (fun _ _ => []) .nil (fun w hr => hr.cell xA rfl) (fun _ _ _ _ _ _ h => absurd h (Nat.not_lt_zero _)) ?_ (fun _ _ _ h => h.elim)
  intro D xs _
  simp only [List.cons_append, List.nil_append]
  (repeat' (first | ((with_reducible apply gL); (first | refine yL0 ?_ | refine yL ?_ | (refine yM ?_; intro _) | fail)) | refine yJ ?_ | fail))
  exact J_end0M (Ds := [D]) (dec_enc [D]) rfl fun w H => ⟨_, rfl, H.sel (M := dfr D :: []) xZ⟩
theorem vreset_nil : Pact Try.prog 6 #[.pointer none] (fun _ => True) [] (fun _ L' => L' = []) := by
  refine pact Try.func6 rfl Try.ntmps6 rfl ?_
  intro W K _
  (repeat' (first | ((with_reducible apply gL); (first | refine yL0 ?_ | refine yL ?_ | ((with_reducible apply gL_go); (first | (refine JL_goq (those_s none 20) (hφ := xF) (h := ?_); rintro _ _ ⟨g, h, rfl, rfl⟩; try simp only [List.cons_append, List.nil_append]) | fail)) | (refine yM ?_; intro _) | fail)) | refine yJ ?_ | fail))
  refine J_range (first := []) (lb := [.pointer (some ⟨g, 0, none⟩), .pointer (some ⟨h, 0, none⟩)]) (those1_nil g h) rfl rfl rfl (by decide +kernel) rfl (fun _ => rfl) (fun _ => []) (fun _ _ => []) .nil (fun w hr => hr.cell xA rfl) (fun _ _ _ _ _ _ h => absurd h (Nat.not_lt_zero _)) ?_ (fun _ _ _ h => h.elim)
  intro D xs _
  simp only [List.cons_append, List.nil_append]
  (repeat' (first | ((with_reducible apply gL); (first | refine yL0 ?_ | refine yL ?_ | (refine yM ?_; intro _) | fail)) | refine yJ ?_ | fail))
  exact J_end0M (Ds := [D]) (dec_enc [D]) rfl fun w H => ⟨_, rfl, H.sel (M := dfr D :: []) xZ⟩
theorem vall_nil : Pact Try.prog 13 #[.pointer none] (fun _ => True) [] (fun u L' => u = .slice none 0 0 ∧ L' = []) := by
  refine pact Try.func13 rfl Try.ntmps13 rfl ?_
  intro W K _
  (repeat' (first | ((with_reducible apply gL); (first | refine yL0 ?_ | refine yL ?_ | ((with_reducible apply gL_go); (first | (refine JL_goq (those_s none 18) (hφ := xF) (h := ?_); rintro _ _ ⟨g, h, rfl, rfl⟩; try simp only [List.cons_append, List.nil_append]) | fail)) | (refine yM ?_; intro _) | (refine yA ?_; intro _ _ _ _) | fail)) | refine yJ ?_ | fail))
  refine J_range (first := []) (lb := [.pointer (some ⟨g, 0, none⟩), .pointer (some ⟨h, 0, none⟩)]) (those1_nil g h) rfl rfl rfl (by decide +kernel) rfl (fun _ => rfl) (fun _ => []) (fun _ _ => []) .nil (fun w hr => hr.cell xA rfl) (fun _ _ _ _ _ _ h => absurd h (Nat.not_lt_zero _)) ?_ (fun _ _ _ h => h.elim)
  intro D xs _
  simp only [List.cons_append, List.nil_append]
  (repeat' (first | ((with_reducible apply gL); (first | refine yL0 ?_ | refine yL ?_ | (refine yM ?_; intro _) | (refine yA ?_; intro _ _ _ _) | fail)) | refine yJ ?_ | fail))
  exact J_ret1M (Ds := [D]) (dec_enc [D]) rfl (by rfl) fun w H => ⟨_, ⟨rfl, rfl⟩, H.sel (M := dfr D :: []) xZ⟩
theorem vtake_nil (n : Int) : Pact Try.prog 12 #[.pointer none, .int .i64 n] (fun _ => True) [] (fun u L' => u = .slice none 0 0 ∧ L' = []) := by
  refine pact Try.func12 rfl Try.ntmps12 rfl ?_
  intro W K _
  by_cases hn : n < 1
  · (repeat' (first | ((with_reducible apply gL); (first | refine yL0 ?_ | refine yL ?_ | (refine yM ?_; intro _) | (refine yA ?_; intro _ _ _ _) | fail)) | ((with_reducible apply gD); (first | (refine JD_nil ?_; try simp only [List.cons_append, List.nil_append]) | (refine JD_bar ?_; try simp only [List.cons_append, List.nil_append]) | refine yD ?_ | fail)) | refine yJ ?_ | ((with_reducible apply gJ_if); (first | (refine J_if xR ?_ ?_ <;> intro _ <;> (try (exfalso; first | contradiction | omega))) | (refine J_ifb xR ?_ ?_ <;> (intro hgb; subst hgb)) | (refine J_ifb xR ?_ ?_ <;> intro _) | fail)) | refine J_draw (id := 10) [0, 1, 2, 3, 4, 5, 6, 7, 8] [9] mixed xC xD xD ?_ | fail))
    exact J_ret1 rfl (by rfl) fun w H => ⟨_, ⟨rfl, rfl⟩, H.sel xZ⟩
  (repeat' (first | ((with_reducible apply gL); (first | refine yL0 ?_ | refine yL ?_ | ((with_reducible apply gL_go); (first | (refine JL_goq (those_s none 33) (hφ := xF) (h := ?_); rintro _ _ ⟨g, h, rfl, rfl⟩; try simp only [List.cons_append, List.nil_append]) | fail)) | (refine yM ?_; intro _) | (refine yA ?_; intro _ _ _ _) | fail)) | ((with_reducible apply gD); (first | (refine JD_nil ?_; try simp only [List.cons_append, List.nil_append]) | (refine JD_bar ?_; try simp only [List.cons_append, List.nil_append]) | refine yD ?_ | ((with_reducible apply gD_go); (first | (refine JD_goq (those_s none 33) (hφ := xF) (h := ?_); rintro _ _ ⟨g, h, rfl, rfl⟩; try simp only [List.cons_append, List.nil_append]) | fail)) | fail)) | refine yJ ?_ | ((with_reducible apply gJ_if); (first | (refine J_if xR ?_ ?_ <;> intro _ <;> (try (exfalso; first | contradiction | omega))) | (refine J_ifb xR ?_ ?_ <;> (intro hgb; subst hgb)) | (refine J_ifb xR ?_ ?_ <;> intro _) | fail)) | refine J_draw (id := 10) [0, 1, 2, 3, 4, 5, 6, 7, 8] [9] mixed xC xD xD ?_ | fail))
  refine J_range (first := []) (lb := [.pointer (some ⟨g, 0, none⟩), .pointer (some ⟨h, 0, none⟩)]) (those1_nil g h) rfl rfl rfl (by decide +kernel) rfl (fun _ => rfl) (fun _ => []) (fun _ _ => []) .nil (fun w hr => hr.cell xA rfl) (fun _ _ _ _ _ _ h => absurd h (Nat.not_lt_zero _)) ?_ (fun _ _ _ h => h.elim)
  intro D xs _
  simp only [List.cons_append, List.nil_append]
  (repeat' (first | ((with_reducible apply gL); (first | refine yL0 ?_ | refine yL ?_ | (refine yM ?_; intro _) | (refine yA ?_; intro _ _ _ _) | fail)) | ((with_reducible apply gD); (first | (refine JD_nil ?_; try simp only [List.cons_append, List.nil_append]) | (refine JD_bar ?_; try simp only [List.cons_append, List.nil_append]) | refine yD ?_ | fail)) | refine yJ ?_ | ((with_reducible apply gJ_if); (first | (refine J_if xR ?_ ?_ <;> intro _ <;> (try (exfalso; first | contradiction | omega))) | (refine J_ifb xR ?_ ?_ <;> (intro hgb; subst hgb)) | (refine J_ifb xR ?_ ?_ <;> intro _) | fail)) | refine J_draw (id := 10) [0, 1, 2, 3, 4, 5, 6, 7, 8] [9] mixed xC xD xD ?_ | fail))
  exact J_ret1M (Ds := [D]) (dec_enc [D]) rfl (by rfl) fun w H => ⟨_, ⟨rfl, rfl⟩, H.sel (M := dfr D :: []) xZ⟩
theorem vwanted_nil (p : T.Pf) : Pact Try.prog 7 #[.pointer none, .agg (T.pfC p).toArray] (fun _ => True) [] (fun u L' => u = .tuple #[.agg zC.toArray, .bool false] ∧ L' = []) := by
  refine pact Try.func7 rfl Try.ntmps7 rfl ?_
  intro W K _
  (repeat' (first | ((with_reducible apply gL); (first | refine yL0 ?_ | refine yL ?_ | ((with_reducible apply gL_go); (first | (refine JL_goq (visnil_s) (hφ := xF) (h := ?_); rintro _ _ ⟨rfl, rfl⟩; try simp only [List.cons_append, List.nil_append]) | fail)) | (refine yM ?_; intro _) | fail)) | ((with_reducible apply gD); (first | (refine JD_nil ?_; try simp only [List.cons_append, List.nil_append]) | (refine JD_bar ?_; try simp only [List.cons_append, List.nil_append]) | refine yD ?_ | ((with_reducible apply gD_go); (first | (refine JD_goq (visnil_s) (hφ := xF) (h := ?_); rintro _ _ ⟨rfl, rfl⟩; try simp only [List.cons_append, List.nil_append]) | fail)) | (refine yE ?_; intro _) | fail)) | refine yJ ?_ | ((with_reducible apply gJ_if); (first | (refine J_if xR ?_ ?_ <;> intro _ <;> (try (exfalso; first | contradiction | omega))) | (refine J_ifb xR ?_ ?_ <;> (intro hgb; subst hgb)) | (refine J_ifb xR ?_ ?_ <;> intro _) | fail)) | refine J_draw (id := 3) [0, 1, 2, 3, 4, 5, 6, 7, 8, 9, 10] [11] mixed xC xD xD ?_ | fail))
  exact J_retC1 (cs := zC) rfl (by rfl) (by rfl) xA (by rfl) fun w H => ⟨_, ⟨rfl, rfl⟩, H.sel xZ⟩
theorem vsaid_nil (p : T.Pf) : Pact Try.prog 8 #[.pointer none, .agg (T.pfC p).toArray] (fun _ => True) [] (fun u L' => u = .tuple #[.agg zC.toArray, .bool false] ∧ L' = []) := by
  refine pact Try.func8 rfl Try.ntmps8 rfl ?_
  intro W K _
  (repeat' (first | ((with_reducible apply gL); (first | refine yL0 ?_ | refine yL ?_ | ((with_reducible apply gL_go); (first | (refine JL_goq (visnil_s) (hφ := xF) (h := ?_); rintro _ _ ⟨rfl, rfl⟩; try simp only [List.cons_append, List.nil_append]) | fail)) | (refine yM ?_; intro _) | fail)) | ((with_reducible apply gD); (first | (refine JD_nil ?_; try simp only [List.cons_append, List.nil_append]) | (refine JD_bar ?_; try simp only [List.cons_append, List.nil_append]) | refine yD ?_ | ((with_reducible apply gD_go); (first | (refine JD_goq (visnil_s) (hφ := xF) (h := ?_); rintro _ _ ⟨rfl, rfl⟩; try simp only [List.cons_append, List.nil_append]) | fail)) | (refine yE ?_; intro _) | fail)) | refine yJ ?_ | ((with_reducible apply gJ_if); (first | (refine J_if xR ?_ ?_ <;> intro _ <;> (try (exfalso; first | contradiction | omega))) | (refine J_ifb xR ?_ ?_ <;> (intro hgb; subst hgb)) | (refine J_ifb xR ?_ ?_ <;> intro _) | fail)) | refine J_draw (id := 3) [0, 1, 2, 3, 4, 5, 6, 7, 8, 9, 10] [11] mixed xC xD xD ?_ | fail))
  exact J_retC1 (cs := zC) rfl (by rfl) (by rfl) xA (by rfl) fun w H => ⟨_, ⟨rfl, rfl⟩, H.sel xZ⟩
theorem vdue_nil : Pact Try.prog 11 #[.pointer none] (fun _ => True) [] (fun u L' => u = .int .i64 0 ∧ L' = []) := by
  refine pact Try.func11 rfl Try.ntmps11 rfl ?_
  intro W K _
  (repeat' (first | ((with_reducible apply gL); (first | refine yL0 ?_ | refine yL ?_ | ((with_reducible apply gL_go); (first | (refine JL_goq (visnil_s) (hφ := xF) (h := ?_); rintro _ _ ⟨rfl, rfl⟩; try simp only [List.cons_append, List.nil_append]) | fail)) | fail)) | refine yJ ?_ | ((with_reducible apply gJ_if); (first | (refine J_if xR ?_ ?_ <;> intro _ <;> (try (exfalso; first | contradiction | omega))) | (refine J_ifb xR ?_ ?_ <;> (intro hgb; subst hgb)) | (refine J_ifb xR ?_ ?_ <;> intro _) | fail)) | fail))
  exact J_ret1 rfl (by rfl) fun w H => ⟨_, ⟨rfl, rfl⟩, H.sel xZ⟩
theorem vlen_nil : Pact Try.prog 14 #[.pointer none] (fun _ => True) [] (fun u L' => u = .int .i64 0 ∧ L' = []) := by
  refine pact Try.func14 rfl Try.ntmps14 rfl ?_
  intro W K _
  (repeat' (first | ((with_reducible apply gL); (first | refine yL0 ?_ | refine yL ?_ | ((with_reducible apply gL_go); (first | (refine JL_goq (visnil_s) (hφ := xF) (h := ?_); rintro _ _ ⟨rfl, rfl⟩; try simp only [List.cons_append, List.nil_append]) | fail)) | fail)) | refine yJ ?_ | ((with_reducible apply gJ_if); (first | (refine J_if xR ?_ ?_ <;> intro _ <;> (try (exfalso; first | contradiction | omega))) | (refine J_ifb xR ?_ ?_ <;> (intro hgb; subst hgb)) | (refine J_ifb xR ?_ ?_ <;> intro _) | fail)) | fail))
  exact J_ret1 rfl (by rfl) fun w H => ⟨_, ⟨rfl, rfl⟩, H.sel xZ⟩
theorem vwant_nil (p : T.Pf) (d : At) (b : Bool) : Pact Try.prog 10 #[.pointer none, .agg (T.pfC p).toArray, .agg (atC d).toArray, .bool b] (fun _ => True) [] (fun u L' => u = .int .i64 1 ∧ L' = []) := by
  refine pact Try.func10 rfl Try.ntmps10 rfl ?_
  intro W K _
  (repeat' (first | ((with_reducible apply gL); (first | refine yL0 ?_ | refine yL ?_ | ((with_reducible apply gL_go); (first | (refine JL_goq (visnil_s) (hφ := xF) (h := ?_); rintro _ _ ⟨rfl, rfl⟩; try simp only [List.cons_append, List.nil_append]) | fail)) | (refine yM ?_; intro _) | ((with_reducible apply gL_gd); (first | (refine JL_guard xR xR ?_ ?_ <;> intro _ <;> (try (exfalso; first | contradiction | omega))) | (refine JL_guardb xR xR ?_ ?_ <;> (intro hgb; subst hgb)) | (refine JL_guardb xR xR ?_ ?_ <;> (intro hgb; fail_if_success (have : type_of% hgb := rfl))) | fail)) | fail)) | ((with_reducible apply gD); (first | (refine JD_nil ?_; try simp only [List.cons_append, List.nil_append]) | (refine JD_bar ?_; try simp only [List.cons_append, List.nil_append]) | refine yD ?_ | ((with_reducible apply gD_go); (first | (refine JD_goq (visnil_s) (hφ := xF) (h := ?_); rintro _ _ ⟨rfl, rfl⟩; try simp only [List.cons_append, List.nil_append]) | fail)) | (refine yE ?_; intro _) | fail)) | refine yJ ?_ | ((with_reducible apply gJ_if); (first | (refine J_if xR ?_ ?_ <;> intro _ <;> (try (exfalso; first | contradiction | omega))) | (refine J_ifb xR ?_ ?_ <;> (intro hgb; subst hgb)) | (refine J_ifb xR ?_ ?_ <;> intro _) | fail)) | refine J_draw (id := 3) [0, 1, 2, 3, 4, 5, 6, 7, 8, 9, 10] [11] mixed xC xD xD ?_ | refine J_draw (id := 13) [0, 1, 2, 3, 4, 5] [6, 7, 8, 9, 10, 11] mixed xC xD xD ?_ | fail))
  exact J_ret1 rfl (by rfl) fun w H => ⟨_, ⟨rfl, rfl⟩, H.sel xZ⟩
theorem vagain_void (vb : Nat) : Pact Try.prog 5 #[.pointer (some ⟨vb, 0, none⟩)] (fun _ => True) [pts vb vzC 36] (fun _ L' => L' = [pts vb vzC 36]) := by
  refine pact Try.func5 rfl Try.ntmps5 rfl ?_
  intro W K _
  (repeat' (first | ((with_reducible apply gL); (first | refine yL0 ?_ | refine yL ?_ | ((with_reducible apply gL_go); (first | (refine JL_goq (those_s (some ⟨vb, 0, none⟩) 18) (hφ := xF) (h := ?_); rintro _ _ ⟨g, h, rfl, rfl⟩; try simp only [List.cons_append, List.nil_append]) | fail)) | (refine yM ?_; intro _) | fail)) | refine yJ ?_ | fail))
  refine J_range (first := []) (lb := [.pointer (some ⟨g, 0, none⟩), .pointer (some ⟨h, 0, none⟩)]) (those1_void vb g h) rfl rfl rfl (by decide +kernel) rfl (fun _ => rfl) (fun _ => []) (fun _ _ => []) .nil (fun w hr => ⟨hr.cell xA rfl, hr.cell xA rfl⟩) (fun _ _ _ _ _ _ h => absurd h (Nat.not_lt_zero _)) ?_ (fun _ _ _ h => h.elim)
  intro D xs _
  simp only [List.cons_append, List.nil_append]
  (repeat' (first | ((with_reducible apply gL); (first | refine yL0 ?_ | refine yL ?_ | (refine yM ?_; intro _) | fail)) | refine yJ ?_ | fail))
  exact J_end0M (Ds := [D]) (dec_enc [D]) rfl fun w H => ⟨_, rfl, H.sel (M := dfr D :: [pts vb vzC 36]) xZ⟩
theorem vreset_void (vb : Nat) : Pact Try.prog 6 #[.pointer (some ⟨vb, 0, none⟩)] (fun _ => True) [pts vb vzC 36] (fun _ L' => L' = [pts vb vzC 36]) := by
  refine pact Try.func6 rfl Try.ntmps6 rfl ?_
  intro W K _
  (repeat' (first | ((with_reducible apply gL); (first | refine yL0 ?_ | refine yL ?_ | ((with_reducible apply gL_go); (first | (refine JL_goq (those_s (some ⟨vb, 0, none⟩) 20) (hφ := xF) (h := ?_); rintro _ _ ⟨g, h, rfl, rfl⟩; try simp only [List.cons_append, List.nil_append]) | fail)) | (refine yM ?_; intro _) | fail)) | refine yJ ?_ | fail))
  refine J_range (first := []) (lb := [.pointer (some ⟨g, 0, none⟩), .pointer (some ⟨h, 0, none⟩)]) (those1_void vb g h) rfl rfl rfl (by decide +kernel) rfl (fun _ => rfl) (fun _ => []) (fun _ _ => []) .nil (fun w hr => ⟨hr.cell xA rfl, hr.cell xA rfl⟩) (fun _ _ _ _ _ _ h => absurd h (Nat.not_lt_zero _)) ?_ (fun _ _ _ h => h.elim)
  intro D xs _
  simp only [List.cons_append, List.nil_append]
  (repeat' (first | ((with_reducible apply gL); (first | refine yL0 ?_ | refine yL ?_ | (refine yM ?_; intro _) | fail)) | refine yJ ?_ | fail))
  exact J_end0M (Ds := [D]) (dec_enc [D]) rfl fun w H => ⟨_, rfl, H.sel (M := dfr D :: [pts vb vzC 36]) xZ⟩
theorem vall_void (vb : Nat) : Pact Try.prog 13 #[.pointer (some ⟨vb, 0, none⟩)] (fun _ => True) [pts vb vzC 36] (fun u L' => u = .slice none 0 0 ∧ L' = [pts vb vzC 36]) := by
  refine pact Try.func13 rfl Try.ntmps13 rfl ?_
  intro W K _
  (repeat' (first | ((with_reducible apply gL); (first | refine yL0 ?_ | refine yL ?_ | ((with_reducible apply gL_go); (first | (refine JL_goq (those_s (some ⟨vb, 0, none⟩) 18) (hφ := xF) (h := ?_); rintro _ _ ⟨g, h, rfl, rfl⟩; try simp only [List.cons_append, List.nil_append]) | fail)) | (refine yM ?_; intro _) | (refine yA ?_; intro _ _ _ _) | fail)) | refine yJ ?_ | fail))
  refine J_range (first := []) (lb := [.pointer (some ⟨g, 0, none⟩), .pointer (some ⟨h, 0, none⟩)]) (those1_void vb g h) rfl rfl rfl (by decide +kernel) rfl (fun _ => rfl) (fun _ => []) (fun _ _ => []) .nil (fun w hr => ⟨hr.cell xA rfl, hr.cell xA rfl⟩) (fun _ _ _ _ _ _ h => absurd h (Nat.not_lt_zero _)) ?_ (fun _ _ _ h => h.elim)
  intro D xs _
  simp only [List.cons_append, List.nil_append]
  (repeat' (first | ((with_reducible apply gL); (first | refine yL0 ?_ | refine yL ?_ | (refine yM ?_; intro _) | (refine yA ?_; intro _ _ _ _) | fail)) | refine yJ ?_ | fail))
  exact J_ret1M (Ds := [D]) (dec_enc [D]) rfl (by rfl) fun w H => ⟨_, ⟨rfl, rfl⟩, H.sel (M := dfr D :: [pts vb vzC 36]) xZ⟩
theorem vtake_void (vb : Nat) (n : Int) : Pact Try.prog 12 #[.pointer (some ⟨vb, 0, none⟩), .int .i64 n] (fun _ => True) [pts vb vzC 36] (fun u L' => u = .slice none 0 0 ∧ L' = [pts vb vzC 36]) := by
  refine pact Try.func12 rfl Try.ntmps12 rfl ?_
  intro W K _
  by_cases hn : n < 1
  · (repeat' (first | ((with_reducible apply gL); (first | refine yL0 ?_ | refine yL ?_ | (refine yM ?_; intro _) | (refine yA ?_; intro _ _ _ _) | fail)) | ((with_reducible apply gD); (first | (refine JD_nil ?_; try simp only [List.cons_append, List.nil_append]) | (refine JD_bar ?_; try simp only [List.cons_append, List.nil_append]) | refine yD ?_ | fail)) | refine yJ ?_ | ((with_reducible apply gJ_if); (first | (refine J_if xR ?_ ?_ <;> intro _ <;> (try (exfalso; first | contradiction | omega))) | (refine J_ifb xR ?_ ?_ <;> (intro hgb; subst hgb)) | (refine J_ifb xR ?_ ?_ <;> intro _) | fail)) | refine J_draw (id := 10) [0, 1, 2, 3, 4, 5, 6, 7, 8] [9] mixed xC xD xD ?_ | fail))
    exact J_ret1 rfl (by rfl) fun w H => ⟨_, ⟨rfl, rfl⟩, H.sel xZ⟩
  (repeat' (first | ((with_reducible apply gL); (first | refine yL0 ?_ | refine yL ?_ | ((with_reducible apply gL_go); (first | (refine JL_goq (those_s (some ⟨vb, 0, none⟩) 33) (hφ := xF) (h := ?_); rintro _ _ ⟨g, h, rfl, rfl⟩; try simp only [List.cons_append, List.nil_append]) | fail)) | (refine yM ?_; intro _) | (refine yA ?_; intro _ _ _ _) | fail)) | ((with_reducible apply gD); (first | (refine JD_nil ?_; try simp only [List.cons_append, List.nil_append]) | (refine JD_bar ?_; try simp only [List.cons_append, List.nil_append]) | refine yD ?_ | ((with_reducible apply gD_go); (first | (refine JD_goq (those_s (some ⟨vb, 0, none⟩) 33) (hφ := xF) (h := ?_); rintro _ _ ⟨g, h, rfl, rfl⟩; try simp only [List.cons_append, List.nil_append]) | fail)) | fail)) | refine yJ ?_ | ((with_reducible apply gJ_if); (first | (refine J_if xR ?_ ?_ <;> intro _ <;> (try (exfalso; first | contradiction | omega))) | (refine J_ifb xR ?_ ?_ <;> (intro hgb; subst hgb)) | (refine J_ifb xR ?_ ?_ <;> intro _) | fail)) | refine J_draw (id := 10) [0, 1, 2, 3, 4, 5, 6, 7, 8] [9] mixed xC xD xD ?_ | fail))
  refine J_range (first := []) (lb := [.pointer (some ⟨g, 0, none⟩), .pointer (some ⟨h, 0, none⟩)]) (those1_void vb g h) rfl rfl rfl (by decide +kernel) rfl (fun _ => rfl) (fun _ => []) (fun _ _ => []) .nil (fun w hr => ⟨hr.cell xA rfl, hr.cell xA rfl⟩) (fun _ _ _ _ _ _ h => absurd h (Nat.not_lt_zero _)) ?_ (fun _ _ _ h => h.elim)
  intro D xs _
  simp only [List.cons_append, List.nil_append]
  (repeat' (first | ((with_reducible apply gL); (first | refine yL0 ?_ | refine yL ?_ | (refine yM ?_; intro _) | (refine yA ?_; intro _ _ _ _) | fail)) | ((with_reducible apply gD); (first | (refine JD_nil ?_; try simp only [List.cons_append, List.nil_append]) | (refine JD_bar ?_; try simp only [List.cons_append, List.nil_append]) | refine yD ?_ | fail)) | refine yJ ?_ | ((with_reducible apply gJ_if); (first | (refine J_if xR ?_ ?_ <;> intro _ <;> (try (exfalso; first | contradiction | omega))) | (refine J_ifb xR ?_ ?_ <;> (intro hgb; subst hgb)) | (refine J_ifb xR ?_ ?_ <;> intro _) | fail)) | refine J_draw (id := 10) [0, 1, 2, 3, 4, 5, 6, 7, 8] [9] mixed xC xD xD ?_ | fail))
  exact J_ret1M (Ds := [D]) (dec_enc [D]) rfl (by rfl) fun w H => ⟨_, ⟨rfl, rfl⟩, H.sel (M := dfr D :: [pts vb vzC 36]) xZ⟩
theorem vwanted_void (vb : Nat) (p : T.Pf) : Pact Try.prog 7 #[.pointer (some ⟨vb, 0, none⟩), .agg (T.pfC p).toArray] (fun _ => True) [pts vb vzC 36] (fun u L' => u = .tuple #[.agg zC.toArray, .bool false] ∧ L' = [pts vb vzC 36]) := by
  refine pact Try.func7 rfl Try.ntmps7 rfl ?_
  intro W K _
  (repeat' (first | ((with_reducible apply gL); (first | refine yL0 ?_ | refine yL ?_ | ((with_reducible apply gL_go); (first | (refine JL_goq (visvoid_s vb (.pointer none) 0 0) (hφ := xF) (h := ?_); rintro _ _ ⟨rfl, rfl⟩; try simp only [List.cons_append, List.nil_append]) | fail)) | (refine yM ?_; intro _) | fail)) | ((with_reducible apply gD); (first | (refine JD_nil ?_; try simp only [List.cons_append, List.nil_append]) | (refine JD_bar ?_; try simp only [List.cons_append, List.nil_append]) | refine yD ?_ | ((with_reducible apply gD_go); (first | (refine JD_goq (visvoid_s vb (.pointer none) 0 0) (hφ := xF) (h := ?_); rintro _ _ ⟨rfl, rfl⟩; try simp only [List.cons_append, List.nil_append]) | fail)) | (refine yE ?_; intro _) | fail)) | refine yJ ?_ | ((with_reducible apply gJ_if); (first | (refine J_if xR ?_ ?_ <;> intro _ <;> (try (exfalso; first | contradiction | omega))) | (refine J_ifb xR ?_ ?_ <;> (intro hgb; subst hgb)) | (refine J_ifb xR ?_ ?_ <;> intro _) | fail)) | refine J_draw (id := 3) [0, 1, 2, 3, 4, 5, 6, 7, 8, 9, 10] [11] mixed xC xD xD ?_ | fail))
  exact J_retC1 (cs := zC) rfl (by rfl) (by rfl) xA (by rfl) fun w H => ⟨_, ⟨rfl, rfl⟩, H.sel xZ⟩
theorem vsaid_void (vb : Nat) (p : T.Pf) : Pact Try.prog 8 #[.pointer (some ⟨vb, 0, none⟩), .agg (T.pfC p).toArray] (fun _ => True) [pts vb vzC 36] (fun u L' => u = .tuple #[.agg zC.toArray, .bool false] ∧ L' = [pts vb vzC 36]) := by
  refine pact Try.func8 rfl Try.ntmps8 rfl ?_
  intro W K _
  (repeat' (first | ((with_reducible apply gL); (first | refine yL0 ?_ | refine yL ?_ | ((with_reducible apply gL_go); (first | (refine JL_goq (visvoid_s vb (.pointer none) 0 0) (hφ := xF) (h := ?_); rintro _ _ ⟨rfl, rfl⟩; try simp only [List.cons_append, List.nil_append]) | fail)) | (refine yM ?_; intro _) | fail)) | ((with_reducible apply gD); (first | (refine JD_nil ?_; try simp only [List.cons_append, List.nil_append]) | (refine JD_bar ?_; try simp only [List.cons_append, List.nil_append]) | refine yD ?_ | ((with_reducible apply gD_go); (first | (refine JD_goq (visvoid_s vb (.pointer none) 0 0) (hφ := xF) (h := ?_); rintro _ _ ⟨rfl, rfl⟩; try simp only [List.cons_append, List.nil_append]) | fail)) | (refine yE ?_; intro _) | fail)) | refine yJ ?_ | ((with_reducible apply gJ_if); (first | (refine J_if xR ?_ ?_ <;> intro _ <;> (try (exfalso; first | contradiction | omega))) | (refine J_ifb xR ?_ ?_ <;> (intro hgb; subst hgb)) | (refine J_ifb xR ?_ ?_ <;> intro _) | fail)) | refine J_draw (id := 3) [0, 1, 2, 3, 4, 5, 6, 7, 8, 9, 10] [11] mixed xC xD xD ?_ | fail))
  exact J_retC1 (cs := zC) rfl (by rfl) (by rfl) xA (by rfl) fun w H => ⟨_, ⟨rfl, rfl⟩, H.sel xZ⟩
theorem vdue_void (vb : Nat) : Pact Try.prog 11 #[.pointer (some ⟨vb, 0, none⟩)] (fun _ => True) [pts vb vzC 36] (fun u L' => u = .int .i64 0 ∧ L' = [pts vb vzC 36]) := by
  refine pact Try.func11 rfl Try.ntmps11 rfl ?_
  intro W K _
  (repeat' (first | ((with_reducible apply gL); (first | refine yL0 ?_ | refine yL ?_ | ((with_reducible apply gL_go); (first | (refine JL_goq (visvoid_s vb (.pointer none) 0 0) (hφ := xF) (h := ?_); rintro _ _ ⟨rfl, rfl⟩; try simp only [List.cons_append, List.nil_append]) | fail)) | fail)) | refine yJ ?_ | ((with_reducible apply gJ_if); (first | (refine J_if xR ?_ ?_ <;> intro _ <;> (try (exfalso; first | contradiction | omega))) | (refine J_ifb xR ?_ ?_ <;> (intro hgb; subst hgb)) | (refine J_ifb xR ?_ ?_ <;> intro _) | fail)) | fail))
  exact J_ret1 rfl (by rfl) fun w H => ⟨_, ⟨rfl, rfl⟩, H.sel xZ⟩
theorem vlen_void (vb : Nat) : Pact Try.prog 14 #[.pointer (some ⟨vb, 0, none⟩)] (fun _ => True) [pts vb vzC 36] (fun u L' => u = .int .i64 0 ∧ L' = [pts vb vzC 36]) := by
  refine pact Try.func14 rfl Try.ntmps14 rfl ?_
  intro W K _
  (repeat' (first | ((with_reducible apply gL); (first | refine yL0 ?_ | refine yL ?_ | ((with_reducible apply gL_go); (first | (refine JL_goq (visvoid_s vb (.pointer none) 0 0) (hφ := xF) (h := ?_); rintro _ _ ⟨rfl, rfl⟩; try simp only [List.cons_append, List.nil_append]) | fail)) | fail)) | refine yJ ?_ | ((with_reducible apply gJ_if); (first | (refine J_if xR ?_ ?_ <;> intro _ <;> (try (exfalso; first | contradiction | omega))) | (refine J_ifb xR ?_ ?_ <;> (intro hgb; subst hgb)) | (refine J_ifb xR ?_ ?_ <;> intro _) | fail)) | fail))
  exact J_ret1 rfl (by rfl) fun w H => ⟨_, ⟨rfl, rfl⟩, H.sel xZ⟩
theorem vwant_void (vb : Nat) (p : T.Pf) (d : At) (b : Bool) : Pact Try.prog 10 #[.pointer (some ⟨vb, 0, none⟩), .agg (T.pfC p).toArray, .agg (atC d).toArray, .bool b] (fun _ => True) [pts vb vzC 36] (fun u L' => u = .int .i64 1 ∧ L' = [pts vb vzC 36]) := by
  refine pact Try.func10 rfl Try.ntmps10 rfl ?_
  intro W K _
  (repeat' (first | ((with_reducible apply gL); (first | refine yL0 ?_ | refine yL ?_ | ((with_reducible apply gL_go); (first | (refine JL_goq (visvoid_s vb (.pointer none) 0 0) (hφ := xF) (h := ?_); rintro _ _ ⟨rfl, rfl⟩; try simp only [List.cons_append, List.nil_append]) | fail)) | (refine yM ?_; intro _) | ((with_reducible apply gL_gd); (first | (refine JL_guard xR xR ?_ ?_ <;> intro _ <;> (try (exfalso; first | contradiction | omega))) | (refine JL_guardb xR xR ?_ ?_ <;> (intro hgb; subst hgb)) | (refine JL_guardb xR xR ?_ ?_ <;> (intro hgb; fail_if_success (have : type_of% hgb := rfl))) | fail)) | fail)) | ((with_reducible apply gD); (first | (refine JD_nil ?_; try simp only [List.cons_append, List.nil_append]) | (refine JD_bar ?_; try simp only [List.cons_append, List.nil_append]) | refine yD ?_ | ((with_reducible apply gD_go); (first | (refine JD_goq (visvoid_s vb (.pointer none) 0 0) (hφ := xF) (h := ?_); rintro _ _ ⟨rfl, rfl⟩; try simp only [List.cons_append, List.nil_append]) | fail)) | (refine yE ?_; intro _) | fail)) | refine yJ ?_ | ((with_reducible apply gJ_if); (first | (refine J_if xR ?_ ?_ <;> intro _ <;> (try (exfalso; first | contradiction | omega))) | (refine J_ifb xR ?_ ?_ <;> (intro hgb; subst hgb)) | (refine J_ifb xR ?_ ?_ <;> intro _) | fail)) | refine J_draw (id := 3) [0, 1, 2, 3, 4, 5, 6, 7, 8, 9, 10] [11] mixed xC xD xD ?_ | refine J_draw (id := 13) [0, 1, 2, 3, 4, 5] [6, 7, 8, 9, 10, 11] mixed xC xD xD ?_ | fail))
  exact J_ret1 rfl (by rfl) fun w H => ⟨_, ⟨rfl, rfl⟩, H.sel xZ⟩
theorem vnew_nil : Pact Try.prog 9 #[.pointer none] (fun _ => True) [] (ret0 (.tuple #[.pointer none, .int .i64 2])) := by
  refine pact Try.func9 rfl Try.ntmps9 rfl ?_
  intro W K _
  (repeat' (first | ((with_reducible apply gL); (first | refine yL0 ?_ | refine yL ?_ | ((with_reducible apply gL_go); (first | (refine JL_goq (free_nil 0) (hφ := xF) (h := ?_); rintro _ _ ⟨rfl, rfl⟩; try simp only [List.cons_append, List.nil_append]) | fail)) | (refine yM ?_; intro _) | fail)) | refine yJ ?_ | ((with_reducible apply gJ_if); (first | (refine J_if xR ?_ ?_ <;> intro _ <;> (try (exfalso; first | contradiction | omega))) | (refine J_ifb xR ?_ ?_ <;> (intro hgb; subst hgb)) | (refine J_ifb xR ?_ ?_ <;> intro _) | fail)) | fail))
  exact J_ret2 rfl (by rfl) (by rfl) fun w H => ⟨_, ⟨rfl, rfl⟩, H.sel .nil⟩
end Go.Proofs.Ytdnokmpnemaoaaa
namespace Go.Proofs.Ytdnokmpnemaoaaa
set_option linter.unusedSimpArgs false
set_option linter.unusedVariables false
set_option maxRecDepth 20000
set_option maxHeartbeats 4000000
open Go.RowKit Go.Pm

def oneAt (n : Int) : At := ⟨0, none, 0, [], 1, true, n, false, 0, false, false, 0, 0, none, 0, [], none, 0, []⟩
theorem oneAt_f (n : Int) (hn : U32 n) : AtF (oneAt n) := by
  have z : U32 0 := ⟨by omega, by omega⟩
  refine ⟨⟨⟨by simp [oneAt], by simp [oneAt]⟩, ⟨by simp [oneAt], by simp [oneAt]⟩, hn, z, z, z, ?_, ?_, ?_⟩, by simp [oneAt], by simp [oneAt], by simp [oneAt]⟩
  all_goals (intro s hs; exact absurd hs List.not_mem_nil)
theorem oneAt_v (n : Int) (w : World) : AtV w (oneAt n) := ⟨⟨Vw.nil w 2, fun _ h => absurd h List.not_mem_nil⟩, Vw.nil w 1, Vw.nil w 2, fun _ h => absurd h List.not_mem_nil⟩
theorem oneAt_ok (n : Int) : okN (oneAt n).nf = true := okN_t (by simp [oneAt]) rfl (by simp [oneAt]) (by simp [oneAt]) (by simp [oneAt]) (by simp [oneAt]) rfl
abbrev oneC (n : Int) : List Value := [.int .i64 0, .slice none 0 0, .int .u32 1, .bool true, .int .u32 n, .bool false, .int .u32 0, .bool false, .bool false, .int .u32 0, .int .u32 0, .slice none 0 0, .slice none 0 0]
theorem one_s (n : Int) (hn : U32 n) : Pact Try.prog 16 #[.int .i64 n] (fun _ => True) [] (ret0 (.agg (atC (oneAt n)).toArray)) := by
  refine pact Try.func16 rfl Try.ntmps16 rfl ?_
  intro W K _
  obtain ⟨h0, h1⟩ := hn
  (repeat' (first | ((with_reducible apply gL); (first | refine yL0 ?_ | refine yL ?_ | (refine yM ?_; intro _) | fail)) | refine yJ ?_ | fail))
  exact J_retC (cs := oneC n) rfl (by rfl) xA (by rfl) fun w H => ⟨_, ⟨rfl, rfl⟩, H.sel .nil⟩
theorem k1 : keepF [] 0 (oneAt 1).nf = (([⟨1, 1, (oneAt 1).nf⟩], 1), 1, 0) := by
  unfold keepF fndX; rw [oneAt_ok]; rfl
theorem k2 : keepF [⟨1, 1, (oneAt 1).nf⟩] 1 (oneAt 1).nf = (([⟨1, 2, (oneAt 1).nf⟩], 1), 1, 0) := by
  unfold keepF fndX; rw [oneAt_ok]; simp
theorem st1 : StOk 1 [⟨1, 1, (oneAt 1).nf⟩] 1 := by
  have := keepF_ok stok_nil (by omega) (At.nfN (oneAt_f 1 ⟨by omega, by omega⟩).num)
  rw [k1] at this
  exact this
theorem st2 : StOk 2 [⟨1, 2, (oneAt 1).nf⟩] 1 := by
  have := keepF_ok st1 (by omega) (At.nfN (oneAt_f 1 ⟨by omega, by omega⟩).num)
  rw [k2] at this
  exact this
abbrev pX : T.Pf := (167772160, 8)
theorem pX_n : T.PfN pX := by unfold T.PfN T.U32 T.I64; decide
theorem pX_r : T.Rt pX := by decide +kernel
/-- The one that is there is taken. -/
theorem take_one {σ : Vs} {p : T.Pf} {o : T.Vt} (hE : σ.E = [(p, o)]) (hl : lateE o = true) {pre : List T.Ent} (h : TakeOk σ 9 pre) : pre = [(p, o)] := by
  have hk : T.keysE σ.E = [p] := by rw [hE]; rfl
  rcases h with ⟨h, _⟩ | ⟨⟨k, h⟩, h9⟩
  · rw [h, hk]
    have e : T.oldV (tkE σ []) p = o := by
      show T.oldV σ.E p = o
      rw [hE]
      unfold T.oldV
      rw [T.getL_cons_eq rfl]
      rfl
    simp only [thoseL, e, hl, if_true, List.nil_append]
  · exfalso
    have h1 := thoseL_len (tkE σ) lateE ((T.keysE σ.E).take k) []
    rw [← h] at h1
    rw [hk, List.length_take] at h1
    simp only [List.length_cons, List.length_nil] at h1
    omega
theorem take_e (B : Int) (hB0 : 0 ≤ B) (hB : B ≤ 1000000) (vb sp tb : Nat) (E E' : List T.Ent) (S S' : List En) (c c' : Int) (p : T.Pf) (o : T.Vt) (hE : E = [(p, o)]) (hl : lateE o = true) (hs : StOk B S c) (x : Nf) (b : Bool) (hx : whatX S o.1 = x) (hb : whatB S o.1 = b) (ht : tkStep ⟨E, S, c⟩ (p, o) = ⟨E', S', c'⟩) : Pact Try.prog 12 #[.pointer (some ⟨vb, 0, none⟩), .int .i64 9] (fun _ => True) (vsL vb sp tb E S c)
    (fun u L' => ∃ (a : Option Addr) (cc : Nat) (d : At), (AtF d ∧ d.nf = x) ∧ u = .slice a 1 cc ∧ L' = [pts vb (vwC (sA sp) tb (dueI E') (wntI E')) 36, T.trA tb E', stoA sp S' c', Ar 52 16 chC (.slice a 1 cc) [⟨p, d, b⟩], has (fun w => AtV w d)]) := by
  have k := vtake_s B hB0 hB vb sp tb ⟨E, S, c⟩ 9 (by omega) hs (by show E.length ≤ 1000; rw [hE]; simp)
  intro W K w hK H
  refine (k W K w hK H).mono fun e w' h => ?_
  obtain ⟨u, L', ⟨pre, hpre, a, cc, l, ⟨h1, h2⟩, rfl, rfl⟩, h5, h6⟩ := h
  obtain rfl := take_one hE hl hpre
  have e1 : tkF ⟨E, S, c⟩ [(p, o)] = ⟨E', S', c'⟩ := ht
  rw [e1] at h6
  have e2 : chL ⟨E, S, c⟩ [(p, o)] = [(p, x, b)] := by
    show [(p, whatX S o.1, whatB S o.1)] = _
    rw [hx, hb]
  rw [e2] at h1
  cases l with
  | nil => cases h1
  | cons y l =>
    cases l with
    | cons _ _ => cases h1
    | nil =>
      obtain ⟨p', d, b'⟩ := y
      simp only [List.map_cons, List.map_nil, chN, List.cons.injEq, Prod.mk.injEq, and_true] at h1
      obtain ⟨rfl, h3, rfl⟩ := h1
      refine ⟨_, _, ⟨a, cc, d, ⟨h2 (Ch.mk p' d b') (List.mem_singleton.2 rfl), h3⟩, rfl, rfl⟩, h5, ?_⟩
      exact (Ow.has (M := [has (fun w => ∀ x ∈ [Ch.mk p' d b'], AtV w x.d)]) (φ := fun w => AtV w d) h6 xZ (fun w hr => hr.has .here (Ch.mk p' d b') (List.mem_singleton.2 rfl))).sel xZ
theorem ts1 : tkStep ⟨[(pX, (1, 0, false))], [⟨1, 1, (oneAt 1).nf⟩], 1⟩ (pX, (1, 0, false)) = ⟨[(pX, (1, 1, false))], [⟨1, 2, (oneAt 1).nf⟩], 1⟩ := by
  have e : agF [⟨1, 1, (oneAt 1).nf⟩] 1 1 = (([⟨1, 2, (oneAt 1).nf⟩], 1), 1) := by
    unfold agF
    rw [if_neg (by decide)]
    have : getX [⟨1, 1, (oneAt 1).nf⟩] 1 = (oneAt 1).nf := rfl
    rw [this, k2]
  unfold tkStep
  have e0 : frF [⟨1, 1, (oneAt 1).nf⟩] (pX, ((1 : Int), (0 : Int), false)).2.2.1 = [⟨1, 1, (oneAt 1).nf⟩] := rfl
  rw [e0, e]
  rfl
theorem ts2 : tkStep ⟨[(pX, (0, 1, false))], [⟨1, 1, (oneAt 1).nf⟩], 1⟩ (pX, (0, 1, false)) = ⟨[], [], 1⟩ := by
  unfold tkStep
  have e0 : frF [⟨1, 1, (oneAt 1).nf⟩] (pX, ((0 : Int), (1 : Int), false)).2.2.1 = [] := rfl
  rw [e0]
  rfl
theorem works_s : Pact Try.prog 4 #[] (fun _ => True) [] (ret0 (.bool true)) := by
  refine pact (args := []) Try.func4 rfl Try.ntmps4 rfl ?_
  intro W K _
  have u1 : U32 1 := ⟨by omega, by omega⟩
  (repeat' (first | ((with_reducible apply gL); (first | (with_reducible apply gL_app) | (with_reducible apply gL_app0) | refine yL0 ?_ | refine yL ?_ | ((with_reducible apply gL_go); (first | (refine JL_goq (new_s) (hφ := xF) (h := ?_); rintro _ _ ⟨sp, rfl, rfl⟩; try simp only [List.cons_append, List.nil_append]) | (refine JL_goq (vnew_s sp) (hφ := xF) (h := ?_); rintro _ _ ⟨vb, tb, rfl, rfl⟩; try simp only [List.cons_append, List.nil_append]) | fail)) | (refine yM ?_; intro _) | fail)) | ((with_reducible apply gD); (first | (refine JD_nil ?_; try simp only [List.cons_append, List.nil_append]) | (refine JD_bar ?_; try simp only [List.cons_append, List.nil_append]) | (with_reducible apply gD_app) | (with_reducible apply gD_app0) | refine yD0 ?_ | refine yD ?_ | ((with_reducible apply gD_go); (first | (refine JD_goq (new_s) (hφ := xF) (h := ?_); rintro _ _ ⟨sp, rfl, rfl⟩; try simp only [List.cons_append, List.nil_append]) | (refine JD_goq (vnew_s sp) (hφ := xF) (h := ?_); rintro _ _ ⟨vb, tb, rfl, rfl⟩; try simp only [List.cons_append, List.nil_append]) | fail)) | ((with_reducible apply gD_gd); (first | (refine JD_guard xR xR ?_ ?_ <;> intro _ <;> (try (exfalso; first | contradiction | omega))) | (refine JD_guardb xR xR ?_ ?_ <;> (intro hgb; subst hgb)) | (refine JD_guardb xR xR ?_ ?_ <;> (intro hgb; fail_if_success (have : type_of% hgb := rfl))) | fail)) | fail)) | refine yJ ?_ | ((with_reducible apply gJ_if); (first | (refine J_if xR ?_ ?_ <;> intro _ <;> (try (exfalso; first | contradiction | omega))) | (refine J_ifb xR ?_ ?_ <;> (intro hgb; subst hgb)) | (refine J_ifb xR ?_ ?_ <;> intro _) | fail)) | refine J_draw (id := 5) [0, 1, 2] [3, 4] mixed xC xD xD ?_ | refine J_draw (id := 9) [0, 1, 2, 3, 4, 5, 6, 7, 8, 9, 10, 11, 12, 13, 14, 15, 16, 17, 18, 19, 20, 21, 22, 23, 24, 25, 26] [27, 28, 29, 30, 31, 32, 33, 34, 35, 36, 37, 38, 39, 40, 41, 42, 43, 44, 45, 46, 47, 48, 49, 50] mixed xC xD xD ?_ | fail))
  have kw := want_s 0 (by omega) (by omega) vb sp tb [] [] [⟨1, 1, (oneAt 1).nf⟩] [⟨1, 1, (oneAt 1).nf⟩] 0 1 1 pX T.zV (oneAt 1) (oneAt_f 1 u1) pX_n pX_r (oneAt_ok 1) rfl ⟨.nil, fun _ h => absurd h List.not_mem_nil⟩ (by decide) stok_nil k1 st1 ⟨by omega, by omega⟩ zV_n rfl
  have e1 : T.setE [] pX (1, T.zV.2.1, T.zV.2.2) = [(pX, (1, 0, false))] := rfl
  rw [e1] at kw
  have kt := take_e 1 (by omega) (by omega) vb sp tb _ _ _ _ _ _ pX (1, 0, false) rfl rfl st1 _ true rfl rfl ts1
  have e2 : T.EOk [(pX, ((1 : Int), (1 : Int), false))] := ⟨List.pairwise_singleton _ _, fun x hx => by
    obtain rfl := List.mem_singleton.1 hx
    exact ⟨pX_r, pX_n, by unfold T.VN T.I64; decide⟩⟩
  have kx := wantoff_s 2 (by omega) vb sp tb [(pX, (1, 1, false))] [⟨1, 2, (oneAt 1).nf⟩] [⟨1, 1, (oneAt 1).nf⟩] 1 pX (1, 1, false) zAt pX_n pX_r rfl e2 (by decide) st2 rfl
  have e3 : T.setE [(pX, ((1 : Int), (1 : Int), false))] pX (0, ((1 : Int), (1 : Int), false).2.1, false) = [(pX, (0, 1, false))] := rfl
  rw [e3] at kx
  have kt2 := take_e 1 (by omega) (by omega) vb sp tb _ _ _ _ _ _ pX (0, 1, false) rfl rfl st1 _ false rfl rfl ts2
  (repeat' (first | ((with_reducible apply gL); (first | (with_reducible apply gL_app) | (with_reducible apply gL_app0) | refine yL0 ?_ | refine yL ?_ | ((with_reducible apply gL_go); (first | (refine JL_goq (one_s 1 u1) (hφ := xF) (h := ?_); rintro _ _ ⟨rfl, rfl⟩; try simp only [List.cons_append, List.nil_append]) | (refine JL_goq (kw) (hφ := (by (try simp only [List.cons_append, List.nil_append]); exact fun w _ => oneAt_v 1 w)) (h := ?_); rintro _ _ ⟨rfl, rfl⟩; try simp only [List.cons_append, List.nil_append]) | (refine JL_goq (due_s vb (sA sp) tb [(pX, (1, 0, false))]) (hφ := xF) (h := ?_); rintro _ _ ⟨rfl, rfl⟩; try simp only [List.cons_append, List.nil_append]) | (refine JL_goq (kt) (hφ := xF) (h := ?_); rintro _ _ ⟨a, cc, d, hd, rfl, rfl⟩; try simp only [List.cons_append, List.nil_append]) | (refine JL_goq (kx) (hφ := xF) (h := ?_); rintro _ _ ⟨rfl, rfl⟩; try simp only [List.cons_append, List.nil_append]) | (refine JL_goq (due_s vb (sA sp) tb [(pX, (0, 1, false))]) (hφ := xF) (h := ?_); rintro _ _ ⟨rfl, rfl⟩; try simp only [List.cons_append, List.nil_append]) | (refine JL_goq (kt2) (hφ := xF) (h := ?_); rintro _ _ ⟨a2, cc2, d2, hd2, rfl, rfl⟩; try simp only [List.cons_append, List.nil_append]) | fail)) | (refine yM ?_; intro _) | fail)) | ((with_reducible apply gD); (first | (refine JD_nil ?_; try simp only [List.cons_append, List.nil_append]) | (refine JD_bar ?_; try simp only [List.cons_append, List.nil_append]) | (with_reducible apply gD_app) | (with_reducible apply gD_app0) | refine yD0 ?_ | refine yD ?_ | ((with_reducible apply gD_go); (first | (refine JD_goq (one_s 1 u1) (hφ := xF) (h := ?_); rintro _ _ ⟨rfl, rfl⟩; try simp only [List.cons_append, List.nil_append]) | (refine JD_goq (kw) (hφ := (by (try simp only [List.cons_append, List.nil_append]); exact fun w _ => oneAt_v 1 w)) (h := ?_); rintro _ _ ⟨rfl, rfl⟩; try simp only [List.cons_append, List.nil_append]) | (refine JD_goq (due_s vb (sA sp) tb [(pX, (1, 0, false))]) (hφ := xF) (h := ?_); rintro _ _ ⟨rfl, rfl⟩; try simp only [List.cons_append, List.nil_append]) | (refine JD_goq (kt) (hφ := xF) (h := ?_); rintro _ _ ⟨a, cc, d, hd, rfl, rfl⟩; try simp only [List.cons_append, List.nil_append]) | (refine JD_goq (kx) (hφ := xF) (h := ?_); rintro _ _ ⟨rfl, rfl⟩; try simp only [List.cons_append, List.nil_append]) | (refine JD_goq (due_s vb (sA sp) tb [(pX, (0, 1, false))]) (hφ := xF) (h := ?_); rintro _ _ ⟨rfl, rfl⟩; try simp only [List.cons_append, List.nil_append]) | (refine JD_goq (kt2) (hφ := xF) (h := ?_); rintro _ _ ⟨a2, cc2, d2, hd2, rfl, rfl⟩; try simp only [List.cons_append, List.nil_append]) | fail)) | ((with_reducible apply gD_gd); (first | (refine JD_guard xR xR ?_ ?_ <;> intro _ <;> (try (exfalso; first | contradiction | omega))) | (refine JD_guardb xR xR ?_ ?_ <;> (intro hgb; subst hgb)) | (refine JD_guardb xR xR ?_ ?_ <;> (intro hgb; fail_if_success (have : type_of% hgb := rfl))) | fail)) | fail)) | refine yJ ?_ | ((with_reducible apply gJ_if); (first | (refine J_if xR ?_ ?_ <;> intro _ <;> (try (exfalso; first | contradiction | omega))) | (refine J_ifb xR ?_ ?_ <;> (intro hgb; subst hgb)) | (refine J_ifb xR ?_ ?_ <;> intro _) | fail)) | refine J_draw (id := 5) [0, 1, 2] [3, 4] mixed xC xD xD ?_ | refine J_draw (id := 9) [0, 1, 2, 3, 4, 5, 6, 7, 8, 9, 10, 11, 12, 13, 14, 15, 16, 17, 18, 19, 20, 21, 22, 23, 24, 25, 26] [27, 28, 29, 30, 31, 32, 33, 34, 35, 36, 37, 38, 39, 40, 41, 42, 43, 44, 45, 46, 47, 48, 49, 50] mixed xC xD xD ?_ | fail))
  have f0 : [Ch.mk pX d true][0]? = some (Ch.mk pX d true) := rfl
  have f1 : [Ch.mk pX d2 false][0]? = some (Ch.mk pX d2 false) := rfl
  (repeat' (first | ((with_reducible apply gL); (first | (with_reducible apply gL_app) | (with_reducible apply gL_app0) | refine yL0 ?_ | refine yL ?_ | ((with_reducible apply gL_go); (first | (refine JL_goq (due_s vb (sA sp) tb []) (hφ := xF) (h := ?_); rintro _ _ ⟨rfl, rfl⟩; try simp only [List.cons_append, List.nil_append]) | fail)) | (refine yM ?_; intro _) | fail)) | ((with_reducible apply gD); (first | (refine JD_nil ?_; try simp only [List.cons_append, List.nil_append]) | (refine JD_bar ?_; try simp only [List.cons_append, List.nil_append]) | (with_reducible apply gD_app) | (with_reducible apply gD_app0) | refine yD0 ?_ | refine yD ?_ | ((with_reducible apply gD_go); (first | (refine JD_goq (due_s vb (sA sp) tb []) (hφ := xF) (h := ?_); rintro _ _ ⟨rfl, rfl⟩; try simp only [List.cons_append, List.nil_append]) | fail)) | ((with_reducible apply gD_gd); (first | (refine JD_guard xR xR ?_ ?_ <;> intro _ <;> (try (exfalso; first | contradiction | omega))) | (refine JD_guardb xR xR ?_ ?_ <;> (intro hgb; subst hgb)) | (refine JD_guardb xR xR ?_ ?_ <;> (intro hgb; fail_if_success (have : type_of% hgb := rfl))) | fail)) | fail)) | refine yJ ?_ | ((with_reducible apply gJ_if); (first | (refine J_if xR ?_ ?_ <;> intro _ <;> (try (exfalso; first | contradiction | omega))) | (refine J_ifb xR ?_ ?_ <;> (intro hgb; subst hgb)) | (refine J_ifb xR ?_ ?_ <;> intro _) | fail)) | refine J_draw (id := 5) [0, 1, 2] [3, 4] mixed xC xD xD ?_ | refine J_draw (id := 9) [0, 1, 2, 3, 4, 5, 6, 7, 8, 9, 10, 11, 12, 13, 14, 15, 16, 17, 18, 19, 20, 21, 22, 23, 24, 25, 26] [27, 28, 29, 30, 31, 32, 33, 34, 35, 36, 37, 38, 39, 40, 41, 42, 43, 44, 45, 46, 47, 48, 49, 50] mixed xC xD xD ?_ | fail))
  exact J_ret1 rfl (by rfl) fun w H => ⟨_, ⟨rfl, rfl⟩, H.sel .nil⟩
set_option maxRecDepth 8000 in
theorem vvoid_s (p : T.Pf) (d : At) (n : Int) : Pact Try.prog 3 #[.agg (T.pfC p).toArray, .agg (atC d).toArray, .int .i64 n] (fun _ => True) [] (ret0 (.bool true)) := by
  refine pact Try.func3 rfl Try.ntmps3 rfl ?_
  intro W K _
  (repeat' (first | ((with_reducible apply gL); (first | (with_reducible apply gL_app) | (with_reducible apply gL_app0) | refine yL0 ?_ | refine yL ?_ | ((with_reducible apply gL_go); (first | (refine JL_goq (works_s) (hφ := xF) (h := ?_); rintro _ _ ⟨rfl, rfl⟩; try simp only [List.cons_append, List.nil_append]) | fail)) | (refine yM ?_; intro _) | ((with_reducible apply gL_gd); (first | (refine JL_guard xR xR ?_ ?_ <;> intro _ <;> (try (exfalso; first | contradiction | omega))) | (refine JL_guardb xR xR ?_ ?_ <;> (intro hgb; subst hgb)) | (refine JL_guardb xR xR ?_ ?_ <;> (intro hgb; fail_if_success (have : type_of% hgb := rfl))) | fail)) | fail)) | refine yJ ?_ | ((with_reducible apply gJ_if); (first | (refine J_if xR ?_ ?_ <;> intro _ <;> (try (exfalso; first | contradiction | omega))) | (refine J_ifb xR ?_ ?_ <;> (intro hgb; subst hgb)) | (refine J_ifb xR ?_ ?_ <;> intro _) | fail)) | fail))
  rename_i zb
  (repeat' (first | ((with_reducible apply gL); (first | (with_reducible apply gL_app) | (with_reducible apply gL_app0) | refine yL0 ?_ | refine yL ?_ | ((with_reducible apply gL_go); (first | (refine JL_goq (vagain_nil) (hφ := xF) (h := ?_); rintro _ _ rfl; try simp only [List.cons_append, List.nil_append]) | (refine JL_goq (vagain_void zb) (hφ := xF) (h := ?_); rintro _ _ rfl; try simp only [List.cons_append, List.nil_append]) | (refine JL_goq (vreset_nil) (hφ := xF) (h := ?_); rintro _ _ rfl; try simp only [List.cons_append, List.nil_append]) | (refine JL_goq (vreset_void zb) (hφ := xF) (h := ?_); rintro _ _ rfl; try simp only [List.cons_append, List.nil_append]) | (refine JL_goq (vwanted_nil p) (hφ := xF) (h := ?_); rintro _ _ ⟨rfl, rfl⟩; try simp only [List.cons_append, List.nil_append]) | (refine JL_goq (vsaid_void zb p) (hφ := xF) (h := ?_); rintro _ _ ⟨rfl, rfl⟩; try simp only [List.cons_append, List.nil_append]) | (refine JL_goq (vnew_nil) (hφ := xF) (h := ?_); rintro _ _ ⟨rfl, rfl⟩; try simp only [List.cons_append, List.nil_append]) | (refine JL_goq (vwant_nil p d true) (hφ := xF) (h := ?_); rintro _ _ ⟨rfl, rfl⟩; try simp only [List.cons_append, List.nil_append]) | (refine JL_goq (vwant_void zb p d false) (hφ := xF) (h := ?_); rintro _ _ ⟨rfl, rfl⟩; try simp only [List.cons_append, List.nil_append]) | (refine JL_goq (vdue_nil) (hφ := xF) (h := ?_); rintro _ _ ⟨rfl, rfl⟩; try simp only [List.cons_append, List.nil_append]) | (refine JL_goq (vdue_void zb) (hφ := xF) (h := ?_); rintro _ _ ⟨rfl, rfl⟩; try simp only [List.cons_append, List.nil_append]) | (refine JL_goq (vtake_nil n) (hφ := xF) (h := ?_); rintro _ _ ⟨rfl, rfl⟩; try simp only [List.cons_append, List.nil_append]) | (refine JL_goq (vtake_void zb n) (hφ := xF) (h := ?_); rintro _ _ ⟨rfl, rfl⟩; try simp only [List.cons_append, List.nil_append]) | (refine JL_goq (vall_nil) (hφ := xF) (h := ?_); rintro _ _ ⟨rfl, rfl⟩; try simp only [List.cons_append, List.nil_append]) | (refine JL_goq (vall_void zb) (hφ := xF) (h := ?_); rintro _ _ ⟨rfl, rfl⟩; try simp only [List.cons_append, List.nil_append]) | (refine JL_goq (vlen_nil) (hφ := xF) (h := ?_); rintro _ _ ⟨rfl, rfl⟩; try simp only [List.cons_append, List.nil_append]) | (refine JL_goq (vlen_void zb) (hφ := xF) (h := ?_); rintro _ _ ⟨rfl, rfl⟩; try simp only [List.cons_append, List.nil_append]) | fail)) | (refine yM ?_; intro _) | ((with_reducible apply gL_gd); (first | (refine JL_guard xR xR ?_ ?_ <;> intro _ <;> (try (exfalso; first | contradiction | omega))) | (refine JL_guardb xR xR ?_ ?_ <;> (intro hgb; subst hgb)) | (refine JL_guardb xR xR ?_ ?_ <;> (intro hgb; fail_if_success (have : type_of% hgb := rfl))) | fail)) | fail)) | refine yJ ?_ | ((with_reducible apply gJ_if); (first | (refine J_if xR ?_ ?_ <;> intro _ <;> (try (exfalso; first | contradiction | omega))) | (refine J_ifb xR ?_ ?_ <;> (intro hgb; subst hgb)) | (refine J_ifb xR ?_ ?_ <;> intro _) | fail)) | fail))
  exact J_ret1 rfl (by rfl) fun w H => ⟨_, ⟨rfl, rfl⟩, H.sel .nil⟩
end Go.Proofs.Ytdnokmpnemaoaaa
namespace Go.Proofs.Ytdnokmpnemaoaaa
set_option linter.unusedSimpArgs false
set_option linter.unusedVariables false
open Go.RowKit Go.Pm

theorem pf_arg {W : World} {m : Nat} {cs : Array Value} (h : Rs Try.prog W m 25 (Value.agg cs).cells.toList) : ∃ p : T.Pf, cs = (T.pfC p).toArray ∧ T.PfN p := by
  have h0 := leaf_of 5 25 [23, 3] m _ (by kernel_rfl) h
  obtain ⟨a, r, e, b0, h1⟩ := h0.u32 Try.underlying23
  obtain ⟨l, r2, e2, b1, h2⟩ := h1.i64 Try.underlying3
  obtain rfl := h2.nil'
  subst e2
  exact ⟨(a, l), Array.ext' e, b0, b1⟩
namespace viewVoid
theorem walk {W : World} (n0 : Nat) {cs0 : Array Value} (g0 : Rs Try.prog W n0 25 (Value.agg cs0).cells.toList) (n1 : Nat) {cs1 : Array Value} (g1 : Rs Try.prog W n1 30 (Value.agg cs1).cells.toList) (n2 : Nat) {a2 : Int} (g2 : Rs Try.prog W n2 3 (Value.int .i64 a2).cells.toList) :
    Calls Try.prog 3 #[.agg cs0, .agg cs1, .int .i64 a2] W fun e w' => e = .returned (.bool true) ∧ Only [] W w' := by
  obtain ⟨p, rfl, _⟩ := pf_arg g0
  obtain ⟨d, rfl, _, _⟩ := attrs_arg g1
  exact (vvoid_s p d a2).law Kn.true
end viewVoid
namespace viewVoid
open Go.ChangeShapes Go.WideShapes Go.ChangeAt
set_option linter.unusedVariables false

theorem own : ownKnob Try.prog.godebug = none := by kernel_rfl
theorem laidOut : laidOutB Try.prog = true := by kernel_rfl

set_option maxRecDepth 100000 in
theorem lifted (os : Os) (started : os.Started) (H : Type) (enc : TypeId × Value → H) :
    ReturnsInHanded {} Try.checked os 3 .any (Rows.viewVoidSpec.pre6 enc Try.prog Try.f3 Rows.viewVoidRow.domain false) (Rows.viewVoidSpec.post enc Try.prog Try.f3 false true false false) := by
  refine returnsInHanded_of_change_sized (C := Try.checked) own started (by kernel_rfl) Try.func3
    (ChangeSpec.witness6 (enc := enc) (C := Try.checked) false ⟨#[], #[.agg #[.int .u32 0, .int .i64 0], .agg #[.int .i64 0, .slice none 0 0, .int .u32 0, .bool false, .int .u32 0, .bool false, .int .u32 0, .bool false, .bool false, .int .u32 0, .int .u32 0, .slice none 0 0, .slice none 0 0], .int .i64 0], []⟩ 8 (by kernel_rfl) (by kernel_rfl) (by kernel_rfl) (by kernel_rfl)) ?_
  intro W base args ds gs before hval0 hW hcnd hsz hreach
  have hval : ∀ (j : Nat) t v, Try.f3.params[j]? = some t → args[j]? = some v → Value.okWide Try.prog W .any base t v := hval0
  have hW' := hW
  obtain ⟨p, q, hA0, hV, rfl, hfz, hnd⟩ := hW
  have hA : DataW.TrodAll enc Try.prog W 0 (fun _ => true) true Try.f3.params.toList args.toList ds p := hA0
  rw [Try.params3] at hA hval
  obtain ⟨v0, vs0, d0, ds0, p0, q0, hargs, rfl, rfl, h0, r0⟩ := trodAll_cons hA
  obtain ⟨v1, vs1, d1, ds1, p1, q1, rfl, rfl, rfl, h1, r1⟩ := trodAll_cons r0
  obtain ⟨v2, vs2, d2, ds2, p2, q2, rfl, rfl, rfl, h2, r2⟩ := trodAll_cons r1
  obtain ⟨rfl, rfl, rfl⟩ := trodAll_nil r2
  obtain rfl : args = #[v0, v1, v2] := by cases args; simp_all
  obtain ⟨rfl, rfl⟩ := trodVars_none hV
  have k0 := h0
  have lt0 : ∀ x ∈ p0, x.block < W.heap.size := by obtain ⟨m, hm⟩ := k0; exact DataW.trod_lt m _ _ _ hm
  obtain ⟨n0, g0⟩ := Rs.of_weights hsz 0 (by first | rfl | (simp [Try.params3])) rfl h0
  obtain ⟨cs0, rfl, hs0⟩ := okWide_struct Try.underlying25 (hval 0 25 v0 rfl rfl)
  have k1 := h1
  have lt1 : ∀ x ∈ p1, x.block < W.heap.size := by obtain ⟨m, hm⟩ := k1; exact DataW.trod_lt m _ _ _ hm
  obtain ⟨n1, g1⟩ := Rs.of_weights hsz 1 (by first | rfl | (simp [Try.params3])) rfl h1
  obtain ⟨cs1, rfl, hs1⟩ := okWide_struct Try.underlying30 (hval 1 30 v1 rfl rfl)
  have k2 := h2
  have lt2 : ∀ x ∈ p2, x.block < W.heap.size := by obtain ⟨m, hm⟩ := k2; exact DataW.trod_lt m _ _ _ hm
  obtain ⟨n2, g2⟩ := Rs.of_weights hsz 2 (by first | rfl | (simp [Try.params3])) rfl h2
  obtain ⟨a2, rfl⟩ := okWide_int Try.underlying3 (hval 2 3 v2 rfl rfl)
  refine (walk n0 g0 n1 g1 n2 g2).mono fun e W' ⟨he, hg⟩ => ?_
  subst he
  have bel := hg.belowNil
  exact ⟨_, rfl, _, _, _, [], _, [], hW', trodAll_mk1 (shut_bool Try.underlying4 _), (trodAll_cons_mk (Below.trod laidOut (by kernel_rfl) (of_decide_eq_true (by kernel_rfl)) k0 bel lt0) (trodAll_cons_mk (Below.trod laidOut (by kernel_rfl) (of_decide_eq_true (by kernel_rfl)) k1 bel lt1) (trodAll_cons_mk (Below.trod laidOut (by kernel_rfl) (of_decide_eq_true (by kernel_rfl)) k2 bel lt2) trodAll_mk0))), rfl, bel.frame _, fun h => by cases h⟩

theorem over : Rows.viewVoidRow.holds Try.pinned (OpenSpec.ofChange Rows.viewVoidSpec) :=
  OpenClaim.holds_of_wide 3 Try.f3 rfl rfl rfl rfl rfl rfl rfl ⟨rfl, rfl, rfl, rfl, rfl⟩ rfl rfl rfl rfl rfl (by kernel_rfl) Try.func3 (by kernel_rfl)
    (of_decide_eq_true (by kernel_rfl)) (by unfold Func.isWrapper; first | (rw [if_pos (by decide +kernel)]; kernel_rfl) | (rw [if_neg (by decide +kernel)]; exact ⟨rfl, rfl⟩))
    (fun os started H enc _ => lifted os started H enc)

/-- The statement. -/
theorem proved : Rows.ViewVoidSaid := over
#print axioms proved
end viewVoid
end Go.Proofs.Ytdnokmpnemaoaaa
