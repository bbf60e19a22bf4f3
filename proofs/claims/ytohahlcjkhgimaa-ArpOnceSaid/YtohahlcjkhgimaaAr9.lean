/-
  Wait.
-/
import Derived.Test.YtohahlcjkhgimaaAr8
namespace Go.Proofs.Ytohahlcjkhgimaa
set_option linter.unusedSimpArgs false
set_option linter.unusedVariables false
set_option maxRecDepth 20000
set_option maxHeartbeats 4000000
open Go.RowKit Go.Pm Go.Sort

theorem clone_s (a : Option Addr) (c : Nat) (l : List Int) (hl : l.length ≤ 140737488355328) : Pact Try.prog 40 #[.slice a l.length c] (fun w => Vw w (.slice a l.length c) 1 l.length (flat byC l)) [] (fun u L' => ∃ a c, u = .slice a l.length c ∧ L' = [Ar 5 1 byC (.slice a l.length c) l]) := by
  refine pact Try.func40 rfl Try.ntmps40 rfl ?_
  intro W K hK
  cases a with
  | none =>
    refine J_fact (φ := l = []) (fun w H => ?_) ?_
    · obtain ⟨a', c', he, _, _, _, h4, _⟩ := hK.of H
      cases he
      exact List.eq_nil_of_length_eq_zero (h4 rfl).1
    · rintro rfl
      (repeat' (first | ((with_reducible apply gJ); (first | refine J_seq ?_ | refine J_reg ?_ | refine J_skip ?_ | refine J_block ?_ | refine J_blk ?_ | refine J_exit rfl ?_ | refine J_goto rfl ?_ | ((with_reducible apply gJ_if); (first | refine J_ift rfl ?_ | refine J_iff rfl ?_ | (refine J_if xR ?_ ?_ <;> intro _ <;> (try (exfalso; first | contradiction | omega))) | (refine J_ifb xR ?_ ?_ <;> (intro hgb; subst hgb)) | (refine J_ifb xR ?_ ?_ <;> intro _) | fail)) | refine J_label ?_ | fail)) | ((with_reducible apply gL); (first | refine JL_nil ?_ | refine L_move ?_ | refine L_assign ?_ | refine L_bin_eql ?_ | ((with_reducible apply gL_buildSlice); (first | (refine JL_mc rfl xR xR (al_bs1 xR (tabE etab_ok xR) xK) ?_; intro _) | (refine JL_mc rfl xR xR (al_bs xR (tabE etab_ok xR) xN xK) ?_; intro _) | fail)) | ((with_reducible apply gL_c_append); (first | (refine JL_ap1 (tabE etab_ok xR) xR xR xT xT xC xR xL xR xO xR xR ?_; intro _ _ _ _) | (refine JL_app (tabE etab_ok xR) xR xR xT xV xC xL xU xO xR xR ?_; intro _ _ _ _) | fail)) | fail)) | fail))
      exact J_ret1 rfl (by rfl) fun w H => ⟨_, ⟨none, 0, rfl, rfl⟩, (Ow.arNil (e := 5) (sz := 1) (enc := byC) H).sel (by (first | ((with_reducible (repeat (first | exact Sb.nil | apply Sb.cons | exact Tk.here | apply Tk.there))); done) | (repeat (first | exact Sb.nil | apply Sb.cons | exact Tk.here | apply Tk.there))))⟩
  | some p =>
    (repeat' (first | ((with_reducible apply gJ); (first | refine J_seq ?_ | refine J_reg ?_ | refine J_skip ?_ | refine J_block ?_ | refine J_blk ?_ | refine J_exit rfl ?_ | refine J_goto rfl ?_ | ((with_reducible apply gJ_if); (first | refine J_ift rfl ?_ | refine J_iff rfl ?_ | (refine J_if xR ?_ ?_ <;> intro _ <;> (try (exfalso; first | contradiction | omega))) | (refine J_ifb xR ?_ ?_ <;> (intro hgb; subst hgb)) | (refine J_ifb xR ?_ ?_ <;> intro _) | fail)) | refine J_label ?_ | fail)) | ((with_reducible apply gL); (first | refine JL_nil ?_ | ((with_reducible apply gL_c_append); (first | (refine JL_appL byC (fs := l) (tabE etab_ok xR) xR xR xA (Src.kn hK) xC xL xU (by omega) xR xR ?_; intro ad c2 _ _) | fail)) | refine L_move ?_ | refine L_assign ?_ | refine L_bin_eql ?_ | ((with_reducible apply gL_buildSlice); (first | (refine JL_mc rfl xR xR (al_bs1 xR (tabE etab_ok xR) xK) ?_; intro _) | (refine JL_mc rfl xR xR (al_bs xR (tabE etab_ok xR) xN xK) ?_; intro _) | fail)) | ((with_reducible apply gL_c_append); (first | (refine JL_ap1 (tabE etab_ok xR) xR xR xT xT xC xR xL xR xO xR xR ?_; intro _ _ _ _) | (refine JL_app (tabE etab_ok xR) xR xR xT xV xC xL xU xO xR xR ?_; intro _ _ _ _) | fail)) | fail)) | fail))
    exact J_ret1 rfl (by rfl) fun w H => ⟨_, ⟨ad, c2, rfl, rfl⟩, H.sel (by (first | ((with_reducible (repeat (first | exact Sb.nil | apply Sb.cons | exact Tk.here | apply Tk.there))); done) | (repeat (first | exact Sb.nil | apply Sb.cons | exact Tk.here | apply Tk.there))))⟩
/-- An address is given a time. -/
def putL : List (Int × Int) → Int → Int → List (Int × Int)
  | [], a, v => [(a, v)]
  | (x, u) :: r, a, v => if x = a then (x, v) :: r else (x, u) :: putL r a v
theorem put_t (es : List (Int × Int)) (a v : Int) : aP (tV es) a (.int .i64 v) = tV (putL es a v) := by
  unfold tV
  induction es with
  | nil => rfl
  | cons p es ih =>
    obtain ⟨x, u⟩ := p
    show (if x = a then (x, Value.int .i64 v) :: es.map (fun p => (p.1, Value.int .i64 p.2)) else (x, Value.int .i64 u) :: aP (es.map fun p => (p.1, Value.int .i64 p.2)) a (.int .i64 v)) = _
    unfold putL
    by_cases h : x = a
    · rw [if_pos h, if_pos h]; rfl
    · rw [if_neg h, if_neg h, ih]; rfl
theorem put_keys (es : List (Int × Int)) (a v : Int) : (putL es a v).map (·.1) = if a ∈ es.map (·.1) then es.map (·.1) else es.map (·.1) ++ [a] := by
  induction es with
  | nil => simp [putL]
  | cons p es ih =>
    obtain ⟨x, u⟩ := p
    unfold putL
    by_cases h : x = a
    · subst h; simp
    · rw [if_neg h, List.map_cons, ih, List.map_cons]
      have h2 : ¬ a = x := fun e => h e.symm
      dsimp only
      by_cases h3 : a ∈ es.map (·.1)
      · rw [if_pos h3, if_pos (List.mem_cons_of_mem _ h3)]
      · rw [if_neg h3, if_neg (fun h4 => (List.mem_cons.1 h4).elim h2 h3)]; rfl
theorem Ko.put {es : List (Int × Int)} (h : Ko es) (a v : Int) : Ko (putL es a v) := by
  unfold Ko
  rw [put_keys]
  split
  · exact h
  · rename_i hn
    exact List.nodup_append.2 ⟨h, by simp, fun x hx y hy => by
      obtain rfl := List.mem_singleton.1 hy
      rintro rfl
      exact hn hx⟩
def waitB (C : Ca) (t a : Int) : Bool := !decide (t < thenOf C.th a)
def waitC (C : Ca) (t a : Int) (l : List Int) : Ca := ⟨C.keep, C.ask, t, C.l, C.w ++ [(a, l)], if t < thenOf C.th a then C.th else putL C.th a (t + C.ask)⟩
theorem wait_ok {C : Ca} (h : CaOk C) {t a : Int} {l : List Int} (ht : C.now ≤ t ∧ t ≤ 1099511627776) (hw : C.w.length < 8) : CaOk (waitC C t a l) := by
  refine ⟨h.keep, h.ask, ⟨by have := h.now.1; show 0 ≤ t; omega, ht.2⟩, h.l, ?_, h.ll, ?_⟩
  · show Ko (if t < thenOf C.th a then C.th else putL C.th a (t + C.ask))
    split
    · exact h.th
    · exact h.th.put _ _
  · show (C.w ++ [(a, l)]).length ≤ 8
    rw [List.length_append, List.length_cons, List.length_nil]
    omega
theorem wait_s (cb : Nat) (C : Ca) (t a : Int) (ba : Option Addr) (bc n : Nat) (l : List Int) (hn : l.length = n) (hl : n ≤ 1500) (hC : CaOk C) (ht : C.now ≤ t ∧ t ≤ 1099511627776) (hw : C.w.length < 8) : Pact Try.prog 24 #[.pointer (some ⟨cb, 0, none⟩), .int .i64 t, .int .u32 a, .slice ba n bc] (fun w => Vw w (.slice ba n bc) 1 n (flat byC l)) [caA cb C] (fun u L' => u = .tuple #[.bool (waitB C t a), .int .i64 0] ∧ L' = [caA cb (waitC C t a l)]) := by
  subst hn
  refine pact Try.func24 rfl Try.ntmps24 rfl ?_
  intro W K hK
  have hask := hC.ask
  have hnow := hC.now
  refine J_open (fun w H => caOpen H .here) ?_
  rintro ⟨⟨lb, tb, ad, wc, P⟩, hP⟩
  dsimp only at hP ⊢
  have hPl : P.length < 8 := by rw [← hP, List.length_map] at hw; exact hw
  have hmay : mayE C.now t = 0 := by unfold mayE; rw [if_neg (by omega)]
  have hms := may_s cb lb tb C.keep C.ask C.now t ad P.length wc
  rw [hmay] at hms
  have hlk := look_t C.th a
  have hput := put_t C.th a (t + C.ask)
  have hcl := clone_s ba bc l (by omega)
  by_cases hq : t < thenOf C.th a
  · have e1 : waitB C t a = false := by unfold waitB; rw [decide_eq_true hq]; rfl
    have e2 : waitC C t a l = ⟨C.keep, C.ask, t, C.l, C.w ++ [(a, l)], C.th⟩ := by unfold waitC; rw [if_pos hq]
    rw [e1, e2]
    (repeat' (first | ((with_reducible apply gJ); (first | refine J_seq ?_ | refine J_reg ?_ | refine J_skip ?_ | refine J_block ?_ | refine J_blk ?_ | refine J_exit rfl ?_ | refine J_goto rfl ?_ | ((with_reducible apply gJ_if); (first | refine J_ift rfl ?_ | refine J_iff rfl ?_ | (refine J_if xR ?_ ?_ <;> intro _ <;> (try (exfalso; first | contradiction | omega))) | (refine J_ifb xR ?_ ?_ <;> (intro hgb; subst hgb)) | (refine J_ifb xR ?_ ?_ <;> intro _) | fail)) | refine J_label ?_ | refine J_draw (id := 9) [0, 1, 2, 3, 4, 5, 6, 7, 8, 9, 10] [11, 12, 13] mixed xC xD xD ?_ | refine J_draw (id := 12) [0, 1, 2, 3, 4, 5, 6, 7, 8, 9, 10] [11] mixed xC xD xD ?_ | fail)) | ((with_reducible apply gL); (first | refine JL_nil ?_ | ((with_reducible apply gL_lookup); (first | (refine JL_p rfl xR xR (pe_lookG mi_t xR xR xA hlk) ?_) | fail)) | refine L_move ?_ | refine L_assign ?_ | refine L_fieldAddr ?_ | refine L_load ?_ | refine L_nilCheck ?_ | refine L_c_len ?_ | refine L_bin_eql ?_ | refine L_bin_neq ?_ | refine L_bin_gtr ?_ | ((with_reducible apply gL_store); (first | refine JL_st xR xR xT xC xR xE xR ?_ | refine JL_stW xR xR xT xW xR xR xR ?_ | refine JL_stS xR xR xT xW xP xR xR ?_ | refine JL_stEl xR xR xT xR xL xR (tabS stab_ok xR) xR xR xO ?_ | fail)) | ((with_reducible apply gL_go); (first | (refine JL_goq (hms) (hφ := xF) (h := ?_); rintro _ _ ⟨rfl, rfl⟩; try simp only [List.cons_append, List.nil_append]) | (refine JL_goq (hcl) (hφ := (by (try simp only [List.cons_append, List.nil_append]); exact fun w hr => hK w hr.1)) (h := ?_); rintro _ _ ⟨a2, c2, rfl, rfl⟩; try simp only [List.cons_append, List.nil_append]) | fail)) | ((with_reducible apply gL_lookup); (first | refine JL_p rfl xR xR (pe_lookup xR xR (tabM mtab_ok xR) xT (by first | apply hlook | apply hlook2 | rfl)) ?_ | refine JL_p rfl xR xR (pe_lookupK xR xR (tabM mtab_ok xR) xH (by first | apply hlook | apply hlook2 | rfl)) ?_ | fail)) | fail)) | ((with_reducible apply gD); (first | (refine JD_nil ?_; try simp only [List.cons_append, List.nil_append]) | (refine JD_bar ?_; try simp only [List.cons_append, List.nil_append]) | ((with_reducible apply gD_c_append); (first | (refine JD_ap1 (z := Pk.mk a a2 c2 l) (tabE etab_ok xR) xR xR xA xA xC xR xL xR (by omega) xR ?_; intro a3 c3 _ _) | fail)) | refine D_move ?_ | refine D_fieldAddr ?_ | refine D_load ?_ | refine D_nilCheck ?_ | refine D_build ?_ | refine D_bin_add_i64 ?_ | refine D_bin_add_r ?_ | ((with_reducible apply gD_load); (first | refine JD_ldM xR xT xC xR xR ?_ | refine JD_ldWM xR xT xW xR ?_ | refine JD_ldSM xR xT (tabS stab_ok xR) xG xC xR ?_ | fail)) | ((with_reducible apply gD_buildSlice); (first | (refine JD_mc rfl xR rfl (al_bs1 xR (tabE etab_ok xR) xK) ?_; intro _) | (refine JD_mc rfl xR rfl (al_bs xR (tabE etab_ok xR) xN xK) ?_; intro _) | fail)) | ((with_reducible apply gD_store); (first | refine JD_st xR xR xT xC xR xE xR ?_ | refine JD_stW xR xR xT xW xR xR xR ?_ | refine JD_stS xR xR xT xW xP xR xR ?_ | refine JD_stEl xR xR xT xR xL xR (tabS stab_ok xR) xR xR xO ?_ | fail)) | ((with_reducible apply gD_c_append); (first | (refine JD_ap1 (tabE etab_ok xR) xR xR xT xT xC xR xL xR xO xR ?_; intro _ _ _ _) | (refine JD_app (tabE etab_ok xR) xR xR xT xV xC xL xU xO xR ?_; intro _ _ _ _) | fail)) | ((with_reducible apply gD_go); (first | (refine JD_goq (hms) (hφ := xF) (h := ?_); rintro _ _ ⟨rfl, rfl⟩; try simp only [List.cons_append, List.nil_append]) | (refine JD_goq (hcl) (hφ := (by (try simp only [List.cons_append, List.nil_append]); exact fun w hr => hK w hr.1)) (h := ?_); rintro _ _ ⟨a2, c2, rfl, rfl⟩; try simp only [List.cons_append, List.nil_append]) | fail)) | ((with_reducible apply gD_mapUpdate); (first | refine JD_mapSet xR xR xR (tabM mtab_ok xR) xT xR ?_ | fail)) | fail)) | fail))
    refine J_ret2 rfl (by rfl) (by rfl) fun w H => ⟨_, ⟨rfl, rfl⟩, ?_⟩
    have H : Ow _ _ (bP ⟨a2, c2, l⟩ :: _) _ := H.has (φ := fun w => bsV w ⟨a2, c2, l⟩) (M := [Ar 5 1 byC (.slice a2 l.length c2) l]) (by (first | ((with_reducible (repeat (first | exact Sb.nil | apply Sb.cons | exact Tk.here | apply Tk.there))); done) | (repeat (first | exact Sb.nil | apply Sb.cons | exact Tk.here | apply Tk.there)))) (fun w hr => Src.ar (by (first | ((with_reducible (repeat (first | exact Tk.here | apply Tk.there))); done) | ((simp only [List.cons_append, List.nil_append]); (with_reducible (repeat (first | exact Tk.here | apply Tk.there))); done) | fail)) w hr)
    have H := Ow.snoc (B := bP ⟨a2, c2, l⟩) H (by (first | ((with_reducible (repeat (first | exact Tk.here | apply Tk.there))); done) | ((simp only [List.cons_append, List.nil_append]); (with_reducible (repeat (first | exact Tk.here | apply Tk.there))); done) | fail)) (by (first | ((with_reducible (repeat (first | exact Tk.here | apply Tk.there))); done) | ((simp only [List.cons_append, List.nil_append]); (with_reducible (repeat (first | exact Tk.here | apply Tk.there))); done) | fail))
    rw [show P.map pP ++ [bP ⟨a2, c2, l⟩] = (P ++ [Pk.mk a a2 c2 l]).map pP by rw [List.map_append]; rfl] at H
    exact (caShut (n := P.length + 1) (C := ⟨C.keep, C.ask, t, C.l, C.w ++ [(a, l)], C.th⟩) (P := P ++ [Pk.mk a a2 c2 l]) (by rw [List.map_append, hP]; rfl) (by rw [List.length_append]; rfl) rfl rfl rfl rfl rfl H (by (first | ((with_reducible (repeat (first | exact Sb.nil | apply Sb.cons | exact Tk.here | apply Tk.there))); done) | (repeat (first | exact Sb.nil | apply Sb.cons | exact Tk.here | apply Tk.there))))).sel (by (first | ((with_reducible (repeat (first | exact Sb.nil | apply Sb.cons | exact Tk.here | apply Tk.there))); done) | (repeat (first | exact Sb.nil | apply Sb.cons | exact Tk.here | apply Tk.there))))
  · have e1 : waitB C t a = true := by unfold waitB; rw [decide_eq_false hq]; rfl
    have e2 : waitC C t a l = ⟨C.keep, C.ask, t, C.l, C.w ++ [(a, l)], putL C.th a (t + C.ask)⟩ := by unfold waitC; rw [if_neg hq]
    rw [e1, e2]
    (repeat' (first | ((with_reducible apply gJ); (first | refine J_seq ?_ | refine J_reg ?_ | refine J_skip ?_ | refine J_block ?_ | refine J_blk ?_ | refine J_exit rfl ?_ | refine J_goto rfl ?_ | ((with_reducible apply gJ_if); (first | refine J_ift rfl ?_ | refine J_iff rfl ?_ | (refine J_if xR ?_ ?_ <;> intro _ <;> (try (exfalso; first | contradiction | omega))) | (refine J_ifb xR ?_ ?_ <;> (intro hgb; subst hgb)) | (refine J_ifb xR ?_ ?_ <;> intro _) | fail)) | refine J_label ?_ | refine J_draw (id := 9) [0, 1, 2, 3, 4, 5, 6, 7, 8, 9, 10] [11, 12, 13] mixed xC xD xD ?_ | refine J_draw (id := 12) [0, 1, 2, 3, 4, 5, 6, 7, 8, 9, 10] [11] mixed xC xD xD ?_ | fail)) | ((with_reducible apply gL); (first | refine JL_nil ?_ | ((with_reducible apply gL_lookup); (first | (refine JL_p rfl xR xR (pe_lookG mi_t xR xR xA hlk) ?_) | fail)) | refine L_move ?_ | refine L_assign ?_ | refine L_fieldAddr ?_ | refine L_load ?_ | refine L_nilCheck ?_ | refine L_c_len ?_ | refine L_bin_eql ?_ | refine L_bin_neq ?_ | refine L_bin_gtr ?_ | ((with_reducible apply gL_store); (first | refine JL_st xR xR xT xC xR xE xR ?_ | refine JL_stW xR xR xT xW xR xR xR ?_ | refine JL_stS xR xR xT xW xP xR xR ?_ | refine JL_stEl xR xR xT xR xL xR (tabS stab_ok xR) xR xR xO ?_ | fail)) | ((with_reducible apply gL_go); (first | (refine JL_goq (hms) (hφ := xF) (h := ?_); rintro _ _ ⟨rfl, rfl⟩; try simp only [List.cons_append, List.nil_append]) | (refine JL_goq (hcl) (hφ := (by (try simp only [List.cons_append, List.nil_append]); exact fun w hr => hK w hr.1)) (h := ?_); rintro _ _ ⟨a2, c2, rfl, rfl⟩; try simp only [List.cons_append, List.nil_append]) | fail)) | ((with_reducible apply gL_lookup); (first | refine JL_p rfl xR xR (pe_lookup xR xR (tabM mtab_ok xR) xT (by first | apply hlook | apply hlook2 | rfl)) ?_ | refine JL_p rfl xR xR (pe_lookupK xR xR (tabM mtab_ok xR) xH (by first | apply hlook | apply hlook2 | rfl)) ?_ | fail)) | fail)) | ((with_reducible apply gD); (first | (refine JD_nil ?_; try simp only [List.cons_append, List.nil_append]) | (refine JD_bar ?_; try simp only [List.cons_append, List.nil_append]) | ((with_reducible apply gD_c_append); (first | (refine JD_ap1 (z := Pk.mk a a2 c2 l) (tabE etab_ok xR) xR xR xA xA xC xR xL xR (by omega) xR ?_; intro a3 c3 _ _) | fail)) | ((with_reducible apply gD_mapUpdate); (first | (refine JD_setG mi_t xR xR xR xA xR ?_; rw [hput]) | fail)) | refine D_move ?_ | refine D_fieldAddr ?_ | refine D_load ?_ | refine D_nilCheck ?_ | refine D_build ?_ | refine D_bin_add_i64 ?_ | refine D_bin_add_r ?_ | ((with_reducible apply gD_load); (first | refine JD_ldM xR xT xC xR xR ?_ | refine JD_ldWM xR xT xW xR ?_ | refine JD_ldSM xR xT (tabS stab_ok xR) xG xC xR ?_ | fail)) | ((with_reducible apply gD_buildSlice); (first | (refine JD_mc rfl xR rfl (al_bs1 xR (tabE etab_ok xR) xK) ?_; intro _) | (refine JD_mc rfl xR rfl (al_bs xR (tabE etab_ok xR) xN xK) ?_; intro _) | fail)) | ((with_reducible apply gD_store); (first | refine JD_st xR xR xT xC xR xE xR ?_ | refine JD_stW xR xR xT xW xR xR xR ?_ | refine JD_stS xR xR xT xW xP xR xR ?_ | refine JD_stEl xR xR xT xR xL xR (tabS stab_ok xR) xR xR xO ?_ | fail)) | ((with_reducible apply gD_c_append); (first | (refine JD_ap1 (tabE etab_ok xR) xR xR xT xT xC xR xL xR xO xR ?_; intro _ _ _ _) | (refine JD_app (tabE etab_ok xR) xR xR xT xV xC xL xU xO xR ?_; intro _ _ _ _) | fail)) | ((with_reducible apply gD_go); (first | (refine JD_goq (hms) (hφ := xF) (h := ?_); rintro _ _ ⟨rfl, rfl⟩; try simp only [List.cons_append, List.nil_append]) | (refine JD_goq (hcl) (hφ := (by (try simp only [List.cons_append, List.nil_append]); exact fun w hr => hK w hr.1)) (h := ?_); rintro _ _ ⟨a2, c2, rfl, rfl⟩; try simp only [List.cons_append, List.nil_append]) | fail)) | ((with_reducible apply gD_mapUpdate); (first | refine JD_mapSet xR xR xR (tabM mtab_ok xR) xT xR ?_ | fail)) | fail)) | fail))
    refine J_ret2 rfl (by rfl) (by rfl) fun w H => ⟨_, ⟨rfl, rfl⟩, ?_⟩
    have H : Ow _ _ (bP ⟨a2, c2, l⟩ :: _) _ := H.has (φ := fun w => bsV w ⟨a2, c2, l⟩) (M := [Ar 5 1 byC (.slice a2 l.length c2) l]) (by (first | ((with_reducible (repeat (first | exact Sb.nil | apply Sb.cons | exact Tk.here | apply Tk.there))); done) | (repeat (first | exact Sb.nil | apply Sb.cons | exact Tk.here | apply Tk.there)))) (fun w hr => Src.ar (by (first | ((with_reducible (repeat (first | exact Tk.here | apply Tk.there))); done) | ((simp only [List.cons_append, List.nil_append]); (with_reducible (repeat (first | exact Tk.here | apply Tk.there))); done) | fail)) w hr)
    have H := Ow.snoc (B := bP ⟨a2, c2, l⟩) H (by (first | ((with_reducible (repeat (first | exact Tk.here | apply Tk.there))); done) | ((simp only [List.cons_append, List.nil_append]); (with_reducible (repeat (first | exact Tk.here | apply Tk.there))); done) | fail)) (by (first | ((with_reducible (repeat (first | exact Tk.here | apply Tk.there))); done) | ((simp only [List.cons_append, List.nil_append]); (with_reducible (repeat (first | exact Tk.here | apply Tk.there))); done) | fail))
    rw [show P.map pP ++ [bP ⟨a2, c2, l⟩] = (P ++ [Pk.mk a a2 c2 l]).map pP by rw [List.map_append]; rfl] at H
    exact (caShut (n := P.length + 1) (C := ⟨C.keep, C.ask, t, C.l, C.w ++ [(a, l)], putL C.th a (t + C.ask)⟩) (P := P ++ [Pk.mk a a2 c2 l]) (by rw [List.map_append, hP]; rfl) (by rw [List.length_append]; rfl) rfl rfl rfl rfl rfl H (by (first | ((with_reducible (repeat (first | exact Sb.nil | apply Sb.cons | exact Tk.here | apply Tk.there))); done) | (repeat (first | exact Sb.nil | apply Sb.cons | exact Tk.here | apply Tk.there))))).sel (by (first | ((with_reducible (repeat (first | exact Sb.nil | apply Sb.cons | exact Tk.here | apply Tk.there))); done) | (repeat (first | exact Sb.nil | apply Sb.cons | exact Tk.here | apply Tk.there))))
end Go.Proofs.Ytohahlcjkhgimaa
