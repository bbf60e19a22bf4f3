/-
  Learn.
-/
import Derived.Test.YtohahlcjkhgimaaAr7
namespace Go.Proofs.Ytohahlcjkhgimaa
set_option linter.unusedSimpArgs false
set_option linter.unusedVariables false
set_option maxRecDepth 20000
set_option maxHeartbeats 4000000
open Go.RowKit Go.Pm Go.Sort

/-- A cache as it may be. -/
structure CaOk (C : Ca) : Prop where
  keep : 1 ≤ C.keep ∧ C.keep ≤ 1000000
  ask : 1 ≤ C.ask ∧ C.ask ≤ 1000000
  now : 0 ≤ C.now ∧ C.now ≤ 1099511627776
  l : Ko C.l
  th : Ko C.th
  ll : C.l.length ≤ 32
  wl : C.w.length ≤ 8
theorem learn1_s (φ : World → Prop) (ab cb tb : Nat) (a : Int) (hφ : ∀ w, φ w → w.cell? ⟨ab, 0, none⟩ = some (.int .u32 a)) (p : Pk) : Pact Try.prog 31 (.agg (pkC p).toArray :: [.pointer (some ⟨ab, 0, none⟩)]).toArray (pkK φ cb tb) [] (ret0 (.bool (decide (p.n = a)))) := by
  refine pact Try.func31 rfl Try.ntmps31 rfl ?_
  intro W K hK
  have h1 : Kn K (fun w => w.cell? ⟨ab, 0, none⟩ = some (.int .u32 a)) := hK.imp fun w h => hφ w h.1
  (repeat' (first | ((with_reducible apply gJ); (first | refine J_seq ?_ | refine J_reg ?_ | refine J_skip ?_ | refine J_block ?_ | refine J_blk ?_ | refine J_exit rfl ?_ | refine J_goto rfl ?_ | ((with_reducible apply gJ_if); (first | refine J_ift rfl ?_ | refine J_iff rfl ?_ | (refine J_if xR ?_ ?_ <;> intro _ <;> (try (exfalso; first | contradiction | omega))) | (refine J_ifb xR ?_ ?_ <;> (intro hgb; subst hgb)) | (refine J_ifb xR ?_ ?_ <;> intro _) | fail)) | refine J_label ?_ | fail)) | ((with_reducible apply gL); (first | refine JL_nil ?_ | refine L_assign ?_ | refine L_fieldAddr ?_ | refine L_load ?_ | refine L_bin_eql ?_ | ((with_reducible apply gL_box); (first | (refine JL_mc rfl xR xR (al_boxA xR) ?_; intro _) | (refine JL_mc rfl xR xR (al_boxC xR xR) ?_; intro _) | fail)) | fail)) | fail))
  exact J_ret1 rfl (by rfl) fun w H => ⟨_, ⟨rfl, rfl⟩, H.sel .nil⟩
/-- The first one to go. -/
def least (es : Kl) : Int := ((srt es (es.map (·.1)))[0]?).getD 0
def fit (es : Kl) : Kl := if 32 ≤ es.length then del es (least es) else es
def learnC (C : Ca) (t a : Int) (m : Mc) : Ca := ⟨C.keep, C.ask, t, fit (del (live C.l t) a) ++ [(a, (m, t + C.keep))], C.w.filter (fun p => !decide (p.1 = a)), del C.th a⟩
def learnO (C : Ca) (a : Int) : List (List Int) := (C.w.filter (fun p => decide (p.1 = a))).map (·.2)
theorem live_len (es : Kl) (t : Int) : (live es t).length ≤ es.length := List.length_filter_le _ _
theorem del_len {β : Type} (es : List (Int × β)) (a : Int) : (del es a).length ≤ es.length := List.length_filter_le _ _
theorem del_not {β : Type} (es : List (Int × β)) (a : Int) : a ∉ (del es a).map (·.1) := fun h => by
  obtain ⟨p, hp, rfl⟩ := List.mem_map.1 h
  have := (List.mem_filter.1 hp).2
  simp at this
theorem fit_ko {es : Kl} (h : Ko es) : Ko (fit es) := by
  unfold fit
  split
  · exact h.del _
  · exact h
theorem fit_not {es : Kl} {a : Int} (h : a ∉ es.map (·.1)) : a ∉ (fit es).map (·.1) := by
  unfold fit
  split
  · intro hm
    obtain ⟨p, hp, rfl⟩ := List.mem_map.1 hm
    exact h (List.mem_map.2 ⟨p, (List.mem_filter.1 hp).1, rfl⟩)
  · exact h
theorem least_mem {es : Kl} (h : 0 < es.length) : least es ∈ es.map (·.1) := by
  unfold least
  have hl : 0 < (srt es (es.map (·.1))).length := by rw [srt_len, List.length_map]; exact h
  rw [List.getElem?_eq_getElem hl]
  exact srt_mem.1 (List.getElem_mem hl)
theorem del_lt {β : Type} {es : List (Int × β)} {a : Int} (h : a ∈ es.map (·.1)) : (del es a).length < es.length := by
  obtain ⟨p, hp, rfl⟩ := List.mem_map.1 h
  exact List.length_filter_lt_length_iff_exists.2 ⟨p, hp, by simp⟩
theorem fit_len {es : Kl} (h : es.length ≤ 32) : (fit es).length ≤ 31 := by
  unfold fit
  split
  · have := del_lt (least_mem (es := es) (by omega))
    omega
  · omega
theorem Ko.snoc {β : Type} {es : List (Int × β)} (h : Ko es) {a : Int} {q : β} (ha : a ∉ es.map (·.1)) : Ko (es ++ [(a, q)]) := by
  unfold Ko
  rw [List.map_append]
  refine List.nodup_append.2 ⟨h, by simp, fun x hx y hy => ?_⟩
  simp only [List.map_cons, List.map_nil, List.mem_singleton] at hy
  subst hy
  rintro rfl
  exact ha hx
theorem learn_ok {C : Ca} (h : CaOk C) {t a : Int} {m : Mc} (ht : C.now ≤ t ∧ t ≤ 1099511627776) : CaOk (learnC C t a m) := by
  have h1 := live_len C.l t
  have h2 := del_len (live C.l t) a
  have h3 := h.ll
  have hk : Ko (fit (del (live C.l t) a)) := fit_ko ((h.l.live t).del a)
  have hn : a ∉ (fit (del (live C.l t) a)).map (·.1) := fit_not (del_not _ _)
  have h4 := fit_len (es := del (live C.l t) a) (by omega)
  refine ⟨h.keep, h.ask, ⟨by have := h.now.1; show 0 ≤ t; omega, ht.2⟩, hk.snoc hn, h.th.del a, ?_, ?_⟩
  · show (fit (del (live C.l t) a) ++ [(a, (m, t + C.keep))]).length ≤ 32
    rw [List.length_append, List.length_cons, List.length_nil]
    omega
  · have := List.length_filter_le (fun p : Int × List Int => !decide (p.1 = a)) C.w
    have := h.wl
    show (C.w.filter (fun p => !decide (p.1 = a))).length ≤ 8
    omega
theorem put_l {es : Kl} {a : Int} (h : a ∉ es.map (·.1)) (q : Kw) : aP (lV es) a (kwV q) = lV (es ++ [(a, q)]) := by
  rw [aP_new]
  · simp [lV]
  · intro p hp
    unfold lV at hp
    obtain ⟨r, hr, rfl⟩ := List.mem_map.1 hp
    rintro rfl
    exact h (List.mem_map.2 ⟨r, hr, rfl⟩)
theorem os_eq {P : List Pk} {l : List (Int × List Int)} (h : P.map Pk.e = l) (q : Int → Bool) : (osOf P q P.length).map Bs.l = (l.filter (fun p => q p.1)).map (·.2) := by
  subst h
  unfold osOf
  rw [List.take_length, List.filter_map, List.map_map, List.map_map]
  rfl
theorem ps_eq {P : List Pk} {l : List (Int × List Int)} (h : P.map Pk.e = l) (q : Int → Bool) : (psOf P q P.length).map Pk.e = l.filter (fun p => !q p.1) := by
  subst h
  unfold psOf
  rw [List.take_length, List.drop_length, List.append_nil, List.filter_map]
  rfl
theorem filter_both {α : Type} (l : List α) (q : α → Bool) : l.Perm (l.filter (fun p => !q p) ++ l.filter q) := by
  refine (List.filter_append_perm q l).symm.trans ?_
  exact List.perm_append_comm
theorem psPick {P : List Pk} (q : Int → Bool) {W : World} {K : Hl} {L R : List HP} {w : World} (H : Ow W K L w) (t : Tk L (sats (P.map pP)) R) : Ow W K (sats ((psOf P q P.length).map pP) :: sats ((osOf P q P.length).map bP) :: R) w := by
  have h := Ow.satsSplit (f := pP) (filter_both P (fun p => q p.n)) H t
  have e1 : psOf P q P.length = P.filter (fun p => !q p.n) := by unfold psOf; rw [List.take_length, List.drop_length, List.append_nil]
  have e2 : (osOf P q P.length).map bP = (P.filter (fun p => q p.n)).map pP := by unfold osOf; rw [List.take_length, List.map_map]; rfl
  rw [e1, e2]
  exact h
/-- What a list of slices of bytes is, handed out. -/
def OutR (out : List (List Int)) (cb : Nat) (C : Ca) (u : Value) (L' : List HP) : Prop := ∃ oa oc os, os.map Bs.l = out ∧ u = .tuple #[.slice oa os.length oc, .int .i64 0] ∧ L' = [caA cb C, Ar 33 1 bsC (.slice oa os.length oc) os, sats (os.map bP)]
theorem learn_s (cb : Nat) (C : Ca) (t a : Int) (m : Mc) (hC : CaOk C) (ht : C.now ≤ t ∧ t ≤ 1099511627776) : Pact Try.prog 13 #[.pointer (some ⟨cb, 0, none⟩), .int .i64 t, .int .u32 a, .agg (mcC m).toArray] (fun _ => True) [caA cb C] (OutR (learnO C a) cb (learnC C t a m)) := by
  refine pact Try.func13 rfl Try.ntmps13 rfl ?_
  intro W K _
  have hkeep := hC.keep
  have hnow := hC.now
  have hll := hC.ll
  have hwl := hC.wl
  refine J_open (fun w H => caOpen H .here) ?_
  rintro ⟨⟨lb, tb, ad, wc, P⟩, hP⟩
  dsimp only at hP ⊢
  have hPl : P.length ≤ 8 := by rw [← hP, List.length_map] at hwl; exact hwl
  have hmay : mayE C.now t = 0 := by unfold mayE; rw [if_neg (by omega)]
  have hms := may_s cb lb tb C.keep C.ask C.now t ad P.length wc
  rw [hmay] at hms
  obtain ⟨l1, hl1⟩ : ∃ l1, del (live C.l t) a = l1 := ⟨_, rfl⟩
  have hk0 := hC.l.live t
  have hk1 : Ko l1 := by rw [← hl1]; exact hk0.del a
  have hn1 : a ∉ l1.map (·.1) := by rw [← hl1]; exact del_not _ _
  have hll1 : l1.length ≤ 32 := by
    have h1 := live_len C.l t
    have h2 := del_len (live C.l t) a
    rw [← hl1]; omega
  have hln : (lV l1).length = l1.length := by simp [lV]
  have hd1 : aD (lV (live C.l t)) a = lV l1 := by rw [del_l hk0, hl1]
  obtain ⟨l2, hl2⟩ : ∃ l2, fit l1 = l2 := ⟨_, rfl⟩
  have hk2 : Ko l2 := by rw [← hl2]; exact fit_ko hk1
  have hn2 : a ∉ l2.map (·.1) := by rw [← hl2]; exact fit_not hn1
  have hd3 : aP (lV l2) a (kwV (m, t + C.keep)) = lV (l2 ++ [(a, (m, t + C.keep))]) := put_l hn2 _
  have hd4 : aD (tV C.th) a = tV (del C.th a) := del_t hC.th a
  have hpk := pick_s cb lb tb C.keep C.ask t ad wc P (by omega) 31
  have hfl : learnC C t a m = ⟨C.keep, C.ask, t, l2 ++ [(a, (m, t + C.keep))], C.w.filter (fun p => !decide (p.1 = a)), del C.th a⟩ := by unfold learnC; rw [hl1, hl2]
  by_cases h32 : 32 ≤ l1.length
  · have hs0 : (srt l1 (l1.map (·.1)))[0]? = some (least l1) := by
      have hl : 0 < (srt l1 (l1.map (·.1))).length := by rw [srt_len, List.length_map]; omega
      unfold least
      rw [List.getElem?_eq_getElem hl]
      rfl
    have hd2 : aD (lV l1) (least l1) = lV l2 := by rw [del_l hk1, ← hl2]; unfold fit; rw [if_pos h32]
    (repeat' (first | ((with_reducible apply gJ); (first | refine J_seq ?_ | refine J_reg ?_ | refine J_skip ?_ | refine J_block ?_ | refine J_blk ?_ | refine J_exit rfl ?_ | refine J_goto rfl ?_ | ((with_reducible apply gJ_if); (first | refine J_ift rfl ?_ | refine J_iff rfl ?_ | (refine J_if xR ?_ ?_ <;> intro _ <;> (try (exfalso; first | contradiction | omega))) | (refine J_ifb xR ?_ ?_ <;> (intro hgb; subst hgb)) | (refine J_ifb xR ?_ ?_ <;> intro _) | fail)) | refine J_label ?_ | refine J_draw (id := 5) [0, 1, 2, 3, 4] [5] mixed xC xD xD ?_ | refine J_draw (id := 7) [0, 1, 2, 3, 4, 5, 6, 7] [8] mixed xC xD xD ?_ | refine J_draw (id := 8) [0, 1, 2, 3, 4, 5, 6, 7, 8, 9, 10, 11, 12] [13] mixed xC xD xD ?_ | refine J_draw (id := 9) [0, 1, 2, 3, 4] [5] mixed xC xD xD ?_ | fail)) | ((with_reducible apply gL); (first | refine JL_nil ?_ | ((with_reducible apply gL_c_len); (first | (refine JL_p rfl xR xR (pe_lenG mi_l xR xA hln) ?_) | fail)) | refine L_move ?_ | refine L_assign ?_ | refine L_fieldAddr ?_ | refine L_load ?_ | refine L_nilCheck ?_ | refine L_c_len ?_ | refine L_bin_neq ?_ | refine L_bin_geq ?_ | refine L_makeFunc ?_ | ((with_reducible apply gL_box); (first | (refine JL_mc rfl xR xR (al_boxA xR) ?_; intro _) | (refine JL_mc rfl xR xR (al_boxC xR xR) ?_; intro _) | fail)) | ((with_reducible apply gL_go); (first | (refine JL_goq (hms) (hφ := xF) (h := ?_); rintro _ _ ⟨rfl, rfl⟩; try simp only [List.cons_append, List.nil_append]) | (refine JL_goq (drop_s cb lb tb C.keep C.ask C.now t ad P.length wc C.l hC.l (by omega)) (hφ := xF) (h := ?_); rintro _ _ rfl; try simp only [List.cons_append, List.nil_append]) | (refine JL_goq (all_s cb lb l1 (by omega)) (hφ := (by (try simp only [List.cons_append, List.nil_append]); exact fun w hr => hr.cell (by (first | ((with_reducible (repeat (first | exact Tk.here | apply Tk.there))); done) | ((simp only [List.cons_append, List.nil_append]); (with_reducible (repeat (first | exact Tk.here | apply Tk.there))); done) | fail)) rfl)) (h := ?_); rintro _ _ ⟨a2, c2, rfl, rfl⟩; try simp only [List.cons_append, List.nil_append]) | fail)) | fail)) | ((with_reducible apply gD); (first | (refine JD_nil ?_; try simp only [List.cons_append, List.nil_append]) | (refine JD_bar ?_; try simp only [List.cons_append, List.nil_append]) | ((with_reducible apply gD_c_delete); (first | (first | (refine JD_delG mi_l xR xR xR xA xR ?_; rw [hd1]) | (refine JD_delG mi_l xR xR xR xA xR ?_; rw [hd2]) | (refine JD_delG mi_t xR xR xR xA xR ?_; rw [hd4])) | fail)) | ((with_reducible apply gD_mapUpdate); (first | (refine JD_setG mi_l xR xR xR xA xR ?_; rw [hd3]) | fail)) | refine D_move ?_ | refine D_fieldAddr ?_ | refine D_load ?_ | refine D_nilCheck ?_ | refine D_indexAddr ?_ | refine D_build ?_ | refine D_bin_add_i64 ?_ | refine D_bin_add_r ?_ | ((with_reducible apply gD_load); (first | refine JD_ldM xR xT xC xR xR ?_ | refine JD_ldWM xR xT xW xR ?_ | refine JD_ldSM xR xT (tabS stab_ok xR) xG xC xR ?_ | fail)) | ((with_reducible apply gD_indexAddr); (first | refine JD_ixM xR xR (tabE etab_ok xR) xT xI xO xR ?_ | refine JD_ixV xR xR (tabE etab_ok xR) xT xI xO xR ?_ | fail)) | ((with_reducible apply gD_go); (first | (refine JD_goq (hms) (hφ := xF) (h := ?_); rintro _ _ ⟨rfl, rfl⟩; try simp only [List.cons_append, List.nil_append]) | (refine JD_goq (drop_s cb lb tb C.keep C.ask C.now t ad P.length wc C.l hC.l (by omega)) (hφ := xF) (h := ?_); rintro _ _ rfl; try simp only [List.cons_append, List.nil_append]) | (refine JD_goq (all_s cb lb l1 (by omega)) (hφ := (by (try simp only [List.cons_append, List.nil_append]); exact fun w hr => hr.cell (by (first | ((with_reducible (repeat (first | exact Tk.here | apply Tk.there))); done) | ((simp only [List.cons_append, List.nil_append]); (with_reducible (repeat (first | exact Tk.here | apply Tk.there))); done) | fail)) rfl)) (h := ?_); rintro _ _ ⟨a2, c2, rfl, rfl⟩; try simp only [List.cons_append, List.nil_append]) | fail)) | ((with_reducible apply gD_mapUpdate); (first | refine JD_mapSet xR xR xR (tabM mtab_ok xR) xT xR ?_ | fail)) | fail)) | fail))
    rename_i ab mb v0 x0
    (repeat' (first | ((with_reducible apply gJ); (first | refine J_seq ?_ | refine J_reg ?_ | refine J_skip ?_ | refine J_block ?_ | refine J_blk ?_ | refine J_exit rfl ?_ | refine J_goto rfl ?_ | ((with_reducible apply gJ_if); (first | refine J_ift rfl ?_ | refine J_iff rfl ?_ | (refine J_if xR ?_ ?_ <;> intro _ <;> (try (exfalso; first | contradiction | omega))) | (refine J_ifb xR ?_ ?_ <;> (intro hgb; subst hgb)) | (refine J_ifb xR ?_ ?_ <;> intro _) | fail)) | refine J_label ?_ | refine J_draw (id := 5) [0, 1, 2, 3, 4] [5] mixed xC xD xD ?_ | refine J_draw (id := 7) [0, 1, 2, 3, 4, 5, 6, 7] [8] mixed xC xD xD ?_ | refine J_draw (id := 8) [0, 1, 2, 3, 4, 5, 6, 7, 8, 9, 10, 11, 12] [13] mixed xC xD xD ?_ | refine J_draw (id := 9) [0, 1, 2, 3, 4] [5] mixed xC xD xD ?_ | fail)) | ((with_reducible apply gL); (first | refine JL_nil ?_ | refine L_move ?_ | refine L_assign ?_ | refine L_fieldAddr ?_ | refine L_load ?_ | refine L_nilCheck ?_ | refine L_c_len ?_ | refine L_bin_neq ?_ | refine L_bin_geq ?_ | refine L_makeFunc ?_ | ((with_reducible apply gL_box); (first | (refine JL_mc rfl xR xR (al_boxA xR) ?_; intro _) | (refine JL_mc rfl xR xR (al_boxC xR xR) ?_; intro _) | fail)) | ((with_reducible apply gL_go); (first | (refine JL_goq (hpk [.pointer (some ⟨ab, 0, none⟩)] (fun n => decide (n = a)) (fun w => w.cell? ⟨ab, 0, none⟩ = some (.int .u32 a)) (by decide +kernel) (fun p => learn1_s _ ab cb tb a (fun _ h => h) p)) (hφ := (by (try simp only [List.cons_append, List.nil_append]); exact fun w hr => hr.cell (by (first | ((with_reducible (repeat (first | exact Tk.here | apply Tk.there))); done) | ((simp only [List.cons_append, List.nil_append]); (with_reducible (repeat (first | exact Tk.here | apply Tk.there))); done) | fail)) rfl)) (h := ?_); rintro _ _ ⟨oa, oc, rfl, rfl⟩; try simp only [List.cons_append, List.nil_append]) | fail)) | fail)) | ((with_reducible apply gD); (first | (refine JD_nil ?_; try simp only [List.cons_append, List.nil_append]) | (refine JD_bar ?_; try simp only [List.cons_append, List.nil_append]) | refine D_move ?_ | refine D_fieldAddr ?_ | refine D_load ?_ | refine D_nilCheck ?_ | refine D_indexAddr ?_ | refine D_build ?_ | refine D_bin_add_i64 ?_ | refine D_bin_add_r ?_ | ((with_reducible apply gD_load); (first | refine JD_ldM xR xT xC xR xR ?_ | refine JD_ldWM xR xT xW xR ?_ | refine JD_ldSM xR xT (tabS stab_ok xR) xG xC xR ?_ | fail)) | ((with_reducible apply gD_indexAddr); (first | refine JD_ixM xR xR (tabE etab_ok xR) xT xI xO xR ?_ | refine JD_ixV xR xR (tabE etab_ok xR) xT xI xO xR ?_ | fail)) | ((with_reducible apply gD_go); (first | (refine JD_goq (hpk [.pointer (some ⟨ab, 0, none⟩)] (fun n => decide (n = a)) (fun w => w.cell? ⟨ab, 0, none⟩ = some (.int .u32 a)) (by decide +kernel) (fun p => learn1_s _ ab cb tb a (fun _ h => h) p)) (hφ := (by (try simp only [List.cons_append, List.nil_append]); exact fun w hr => hr.cell (by (first | ((with_reducible (repeat (first | exact Tk.here | apply Tk.there))); done) | ((simp only [List.cons_append, List.nil_append]); (with_reducible (repeat (first | exact Tk.here | apply Tk.there))); done) | fail)) rfl)) (h := ?_); rintro _ _ ⟨oa, oc, rfl, rfl⟩; try simp only [List.cons_append, List.nil_append]) | fail)) | ((with_reducible apply gD_mapUpdate); (first | refine JD_mapSet xR xR xR (tabM mtab_ok xR) xT xR ?_ | fail)) | fail)) | fail))
    refine J_ret2 rfl (by rfl) (by rfl) fun w H => ⟨_, ⟨oa, oc, osOf P (fun n => decide (n = a)) P.length, ?_, rfl, rfl⟩, ?_⟩
    · exact os_eq hP _
    · rw [hfl]
      have H := psPick (fun n => decide (n = a)) H (by (first | ((with_reducible (repeat (first | exact Tk.here | apply Tk.there))); done) | ((simp only [List.cons_append, List.nil_append]); (with_reducible (repeat (first | exact Tk.here | apply Tk.there))); done) | fail))
      exact (caShut (C := ⟨C.keep, C.ask, t, l2 ++ [(a, (m, t + C.keep))], C.w.filter (fun p => !decide (p.1 = a)), del C.th a⟩) (ps_eq hP _) rfl rfl rfl rfl rfl rfl H (by (first | ((with_reducible (repeat (first | exact Sb.nil | apply Sb.cons | exact Tk.here | apply Tk.there))); done) | (repeat (first | exact Sb.nil | apply Sb.cons | exact Tk.here | apply Tk.there))))).sel (by (first | ((with_reducible (repeat (first | exact Sb.nil | apply Sb.cons | exact Tk.here | apply Tk.there))); done) | (repeat (first | exact Sb.nil | apply Sb.cons | exact Tk.here | apply Tk.there))))
  · have e : l1 = l2 := by rw [← hl2]; unfold fit; rw [if_neg h32]
    subst e
    (repeat' (first | ((with_reducible apply gJ); (first | refine J_seq ?_ | refine J_reg ?_ | refine J_skip ?_ | refine J_block ?_ | refine J_blk ?_ | refine J_exit rfl ?_ | refine J_goto rfl ?_ | ((with_reducible apply gJ_if); (first | refine J_ift rfl ?_ | refine J_iff rfl ?_ | (refine J_if xR ?_ ?_ <;> intro _ <;> (try (exfalso; first | contradiction | omega))) | (refine J_ifb xR ?_ ?_ <;> (intro hgb; subst hgb)) | (refine J_ifb xR ?_ ?_ <;> intro _) | fail)) | refine J_label ?_ | refine J_draw (id := 5) [0, 1, 2, 3, 4] [5] mixed xC xD xD ?_ | refine J_draw (id := 7) [0, 1, 2, 3, 4, 5, 6, 7] [8] mixed xC xD xD ?_ | refine J_draw (id := 8) [0, 1, 2, 3, 4, 5, 6, 7, 8, 9, 10, 11, 12] [13] mixed xC xD xD ?_ | refine J_draw (id := 9) [0, 1, 2, 3, 4] [5] mixed xC xD xD ?_ | fail)) | ((with_reducible apply gL); (first | refine JL_nil ?_ | ((with_reducible apply gL_c_len); (first | (refine JL_p rfl xR xR (pe_lenG mi_l xR xA hln) ?_) | fail)) | refine L_move ?_ | refine L_assign ?_ | refine L_fieldAddr ?_ | refine L_load ?_ | refine L_nilCheck ?_ | refine L_c_len ?_ | refine L_bin_neq ?_ | refine L_bin_geq ?_ | refine L_makeFunc ?_ | ((with_reducible apply gL_box); (first | (refine JL_mc rfl xR xR (al_boxA xR) ?_; intro _) | (refine JL_mc rfl xR xR (al_boxC xR xR) ?_; intro _) | fail)) | ((with_reducible apply gL_go); (first | (refine JL_goq (hms) (hφ := xF) (h := ?_); rintro _ _ ⟨rfl, rfl⟩; try simp only [List.cons_append, List.nil_append]) | (refine JL_goq (drop_s cb lb tb C.keep C.ask C.now t ad P.length wc C.l hC.l (by omega)) (hφ := xF) (h := ?_); rintro _ _ rfl; try simp only [List.cons_append, List.nil_append]) | fail)) | fail)) | ((with_reducible apply gD); (first | (refine JD_nil ?_; try simp only [List.cons_append, List.nil_append]) | (refine JD_bar ?_; try simp only [List.cons_append, List.nil_append]) | ((with_reducible apply gD_c_delete); (first | (first | (refine JD_delG mi_l xR xR xR xA xR ?_; rw [hd1]) | (refine JD_delG mi_t xR xR xR xA xR ?_; rw [hd4])) | fail)) | ((with_reducible apply gD_mapUpdate); (first | (refine JD_setG mi_l xR xR xR xA xR ?_; rw [hd3]) | fail)) | refine D_move ?_ | refine D_fieldAddr ?_ | refine D_load ?_ | refine D_nilCheck ?_ | refine D_indexAddr ?_ | refine D_build ?_ | refine D_bin_add_i64 ?_ | refine D_bin_add_r ?_ | ((with_reducible apply gD_load); (first | refine JD_ldM xR xT xC xR xR ?_ | refine JD_ldWM xR xT xW xR ?_ | refine JD_ldSM xR xT (tabS stab_ok xR) xG xC xR ?_ | fail)) | ((with_reducible apply gD_indexAddr); (first | refine JD_ixM xR xR (tabE etab_ok xR) xT xI xO xR ?_ | refine JD_ixV xR xR (tabE etab_ok xR) xT xI xO xR ?_ | fail)) | ((with_reducible apply gD_go); (first | (refine JD_goq (hms) (hφ := xF) (h := ?_); rintro _ _ ⟨rfl, rfl⟩; try simp only [List.cons_append, List.nil_append]) | (refine JD_goq (drop_s cb lb tb C.keep C.ask C.now t ad P.length wc C.l hC.l (by omega)) (hφ := xF) (h := ?_); rintro _ _ rfl; try simp only [List.cons_append, List.nil_append]) | fail)) | ((with_reducible apply gD_mapUpdate); (first | refine JD_mapSet xR xR xR (tabM mtab_ok xR) xT xR ?_ | fail)) | fail)) | fail))
    rename_i ab mb v0 x0
    (repeat' (first | ((with_reducible apply gJ); (first | refine J_seq ?_ | refine J_reg ?_ | refine J_skip ?_ | refine J_block ?_ | refine J_blk ?_ | refine J_exit rfl ?_ | refine J_goto rfl ?_ | ((with_reducible apply gJ_if); (first | refine J_ift rfl ?_ | refine J_iff rfl ?_ | (refine J_if xR ?_ ?_ <;> intro _ <;> (try (exfalso; first | contradiction | omega))) | (refine J_ifb xR ?_ ?_ <;> (intro hgb; subst hgb)) | (refine J_ifb xR ?_ ?_ <;> intro _) | fail)) | refine J_label ?_ | refine J_draw (id := 5) [0, 1, 2, 3, 4] [5] mixed xC xD xD ?_ | refine J_draw (id := 7) [0, 1, 2, 3, 4, 5, 6, 7] [8] mixed xC xD xD ?_ | refine J_draw (id := 8) [0, 1, 2, 3, 4, 5, 6, 7, 8, 9, 10, 11, 12] [13] mixed xC xD xD ?_ | refine J_draw (id := 9) [0, 1, 2, 3, 4] [5] mixed xC xD xD ?_ | fail)) | ((with_reducible apply gL); (first | refine JL_nil ?_ | refine L_move ?_ | refine L_assign ?_ | refine L_fieldAddr ?_ | refine L_load ?_ | refine L_nilCheck ?_ | refine L_c_len ?_ | refine L_bin_neq ?_ | refine L_bin_geq ?_ | refine L_makeFunc ?_ | ((with_reducible apply gL_box); (first | (refine JL_mc rfl xR xR (al_boxA xR) ?_; intro _) | (refine JL_mc rfl xR xR (al_boxC xR xR) ?_; intro _) | fail)) | ((with_reducible apply gL_go); (first | (refine JL_goq (hpk [.pointer (some ⟨ab, 0, none⟩)] (fun n => decide (n = a)) (fun w => w.cell? ⟨ab, 0, none⟩ = some (.int .u32 a)) (by decide +kernel) (fun p => learn1_s _ ab cb tb a (fun _ h => h) p)) (hφ := (by (try simp only [List.cons_append, List.nil_append]); exact fun w hr => hr.cell (by (first | ((with_reducible (repeat (first | exact Tk.here | apply Tk.there))); done) | ((simp only [List.cons_append, List.nil_append]); (with_reducible (repeat (first | exact Tk.here | apply Tk.there))); done) | fail)) rfl)) (h := ?_); rintro _ _ ⟨oa, oc, rfl, rfl⟩; try simp only [List.cons_append, List.nil_append]) | fail)) | fail)) | ((with_reducible apply gD); (first | (refine JD_nil ?_; try simp only [List.cons_append, List.nil_append]) | (refine JD_bar ?_; try simp only [List.cons_append, List.nil_append]) | refine D_move ?_ | refine D_fieldAddr ?_ | refine D_load ?_ | refine D_nilCheck ?_ | refine D_indexAddr ?_ | refine D_build ?_ | refine D_bin_add_i64 ?_ | refine D_bin_add_r ?_ | ((with_reducible apply gD_load); (first | refine JD_ldM xR xT xC xR xR ?_ | refine JD_ldWM xR xT xW xR ?_ | refine JD_ldSM xR xT (tabS stab_ok xR) xG xC xR ?_ | fail)) | ((with_reducible apply gD_indexAddr); (first | refine JD_ixM xR xR (tabE etab_ok xR) xT xI xO xR ?_ | refine JD_ixV xR xR (tabE etab_ok xR) xT xI xO xR ?_ | fail)) | ((with_reducible apply gD_go); (first | (refine JD_goq (hpk [.pointer (some ⟨ab, 0, none⟩)] (fun n => decide (n = a)) (fun w => w.cell? ⟨ab, 0, none⟩ = some (.int .u32 a)) (by decide +kernel) (fun p => learn1_s _ ab cb tb a (fun _ h => h) p)) (hφ := (by (try simp only [List.cons_append, List.nil_append]); exact fun w hr => hr.cell (by (first | ((with_reducible (repeat (first | exact Tk.here | apply Tk.there))); done) | ((simp only [List.cons_append, List.nil_append]); (with_reducible (repeat (first | exact Tk.here | apply Tk.there))); done) | fail)) rfl)) (h := ?_); rintro _ _ ⟨oa, oc, rfl, rfl⟩; try simp only [List.cons_append, List.nil_append]) | fail)) | ((with_reducible apply gD_mapUpdate); (first | refine JD_mapSet xR xR xR (tabM mtab_ok xR) xT xR ?_ | fail)) | fail)) | fail))
    refine J_ret2 rfl (by rfl) (by rfl) fun w H => ⟨_, ⟨oa, oc, osOf P (fun n => decide (n = a)) P.length, ?_, rfl, rfl⟩, ?_⟩
    · exact os_eq hP _
    · rw [hfl]
      have H := psPick (fun n => decide (n = a)) H (by (first | ((with_reducible (repeat (first | exact Tk.here | apply Tk.there))); done) | ((simp only [List.cons_append, List.nil_append]); (with_reducible (repeat (first | exact Tk.here | apply Tk.there))); done) | fail))
      exact (caShut (C := ⟨C.keep, C.ask, t, l1 ++ [(a, (m, t + C.keep))], C.w.filter (fun p => !decide (p.1 = a)), del C.th a⟩) (ps_eq hP _) rfl rfl rfl rfl rfl rfl H (by (first | ((with_reducible (repeat (first | exact Sb.nil | apply Sb.cons | exact Tk.here | apply Tk.there))); done) | (repeat (first | exact Sb.nil | apply Sb.cons | exact Tk.here | apply Tk.there))))).sel (by (first | ((with_reducible (repeat (first | exact Sb.nil | apply Sb.cons | exact Tk.here | apply Tk.there))); done) | (repeat (first | exact Sb.nil | apply Sb.cons | exact Tk.here | apply Tk.there))))
end Go.Proofs.Ytohahlcjkhgimaa
