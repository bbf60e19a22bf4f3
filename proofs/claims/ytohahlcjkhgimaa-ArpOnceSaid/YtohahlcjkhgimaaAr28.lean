/-
  Age: its walk.
-/
import Derived.Test.YtohahlcjkhgimaaAr27
namespace Go.Proofs.Ytohahlcjkhgimaa
set_option linter.unusedSimpArgs false
set_option linter.unusedVariables false
set_option maxRecDepth 20000
set_option maxHeartbeats 4000000
open Go.RowKit Go.Pm Go.Sort

/-- The time of the entry at a place. -/
def valAt (es : List (Int × Int)) (i : Nat) : Int := ((es[i]?).map (·.2)).getD 0
/-- The addresses whose time has come, of those that were handed out. -/
def oldOf (es : List (Int × Int)) (t : Int) (d : List Nat) : List Int := (d.filter fun i => decide (valAt es i ≤ t)).map (keyAt es)
theorem oldOf_snoc (es : List (Int × Int)) (t : Int) (d : List Nat) {i : Nat} {p : Int × Int} (h : es[i]? = some p) : oldOf es t (d ++ [i]) = oldOf es t d ++ (if p.2 ≤ t then [p.1] else []) := by
  unfold oldOf
  rw [List.filter_append, List.map_append]
  have h1 : valAt es i = p.2 := by unfold valAt; rw [h]; rfl
  have h2 : keyAt es i = p.1 := by unfold keyAt; rw [h]; rfl
  by_cases hp : p.2 ≤ t
  · rw [if_pos hp]; simp [h1, h2, hp]
  · rw [if_neg hp]; simp [h1, hp]
theorem oldOf_len (es : List (Int × Int)) (t : Int) (d : List Nat) : (oldOf es t d).length ≤ d.length := by
  unfold oldOf
  rw [List.length_map]
  exact List.length_filter_le _ _
theorem oldOf_mem {es : List (Int × Int)} (hk : Ko es) {t : Int} {d : List Nat} (hd : ∀ i ∈ d, i < es.length) (ha : ∀ i, i < es.length → i ∈ d) {p : Int × Int} (hp : p ∈ es) : p.1 ∈ oldOf es t d ↔ p.2 ≤ t := by
  unfold oldOf
  constructor
  · intro h
    obtain ⟨i, hi, e⟩ := List.mem_map.1 h
    obtain ⟨h1, h2⟩ := List.mem_filter.1 hi
    have h3 := hd i h1
    have h4 : es[i]? = some es[i] := List.getElem?_eq_getElem h3
    have h5 : keyAt es i = es[i].1 := by unfold keyAt; rw [h4]; rfl
    have h6 : valAt es i = es[i].2 := by unfold valAt; rw [h4]; rfl
    rw [h5] at e
    rw [h6] at h2
    have h7 : (p.1, es[i].2) ∈ es := by rw [← e]; exact List.getElem_mem h3
    have h8 : (p.1, p.2) ∈ es := hp
    rw [hk.same h8 h7]
    simpa using h2
  · intro h
    obtain ⟨i, h3, e⟩ := List.getElem_of_mem hp
    have h4 : es[i]? = some p := by rw [List.getElem?_eq_getElem h3, e]
    refine List.mem_map.2 ⟨i, List.mem_filter.2 ⟨ha i h3, ?_⟩, ?_⟩
    · unfold valAt; rw [h4]; simpa using h
    · unfold keyAt; rw [h4]; rfl
def wo (es : List (Int × Int)) (l : List Int) : List (Int × Int) := es.filter fun p => decide (p.1 ∉ l)
theorem wo_nil (es : List (Int × Int)) : wo es [] = es := List.filter_eq_self.2 fun p _ => by simp
theorem wo_snoc (es : List (Int × Int)) (l : List Int) (a : Int) : del (wo es l) a = wo es (l ++ [a]) := by
  unfold del wo
  rw [List.filter_filter]
  refine List.filter_congr fun p _ => ?_
  rw [Bool.eq_iff_iff]
  simp only [Bool.and_eq_true, decide_eq_true_eq, List.mem_append, List.mem_singleton, not_or]
  exact And.comm
theorem wo_all {es : List (Int × Int)} (hk : Ko es) {t : Int} {d : List Nat} (hd : ∀ i ∈ d, i < es.length) (ha : ∀ i, i < es.length → i ∈ d) : wo es (oldOf es t d) = es.filter (fun p => !decide (p.2 ≤ t)) := by
  unfold wo
  refine List.filter_congr fun p hp => ?_
  have h := oldOf_mem hk (t := t) hd ha hp
  rw [Bool.eq_iff_iff]
  simp only [decide_eq_true_eq, Bool.not_eq_true', decide_eq_false_iff_not]
  exact not_congr h
theorem age_s (cb : Nat) (C : Ca) (t : Int) (hC : CaOk C) (ht : C.now ≤ t ∧ t ≤ 1099511627776) (hth : C.th.length ≤ 1000000) : Pact Try.prog 23 #[.pointer (some ⟨cb, 0, none⟩), .int .i64 t] (fun _ => True) [caA cb C] (fun u L' => u = .tuple #[.int .i64 (C.w.filter (fun p => decide (thenOf C.th p.1 ≤ t))).length, .int .i64 0] ∧ L' = [caA cb (ageC C t)]) := by
  refine pact Try.func23 rfl Try.ntmps23 rfl ?_
  intro W K _
  have hnow := hC.now
  have hll := hC.ll
  have hwl := hC.wl
  refine J_open (fun w H => caOpen H .here) ?_
  rintro ⟨⟨lb, tb, ad, wc, P⟩, hP⟩
  dsimp only at hP ⊢
  have hPl : P.length ≤ 8 := by rw [← hP, List.length_map] at hwl; exact hwl
  have hmay : mayE C.now t = 0 := by unfold mayE; rw [if_neg (by omega)]
  have hms := may_s cb lb tb C.keep C.ask C.now t ad P.length wc
  rw [hmay] at hms
  have hpk := pick_s cb lb tb C.keep C.ask t ad wc P (by omega) 39
  have hlen : (tV C.th).length = C.th.length := by simp [tV]
  obtain ⟨q, hq⟩ : ∃ q : Int → Bool, (fun n => decide (thenOf C.th n ≤ t)) = q := ⟨_, rfl⟩
  have hos : (osOf P q P.length).length = (C.w.filter (fun p => q p.1)).length := by
    have := congrArg List.length (os_eq hP q)
    simpa using this
  have hosl : (osOf P q P.length).length ≤ 8 := by
    have := List.length_filter_le (fun p : Int × List Int => q p.1) C.w
    omega
  have hgq : ageC C t = ⟨C.keep, C.ask, t, live C.l t, C.w.filter (fun p => !q p.1), C.th.filter (fun p => !decide (p.2 ≤ t))⟩ := by rw [← hq]; rfl
  have hgw : C.w.filter (fun p => decide (thenOf C.th p.1 ≤ t)) = C.w.filter (fun p => q p.1) := by rw [← hq]
  rw [hgq, hgw, ← hos]
  (repeat' (first | ((with_reducible apply gJ); (first | refine J_seq ?_ | refine J_reg ?_ | refine J_skip ?_ | refine J_block ?_ | refine J_blk ?_ | refine J_exit rfl ?_ | refine J_goto rfl ?_ | ((with_reducible apply gJ_if); (first | refine J_ift rfl ?_ | refine J_iff rfl ?_ | (refine J_if xR ?_ ?_ <;> intro _ <;> (try (exfalso; first | contradiction | omega))) | (refine J_ifb xR ?_ ?_ <;> (intro hgb; subst hgb)) | (refine J_ifb xR ?_ ?_ <;> intro _) | fail)) | refine J_label ?_ | fail)) | ((with_reducible apply gL); (first | refine JL_nil ?_ | refine L_move ?_ | refine L_assign ?_ | refine L_fieldAddr ?_ | refine L_load ?_ | refine L_nilCheck ?_ | refine L_indexAddr ?_ | refine L_extract ?_ | refine L_c_len ?_ | refine L_bin_neq ?_ | refine L_bin_lss ?_ | refine L_bin_leq ?_ | refine L_makeFunc ?_ | refine L_bin_add_i64 ?_ | refine L_bin_add_r ?_ | ((with_reducible apply gL_box); (first | (refine JL_mc rfl xR xR (al_boxA xR) ?_; intro _) | (refine JL_mc rfl xR xR (al_boxC xR xR) ?_; intro _) | fail)) | ((with_reducible apply gL_buildSlice); (first | (refine JL_mc rfl xR xR (al_bs1 xR (tabE etab_ok xR) xK) ?_; intro _) | (refine JL_mc rfl xR xR (al_bs xR (tabE etab_ok xR) xN xK) ?_; intro _) | fail)) | ((with_reducible apply gL_c_append); (first | (refine JL_ap1 (tabE etab_ok xR) xR xR xT xT xC xR xL xR xO xR xR ?_; intro _ _ _ _) | (refine JL_app (tabE etab_ok xR) xR xR xT xV xC xL xU xO xR xR ?_; intro _ _ _ _) | fail)) | ((with_reducible apply gL_go); (first | (refine JL_goq (hms) (hφ := xF) (h := ?_); rintro _ _ ⟨rfl, rfl⟩; try simp only [List.cons_append, List.nil_append]) | (refine JL_goq (drop_s cb lb tb C.keep C.ask C.now t ad P.length wc C.l hC.l (by omega)) (hφ := xF) (h := ?_); rintro _ _ rfl; try simp only [List.cons_append, List.nil_append]) | fail)) | fail)) | fail))
  rename_i xb nb v0
  (repeat' (first | ((with_reducible apply gJ); (first | refine J_seq ?_ | refine J_reg ?_ | refine J_skip ?_ | refine J_block ?_ | refine J_blk ?_ | refine J_exit rfl ?_ | refine J_goto rfl ?_ | ((with_reducible apply gJ_if); (first | refine J_ift rfl ?_ | refine J_iff rfl ?_ | (refine J_if xR ?_ ?_ <;> intro _ <;> (try (exfalso; first | contradiction | omega))) | (refine J_ifb xR ?_ ?_ <;> (intro hgb; subst hgb)) | (refine J_ifb xR ?_ ?_ <;> intro _) | fail)) | refine J_label ?_ | fail)) | ((with_reducible apply gL); (first | refine JL_nil ?_ | ((with_reducible apply gL_range); (first | (refine JL_range (Value.int .u32) Try.underlying67 xR xA xR xR ?_; intro r) | fail)) | refine L_move ?_ | refine L_assign ?_ | refine L_fieldAddr ?_ | refine L_load ?_ | refine L_nilCheck ?_ | refine L_indexAddr ?_ | refine L_extract ?_ | refine L_c_len ?_ | refine L_bin_neq ?_ | refine L_bin_lss ?_ | refine L_bin_leq ?_ | refine L_makeFunc ?_ | refine L_bin_add_i64 ?_ | refine L_bin_add_r ?_ | ((with_reducible apply gL_box); (first | (refine JL_mc rfl xR xR (al_boxA xR) ?_; intro _) | (refine JL_mc rfl xR xR (al_boxC xR xR) ?_; intro _) | fail)) | ((with_reducible apply gL_buildSlice); (first | (refine JL_mc rfl xR xR (al_bs1 xR (tabE etab_ok xR) xK) ?_; intro _) | (refine JL_mc rfl xR xR (al_bs xR (tabE etab_ok xR) xN xK) ?_; intro _) | fail)) | ((with_reducible apply gL_c_append); (first | (refine JL_ap1 (tabE etab_ok xR) xR xR xT xT xC xR xL xR xO xR xR ?_; intro _ _ _ _) | (refine JL_app (tabE etab_ok xR) xR xR xT xV xC xL xU xO xR xR ?_; intro _ _ _ _) | fail)) | ((with_reducible apply gL_go); (first | (refine JL_goq (hpk [.pointer (some ⟨xb, 0, none⟩), .pointer (some ⟨nb, 0, none⟩)] q (ageK xb nb cb tb t C.th) (by decide +kernel) (fun p => by rw [← hq]; exact age1_s xb nb cb tb t C.th p)) (hφ := (by (try simp only [List.cons_append, List.nil_append]); exact fun w hr => ⟨hr.cell (by (first | ((with_reducible (repeat (first | exact Tk.here | apply Tk.there))); done) | ((simp only [List.cons_append, List.nil_append]); (with_reducible (repeat (first | exact Tk.here | apply Tk.there))); done) | fail)) rfl, hr.cell (by (first | ((with_reducible (repeat (first | exact Tk.here | apply Tk.there))); done) | ((simp only [List.cons_append, List.nil_append]); (with_reducible (repeat (first | exact Tk.here | apply Tk.there))); done) | fail)) rfl, hr.mq (by (first | ((with_reducible (repeat (first | exact Tk.here | apply Tk.there))); done) | ((simp only [List.cons_append, List.nil_append]); (with_reducible (repeat (first | exact Tk.here | apply Tk.there))); done) | fail))⟩)) (h := ?_); rintro _ _ ⟨oa, oc, rfl, rfl⟩; try simp only [List.cons_append, List.nil_append]) | fail)) | fail)) | fail))
  refine J_loop (α := Ld) ⟨[], none, 0⟩ (fun x => C.th.length - x.d.length) (fun x => x.d.Nodup ∧ ∀ i ∈ x.d, i < C.th.length)
    (fun x => [(2, .pointer (some ⟨xb, 0, none⟩)), (3, .pointer (some ⟨nb, 0, none⟩)), (7, .int .i64 (osOf P q P.length).length), (8, .slice x.ad (oldOf C.th t x.d).length x.c), (30, .pointer (some ⟨r, 0, none⟩))])
    (fun x => [rg (Value.int .u32) tb r (tV C.th) x.d, Ar 24 1 adC (.slice x.ad (oldOf C.th t x.d).length x.c) (oldOf C.th t x.d), pts xb [.pointer (some ⟨cb, 0, none⟩)] 28, pts nb [.int .i64 t] 3,
      pts cb (caC C.keep C.ask t lb tb ad (psOf P q P.length).length wc) 69, mqA lb (lV (live C.l t)), Ar 81 2 pkC (.slice ad (psOf P q P.length).length wc) (psOf P q P.length), sats ((psOf P q P.length).map pP)])
    ⟨.nil, by simp⟩ ⟨rfl, rfl, rfl, rfl, rfl, trivial⟩ (fun w H => ?_) ?_
  · have H := (Ow.arNil (e := 24) (sz := 1) (enc := adC) H)
    have H := psPick q H (by (first | ((with_reducible (repeat (first | exact Tk.here | apply Tk.there))); done) | ((simp only [List.cons_append, List.nil_append]); (with_reducible (repeat (first | exact Tk.here | apply Tk.there))); done) | fail))
    exact H.sel (by (first | ((with_reducible (repeat (first | exact Sb.nil | apply Sb.cons | exact Tk.here | apply Tk.there))); done) | (repeat (first | exact Sb.nil | apply Sb.cons | exact Tk.here | apply Tk.there))))
  rintro ⟨d, a2, c2⟩ ⟨hnd, hd⟩
  dsimp only at hnd hd ⊢
  have hdl := nd_len _ _ hnd hd
  have hol := oldOf_len C.th t d
  (repeat' (first | ((with_reducible apply gJ); (first | refine J_seq ?_ | refine J_reg ?_ | refine J_skip ?_ | refine J_block ?_ | refine J_blk ?_ | refine J_exit rfl ?_ | refine J_goto rfl ?_ | ((with_reducible apply gJ_if); (first | refine J_ift rfl ?_ | refine J_iff rfl ?_ | (refine J_if xR ?_ ?_ <;> intro _ <;> (try (exfalso; first | contradiction | omega))) | (refine J_ifb xR ?_ ?_ <;> (intro hgb; subst hgb)) | (refine J_ifb xR ?_ ?_ <;> intro _) | fail)) | refine J_label ?_ | fail)) | ((with_reducible apply gL); (first | refine JL_nil ?_ | ((with_reducible apply gL_next); (first | (refine JL_next (Value.int .u32) xR xA xR xR ?_ ?_) | fail)) | refine L_move ?_ | refine L_assign ?_ | refine L_fieldAddr ?_ | refine L_load ?_ | refine L_nilCheck ?_ | refine L_indexAddr ?_ | refine L_extract ?_ | refine L_c_len ?_ | refine L_bin_neq ?_ | refine L_bin_lss ?_ | refine L_bin_leq ?_ | refine L_makeFunc ?_ | refine L_bin_add_i64 ?_ | refine L_bin_add_r ?_ | ((with_reducible apply gL_box); (first | (refine JL_mc rfl xR xR (al_boxA xR) ?_; intro _) | (refine JL_mc rfl xR xR (al_boxC xR xR) ?_; intro _) | fail)) | ((with_reducible apply gL_buildSlice); (first | (refine JL_mc rfl xR xR (al_bs1 xR (tabE etab_ok xR) xK) ?_; intro _) | (refine JL_mc rfl xR xR (al_bs xR (tabE etab_ok xR) xN xK) ?_; intro _) | fail)) | ((with_reducible apply gL_c_append); (first | (refine JL_ap1 (tabE etab_ok xR) xR xR xT xT xC xR xL xR xO xR xR ?_; intro _ _ _ _) | (refine JL_app (tabE etab_ok xR) xR xR xT xV xC xL xU xO xR xR ?_; intro _ _ _ _) | fail)) | fail)) | fail))
  · intro hall
    rw [hlen] at hall
    refine JL_heap (fun w H => Ow.rgOver H .here) ?_
    (repeat' (first | ((with_reducible apply gJ); (first | refine J_seq ?_ | refine J_reg ?_ | refine J_skip ?_ | refine J_block ?_ | refine J_blk ?_ | refine J_exit rfl ?_ | refine J_goto rfl ?_ | ((with_reducible apply gJ_if); (first | refine J_ift rfl ?_ | refine J_iff rfl ?_ | (refine J_if xR ?_ ?_ <;> intro _ <;> (try (exfalso; first | contradiction | omega))) | (refine J_ifb xR ?_ ?_ <;> (intro hgb; subst hgb)) | (refine J_ifb xR ?_ ?_ <;> intro _) | fail)) | refine J_label ?_ | fail)) | ((with_reducible apply gL); (first | refine JL_nil ?_ | refine L_move ?_ | refine L_assign ?_ | refine L_fieldAddr ?_ | refine L_load ?_ | refine L_nilCheck ?_ | refine L_indexAddr ?_ | refine L_extract ?_ | refine L_c_len ?_ | refine L_bin_neq ?_ | refine L_bin_lss ?_ | refine L_bin_leq ?_ | refine L_makeFunc ?_ | refine L_bin_add_i64 ?_ | refine L_bin_add_r ?_ | ((with_reducible apply gL_box); (first | (refine JL_mc rfl xR xR (al_boxA xR) ?_; intro _) | (refine JL_mc rfl xR xR (al_boxC xR xR) ?_; intro _) | fail)) | ((with_reducible apply gL_buildSlice); (first | (refine JL_mc rfl xR xR (al_bs1 xR (tabE etab_ok xR) xK) ?_; intro _) | (refine JL_mc rfl xR xR (al_bs xR (tabE etab_ok xR) xN xK) ?_; intro _) | fail)) | ((with_reducible apply gL_c_append); (first | (refine JL_ap1 (tabE etab_ok xR) xR xR xT xT xC xR xL xR xO xR xR ?_; intro _ _ _ _) | (refine JL_app (tabE etab_ok xR) xR xR xT xV xC xL xU xO xR xR ?_; intro _ _ _ _) | fail)) | fail)) | fail))
    obtain ⟨ks, hks⟩ : ∃ ks, oldOf C.th t d = ks := ⟨_, rfl⟩
    have hkl : ks.length ≤ 1000000 := by rw [← hks]; omega
    rw [hks]
    refine J_loop (α := Nat) 0 (fun x => ks.length - x) (fun x => x ≤ ks.length) (fun x => [(2, .pointer (some ⟨xb, 0, none⟩)), (7, .int .i64 (osOf P q P.length).length), (43, .slice a2 ks.length c2), (44, .int .i64 ks.length), (45, .int .i64 x)])
      (fun x => [mqA tb (tV (wo C.th (ks.take x))), Ar 24 1 adC (.slice a2 ks.length c2) ks, pts xb [.pointer (some ⟨cb, 0, none⟩)] 28,
      pts cb (caC C.keep C.ask t lb tb ad (psOf P q P.length).length wc) 69, mqA lb (lV (live C.l t)), Ar 81 2 pkC (.slice ad (psOf P q P.length).length wc) (psOf P q P.length), sats ((psOf P q P.length).map pP)]) (Nat.zero_le _) ⟨rfl, rfl, rfl, rfl, rfl, trivial⟩ (fun w H => by rw [List.take_zero, wo_nil]; exact H.sel (by (first | ((with_reducible (repeat (first | exact Sb.nil | apply Sb.cons | exact Tk.here | apply Tk.there))); done) | (repeat (first | exact Sb.nil | apply Sb.cons | exact Tk.here | apply Tk.there))))) ?_
    intro x hx
    by_cases hlt : x < ks.length
    · obtain ⟨a, ha⟩ : ∃ a, ks[x]? = some a := ⟨_, List.getElem?_eq_getElem hlt⟩
      have hwk : Ko (wo C.th (ks.take x)) := hC.th.sub List.filter_sublist
      (repeat' (first | ((with_reducible apply gJ); (first | refine J_seq ?_ | refine J_reg ?_ | refine J_skip ?_ | refine J_block ?_ | refine J_blk ?_ | refine J_exit rfl ?_ | refine J_goto rfl ?_ | ((with_reducible apply gJ_if); (first | refine J_ift rfl ?_ | refine J_iff rfl ?_ | (refine J_if xR ?_ ?_ <;> intro _ <;> (try (exfalso; first | contradiction | omega))) | (refine J_ifb xR ?_ ?_ <;> (intro hgb; subst hgb)) | (refine J_ifb xR ?_ ?_ <;> intro _) | fail)) | refine J_label ?_ | fail)) | ((with_reducible apply gL); (first | refine JL_nil ?_ | ((with_reducible apply gL_c_delete); (first | (refine JL_delG mi_t xR xR xR xA xR ?_) | fail)) | refine L_move ?_ | refine L_assign ?_ | refine L_fieldAddr ?_ | refine L_load ?_ | refine L_nilCheck ?_ | refine L_indexAddr ?_ | refine L_extract ?_ | refine L_c_len ?_ | refine L_bin_neq ?_ | refine L_bin_lss ?_ | refine L_bin_leq ?_ | refine L_makeFunc ?_ | refine L_bin_add_i64 ?_ | refine L_bin_add_r ?_ | ((with_reducible apply gL_box); (first | (refine JL_mc rfl xR xR (al_boxA xR) ?_; intro _) | (refine JL_mc rfl xR xR (al_boxC xR xR) ?_; intro _) | fail)) | ((with_reducible apply gL_buildSlice); (first | (refine JL_mc rfl xR xR (al_bs1 xR (tabE etab_ok xR) xK) ?_; intro _) | (refine JL_mc rfl xR xR (al_bs xR (tabE etab_ok xR) xN xK) ?_; intro _) | fail)) | ((with_reducible apply gL_c_append); (first | (refine JL_ap1 (tabE etab_ok xR) xR xR xT xT xC xR xL xR xO xR xR ?_; intro _ _ _ _) | (refine JL_app (tabE etab_ok xR) xR xR xT xV xC xL xU xO xR xR ?_; intro _ _ _ _) | fail)) | fail)) | fail))
      rw [del_t hwk, wo_snoc, ← take_snoc ha]
      exact J_again (x + 1) (by omega) (by omega) ⟨rfl, rfl, rfl, rfl, rfl, trivial⟩ (fun w H => H.sel (by (first | ((with_reducible (repeat (first | exact Sb.nil | apply Sb.cons | exact Tk.here | apply Tk.there))); done) | (repeat (first | exact Sb.nil | apply Sb.cons | exact Tk.here | apply Tk.there)))))
    · have hxe : x = ks.length := by omega
      subst hxe
      rw [List.take_length, ← hks, wo_all hC.th hd hall]
      (repeat' (first | ((with_reducible apply gJ); (first | refine J_seq ?_ | refine J_reg ?_ | refine J_skip ?_ | refine J_block ?_ | refine J_blk ?_ | refine J_exit rfl ?_ | refine J_goto rfl ?_ | ((with_reducible apply gJ_if); (first | refine J_ift rfl ?_ | refine J_iff rfl ?_ | (refine J_if xR ?_ ?_ <;> intro _ <;> (try (exfalso; first | contradiction | omega))) | (refine J_ifb xR ?_ ?_ <;> (intro hgb; subst hgb)) | (refine J_ifb xR ?_ ?_ <;> intro _) | fail)) | refine J_label ?_ | fail)) | ((with_reducible apply gL); (first | refine JL_nil ?_ | refine L_move ?_ | refine L_assign ?_ | refine L_fieldAddr ?_ | refine L_load ?_ | refine L_nilCheck ?_ | refine L_indexAddr ?_ | refine L_extract ?_ | refine L_c_len ?_ | refine L_bin_neq ?_ | refine L_bin_lss ?_ | refine L_bin_leq ?_ | refine L_makeFunc ?_ | refine L_bin_add_i64 ?_ | refine L_bin_add_r ?_ | ((with_reducible apply gL_box); (first | (refine JL_mc rfl xR xR (al_boxA xR) ?_; intro _) | (refine JL_mc rfl xR xR (al_boxC xR xR) ?_; intro _) | fail)) | ((with_reducible apply gL_buildSlice); (first | (refine JL_mc rfl xR xR (al_bs1 xR (tabE etab_ok xR) xK) ?_; intro _) | (refine JL_mc rfl xR xR (al_bs xR (tabE etab_ok xR) xN xK) ?_; intro _) | fail)) | ((with_reducible apply gL_c_append); (first | (refine JL_ap1 (tabE etab_ok xR) xR xR xT xT xC xR xL xR xO xR xR ?_; intro _ _ _ _) | (refine JL_app (tabE etab_ok xR) xR xR xT xV xC xL xU xO xR xR ?_; intro _ _ _ _) | fail)) | fail)) | fail))
      refine J_ret2 rfl (by rfl) (by rfl) fun w H => ⟨_, ⟨rfl, rfl⟩, ?_⟩
      exact (caShut (C := ⟨C.keep, C.ask, t, live C.l t, C.w.filter (fun p => !q p.1), C.th.filter (fun p => !decide (p.2 ≤ t))⟩) (ps_eq hP _) rfl rfl rfl rfl rfl rfl H (by (first | ((with_reducible (repeat (first | exact Sb.nil | apply Sb.cons | exact Tk.here | apply Tk.there))); done) | (repeat (first | exact Sb.nil | apply Sb.cons | exact Tk.here | apply Tk.there))))).sel (by (first | ((with_reducible (repeat (first | exact Sb.nil | apply Sb.cons | exact Tk.here | apply Tk.there))); done) | (repeat (first | exact Sb.nil | apply Sb.cons | exact Tk.here | apply Tk.there))))
  · intro i p hp hi
    obtain ⟨v, hv⟩ : ∃ v, C.th[i]? = some v := by
      rcases h : C.th[i]? with _ | v
      · unfold tV at hp; rw [List.getElem?_map, h] at hp; cases hp
      · exact ⟨v, rfl⟩
    have hpv : p = (v.1, Value.int .i64 v.2) := by unfold tV at hp; rw [List.getElem?_map, hv] at hp; cases hp; rfl
    subst hpv
    have hil : i < C.th.length := (List.getElem?_eq_some_iff.1 hv).1
    have hlt := nd_lt hnd hd hil hi
    have hsn := oldOf_snoc C.th t d hv
    have hd2 : ∀ j ∈ d ++ [i], j < C.th.length := fun j hj => by
      rcases List.mem_append.1 hj with hj | hj
      · exact hd j hj
      · obtain rfl := List.mem_singleton.1 hj; exact hil
    by_cases hvt : v.2 ≤ t
    · rw [if_pos hvt] at hsn
      (repeat' (first | ((with_reducible apply gJ); (first | refine J_seq ?_ | refine J_reg ?_ | refine J_skip ?_ | refine J_block ?_ | refine J_blk ?_ | refine J_exit rfl ?_ | refine J_goto rfl ?_ | ((with_reducible apply gJ_if); (first | refine J_ift rfl ?_ | refine J_iff rfl ?_ | (refine J_if xR ?_ ?_ <;> intro _ <;> (try (exfalso; first | contradiction | omega))) | (refine J_ifb xR ?_ ?_ <;> (intro hgb; subst hgb)) | (refine J_ifb xR ?_ ?_ <;> intro _) | fail)) | refine J_label ?_ | fail)) | ((with_reducible apply gL); (first | refine JL_nil ?_ | ((with_reducible apply gL_entry); (first | (refine JL_p rfl xR xR (pe_entry xR xA hp) ?_) | fail)) | ((with_reducible apply gL_c_append); (first | (refine JL_ap1 (z := v.1) (tabE etab_ok xR) xR xR xA xA xC xR xL xR (by omega) xR xR ?_; intro a3 c3 _ _) | fail)) | refine L_move ?_ | refine L_assign ?_ | refine L_fieldAddr ?_ | refine L_load ?_ | refine L_nilCheck ?_ | refine L_indexAddr ?_ | refine L_extract ?_ | refine L_c_len ?_ | refine L_bin_neq ?_ | refine L_bin_lss ?_ | refine L_bin_leq ?_ | refine L_makeFunc ?_ | refine L_bin_add_i64 ?_ | refine L_bin_add_r ?_ | ((with_reducible apply gL_box); (first | (refine JL_mc rfl xR xR (al_boxA xR) ?_; intro _) | (refine JL_mc rfl xR xR (al_boxC xR xR) ?_; intro _) | fail)) | ((with_reducible apply gL_buildSlice); (first | (refine JL_mc rfl xR xR (al_bs1 xR (tabE etab_ok xR) xK) ?_; intro _) | (refine JL_mc rfl xR xR (al_bs xR (tabE etab_ok xR) xN xK) ?_; intro _) | fail)) | ((with_reducible apply gL_c_append); (first | (refine JL_ap1 (tabE etab_ok xR) xR xR xT xT xC xR xL xR xO xR xR ?_; intro _ _ _ _) | (refine JL_app (tabE etab_ok xR) xR xR xT xV xC xL xU xO xR xR ?_; intro _ _ _ _) | fail)) | fail)) | fail))
      all_goals (first | (exfalso; omega) | skip)
      refine J_again ⟨d ++ [i], a3, c3⟩ (by simp; omega) ⟨nd_snoc hnd hi, hd2⟩ ⟨rfl, rfl, rfl, ?_, rfl, trivial⟩ (fun w H => ?_)
      · dsimp only; rw [hsn, List.length_append]; rfl
      · dsimp only; rw [hsn, List.length_append]; exact H.sel (by (first | ((with_reducible (repeat (first | exact Sb.nil | apply Sb.cons | exact Tk.here | apply Tk.there))); done) | (repeat (first | exact Sb.nil | apply Sb.cons | exact Tk.here | apply Tk.there))))
    · rw [if_neg hvt, List.append_nil] at hsn
      (repeat' (first | ((with_reducible apply gJ); (first | refine J_seq ?_ | refine J_reg ?_ | refine J_skip ?_ | refine J_block ?_ | refine J_blk ?_ | refine J_exit rfl ?_ | refine J_goto rfl ?_ | ((with_reducible apply gJ_if); (first | refine J_ift rfl ?_ | refine J_iff rfl ?_ | (refine J_if xR ?_ ?_ <;> intro _ <;> (try (exfalso; first | contradiction | omega))) | (refine J_ifb xR ?_ ?_ <;> (intro hgb; subst hgb)) | (refine J_ifb xR ?_ ?_ <;> intro _) | fail)) | refine J_label ?_ | fail)) | ((with_reducible apply gL); (first | refine JL_nil ?_ | ((with_reducible apply gL_entry); (first | (refine JL_p rfl xR xR (pe_entry xR xA hp) ?_) | fail)) | ((with_reducible apply gL_c_append); (first | (refine JL_ap1 (z := v.1) (tabE etab_ok xR) xR xR xA xA xC xR xL xR (by omega) xR xR ?_; intro a3 c3 _ _) | fail)) | refine L_move ?_ | refine L_assign ?_ | refine L_fieldAddr ?_ | refine L_load ?_ | refine L_nilCheck ?_ | refine L_indexAddr ?_ | refine L_extract ?_ | refine L_c_len ?_ | refine L_bin_neq ?_ | refine L_bin_lss ?_ | refine L_bin_leq ?_ | refine L_makeFunc ?_ | refine L_bin_add_i64 ?_ | refine L_bin_add_r ?_ | ((with_reducible apply gL_box); (first | (refine JL_mc rfl xR xR (al_boxA xR) ?_; intro _) | (refine JL_mc rfl xR xR (al_boxC xR xR) ?_; intro _) | fail)) | ((with_reducible apply gL_buildSlice); (first | (refine JL_mc rfl xR xR (al_bs1 xR (tabE etab_ok xR) xK) ?_; intro _) | (refine JL_mc rfl xR xR (al_bs xR (tabE etab_ok xR) xN xK) ?_; intro _) | fail)) | ((with_reducible apply gL_c_append); (first | (refine JL_ap1 (tabE etab_ok xR) xR xR xT xT xC xR xL xR xO xR xR ?_; intro _ _ _ _) | (refine JL_app (tabE etab_ok xR) xR xR xT xV xC xL xU xO xR xR ?_; intro _ _ _ _) | fail)) | fail)) | fail))
      all_goals (first | (exfalso; omega) | skip)
      refine J_again ⟨d ++ [i], a2, c2⟩ (by simp; omega) ⟨nd_snoc hnd hi, hd2⟩ ⟨rfl, rfl, rfl, ?_, rfl, trivial⟩ (fun w H => ?_)
      · dsimp only; rw [hsn]; rfl
      · dsimp only; rw [hsn]; exact H.sel (by (first | ((with_reducible (repeat (first | exact Sb.nil | apply Sb.cons | exact Tk.here | apply Tk.there))); done) | (repeat (first | exact Sb.nil | apply Sb.cons | exact Tk.here | apply Tk.there))))
end Go.Proofs.Ytohahlcjkhgimaa
