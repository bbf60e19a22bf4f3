/-
  Longest.
-/
import Derived.Test.YtmimfjgnmmfhdaaTr11
namespace Go.Proofs.Ytmimfjgnmmfhdaa
set_option linter.unusedSimpArgs false
set_option linter.unusedVariables false
set_option maxRecDepth 20000
set_option maxHeartbeats 4000000
open Go.RowKit Go.Pm


/-- The longest one that has an address within. -/
def LonOk (l : List Ent) (a : Int) (best : Pf) (any : Bool) : Prop :=
  (any = true → (∃ v, (best, v) ∈ l) ∧ Wi best (a, 32) ∧ ∀ e ∈ l, Wi e.1 (a, 32) → e.1.2 ≤ best.2) ∧ (any = false → best = (0, 0) ∧ ∀ e ∈ l, ¬ Wi e.1 (a, 32))
theorem lon_one {l : List Ent} {a : Int} {b1 b2 : Pf} {n1 n2 : Bool} (h1 : LonOk l a b1 n1) (h2 : LonOk l a b2 n2) : b1 = b2 ∧ n1 = n2 := by
  cases n1 <;> cases n2
  · exact ⟨(h1.2 rfl).1.trans (h2.2 rfl).1.symm, rfl⟩
  · obtain ⟨⟨v, hv⟩, hw, _⟩ := h2.1 rfl
    exact absurd hw ((h1.2 rfl).2 _ hv)
  · obtain ⟨⟨v, hv⟩, hw, _⟩ := h1.1 rfl
    exact absurd hw ((h2.2 rfl).2 _ hv)
  · obtain ⟨⟨v, hv⟩, hw, hm⟩ := h1.1 rfl
    obtain ⟨⟨v2, hv2⟩, hw2, hm2⟩ := h2.1 rfl
    have l1 := hm _ hv2 hw2
    have l2 := hm2 _ hv hw
    exact ⟨(hw.comp hw2 l2).anti l1, rfl⟩
def bestC : List Fr → Pf × Bool
  | [] => ((0, 0), false)
  | f :: C => if f.has then (f.p, true) else bestC C
theorem best_lt : ∀ {C : List Fr}, wfC C → (bestC C).2 = true → (bestC C).1.2 < (hreg C).2
  | [], _, h => by simp [bestC] at h
  | f :: C, hc, h => by
    have e : (hreg (f :: C)).2 = f.p.2 + 1 := rfl
    unfold bestC at h ⊢
    cases hh : f.has
    · simp only [hh, Bool.false_eq_true, if_false] at h ⊢
      have h1 := best_lt hc.2.2.2.2 h
      have h2 := hc.2.2.1.le
      omega
    · simp only [if_true]
      omega
theorem best_wi : ∀ {C : List Fr} {p : Pf}, Path p C → (bestC C).2 = true → Wi (bestC C).1 p ∧ ∃ v, ((bestC C).1, v) ∈ pre C
  | [], _, _, h => by simp [bestC] at h
  | f :: C, p, hp, h => by
    unfold bestC at h ⊢
    cases hh : f.has
    · simp only [hh, Bool.false_eq_true, if_false] at h ⊢
      obtain ⟨a, v, b⟩ := best_wi (fun g hg => hp g (List.mem_cons_of_mem _ hg)) h
      exact ⟨a, v, by simp only [pre, List.mem_append]; exact .inl (.inl b)⟩
    · simp only [if_true]
      exact ⟨(hp f (by simp)).1, f.v, by simp only [pre, List.mem_append]; exact .inl (.inr (by simp [own, hh]))⟩
theorem best_max : ∀ {C : List Fr} {p : Pf} {e : Ent}, wfC C → Path p C → (e ∈ pre C ∨ e ∈ post C) → Wi e.1 p → (bestC C).2 = true ∧ e.1.2 ≤ (bestC C).1.2
  | [], _, _, _, _, h, _ => by simp [pre, post] at h
  | f :: C, p, e, hc, hp, h, hw => by
    obtain ⟨a, b, c⟩ := hp f (by simp)
    obtain ⟨h1, h2, h3, h4, h5⟩ := hc
    have ho : ¬ e ∈ ents f.o := fun he => by
      have k1 := (kid_wi ((wf_wi h4 he).1.trans hw) a.rt1).2.2
      rw [← c] at k1
      revert k1
      cases f.side <;> simp
    have ih : (e ∈ pre C ∨ e ∈ post C) → (bestC (f :: C)).2 = true ∧ e.1.2 ≤ (bestC (f :: C)).1.2 := fun h => by
      obtain ⟨k1, k2⟩ := best_max h5 (fun g hg => hp g (List.mem_cons_of_mem _ hg)) h hw
      unfold bestC
      cases hh : f.has
      · simp only [Bool.false_eq_true, if_false]
        exact ⟨k1, k2⟩
      · simp only [if_true]
        have k3 := best_lt h5 k1
        have k4 := h3.le
        exact ⟨trivial, by omega⟩
    have hwn : e ∈ own f → (bestC (f :: C)).2 = true ∧ e.1.2 ≤ (bestC (f :: C)).1.2 := fun he => by
      unfold own at he
      unfold bestC
      cases hh : f.has <;> simp [hh] at he
      subst he
      simp
    rcases h with h | h
    · simp only [pre, List.mem_append] at h
      rcases h with (h | h) | h
      · exact ih (.inl h)
      · exact hwn h
      · cases hs : f.side <;> simp [hs] at h
        exact (ho h).elim
    · simp only [post, List.mem_append] at h
      rcases h with h | h
      · cases hs : f.side <;> simp [hs] at h
        exact (ho h).elim
      · exact ih (.inr h)
theorem bestC_none : ∀ {C : List Fr}, (bestC C).2 = false → (bestC C).1 = (0, 0)
  | [], _ => rfl
  | f :: C, h => by
    unfold bestC at h ⊢
    cases hh : f.has
    · simp only [hh, Bool.false_eq_true, if_false] at h ⊢
      exact bestC_none h
    · simp [hh] at h
/-- Nothing further down. -/
theorem lon_ctx {C : List Fr} {s : Tr} {a : Int} (hw : wf (0, 0) (plug C s)) (hp : Path (a, 32) C) (hs : ∀ e ∈ ents s, ¬ Wi e.1 (a, 32)) : LonOk (ents (plug C s)) a (bestC C).1 (bestC C).2 := by
  have hc := ((wf_plug C s).1 hw).1
  constructor
  · intro h
    obtain ⟨h1, v, h2⟩ := best_wi hp h
    refine ⟨⟨v, mem_plug.2 (.inr (.inl h2))⟩, h1, fun e he hwe => ?_⟩
    rcases mem_plug.1 he with h3 | h3
    · exact absurd hwe (hs e h3)
    · exact (best_max hc hp h3 hwe).2
  · intro h
    refine ⟨bestC_none h, fun e he hwe => ?_⟩
    rcases mem_plug.1 he with h3 | h3
    · exact hs e h3 hwe
    · have := (best_max hc hp h3 hwe).1
      rw [h] at this
      cases this
theorem lon_here {C : List Fr} {b : Nat} {q : Pf} {v : Int} {k0 k1 : Tr} {a : Int} (hw : wf (0, 0) (plug C (.node b q true v k0 k1))) (hq : Wi q (a, 32)) (h32 : q.2 = 32) : LonOk (ents (plug C (.node b q true v k0 k1))) a q true := by
  refine ⟨fun _ => ⟨⟨v, mem_plug.2 (.inl (by simp [ents]))⟩, hq, fun e he hwe => ?_⟩, fun h => by cases h⟩
  have := rt_hi hwe.rt1
  omega
theorem leaf_none {r : Pf} {b : Nat} {q : Pf} {v : Int} {k0 k1 : Tr} {a : Int} (hw : wf r (.node b q false v k0 k1)) (h32 : q.2 = 32) : ∀ e ∈ ents (.node b q false v k0 k1), ¬ Wi e.1 (a, 32) := by
  intro e he hwe
  have h2 : e ∈ ents k0 ∨ e ∈ ents k1 := by simpa [ents] using he
  have h3 : ∀ i, Wi (kid q i) e.1 → False := fun i h => by
    have h4 := h.le
    have h5 := rt_hi hwe.rt1
    have h6 : (kid q i).2 = q.2 + 1 := rfl
    omega
  rcases h2 with h2 | h2
  · exact h3 _ (wf_wi hw.2.2.2.1 h2).1
  · exact h3 _ (wf_wi hw.2.2.2.2 h2).1
theorem away_none {r : Pf} {b : Nat} {q : Pf} {has : Bool} {v : Int} {k0 k1 : Tr} {p : Pf} (hw : wf r (.node b q has v k0 k1)) (hq : ¬ Wi q p) : ∀ e ∈ ents (.node b q has v k0 k1), ¬ Wi e.1 p := by
  intro e he hwe
  have h1 : wf q (.node b q has v k0 k1) := ⟨hw.1, hw.2.1, .refl hw.2.2.1.rt2, hw.2.2.2⟩
  exact hq ((wf_wi h1 he).1.trans hwe)
structure Lo where
  C : List Fr
  s : Tr
  g6 : Nat
  g8 : Nat
def LonR (tb : Nat) (n : Int) (t : Tr) (a : Int) (u : Value) (L' : List HP) : Prop := ∃ best any, LonOk (ents t) a best any ∧ u = .tuple #[.agg (pfC best).toArray, .bool any] ∧ L' = TrieL tb n t
theorem longest_s (tb : Nat) (n : Int) (t : Tr) (a : Int) (ha : U32 a) (hw : wf (0, 0) t) : Pact Try.prog 16 #[.pointer (some ⟨tb, 0, none⟩), .int .u32 a] (fun _ => True) [pts tb (trC (ptr t) n true) 55, trP t] (LonR tb n t a) := by
  refine pact Try.func16 rfl Try.ntmps16 rfl ?_
  intro W K _
  have hpn : PfN (a, 32) := ⟨ha, by unfold I64; show -9223372036854775808 ≤ (32 : Int) ∧ (32 : Int) ≤ 9223372036854775807; omega⟩
  (repeat' (first | ((with_reducible apply gJ); (first | refine J_seq ?_ | refine J_reg ?_ | refine J_skip ?_ | refine J_block ?_ | refine J_blk ?_ | refine J_exit rfl ?_ | refine J_goto rfl ?_ | ((with_reducible apply gJ_if); (first | refine J_ift rfl ?_ | refine J_iff rfl ?_ | (refine J_if xR ?_ ?_ <;> intro _ <;> (try (exfalso; first | contradiction | omega))) | (refine J_ifb xR ?_ ?_ <;> (intro hgb; subst hgb)) | (refine J_ifb xR ?_ ?_ <;> intro _) | fail)) | refine J_label ?_ | refine J_draw (id := 6) [0, 1, 2, 3, 4, 5, 6, 7] [8, 9, 10] mixed xC xD xD ?_ | refine J_draw (id := 12) [0, 1, 2, 3, 4, 5, 6, 8, 9, 7] [10, 11, 12] mixed xC xD xD ?_ | fail)) | ((with_reducible apply gL); (first | refine JL_nil ?_ | refine L_move ?_ | refine L_assign ?_ | refine L_fieldAddr ?_ | refine L_load ?_ | refine L_nilCheck ?_ | refine L_build ?_ | refine L_un_not ?_ | refine L_bin_eql ?_ | ((with_reducible apply gL_alloc); (first | (refine JL_mc rfl xR xR (al_alloc xN xK) ?_; intro _) | fail)) | ((with_reducible apply gL_store); (first | refine JL_st xR xR xT xC xR xE xR ?_ | refine JL_stW xR xR xT xW xR xR xR ?_ | refine JL_stS xR xR xT xW xP xR xR ?_ | refine JL_stEl xR xR xT xR xL xR (tabS stab_ok xR) xR xR xO ?_ | fail)) | fail)) | ((with_reducible apply gD); (first | (refine JD_nil ?_; try simp only [List.cons_append, List.nil_append]) | (refine JD_bar ?_; try simp only [List.cons_append, List.nil_append]) | ((with_reducible apply gD_gd); (first | refine JD_skip xR ?_ | fail)) | refine D_move ?_ | refine D_assign ?_ | refine D_fieldAddr ?_ | refine D_load ?_ | refine D_nilCheck ?_ | refine D_pick ?_ | refine D_indexAddr ?_ | refine D_un_not ?_ | refine D_bin_eql ?_ | ((with_reducible apply gD_load); (first | refine JD_ldM xR xT xC xR xR ?_ | refine JD_ldWM xR xT xW xR ?_ | refine JD_ldSM xR xT (tabS stab_ok xR) xG xC xR ?_ | fail)) | ((with_reducible apply gD_indexAddr); (first | refine JD_ixM xR xR (tabE etab_ok xR) xT xI xO xR ?_ | refine JD_ixV xR xR (tabE etab_ok xR) xT xI xO xR ?_ | fail)) | ((with_reducible apply gD_gd); (first | (refine JD_guard xR xR ?_ ?_ <;> intro _ <;> (try (exfalso; first | contradiction | omega))) | (refine JD_guardb xR xR ?_ ?_ <;> (intro hgb; subst hgb)) | (refine JD_guardb xR xR ?_ ?_ <;> (intro hgb; fail_if_success (have : type_of% hgb := rfl))) | fail)) | fail)) | fail))
  rename_i g4
  refine J_scope (α := Lo) 0 (fun x => szT x.s) (fun x => plug x.C x.s = t ∧ Path (a, 32) x.C) (fun x => [(1, .int .u32 a), (4, .pointer (some ⟨g4, 0, none⟩)), (9, .pointer (ptr x.s)), (7, .bool (bestC x.C).2), (6, .pointer (some ⟨x.g6, 0, none⟩)), (8, .pointer (some ⟨x.g8, 0, none⟩))])
    (fun x => [ctxP tb n x.C (ptr x.s), trP x.s, pts g4 [.int .u32 0, .int .i64 0] 31, pts x.g6 (pfC (bestC x.C).1) 31, pts x.g8 (pfC (a, 32)) 31]) rfl rfl ?_ ?_
  · simp only [List.map_cons, List.map_nil, List.cons_append, List.nil_append]
    (repeat' (first | ((with_reducible apply gJ); (first | refine J_seq ?_ | refine J_reg ?_ | refine J_skip ?_ | refine J_block ?_ | refine J_blk ?_ | refine J_exit rfl ?_ | refine J_goto rfl ?_ | ((with_reducible apply gJ_if); (first | refine J_ift rfl ?_ | refine J_iff rfl ?_ | (refine J_if xR ?_ ?_ <;> intro _ <;> (try (exfalso; first | contradiction | omega))) | (refine J_ifb xR ?_ ?_ <;> (intro hgb; subst hgb)) | (refine J_ifb xR ?_ ?_ <;> intro _) | fail)) | refine J_label ?_ | refine J_draw (id := 6) [0, 1, 2, 3, 4, 5, 6, 7] [8, 9, 10] mixed xC xD xD ?_ | refine J_draw (id := 12) [0, 1, 2, 3, 4, 5, 6, 8, 9, 7] [10, 11, 12] mixed xC xD xD ?_ | fail)) | ((with_reducible apply gL); (first | refine JL_nil ?_ | refine L_move ?_ | refine L_assign ?_ | refine L_fieldAddr ?_ | refine L_load ?_ | refine L_nilCheck ?_ | refine L_build ?_ | refine L_un_not ?_ | refine L_bin_eql ?_ | ((with_reducible apply gL_alloc); (first | (refine JL_mc rfl xR xR (al_alloc xN xK) ?_; intro _) | fail)) | ((with_reducible apply gL_store); (first | refine JL_st xR xR xT xC xR xE xR ?_ | refine JL_stW xR xR xT xW xR xR xR ?_ | refine JL_stS xR xR xT xW xP xR xR ?_ | refine JL_stEl xR xR xT xR xL xR (tabS stab_ok xR) xR xR xO ?_ | fail)) | ((with_reducible apply gL_go); (first | (refine JL_goq (is_s tb (ptr t) n true) (hφ := xF) (h := ?_); rintro _ _ ⟨rfl, rfl⟩; try simp only [List.cons_append, List.nil_append]) | fail)) | fail)) | ((with_reducible apply gD); (first | (refine JD_nil ?_; try simp only [List.cons_append, List.nil_append]) | (refine JD_bar ?_; try simp only [List.cons_append, List.nil_append]) | ((with_reducible apply gD_gd); (first | refine JD_skip xR ?_ | fail)) | refine D_move ?_ | refine D_assign ?_ | refine D_fieldAddr ?_ | refine D_load ?_ | refine D_nilCheck ?_ | refine D_pick ?_ | refine D_indexAddr ?_ | refine D_un_not ?_ | refine D_bin_eql ?_ | ((with_reducible apply gD_load); (first | refine JD_ldM xR xT xC xR xR ?_ | refine JD_ldWM xR xT xW xR ?_ | refine JD_ldSM xR xT (tabS stab_ok xR) xG xC xR ?_ | fail)) | ((with_reducible apply gD_indexAddr); (first | refine JD_ixM xR xR (tabE etab_ok xR) xT xI xO xR ?_ | refine JD_ixV xR xR (tabE etab_ok xR) xT xI xO xR ?_ | fail)) | ((with_reducible apply gD_go); (first | (refine JD_goq (is_s tb (ptr t) n true) (hφ := xF) (h := ?_); rintro _ _ ⟨rfl, rfl⟩; try simp only [List.cons_append, List.nil_append]) | fail)) | ((with_reducible apply gD_gd); (first | (refine JD_guard xR xR ?_ ?_ <;> intro _ <;> (try (exfalso; first | contradiction | omega))) | (refine JD_guardb xR xR ?_ ?_ <;> (intro hgb; subst hgb)) | (refine JD_guardb xR xR ?_ ?_ <;> (intro hgb; fail_if_success (have : type_of% hgb := rfl))) | fail)) | fail)) | fail))
    rename_i g6 g8
    exact J_meet ⟨[], t, g6, g8⟩ ⟨rfl, by intro f h; simp at h⟩ ⟨rfl, rfl, rfl, rfl, rfl, rfl, trivial⟩ (fun w H => (owMkTop H (by (first | ((with_reducible (repeat (first | exact Tk.here | apply Tk.there))); done) | ((simp only [List.cons_append, List.nil_append]); (with_reducible (repeat (first | exact Tk.here | apply Tk.there))); done) | fail))).sel (by (first | ((with_reducible (repeat (first | exact Sb.nil | apply Sb.cons | exact Tk.here | apply Tk.there))); done) | (repeat (first | exact Sb.nil | apply Sb.cons | exact Tk.here | apply Tk.there)))))
  rintro ⟨C, s, g6, g8⟩ ⟨ht, hC⟩
  dsimp only at ht hC ⊢
  simp only [List.map_cons, List.map_nil, List.cons_append, List.nil_append]
  have hws := ((wf_plug C s).1 (ht ▸ hw)).2
  have hw1 : wf (0, 0) (plug C s) := ht ▸ hw
  generalize hB : bestC C = B at *
  obtain ⟨best, any⟩ := B
  dsimp only
  cases s with
  | nil =>
    have hok := lon_ctx hw1 hC (by simp [ents])
    rw [hB, ht] at hok
    (repeat' (first | ((with_reducible apply gJ); (first | refine J_seq ?_ | refine J_reg ?_ | refine J_skip ?_ | refine J_block ?_ | refine J_blk ?_ | refine J_exit rfl ?_ | refine J_goto rfl ?_ | ((with_reducible apply gJ_if); (first | refine J_ift rfl ?_ | refine J_iff rfl ?_ | (refine J_if xR ?_ ?_ <;> intro _ <;> (try (exfalso; first | contradiction | omega))) | (refine J_ifb xR ?_ ?_ <;> (intro hgb; subst hgb)) | (refine J_ifb xR ?_ ?_ <;> intro _) | fail)) | refine J_label ?_ | refine J_draw (id := 6) [0, 1, 2, 3, 4, 5, 6, 7] [8, 9, 10] mixed xC xD xD ?_ | refine J_draw (id := 12) [0, 1, 2, 3, 4, 5, 6, 8, 9, 7] [10, 11, 12] mixed xC xD xD ?_ | fail)) | ((with_reducible apply gL); (first | refine JL_nil ?_ | refine L_move ?_ | refine L_assign ?_ | refine L_fieldAddr ?_ | refine L_load ?_ | refine L_nilCheck ?_ | refine L_build ?_ | refine L_un_not ?_ | refine L_bin_eql ?_ | ((with_reducible apply gL_alloc); (first | (refine JL_mc rfl xR xR (al_alloc xN xK) ?_; intro _) | fail)) | ((with_reducible apply gL_store); (first | refine JL_st xR xR xT xC xR xE xR ?_ | refine JL_stW xR xR xT xW xR xR xR ?_ | refine JL_stS xR xR xT xW xP xR xR ?_ | refine JL_stEl xR xR xT xR xL xR (tabS stab_ok xR) xR xR xO ?_ | fail)) | fail)) | ((with_reducible apply gD); (first | (refine JD_nil ?_; try simp only [List.cons_append, List.nil_append]) | (refine JD_bar ?_; try simp only [List.cons_append, List.nil_append]) | ((with_reducible apply gD_gd); (first | refine JD_skip xR ?_ | fail)) | refine D_move ?_ | refine D_assign ?_ | refine D_fieldAddr ?_ | refine D_load ?_ | refine D_nilCheck ?_ | refine D_pick ?_ | refine D_indexAddr ?_ | refine D_un_not ?_ | refine D_bin_eql ?_ | ((with_reducible apply gD_load); (first | refine JD_ldM xR xT xC xR xR ?_ | refine JD_ldWM xR xT xW xR ?_ | refine JD_ldSM xR xT (tabS stab_ok xR) xG xC xR ?_ | fail)) | ((with_reducible apply gD_indexAddr); (first | refine JD_ixM xR xR (tabE etab_ok xR) xT xI xO xR ?_ | refine JD_ixV xR xR (tabE etab_ok xR) xT xI xO xR ?_ | fail)) | ((with_reducible apply gD_gd); (first | (refine JD_guard xR xR ?_ ?_ <;> intro _ <;> (try (exfalso; first | contradiction | omega))) | (refine JD_guardb xR xR ?_ ?_ <;> (intro hgb; subst hgb)) | (refine JD_guardb xR xR ?_ ?_ <;> (intro hgb; fail_if_success (have : type_of% hgb := rfl))) | fail)) | fail)) | fail))
    exact J_retC1 (cs := pfC best) rfl (by rfl) (by rfl) (by (first | ((with_reducible (repeat (first | exact Tk.here | apply Tk.there))); done) | ((simp only [List.cons_append, List.nil_append]); (with_reducible (repeat (first | exact Tk.here | apply Tk.there))); done) | fail)) (by rfl) fun w H => ⟨_, ⟨best, any, hok, rfl, rfl⟩, by rw [TrieL, ← ht]; exact (owPlugB (C := C) (s := .nil) H (by (first | ((with_reducible (repeat (first | exact Sb.nil | apply Sb.cons | exact Tk.here | apply Tk.there))); done) | (repeat (first | exact Sb.nil | apply Sb.cons | exact Tk.here | apply Tk.there))))).sel (by (first | ((with_reducible (repeat (first | exact Sb.nil | apply Sb.cons | exact Tk.here | apply Tk.there))); done) | (repeat (first | exact Sb.nil | apply Sb.cons | exact Tk.here | apply Tk.there))))⟩
  | node b q has v k0 k1 =>
    refine J_heap (fun w H => owNodeO H (by (first | ((with_reducible (repeat (first | exact Tk.here | apply Tk.there))); done) | ((simp only [List.cons_append, List.nil_append]); (with_reducible (repeat (first | exact Tk.here | apply Tk.there))); done) | fail))) ?_
    by_cases hwi : Wi q (a, 32)
    · by_cases h32 : q.2 = 32
      · cases has
        · have hok := lon_ctx hw1 hC (leaf_none hws h32)
          rw [hB, ht] at hok
          (repeat' (first | ((with_reducible apply gJ); (first | refine J_seq ?_ | refine J_reg ?_ | refine J_skip ?_ | refine J_block ?_ | refine J_blk ?_ | refine J_exit rfl ?_ | refine J_goto rfl ?_ | ((with_reducible apply gJ_if); (first | refine J_ift rfl ?_ | refine J_iff rfl ?_ | (refine J_if xR ?_ ?_ <;> intro _ <;> (try (exfalso; first | contradiction | omega))) | (refine J_ifb xR ?_ ?_ <;> (intro hgb; subst hgb)) | (refine J_ifb xR ?_ ?_ <;> intro _) | fail)) | refine J_label ?_ | refine J_draw (id := 6) [0, 1, 2, 3, 4, 5, 6, 7] [8, 9, 10] mixed xC xD xD ?_ | refine J_draw (id := 12) [0, 1, 2, 3, 4, 5, 6, 8, 9, 7] [10, 11, 12] mixed xC xD xD ?_ | fail)) | ((with_reducible apply gL); (first | refine JL_nil ?_ | refine L_move ?_ | refine L_assign ?_ | refine L_fieldAddr ?_ | refine L_load ?_ | refine L_nilCheck ?_ | refine L_build ?_ | refine L_un_not ?_ | refine L_bin_eql ?_ | ((with_reducible apply gL_alloc); (first | (refine JL_mc rfl xR xR (al_alloc xN xK) ?_; intro _) | fail)) | ((with_reducible apply gL_store); (first | refine JL_st xR xR xT xC xR xE xR ?_ | refine JL_stW xR xR xT xW xR xR xR ?_ | refine JL_stS xR xR xT xW xP xR xR ?_ | refine JL_stEl xR xR xT xR xL xR (tabS stab_ok xR) xR xR xO ?_ | fail)) | ((with_reducible apply gL_go); (first | (refine JL_goq (within_b q (a, 32) hws.1 hpn true (decide_eq_true hwi)) (hφ := xF) (h := ?_); rintro _ _ ⟨rfl, rfl⟩; try simp only [List.cons_append, List.nil_append]) | fail)) | fail)) | ((with_reducible apply gD); (first | (refine JD_nil ?_; try simp only [List.cons_append, List.nil_append]) | (refine JD_bar ?_; try simp only [List.cons_append, List.nil_append]) | ((with_reducible apply gD_gd); (first | refine JD_skip xR ?_ | fail)) | refine D_move ?_ | refine D_assign ?_ | refine D_fieldAddr ?_ | refine D_load ?_ | refine D_nilCheck ?_ | refine D_pick ?_ | refine D_indexAddr ?_ | refine D_un_not ?_ | refine D_bin_eql ?_ | ((with_reducible apply gD_load); (first | refine JD_ldM xR xT xC xR xR ?_ | refine JD_ldWM xR xT xW xR ?_ | refine JD_ldSM xR xT (tabS stab_ok xR) xG xC xR ?_ | fail)) | ((with_reducible apply gD_indexAddr); (first | refine JD_ixM xR xR (tabE etab_ok xR) xT xI xO xR ?_ | refine JD_ixV xR xR (tabE etab_ok xR) xT xI xO xR ?_ | fail)) | ((with_reducible apply gD_go); (first | (refine JD_goq (within_b q (a, 32) hws.1 hpn true (decide_eq_true hwi)) (hφ := xF) (h := ?_); rintro _ _ ⟨rfl, rfl⟩; try simp only [List.cons_append, List.nil_append]) | fail)) | ((with_reducible apply gD_gd); (first | (refine JD_guard xR xR ?_ ?_ <;> intro _ <;> (try (exfalso; first | contradiction | omega))) | (refine JD_guardb xR xR ?_ ?_ <;> (intro hgb; subst hgb)) | (refine JD_guardb xR xR ?_ ?_ <;> (intro hgb; fail_if_success (have : type_of% hgb := rfl))) | fail)) | fail)) | fail))
          exact J_retC1 (cs := pfC best) rfl (by rfl) (by rfl) (by (first | ((with_reducible (repeat (first | exact Tk.here | apply Tk.there))); done) | ((simp only [List.cons_append, List.nil_append]); (with_reducible (repeat (first | exact Tk.here | apply Tk.there))); done) | fail)) (by rfl) fun w H => ⟨_, ⟨best, any, hok, rfl, rfl⟩, by rw [TrieL, ← ht]; exact (owPlugB (C := C) (s := .node b q false v k0 k1) (owMkNodeB (k0 := k0) (k1 := k1) (v := v) (p := q) (has := false) H (by (first | ((with_reducible (repeat (first | exact Sb.nil | apply Sb.cons | exact Tk.here | apply Tk.there))); done) | (repeat (first | exact Sb.nil | apply Sb.cons | exact Tk.here | apply Tk.there))))) (by (first | ((with_reducible (repeat (first | exact Sb.nil | apply Sb.cons | exact Tk.here | apply Tk.there))); done) | (repeat (first | exact Sb.nil | apply Sb.cons | exact Tk.here | apply Tk.there))))).sel (by (first | ((with_reducible (repeat (first | exact Sb.nil | apply Sb.cons | exact Tk.here | apply Tk.there))); done) | (repeat (first | exact Sb.nil | apply Sb.cons | exact Tk.here | apply Tk.there))))⟩
        · have hok := lon_here hw1 hwi h32
          rw [ht] at hok
          (repeat' (first | ((with_reducible apply gJ); (first | refine J_seq ?_ | refine J_reg ?_ | refine J_skip ?_ | refine J_block ?_ | refine J_blk ?_ | refine J_exit rfl ?_ | refine J_goto rfl ?_ | ((with_reducible apply gJ_if); (first | refine J_ift rfl ?_ | refine J_iff rfl ?_ | (refine J_if xR ?_ ?_ <;> intro _ <;> (try (exfalso; first | contradiction | omega))) | (refine J_ifb xR ?_ ?_ <;> (intro hgb; subst hgb)) | (refine J_ifb xR ?_ ?_ <;> intro _) | fail)) | refine J_label ?_ | refine J_draw (id := 6) [0, 1, 2, 3, 4, 5, 6, 7] [8, 9, 10] mixed xC xD xD ?_ | refine J_draw (id := 12) [0, 1, 2, 3, 4, 5, 6, 8, 9, 7] [10, 11, 12] mixed xC xD xD ?_ | fail)) | ((with_reducible apply gL); (first | refine JL_nil ?_ | refine L_move ?_ | refine L_assign ?_ | refine L_fieldAddr ?_ | refine L_load ?_ | refine L_nilCheck ?_ | refine L_build ?_ | refine L_un_not ?_ | refine L_bin_eql ?_ | ((with_reducible apply gL_alloc); (first | (refine JL_mc rfl xR xR (al_alloc xN xK) ?_; intro _) | fail)) | ((with_reducible apply gL_store); (first | refine JL_st xR xR xT xC xR xE xR ?_ | refine JL_stW xR xR xT xW xR xR xR ?_ | refine JL_stS xR xR xT xW xP xR xR ?_ | refine JL_stEl xR xR xT xR xL xR (tabS stab_ok xR) xR xR xO ?_ | fail)) | ((with_reducible apply gL_go); (first | (refine JL_goq (within_b q (a, 32) hws.1 hpn true (decide_eq_true hwi)) (hφ := xF) (h := ?_); rintro _ _ ⟨rfl, rfl⟩; try simp only [List.cons_append, List.nil_append]) | fail)) | fail)) | ((with_reducible apply gD); (first | (refine JD_nil ?_; try simp only [List.cons_append, List.nil_append]) | (refine JD_bar ?_; try simp only [List.cons_append, List.nil_append]) | ((with_reducible apply gD_gd); (first | refine JD_skip xR ?_ | fail)) | refine D_move ?_ | refine D_assign ?_ | refine D_fieldAddr ?_ | refine D_load ?_ | refine D_nilCheck ?_ | refine D_pick ?_ | refine D_indexAddr ?_ | refine D_un_not ?_ | refine D_bin_eql ?_ | ((with_reducible apply gD_load); (first | refine JD_ldM xR xT xC xR xR ?_ | refine JD_ldWM xR xT xW xR ?_ | refine JD_ldSM xR xT (tabS stab_ok xR) xG xC xR ?_ | fail)) | ((with_reducible apply gD_indexAddr); (first | refine JD_ixM xR xR (tabE etab_ok xR) xT xI xO xR ?_ | refine JD_ixV xR xR (tabE etab_ok xR) xT xI xO xR ?_ | fail)) | ((with_reducible apply gD_go); (first | (refine JD_goq (within_b q (a, 32) hws.1 hpn true (decide_eq_true hwi)) (hφ := xF) (h := ?_); rintro _ _ ⟨rfl, rfl⟩; try simp only [List.cons_append, List.nil_append]) | fail)) | ((with_reducible apply gD_gd); (first | (refine JD_guard xR xR ?_ ?_ <;> intro _ <;> (try (exfalso; first | contradiction | omega))) | (refine JD_guardb xR xR ?_ ?_ <;> (intro hgb; subst hgb)) | (refine JD_guardb xR xR ?_ ?_ <;> (intro hgb; fail_if_success (have : type_of% hgb := rfl))) | fail)) | fail)) | fail))
          exact J_retC1 (cs := pfC q) rfl (by rfl) (by rfl) (by (first | ((with_reducible (repeat (first | exact Tk.here | apply Tk.there))); done) | ((simp only [List.cons_append, List.nil_append]); (with_reducible (repeat (first | exact Tk.here | apply Tk.there))); done) | fail)) (by rfl) fun w H => ⟨_, ⟨q, true, hok, rfl, rfl⟩, by rw [TrieL, ← ht]; exact (owPlugB (C := C) (s := .node b q true v k0 k1) (owMkNodeB (k0 := k0) (k1 := k1) (v := v) (p := q) (has := true) H (by (first | ((with_reducible (repeat (first | exact Sb.nil | apply Sb.cons | exact Tk.here | apply Tk.there))); done) | (repeat (first | exact Sb.nil | apply Sb.cons | exact Tk.here | apply Tk.there))))) (by (first | ((with_reducible (repeat (first | exact Sb.nil | apply Sb.cons | exact Tk.here | apply Tk.there))); done) | (repeat (first | exact Sb.nil | apply Sb.cons | exact Tk.here | apply Tk.there))))).sel (by (first | ((with_reducible (repeat (first | exact Sb.nil | apply Sb.cons | exact Tk.here | apply Tk.there))); done) | (repeat (first | exact Sb.nil | apply Sb.cons | exact Tk.here | apply Tk.there))))⟩
      · have hne : q ≠ (a, 32) := fun e => h32 (by rw [e])
        have hle := rt_hi hwi.rt1
        rcases bt_cases a q.2 with hb | hb
        · cases has
          · (repeat' (first | ((with_reducible apply gJ); (first | refine J_seq ?_ | refine J_reg ?_ | refine J_skip ?_ | refine J_block ?_ | refine J_blk ?_ | refine J_exit rfl ?_ | refine J_goto rfl ?_ | ((with_reducible apply gJ_if); (first | refine J_ift rfl ?_ | refine J_iff rfl ?_ | (refine J_if xR ?_ ?_ <;> intro _ <;> (try (exfalso; first | contradiction | omega))) | (refine J_ifb xR ?_ ?_ <;> (intro hgb; subst hgb)) | (refine J_ifb xR ?_ ?_ <;> intro _) | fail)) | refine J_label ?_ | refine J_draw (id := 6) [0, 1, 2, 3, 4, 5, 6, 7] [8, 9, 10] mixed xC xD xD ?_ | refine J_draw (id := 12) [0, 1, 2, 3, 4, 5, 6, 8, 9, 7] [10, 11, 12] mixed xC xD xD ?_ | fail)) | ((with_reducible apply gL); (first | refine JL_nil ?_ | refine L_move ?_ | refine L_assign ?_ | refine L_fieldAddr ?_ | refine L_load ?_ | refine L_nilCheck ?_ | refine L_build ?_ | refine L_un_not ?_ | refine L_bin_eql ?_ | ((with_reducible apply gL_alloc); (first | (refine JL_mc rfl xR xR (al_alloc xN xK) ?_; intro _) | fail)) | ((with_reducible apply gL_store); (first | refine JL_st xR xR xT xC xR xE xR ?_ | refine JL_stW xR xR xT xW xR xR xR ?_ | refine JL_stS xR xR xT xW xP xR xR ?_ | refine JL_stEl xR xR xT xR xL xR (tabS stab_ok xR) xR xR xO ?_ | fail)) | ((with_reducible apply gL_go); (first | (refine JL_goq (within_b q (a, 32) hws.1 hpn true (decide_eq_true hwi)) (hφ := xF) (h := ?_); rintro _ _ ⟨rfl, rfl⟩; try simp only [List.cons_append, List.nil_append]) | (refine JL_goq (bit_b a q.2 0 hb ha (rt_lo hwi.rt1) (by omega)) (hφ := xF) (h := ?_); rintro _ _ ⟨rfl, rfl⟩; try simp only [List.cons_append, List.nil_append]) | fail)) | fail)) | ((with_reducible apply gD); (first | (refine JD_nil ?_; try simp only [List.cons_append, List.nil_append]) | (refine JD_bar ?_; try simp only [List.cons_append, List.nil_append]) | ((with_reducible apply gD_gd); (first | refine JD_skip xR ?_ | fail)) | refine D_move ?_ | refine D_assign ?_ | refine D_fieldAddr ?_ | refine D_load ?_ | refine D_nilCheck ?_ | refine D_pick ?_ | refine D_indexAddr ?_ | refine D_un_not ?_ | refine D_bin_eql ?_ | ((with_reducible apply gD_load); (first | refine JD_ldM xR xT xC xR xR ?_ | refine JD_ldWM xR xT xW xR ?_ | refine JD_ldSM xR xT (tabS stab_ok xR) xG xC xR ?_ | fail)) | ((with_reducible apply gD_indexAddr); (first | refine JD_ixM xR xR (tabE etab_ok xR) xT xI xO xR ?_ | refine JD_ixV xR xR (tabE etab_ok xR) xT xI xO xR ?_ | fail)) | ((with_reducible apply gD_go); (first | (refine JD_goq (within_b q (a, 32) hws.1 hpn true (decide_eq_true hwi)) (hφ := xF) (h := ?_); rintro _ _ ⟨rfl, rfl⟩; try simp only [List.cons_append, List.nil_append]) | (refine JD_goq (bit_b a q.2 0 hb ha (rt_lo hwi.rt1) (by omega)) (hφ := xF) (h := ?_); rintro _ _ ⟨rfl, rfl⟩; try simp only [List.cons_append, List.nil_append]) | fail)) | ((with_reducible apply gD_gd); (first | (refine JD_guard xR xR ?_ ?_ <;> intro _ <;> (try (exfalso; first | contradiction | omega))) | (refine JD_guardb xR xR ?_ ?_ <;> (intro hgb; subst hgb)) | (refine JD_guardb xR xR ?_ ?_ <;> (intro hgb; fail_if_success (have : type_of% hgb := rfl))) | fail)) | fail)) | fail))
            have hB2 : bestC (⟨b, q, false, v, false, k1⟩ :: C) = (best, any) := (by unfold bestC; simpa using hB)
            refine J_again ⟨⟨b, q, false, v, false, k1⟩ :: C, k0, g6, g8⟩ (by simp only [szT]; omega) ⟨ht, ?_⟩ ⟨rfl, rfl, rfl, by rw [hB2]; rfl, rfl, rfl, trivial⟩ (fun w H => by
              rw [hB2]
              exact (owMk0 (has := false) (v := v) H (by (first | ((with_reducible (repeat (first | exact Sb.nil | apply Sb.cons | exact Tk.here | apply Tk.there))); done) | (repeat (first | exact Sb.nil | apply Sb.cons | exact Tk.here | apply Tk.there))))).sel (by (first | ((with_reducible (repeat (first | exact Sb.nil | apply Sb.cons | exact Tk.here | apply Tk.there))); done) | (repeat (first | exact Sb.nil | apply Sb.cons | exact Tk.here | apply Tk.there)))))
            intro f hf
            rcases List.mem_cons.1 hf with rfl | hf
            · exact ⟨hwi, hne, by simp [btB, hb]⟩
            · exact hC f hf
          · (repeat' (first | ((with_reducible apply gJ); (first | refine J_seq ?_ | refine J_reg ?_ | refine J_skip ?_ | refine J_block ?_ | refine J_blk ?_ | refine J_exit rfl ?_ | refine J_goto rfl ?_ | ((with_reducible apply gJ_if); (first | refine J_ift rfl ?_ | refine J_iff rfl ?_ | (refine J_if xR ?_ ?_ <;> intro _ <;> (try (exfalso; first | contradiction | omega))) | (refine J_ifb xR ?_ ?_ <;> (intro hgb; subst hgb)) | (refine J_ifb xR ?_ ?_ <;> intro _) | fail)) | refine J_label ?_ | refine J_draw (id := 6) [0, 1, 2, 3, 4, 5, 6, 7] [8, 9, 10] mixed xC xD xD ?_ | refine J_draw (id := 12) [0, 1, 2, 3, 4, 5, 6, 8, 9, 7] [10, 11, 12] mixed xC xD xD ?_ | fail)) | ((with_reducible apply gL); (first | refine JL_nil ?_ | refine L_move ?_ | refine L_assign ?_ | refine L_fieldAddr ?_ | refine L_load ?_ | refine L_nilCheck ?_ | refine L_build ?_ | refine L_un_not ?_ | refine L_bin_eql ?_ | ((with_reducible apply gL_alloc); (first | (refine JL_mc rfl xR xR (al_alloc xN xK) ?_; intro _) | fail)) | ((with_reducible apply gL_store); (first | refine JL_st xR xR xT xC xR xE xR ?_ | refine JL_stW xR xR xT xW xR xR xR ?_ | refine JL_stS xR xR xT xW xP xR xR ?_ | refine JL_stEl xR xR xT xR xL xR (tabS stab_ok xR) xR xR xO ?_ | fail)) | ((with_reducible apply gL_go); (first | (refine JL_goq (within_b q (a, 32) hws.1 hpn true (decide_eq_true hwi)) (hφ := xF) (h := ?_); rintro _ _ ⟨rfl, rfl⟩; try simp only [List.cons_append, List.nil_append]) | (refine JL_goq (bit_b a q.2 0 hb ha (rt_lo hwi.rt1) (by omega)) (hφ := xF) (h := ?_); rintro _ _ ⟨rfl, rfl⟩; try simp only [List.cons_append, List.nil_append]) | fail)) | fail)) | ((with_reducible apply gD); (first | (refine JD_nil ?_; try simp only [List.cons_append, List.nil_append]) | (refine JD_bar ?_; try simp only [List.cons_append, List.nil_append]) | ((with_reducible apply gD_gd); (first | refine JD_skip xR ?_ | fail)) | refine D_move ?_ | refine D_assign ?_ | refine D_fieldAddr ?_ | refine D_load ?_ | refine D_nilCheck ?_ | refine D_pick ?_ | refine D_indexAddr ?_ | refine D_un_not ?_ | refine D_bin_eql ?_ | ((with_reducible apply gD_load); (first | refine JD_ldM xR xT xC xR xR ?_ | refine JD_ldWM xR xT xW xR ?_ | refine JD_ldSM xR xT (tabS stab_ok xR) xG xC xR ?_ | fail)) | ((with_reducible apply gD_indexAddr); (first | refine JD_ixM xR xR (tabE etab_ok xR) xT xI xO xR ?_ | refine JD_ixV xR xR (tabE etab_ok xR) xT xI xO xR ?_ | fail)) | ((with_reducible apply gD_go); (first | (refine JD_goq (within_b q (a, 32) hws.1 hpn true (decide_eq_true hwi)) (hφ := xF) (h := ?_); rintro _ _ ⟨rfl, rfl⟩; try simp only [List.cons_append, List.nil_append]) | (refine JD_goq (bit_b a q.2 0 hb ha (rt_lo hwi.rt1) (by omega)) (hφ := xF) (h := ?_); rintro _ _ ⟨rfl, rfl⟩; try simp only [List.cons_append, List.nil_append]) | fail)) | ((with_reducible apply gD_gd); (first | (refine JD_guard xR xR ?_ ?_ <;> intro _ <;> (try (exfalso; first | contradiction | omega))) | (refine JD_guardb xR xR ?_ ?_ <;> (intro hgb; subst hgb)) | (refine JD_guardb xR xR ?_ ?_ <;> (intro hgb; fail_if_success (have : type_of% hgb := rfl))) | fail)) | fail)) | fail))
            have hB2 : bestC (⟨b, q, true, v, false, k1⟩ :: C) = (q, true) := rfl
            refine J_again ⟨⟨b, q, true, v, false, k1⟩ :: C, k0, g6, g8⟩ (by simp only [szT]; omega) ⟨ht, ?_⟩ ⟨rfl, rfl, rfl, by rw [hB2]; rfl, rfl, rfl, trivial⟩ (fun w H => by
              rw [hB2]
              exact (owMk0 (has := true) (v := v) H (by (first | ((with_reducible (repeat (first | exact Sb.nil | apply Sb.cons | exact Tk.here | apply Tk.there))); done) | (repeat (first | exact Sb.nil | apply Sb.cons | exact Tk.here | apply Tk.there))))).sel (by (first | ((with_reducible (repeat (first | exact Sb.nil | apply Sb.cons | exact Tk.here | apply Tk.there))); done) | (repeat (first | exact Sb.nil | apply Sb.cons | exact Tk.here | apply Tk.there)))))
            intro f hf
            rcases List.mem_cons.1 hf with rfl | hf
            · exact ⟨hwi, hne, by simp [btB, hb]⟩
            · exact hC f hf
        · cases has
          · (repeat' (first | ((with_reducible apply gJ); (first | refine J_seq ?_ | refine J_reg ?_ | refine J_skip ?_ | refine J_block ?_ | refine J_blk ?_ | refine J_exit rfl ?_ | refine J_goto rfl ?_ | ((with_reducible apply gJ_if); (first | refine J_ift rfl ?_ | refine J_iff rfl ?_ | (refine J_if xR ?_ ?_ <;> intro _ <;> (try (exfalso; first | contradiction | omega))) | (refine J_ifb xR ?_ ?_ <;> (intro hgb; subst hgb)) | (refine J_ifb xR ?_ ?_ <;> intro _) | fail)) | refine J_label ?_ | refine J_draw (id := 6) [0, 1, 2, 3, 4, 5, 6, 7] [8, 9, 10] mixed xC xD xD ?_ | refine J_draw (id := 12) [0, 1, 2, 3, 4, 5, 6, 8, 9, 7] [10, 11, 12] mixed xC xD xD ?_ | fail)) | ((with_reducible apply gL); (first | refine JL_nil ?_ | refine L_move ?_ | refine L_assign ?_ | refine L_fieldAddr ?_ | refine L_load ?_ | refine L_nilCheck ?_ | refine L_build ?_ | refine L_un_not ?_ | refine L_bin_eql ?_ | ((with_reducible apply gL_alloc); (first | (refine JL_mc rfl xR xR (al_alloc xN xK) ?_; intro _) | fail)) | ((with_reducible apply gL_store); (first | refine JL_st xR xR xT xC xR xE xR ?_ | refine JL_stW xR xR xT xW xR xR xR ?_ | refine JL_stS xR xR xT xW xP xR xR ?_ | refine JL_stEl xR xR xT xR xL xR (tabS stab_ok xR) xR xR xO ?_ | fail)) | ((with_reducible apply gL_go); (first | (refine JL_goq (within_b q (a, 32) hws.1 hpn true (decide_eq_true hwi)) (hφ := xF) (h := ?_); rintro _ _ ⟨rfl, rfl⟩; try simp only [List.cons_append, List.nil_append]) | (refine JL_goq (bit_b a q.2 1 hb ha (rt_lo hwi.rt1) (by omega)) (hφ := xF) (h := ?_); rintro _ _ ⟨rfl, rfl⟩; try simp only [List.cons_append, List.nil_append]) | fail)) | fail)) | ((with_reducible apply gD); (first | (refine JD_nil ?_; try simp only [List.cons_append, List.nil_append]) | (refine JD_bar ?_; try simp only [List.cons_append, List.nil_append]) | ((with_reducible apply gD_gd); (first | refine JD_skip xR ?_ | fail)) | refine D_move ?_ | refine D_assign ?_ | refine D_fieldAddr ?_ | refine D_load ?_ | refine D_nilCheck ?_ | refine D_pick ?_ | refine D_indexAddr ?_ | refine D_un_not ?_ | refine D_bin_eql ?_ | ((with_reducible apply gD_load); (first | refine JD_ldM xR xT xC xR xR ?_ | refine JD_ldWM xR xT xW xR ?_ | refine JD_ldSM xR xT (tabS stab_ok xR) xG xC xR ?_ | fail)) | ((with_reducible apply gD_indexAddr); (first | refine JD_ixM xR xR (tabE etab_ok xR) xT xI xO xR ?_ | refine JD_ixV xR xR (tabE etab_ok xR) xT xI xO xR ?_ | fail)) | ((with_reducible apply gD_go); (first | (refine JD_goq (within_b q (a, 32) hws.1 hpn true (decide_eq_true hwi)) (hφ := xF) (h := ?_); rintro _ _ ⟨rfl, rfl⟩; try simp only [List.cons_append, List.nil_append]) | (refine JD_goq (bit_b a q.2 1 hb ha (rt_lo hwi.rt1) (by omega)) (hφ := xF) (h := ?_); rintro _ _ ⟨rfl, rfl⟩; try simp only [List.cons_append, List.nil_append]) | fail)) | ((with_reducible apply gD_gd); (first | (refine JD_guard xR xR ?_ ?_ <;> intro _ <;> (try (exfalso; first | contradiction | omega))) | (refine JD_guardb xR xR ?_ ?_ <;> (intro hgb; subst hgb)) | (refine JD_guardb xR xR ?_ ?_ <;> (intro hgb; fail_if_success (have : type_of% hgb := rfl))) | fail)) | fail)) | fail))
            have hB2 : bestC (⟨b, q, false, v, true, k0⟩ :: C) = (best, any) := (by unfold bestC; simpa using hB)
            refine J_again ⟨⟨b, q, false, v, true, k0⟩ :: C, k1, g6, g8⟩ (by simp only [szT]; omega) ⟨ht, ?_⟩ ⟨rfl, rfl, rfl, by rw [hB2]; rfl, rfl, rfl, trivial⟩ (fun w H => by
              rw [hB2]
              exact (owMk1 (has := false) (v := v) H (by (first | ((with_reducible (repeat (first | exact Sb.nil | apply Sb.cons | exact Tk.here | apply Tk.there))); done) | (repeat (first | exact Sb.nil | apply Sb.cons | exact Tk.here | apply Tk.there))))).sel (by (first | ((with_reducible (repeat (first | exact Sb.nil | apply Sb.cons | exact Tk.here | apply Tk.there))); done) | (repeat (first | exact Sb.nil | apply Sb.cons | exact Tk.here | apply Tk.there)))))
            intro f hf
            rcases List.mem_cons.1 hf with rfl | hf
            · exact ⟨hwi, hne, by simp [btB, hb]⟩
            · exact hC f hf
          · (repeat' (first | ((with_reducible apply gJ); (first | refine J_seq ?_ | refine J_reg ?_ | refine J_skip ?_ | refine J_block ?_ | refine J_blk ?_ | refine J_exit rfl ?_ | refine J_goto rfl ?_ | ((with_reducible apply gJ_if); (first | refine J_ift rfl ?_ | refine J_iff rfl ?_ | (refine J_if xR ?_ ?_ <;> intro _ <;> (try (exfalso; first | contradiction | omega))) | (refine J_ifb xR ?_ ?_ <;> (intro hgb; subst hgb)) | (refine J_ifb xR ?_ ?_ <;> intro _) | fail)) | refine J_label ?_ | refine J_draw (id := 6) [0, 1, 2, 3, 4, 5, 6, 7] [8, 9, 10] mixed xC xD xD ?_ | refine J_draw (id := 12) [0, 1, 2, 3, 4, 5, 6, 8, 9, 7] [10, 11, 12] mixed xC xD xD ?_ | fail)) | ((with_reducible apply gL); (first | refine JL_nil ?_ | refine L_move ?_ | refine L_assign ?_ | refine L_fieldAddr ?_ | refine L_load ?_ | refine L_nilCheck ?_ | refine L_build ?_ | refine L_un_not ?_ | refine L_bin_eql ?_ | ((with_reducible apply gL_alloc); (first | (refine JL_mc rfl xR xR (al_alloc xN xK) ?_; intro _) | fail)) | ((with_reducible apply gL_store); (first | refine JL_st xR xR xT xC xR xE xR ?_ | refine JL_stW xR xR xT xW xR xR xR ?_ | refine JL_stS xR xR xT xW xP xR xR ?_ | refine JL_stEl xR xR xT xR xL xR (tabS stab_ok xR) xR xR xO ?_ | fail)) | ((with_reducible apply gL_go); (first | (refine JL_goq (within_b q (a, 32) hws.1 hpn true (decide_eq_true hwi)) (hφ := xF) (h := ?_); rintro _ _ ⟨rfl, rfl⟩; try simp only [List.cons_append, List.nil_append]) | (refine JL_goq (bit_b a q.2 1 hb ha (rt_lo hwi.rt1) (by omega)) (hφ := xF) (h := ?_); rintro _ _ ⟨rfl, rfl⟩; try simp only [List.cons_append, List.nil_append]) | fail)) | fail)) | ((with_reducible apply gD); (first | (refine JD_nil ?_; try simp only [List.cons_append, List.nil_append]) | (refine JD_bar ?_; try simp only [List.cons_append, List.nil_append]) | ((with_reducible apply gD_gd); (first | refine JD_skip xR ?_ | fail)) | refine D_move ?_ | refine D_assign ?_ | refine D_fieldAddr ?_ | refine D_load ?_ | refine D_nilCheck ?_ | refine D_pick ?_ | refine D_indexAddr ?_ | refine D_un_not ?_ | refine D_bin_eql ?_ | ((with_reducible apply gD_load); (first | refine JD_ldM xR xT xC xR xR ?_ | refine JD_ldWM xR xT xW xR ?_ | refine JD_ldSM xR xT (tabS stab_ok xR) xG xC xR ?_ | fail)) | ((with_reducible apply gD_indexAddr); (first | refine JD_ixM xR xR (tabE etab_ok xR) xT xI xO xR ?_ | refine JD_ixV xR xR (tabE etab_ok xR) xT xI xO xR ?_ | fail)) | ((with_reducible apply gD_go); (first | (refine JD_goq (within_b q (a, 32) hws.1 hpn true (decide_eq_true hwi)) (hφ := xF) (h := ?_); rintro _ _ ⟨rfl, rfl⟩; try simp only [List.cons_append, List.nil_append]) | (refine JD_goq (bit_b a q.2 1 hb ha (rt_lo hwi.rt1) (by omega)) (hφ := xF) (h := ?_); rintro _ _ ⟨rfl, rfl⟩; try simp only [List.cons_append, List.nil_append]) | fail)) | ((with_reducible apply gD_gd); (first | (refine JD_guard xR xR ?_ ?_ <;> intro _ <;> (try (exfalso; first | contradiction | omega))) | (refine JD_guardb xR xR ?_ ?_ <;> (intro hgb; subst hgb)) | (refine JD_guardb xR xR ?_ ?_ <;> (intro hgb; fail_if_success (have : type_of% hgb := rfl))) | fail)) | fail)) | fail))
            have hB2 : bestC (⟨b, q, true, v, true, k0⟩ :: C) = (q, true) := rfl
            refine J_again ⟨⟨b, q, true, v, true, k0⟩ :: C, k1, g6, g8⟩ (by simp only [szT]; omega) ⟨ht, ?_⟩ ⟨rfl, rfl, rfl, by rw [hB2]; rfl, rfl, rfl, trivial⟩ (fun w H => by
              rw [hB2]
              exact (owMk1 (has := true) (v := v) H (by (first | ((with_reducible (repeat (first | exact Sb.nil | apply Sb.cons | exact Tk.here | apply Tk.there))); done) | (repeat (first | exact Sb.nil | apply Sb.cons | exact Tk.here | apply Tk.there))))).sel (by (first | ((with_reducible (repeat (first | exact Sb.nil | apply Sb.cons | exact Tk.here | apply Tk.there))); done) | (repeat (first | exact Sb.nil | apply Sb.cons | exact Tk.here | apply Tk.there)))))
            intro f hf
            rcases List.mem_cons.1 hf with rfl | hf
            · exact ⟨hwi, hne, by simp [btB, hb]⟩
            · exact hC f hf
    · have hok := lon_ctx hw1 hC (away_none hws hwi)
      rw [hB, ht] at hok
      (repeat' (first | ((with_reducible apply gJ); (first | refine J_seq ?_ | refine J_reg ?_ | refine J_skip ?_ | refine J_block ?_ | refine J_blk ?_ | refine J_exit rfl ?_ | refine J_goto rfl ?_ | ((with_reducible apply gJ_if); (first | refine J_ift rfl ?_ | refine J_iff rfl ?_ | (refine J_if xR ?_ ?_ <;> intro _ <;> (try (exfalso; first | contradiction | omega))) | (refine J_ifb xR ?_ ?_ <;> (intro hgb; subst hgb)) | (refine J_ifb xR ?_ ?_ <;> intro _) | fail)) | refine J_label ?_ | refine J_draw (id := 6) [0, 1, 2, 3, 4, 5, 6, 7] [8, 9, 10] mixed xC xD xD ?_ | refine J_draw (id := 12) [0, 1, 2, 3, 4, 5, 6, 8, 9, 7] [10, 11, 12] mixed xC xD xD ?_ | fail)) | ((with_reducible apply gL); (first | refine JL_nil ?_ | refine L_move ?_ | refine L_assign ?_ | refine L_fieldAddr ?_ | refine L_load ?_ | refine L_nilCheck ?_ | refine L_build ?_ | refine L_un_not ?_ | refine L_bin_eql ?_ | ((with_reducible apply gL_alloc); (first | (refine JL_mc rfl xR xR (al_alloc xN xK) ?_; intro _) | fail)) | ((with_reducible apply gL_store); (first | refine JL_st xR xR xT xC xR xE xR ?_ | refine JL_stW xR xR xT xW xR xR xR ?_ | refine JL_stS xR xR xT xW xP xR xR ?_ | refine JL_stEl xR xR xT xR xL xR (tabS stab_ok xR) xR xR xO ?_ | fail)) | ((with_reducible apply gL_go); (first | (refine JL_goq (within_b q (a, 32) hws.1 hpn false (decide_eq_false hwi)) (hφ := xF) (h := ?_); rintro _ _ ⟨rfl, rfl⟩; try simp only [List.cons_append, List.nil_append]) | fail)) | fail)) | ((with_reducible apply gD); (first | (refine JD_nil ?_; try simp only [List.cons_append, List.nil_append]) | (refine JD_bar ?_; try simp only [List.cons_append, List.nil_append]) | ((with_reducible apply gD_gd); (first | refine JD_skip xR ?_ | fail)) | refine D_move ?_ | refine D_assign ?_ | refine D_fieldAddr ?_ | refine D_load ?_ | refine D_nilCheck ?_ | refine D_pick ?_ | refine D_indexAddr ?_ | refine D_un_not ?_ | refine D_bin_eql ?_ | ((with_reducible apply gD_load); (first | refine JD_ldM xR xT xC xR xR ?_ | refine JD_ldWM xR xT xW xR ?_ | refine JD_ldSM xR xT (tabS stab_ok xR) xG xC xR ?_ | fail)) | ((with_reducible apply gD_indexAddr); (first | refine JD_ixM xR xR (tabE etab_ok xR) xT xI xO xR ?_ | refine JD_ixV xR xR (tabE etab_ok xR) xT xI xO xR ?_ | fail)) | ((with_reducible apply gD_go); (first | (refine JD_goq (within_b q (a, 32) hws.1 hpn false (decide_eq_false hwi)) (hφ := xF) (h := ?_); rintro _ _ ⟨rfl, rfl⟩; try simp only [List.cons_append, List.nil_append]) | fail)) | ((with_reducible apply gD_gd); (first | (refine JD_guard xR xR ?_ ?_ <;> intro _ <;> (try (exfalso; first | contradiction | omega))) | (refine JD_guardb xR xR ?_ ?_ <;> (intro hgb; subst hgb)) | (refine JD_guardb xR xR ?_ ?_ <;> (intro hgb; fail_if_success (have : type_of% hgb := rfl))) | fail)) | fail)) | fail))
      exact J_retC1 (cs := pfC best) rfl (by rfl) (by rfl) (by (first | ((with_reducible (repeat (first | exact Tk.here | apply Tk.there))); done) | ((simp only [List.cons_append, List.nil_append]); (with_reducible (repeat (first | exact Tk.here | apply Tk.there))); done) | fail)) (by rfl) fun w H => ⟨_, ⟨best, any, hok, rfl, rfl⟩, by rw [TrieL, ← ht]; exact (owPlugB (C := C) (s := .node b q has v k0 k1) (owMkNodeB (k0 := k0) (k1 := k1) (v := v) (p := q) (has := has) H (by (first | ((with_reducible (repeat (first | exact Sb.nil | apply Sb.cons | exact Tk.here | apply Tk.there))); done) | (repeat (first | exact Sb.nil | apply Sb.cons | exact Tk.here | apply Tk.there))))) (by (first | ((with_reducible (repeat (first | exact Sb.nil | apply Sb.cons | exact Tk.here | apply Tk.there))); done) | (repeat (first | exact Sb.nil | apply Sb.cons | exact Tk.here | apply Tk.there))))).sel (by (first | ((with_reducible (repeat (first | exact Sb.nil | apply Sb.cons | exact Tk.here | apply Tk.there))); done) | (repeat (first | exact Sb.nil | apply Sb.cons | exact Tk.here | apply Tk.there))))⟩
end Go.Proofs.Ytmimfjgnmmfhdaa
