/-
  Tq14, Tq15, Tq16, Tq17, Tq18, Tq2r: merged.
-/
import Derived.Test.YtnhabkipjmgaaaaGreatZRibPlays16
namespace Go.Proofs.YtnhabkipjmgaaaaGreat.T
set_option linter.unusedSimpArgs false
set_option linter.unusedVariables false
set_option maxRecDepth 20000
set_option maxHeartbeats 4000000
open Go.RowKit Go.Pm

def AccP (g : Nat) (xs : List Pf) : HP := fun h => ∃ y : Option Addr × Nat, sats [pts g [.slice y.1 xs.length y.2] 22, Ar 41 2 pfC (.slice y.1 xs.length y.2) xs] h
def PfsR (xs : List Pf) (v : Value) (L' : List HP) : Prop := ∃ a c, v = .slice a xs.length c ∧ L' = [Ar 41 2 pfC (.slice a xs.length c) xs]
theorem appendSeq_s {gf : FuncId} {first lb : List Value} {φ : World → Prop} {N : Nat} {St Sp : List Pf → Prop} (It : Iter Tryz.prog gf (fun l => first ++ yldV l :: lb) φ pfA N St Sp) (ho : ownB Tryz.prog gf = true) (hN : N ≤ 1000000) :
    Pact Tryz.prog 131 [.slice none 0 0, .func (.func gf) first.toArray lb.toArray].toArray φ [] (fun v L' => ∃ xs, St xs ∧ PfsR xs v L') := by
  refine pact Tryz.func131 rfl Tryz.ntmps131 rfl ?_
  intro W K hK
  (repeat' (first | ((with_reducible apply gL); (first | refine yL0 ?_ | refine yL ?_ | (refine yM ?_; intro _) | (refine yA ?_; intro _ _ _ _) | fail)) | refine yJ ?_ | fail))
  rename_i g
  refine J_heap (L' := [AccP g []]) (fun w H => ?_) ?_
  · exact (Ow.arNil (e := 41) (sz := 2) (enc := pfC) H).shut (M := [pts g [.slice none 0 0] 22, Ar 41 2 pfC (.slice none 0 0) ([] : List Pf)]) xZ (fun k hk => ⟨(none, 0), hk⟩)
  refine J_range (first := first) (lb := lb) It rfl rfl rfl ho rfl (fun _ => rfl) (fun xs => [AccP g xs]) (fun _ _ => [pu False]) (.cons .here .nil) (fun w hr => hK w hr.1) ?_ ?_ ?_
  · intro W3 K3 l3 pre x hle hlen
    simp only [parTM, pfA]
    refine J_open (fun w H => H.open (A := AccP g pre) .here (α := Option Addr × Nat) (Bs := fun y => [pts g [.slice y.1 pre.length y.2] 22, Ar 41 2 pfC (.slice y.1 pre.length y.2) pre]) (fun _ h => h)) ?_
    rintro ⟨a, c⟩
    simp only [List.cons_append, List.nil_append]
    (repeat' (first | ((with_reducible apply gL); (first | refine yL0 ?_ | refine yL ?_ | (refine yM ?_; intro _) | (refine yA ?_; intro _ _ _ _) | fail)) | refine yJ ?_ | fail))
    refine J_body ?_
    intro K4 hle4 hrec
    (repeat' (first | ((with_reducible apply gL); (first | refine yL0 ?_ | ((with_reducible apply gL_c_append); (first | (refine JL_ap1 (z := x) (tabE etab_ok xR) xR xR xA xA xC xR xL xR (by omega) xR xR ?_; intro ad c2 _ _) | fail)) | refine yL ?_ | (refine yM ?_; intro _) | (refine yA ?_; intro _ _ _ _) | fail)) | refine yJ ?_ | fail))
    refine J_rnd fun w H => ?_
    rw [show pre.length + 1 = (pre ++ [x]).length by simp] at H
    exact H.shut (M := [pts g [.slice ad (pre ++ [x]).length c2] 22, Ar 41 2 pfC (.slice ad (pre ++ [x]).length c2) (pre ++ [x])]) (A := AccP g (pre ++ [x])) xZ (fun k hk => ⟨(ad, c2), hk⟩) |>.sel xZ
  · intro D xs hx
    simp only [List.cons_append, List.nil_append]
    refine J_open (fun w H => H.open (A := AccP g xs) xA (α := Option Addr × Nat) (Bs := fun y => [pts g [.slice y.1 xs.length y.2] 22, Ar 41 2 pfC (.slice y.1 xs.length y.2) xs]) (fun _ h => h)) ?_
    rintro ⟨a, c⟩
    simp only [List.cons_append, List.nil_append]
    (repeat' (first | ((with_reducible apply gL); (first | refine yL0 ?_ | refine yL ?_ | (refine yM ?_; intro _) | (refine yA ?_; intro _ _ _ _) | fail)) | refine yJ ?_ | fail))
    exact J_ret1M (Ds := [D]) (dec_enc [D]) rfl (by rfl) fun w H => ⟨_, ⟨xs, hx, a, c, rfl, rfl⟩, H.sel (M := [dfr D, Ar 41 2 pfC (.slice a xs.length c) xs]) xZ⟩
  · intro D c pre _
    exact J_fact (φ := False) (fun w H => H.pu (p := False) (by simp only [List.cons_append, List.nil_append]; (first | ((with_reducible (repeat (first | exact Tk.here | apply Tk.there))); done) | ((simp only [List.cons_append, List.nil_append]); (with_reducible (repeat (first | exact Tk.here | apply Tk.there))); done) | fail))) (fun h => h.elim)
theorem collect_s {gf : FuncId} {first lb : List Value} {φ : World → Prop} {N : Nat} {St Sp : List Pf → Prop} (It : Iter Tryz.prog gf (fun l => first ++ yldV l :: lb) φ pfA N St Sp) (ho : ownB Tryz.prog gf = true) (hN : N ≤ 1000000) :
    Pact Tryz.prog 109 [.func (.func gf) first.toArray lb.toArray].toArray φ [] (fun v L' => ∃ xs, St xs ∧ PfsR xs v L') := by
  refine pact Tryz.func109 rfl Tryz.ntmps109 rfl ?_
  intro W K hK
  (repeat' (first | ((with_reducible apply gL); (first | refine yL0 ?_ | refine yL ?_ | ((with_reducible apply gL_go); (first | (refine JL_goq (appendSeq_s It ho hN) (hφ := (by (try simp only [List.cons_append, List.nil_append]); exact fun w hr => hK w hr.1)) (h := ?_); rintro _ _ ⟨xs, hx, a, c, rfl, rfl⟩; try simp only [List.cons_append, List.nil_append]) | fail)) | fail)) | refine yJ ?_ | fail))
  exact J_ret1 rfl (by rfl) fun w H => ⟨_, ⟨xs, hx, a, c, rfl, rfl⟩, H.sel xZ⟩

theorem filter_none {l : List Ent} {f : Ent → Bool} (h : ∀ e ∈ l, f e = false) : l.filter f = [] := List.filter_eq_nil_iff.2 fun e he => by simp [h e he]
theorem und_some {C : List Fr} {b : Nat} {q p : Pf} {has : Bool} {v : Vt} {k0 k1 : Tr} (hw : wf (0, 0) (plug C (.node b q has v k0 k1))) (hp : Path p C) (hq : Wi p q) : underL (ents (plug C (.node b q has v k0 k1))) p = keysT (.node b q has v k0 k1) := by
  obtain ⟨hc, hs⟩ := (wf_plug C _).1 hw
  have h1 : wf q (.node b q has v k0 k1) := ⟨hs.1, hs.2.1, .refl hs.2.2.1.rt2, hs.2.2.2⟩
  unfold underL keysT
  rw [ents_plug, List.filter_append, List.filter_append, filter_none fun e he => decide_eq_false (out_wi hc hp (.inl he)), filter_none fun e he => decide_eq_false (out_wi hc hp (.inr he)),
    List.filter_eq_self.2 fun e he => decide_eq_true (hq.trans (wf_wi h1 he).1)]
  simp
theorem und_none {C : List Fr} {s : Tr} {p : Pf} (hw : wf (0, 0) (plug C s)) (hp : Path p C) (hF : Found p s) (hr : Rt p) (hq : ∀ q, top s = some q → ¬ Wi p q) : underL (ents (plug C s)) p = [] := by
  obtain ⟨hc, hs⟩ := (wf_plug C s).1 hw
  unfold underL
  rw [filter_none]
  · rfl
  intro e he
  refine decide_eq_false fun hwe => ?_
  rcases mem_plug.1 he with h | h
  · cases s with
    | nil => simp [ents] at h
    | node b q has v k0 k1 =>
      have h1 : wf q (.node b q has v k0 k1) := ⟨hs.1, hs.2.1, .refl hs.2.2.1.rt2, hs.2.2.2⟩
      have h2 := (wf_wi h1 h).1
      have h3 := hq q rfl
      rcases Int.le_total p.2 q.2 with hl | hl
      · exact h3 (hwe.comp h2 hl)
      · have h4 := h2.comp hwe hl
        rcases hF q rfl with h5 | h5
        · exact h3 (by rw [h5]; exact .refl hr)
        · exact h5 h4
  · exact out_wi hc hp h hwe
theorem und_notRt {l : List Ent} {p : Pf} (hr : ¬ Rt p) : underL l p = [] := by
  unfold underL
  rw [filter_none fun e _ => decide_eq_false fun h => hr h.1]
  rfl
def UndR (tb : Nat) (n : Int) (t : Tr) (xs : List Pf) (v : Value) (L' : List HP) : Prop := ∃ a c, v = .slice a xs.length c ∧ L' = Ar 41 2 pfC (.slice a xs.length c) xs :: TrieL tb n t
theorem under_s (tb : Nat) (n : Int) (t : Tr) (p : Pf) (hp : PfN p) (hw : wf (0, 0) t) (hn : (ents t).length ≤ 4096) : Pact Tryz.prog 82 #[.pointer (some ⟨tb, 0, none⟩), .agg (pfC p).toArray] (fun _ => True) [pts tb (trC (ptr t) n true) 117, trP t] (UndR tb n t (underL (ents t) p)) := by
  refine pact Tryz.func82 rfl Tryz.ntmps82 rfl ?_
  intro W K _
  by_cases hr : Rt p
  · (repeat' (first | ((with_reducible apply gL); (first | refine yL0 ?_ | refine yL ?_ | ((with_reducible apply gL_go); (first | (refine JL_goq (is_s tb (ptr t) n true) (hφ := xF) (h := ?_); rintro _ _ ⟨rfl, rfl⟩; try simp only [List.cons_append, List.nil_append]) | (refine JL_goq (right_b p hp true (decide_eq_true hr)) (hφ := xF) (h := ?_); rintro _ _ ⟨rfl, rfl⟩; try simp only [List.cons_append, List.nil_append]) | (refine JL_goq (find_s tb n t p hp hw) (hφ := xF) (h := ?_); rintro _ _ ⟨C, s, ht, hC, hF, rfl, rfl⟩; try simp only [List.cons_append, List.nil_append]) | fail)) | (refine yM ?_; intro _) | ((with_reducible apply gL_gd); (first | (refine JL_guard xR xR ?_ ?_ <;> intro _ <;> (try (exfalso; first | contradiction | omega))) | (refine JL_guardb xR xR ?_ ?_ <;> (intro hgb; subst hgb)) | (refine JL_guardb xR xR ?_ ?_ <;> (intro hgb; fail_if_success (have : type_of% hgb := rfl))) | fail)) | fail)) | ((with_reducible apply gD); (first | (refine JD_nil ?_; try simp only [List.cons_append, List.nil_append]) | (refine JD_bar ?_; try simp only [List.cons_append, List.nil_append]) | refine yD0 ?_ | refine yD ?_ | ((with_reducible apply gD_go); (first | (refine JD_goq (is_s tb (ptr t) n true) (hφ := xF) (h := ?_); rintro _ _ ⟨rfl, rfl⟩; try simp only [List.cons_append, List.nil_append]) | (refine JD_goq (right_b p hp true (decide_eq_true hr)) (hφ := xF) (h := ?_); rintro _ _ ⟨rfl, rfl⟩; try simp only [List.cons_append, List.nil_append]) | (refine JD_goq (find_s tb n t p hp hw) (hφ := xF) (h := ?_); rintro _ _ ⟨C, s, ht, hC, hF, rfl, rfl⟩; try simp only [List.cons_append, List.nil_append]) | fail)) | ((with_reducible apply gD_gd); (first | (refine JD_guard xR xR ?_ ?_ <;> intro _ <;> (try (exfalso; first | contradiction | omega))) | (refine JD_guardb xR xR ?_ ?_ <;> (intro hgb; subst hgb)) | (refine JD_guardb xR xR ?_ ?_ <;> (intro hgb; fail_if_success (have : type_of% hgb := rfl))) | fail)) | fail)) | refine yJ ?_ | ((with_reducible apply gJ_if); (first | (refine J_if xR ?_ ?_ <;> intro _ <;> (try (exfalso; first | contradiction | omega))) | (refine J_ifb xR ?_ ?_ <;> (intro hgb; subst hgb)) | (refine J_ifb xR ?_ ?_ <;> intro _) | fail)) | refine J_draw (id := 4) [0, 1, 2, 3, 4, 5, 6, 7] [8, 9, 10] mixed xC xD xD ?_ | fail))
    subst ht
    have hs := ((wf_plug C s).1 hw).2
    cases s with
    | nil =>
      rw [und_none hw hC hF hr (by intro q h; simp [top] at h)]
      (repeat' (first | ((with_reducible apply gL); (first | refine yL0 ?_ | ((with_reducible apply gL_load); (first | refine JL_p rfl xR xR (pe_ldH xR xC (fun w hr => hole_see hr xA)) ?_ | fail)) | refine yL ?_ | (refine yM ?_; intro _) | ((with_reducible apply gL_gd); (first | (refine JL_guard xR xR ?_ ?_ <;> intro _ <;> (try (exfalso; first | contradiction | omega))) | (refine JL_guardb xR xR ?_ ?_ <;> (intro hgb; subst hgb)) | (refine JL_guardb xR xR ?_ ?_ <;> (intro hgb; fail_if_success (have : type_of% hgb := rfl))) | fail)) | fail)) | ((with_reducible apply gD); (first | (refine JD_nil ?_; try simp only [List.cons_append, List.nil_append]) | (refine JD_bar ?_; try simp only [List.cons_append, List.nil_append]) | refine yD0 ?_ | ((with_reducible apply gD_load); (first | refine JL_p rfl xR xR (pe_ldH xR xC (fun w hr => hole_see hr xA)) ?_ | fail)) | refine yD ?_ | ((with_reducible apply gD_gd); (first | (refine JD_guard xR xR ?_ ?_ <;> intro _ <;> (try (exfalso; first | contradiction | omega))) | (refine JD_guardb xR xR ?_ ?_ <;> (intro hgb; subst hgb)) | (refine JD_guardb xR xR ?_ ?_ <;> (intro hgb; fail_if_success (have : type_of% hgb := rfl))) | fail)) | fail)) | refine yJ ?_ | ((with_reducible apply gJ_if); (first | (refine J_if xR ?_ ?_ <;> intro _ <;> (try (exfalso; first | contradiction | omega))) | (refine J_ifb xR ?_ ?_ <;> (intro hgb; subst hgb)) | (refine J_ifb xR ?_ ?_ <;> intro _) | fail)) | refine J_draw (id := 4) [0, 1, 2, 3, 4, 5, 6, 7] [8, 9, 10] mixed xC xD xD ?_ | fail))
      exact J_ret1 rfl (by rfl) fun w H => ⟨_, ⟨none, 0, rfl, rfl⟩, ((Ow.arNil (e := 41) (sz := 2) (enc := pfC) (owPlugB (C := C) (s := .nil) H xZ)).sel xZ)⟩
    | node b q has v k0 k1 =>
      by_cases hq : Wi p q
      · rw [und_some hw hC hq]
        have hN : (keysT (.node b q has v k0 k1)).length ≤ 1000000 := by
          have h1 : (ents (plug C (.node b q has v k0 k1))).length = (pre C).length + (ents (.node b q has v k0 k1)).length + (post C).length := by rw [ents_plug]; simp; omega
          have h2 : (keysT (.node b q has v k0 k1)).length = (ents (.node b q has v k0 k1)).length := by simp [keysT]
          omega
        refine JL_heap (fun w H => owNodeO H xA) ?_
        (repeat' (first | ((with_reducible apply gL); (first | refine yL0 ?_ | ((with_reducible apply gL_load); (first | refine JL_p rfl xR xR (pe_ldH xR xC (fun w hr => hole_see hr xA)) ?_ | fail)) | refine yL ?_ | ((with_reducible apply gL_go); (first | (refine JL_goq (within_b p q hp hs.1 true (decide_eq_true hq)) (hφ := xF) (h := ?_); rintro _ _ ⟨rfl, rfl⟩; try simp only [List.cons_append, List.nil_append]) | (refine JL_goq (all_s (some ⟨b, 0, none⟩)) (hφ := xF) (h := ?_); rintro _ _ ⟨g, rfl, rfl⟩; try simp only [List.cons_append, List.nil_append]) | fail)) | (refine yM ?_; intro _) | ((with_reducible apply gL_gd); (first | (refine JL_guard xR xR ?_ ?_ <;> intro _ <;> (try (exfalso; first | contradiction | omega))) | (refine JL_guardb xR xR ?_ ?_ <;> (intro hgb; subst hgb)) | (refine JL_guardb xR xR ?_ ?_ <;> (intro hgb; fail_if_success (have : type_of% hgb := rfl))) | fail)) | fail)) | ((with_reducible apply gD); (first | (refine JD_nil ?_; try simp only [List.cons_append, List.nil_append]) | (refine JD_bar ?_; try simp only [List.cons_append, List.nil_append]) | refine yD0 ?_ | ((with_reducible apply gD_load); (first | refine JL_p rfl xR xR (pe_ldH xR xC (fun w hr => hole_see hr xA)) ?_ | fail)) | refine yD ?_ | ((with_reducible apply gD_go); (first | (refine JD_goq (within_b p q hp hs.1 true (decide_eq_true hq)) (hφ := xF) (h := ?_); rintro _ _ ⟨rfl, rfl⟩; try simp only [List.cons_append, List.nil_append]) | (refine JD_goq (all_s (some ⟨b, 0, none⟩)) (hφ := xF) (h := ?_); rintro _ _ ⟨g, rfl, rfl⟩; try simp only [List.cons_append, List.nil_append]) | fail)) | ((with_reducible apply gD_gd); (first | (refine JD_guard xR xR ?_ ?_ <;> intro _ <;> (try (exfalso; first | contradiction | omega))) | (refine JD_guardb xR xR ?_ ?_ <;> (intro hgb; subst hgb)) | (refine JD_guardb xR xR ?_ ?_ <;> (intro hgb; fail_if_success (have : type_of% hgb := rfl))) | fail)) | fail)) | refine yJ ?_ | ((with_reducible apply gJ_if); (first | (refine J_if xR ?_ ?_ <;> intro _ <;> (try (exfalso; first | contradiction | omega))) | (refine J_ifb xR ?_ ?_ <;> (intro hgb; subst hgb)) | (refine J_ifb xR ?_ ?_ <;> intro _) | fail)) | refine J_draw (id := 4) [0, 1, 2, 3, 4, 5, 6, 7] [8, 9, 10] mixed xC xD xD ?_ | fail))
        refine JL_heap (fun w H => owMkNodeB (b := b) (p := q) (has := has) (v := v) (k0 := k0) (k1 := k1) H xZ) ?_
        (repeat' (first | ((with_reducible apply gL); (first | refine yL0 ?_ | refine yL ?_ | ((with_reducible apply gL_go); (first | (refine JL_goq (collect_s (first := []) (lb := [.pointer (some ⟨g, 0, none⟩)]) (all1_it (.node b q has v k0 k1) g) (by decide +kernel) hN) (hφ := (by (try simp only [List.cons_append, List.nil_append]); exact fun w hr => ⟨hr.cell xA rfl, rdw_v hr xA⟩)) (h := ?_); rintro _ _ ⟨xs, rfl, a, c, rfl, rfl⟩; try simp only [List.cons_append, List.nil_append]) | fail)) | (refine yM ?_; intro _) | ((with_reducible apply gL_gd); (first | (refine JL_guard xR xR ?_ ?_ <;> intro _ <;> (try (exfalso; first | contradiction | omega))) | (refine JL_guardb xR xR ?_ ?_ <;> (intro hgb; subst hgb)) | (refine JL_guardb xR xR ?_ ?_ <;> (intro hgb; fail_if_success (have : type_of% hgb := rfl))) | fail)) | fail)) | ((with_reducible apply gD); (first | (refine JD_nil ?_; try simp only [List.cons_append, List.nil_append]) | (refine JD_bar ?_; try simp only [List.cons_append, List.nil_append]) | refine yD0 ?_ | refine yD ?_ | ((with_reducible apply gD_go); (first | (refine JD_goq (collect_s (first := []) (lb := [.pointer (some ⟨g, 0, none⟩)]) (all1_it (.node b q has v k0 k1) g) (by decide +kernel) hN) (hφ := (by (try simp only [List.cons_append, List.nil_append]); exact fun w hr => ⟨hr.cell xA rfl, rdw_v hr xA⟩)) (h := ?_); rintro _ _ ⟨xs, rfl, a, c, rfl, rfl⟩; try simp only [List.cons_append, List.nil_append]) | fail)) | ((with_reducible apply gD_gd); (first | (refine JD_guard xR xR ?_ ?_ <;> intro _ <;> (try (exfalso; first | contradiction | omega))) | (refine JD_guardb xR xR ?_ ?_ <;> (intro hgb; subst hgb)) | (refine JD_guardb xR xR ?_ ?_ <;> (intro hgb; fail_if_success (have : type_of% hgb := rfl))) | fail)) | fail)) | refine yJ ?_ | ((with_reducible apply gJ_if); (first | (refine J_if xR ?_ ?_ <;> intro _ <;> (try (exfalso; first | contradiction | omega))) | (refine J_ifb xR ?_ ?_ <;> (intro hgb; subst hgb)) | (refine J_ifb xR ?_ ?_ <;> intro _) | fail)) | refine J_draw (id := 4) [0, 1, 2, 3, 4, 5, 6, 7] [8, 9, 10] mixed xC xD xD ?_ | fail))
        exact J_ret1 rfl (by rfl) fun w H => ⟨_, ⟨a, c, rfl, rfl⟩, (owPlugB (C := C) (s := .node b q has v k0 k1) H xZ).sel xZ⟩
      · rw [und_none hw hC hF hr (by intro x h; cases h; exact hq)]
        refine JL_heap (fun w H => owNodeO H xA) ?_
        (repeat' (first | ((with_reducible apply gL); (first | refine yL0 ?_ | ((with_reducible apply gL_load); (first | refine JL_p rfl xR xR (pe_ldH xR xC (fun w hr => hole_see hr xA)) ?_ | fail)) | refine yL ?_ | ((with_reducible apply gL_go); (first | (refine JL_goq (within_b p q hp hs.1 false (decide_eq_false hq)) (hφ := xF) (h := ?_); rintro _ _ ⟨rfl, rfl⟩; try simp only [List.cons_append, List.nil_append]) | fail)) | (refine yM ?_; intro _) | ((with_reducible apply gL_gd); (first | (refine JL_guard xR xR ?_ ?_ <;> intro _ <;> (try (exfalso; first | contradiction | omega))) | (refine JL_guardb xR xR ?_ ?_ <;> (intro hgb; subst hgb)) | (refine JL_guardb xR xR ?_ ?_ <;> (intro hgb; fail_if_success (have : type_of% hgb := rfl))) | fail)) | fail)) | ((with_reducible apply gD); (first | (refine JD_nil ?_; try simp only [List.cons_append, List.nil_append]) | (refine JD_bar ?_; try simp only [List.cons_append, List.nil_append]) | refine yD0 ?_ | ((with_reducible apply gD_load); (first | refine JL_p rfl xR xR (pe_ldH xR xC (fun w hr => hole_see hr xA)) ?_ | fail)) | refine yD ?_ | ((with_reducible apply gD_go); (first | (refine JD_goq (within_b p q hp hs.1 false (decide_eq_false hq)) (hφ := xF) (h := ?_); rintro _ _ ⟨rfl, rfl⟩; try simp only [List.cons_append, List.nil_append]) | fail)) | ((with_reducible apply gD_gd); (first | (refine JD_guard xR xR ?_ ?_ <;> intro _ <;> (try (exfalso; first | contradiction | omega))) | (refine JD_guardb xR xR ?_ ?_ <;> (intro hgb; subst hgb)) | (refine JD_guardb xR xR ?_ ?_ <;> (intro hgb; fail_if_success (have : type_of% hgb := rfl))) | fail)) | fail)) | refine yJ ?_ | ((with_reducible apply gJ_if); (first | (refine J_if xR ?_ ?_ <;> intro _ <;> (try (exfalso; first | contradiction | omega))) | (refine J_ifb xR ?_ ?_ <;> (intro hgb; subst hgb)) | (refine J_ifb xR ?_ ?_ <;> intro _) | fail)) | refine J_draw (id := 4) [0, 1, 2, 3, 4, 5, 6, 7] [8, 9, 10] mixed xC xD xD ?_ | fail))
        exact J_ret1 rfl (by rfl) fun w H => ⟨_, ⟨none, 0, rfl, rfl⟩, ((Ow.arNil (e := 41) (sz := 2) (enc := pfC) (owPlugB (C := C) (s := .node b q has v k0 k1) (owMkNodeB (k0 := k0) (k1 := k1) (v := v) (p := q) (has := has) H xZ) xZ)).sel xZ)⟩
  · rw [und_notRt hr]
    (repeat' (first | ((with_reducible apply gL); (first | refine yL0 ?_ | refine yL ?_ | ((with_reducible apply gL_go); (first | (refine JL_goq (is_s tb (ptr t) n true) (hφ := xF) (h := ?_); rintro _ _ ⟨rfl, rfl⟩; try simp only [List.cons_append, List.nil_append]) | (refine JL_goq (right_b p hp false (decide_eq_false hr)) (hφ := xF) (h := ?_); rintro _ _ ⟨rfl, rfl⟩; try simp only [List.cons_append, List.nil_append]) | fail)) | (refine yM ?_; intro _) | ((with_reducible apply gL_gd); (first | (refine JL_guard xR xR ?_ ?_ <;> intro _ <;> (try (exfalso; first | contradiction | omega))) | (refine JL_guardb xR xR ?_ ?_ <;> (intro hgb; subst hgb)) | (refine JL_guardb xR xR ?_ ?_ <;> (intro hgb; fail_if_success (have : type_of% hgb := rfl))) | fail)) | fail)) | ((with_reducible apply gD); (first | (refine JD_nil ?_; try simp only [List.cons_append, List.nil_append]) | (refine JD_bar ?_; try simp only [List.cons_append, List.nil_append]) | refine yD0 ?_ | refine yD ?_ | ((with_reducible apply gD_go); (first | (refine JD_goq (is_s tb (ptr t) n true) (hφ := xF) (h := ?_); rintro _ _ ⟨rfl, rfl⟩; try simp only [List.cons_append, List.nil_append]) | (refine JD_goq (right_b p hp false (decide_eq_false hr)) (hφ := xF) (h := ?_); rintro _ _ ⟨rfl, rfl⟩; try simp only [List.cons_append, List.nil_append]) | fail)) | ((with_reducible apply gD_gd); (first | (refine JD_guard xR xR ?_ ?_ <;> intro _ <;> (try (exfalso; first | contradiction | omega))) | (refine JD_guardb xR xR ?_ ?_ <;> (intro hgb; subst hgb)) | (refine JD_guardb xR xR ?_ ?_ <;> (intro hgb; fail_if_success (have : type_of% hgb := rfl))) | fail)) | fail)) | refine yJ ?_ | ((with_reducible apply gJ_if); (first | (refine J_if xR ?_ ?_ <;> intro _ <;> (try (exfalso; first | contradiction | omega))) | (refine J_ifb xR ?_ ?_ <;> (intro hgb; subst hgb)) | (refine J_ifb xR ?_ ?_ <;> intro _) | fail)) | refine J_draw (id := 4) [0, 1, 2, 3, 4, 5, 6, 7] [8, 9, 10] mixed xC xD xD ?_ | fail))
    exact J_ret1 rfl (by rfl) fun w H => ⟨_, ⟨none, 0, rfl, rfl⟩, (Ow.arNil (e := 41) (sz := 2) (enc := pfC) H).sel xZ⟩
end Go.Proofs.YtnhabkipjmgaaaaGreat.T
namespace Go.Proofs.YtnhabkipjmgaaaaGreat.T
set_option linter.unusedSimpArgs false
set_option linter.unusedVariables false
set_option maxRecDepth 20000
set_option maxHeartbeats 4000000
open Go.RowKit Go.Pm

theorem pf0_n : PfN (0, 0) := by unfold PfN U32 I64; decide
theorem und_all {t : Tr} (hw : wf (0, 0) t) : underL (ents t) (0, 0) = keysT t := by
  unfold underL keysT
  rw [List.filter_eq_self.2 fun e he => decide_eq_true (wf_wi hw he).1]
theorem allT_s (tb : Nat) (n : Int) (t : Tr) (hw : wf (0, 0) t) (hn : (ents t).length ≤ 4096) : Pact Tryz.prog 54 #[.pointer (some ⟨tb, 0, none⟩)] (fun _ => True) [pts tb (trC (ptr t) n true) 117, trP t] (UndR tb n t (keysT t)) := by
  refine pact Tryz.func54 rfl Tryz.ntmps54 rfl ?_
  intro W K _
  rw [← und_all hw]
  (repeat' (first | ((with_reducible apply gL); (first | refine yL0 ?_ | refine yL ?_ | ((with_reducible apply gL_go); (first | (refine JL_goq (under_s tb n t (0, 0) pf0_n hw hn) (hφ := xF) (h := ?_); rintro _ _ ⟨a, c, rfl, rfl⟩; try simp only [List.cons_append, List.nil_append]) | fail)) | fail)) | refine yJ ?_ | fail))
  exact J_ret1 rfl (by rfl) fun w H => ⟨_, ⟨a, c, rfl, rfl⟩, H.sel xZ⟩

/-! No call made it. -/
section
variable (tb : Nat) (p : Pf) (v : Vt)
end
end Go.Proofs.YtnhabkipjmgaaaaGreat.T
namespace Go.Proofs.YtnhabkipjmgaaaaGreat.T
set_option linter.unusedSimpArgs false
set_option linter.unusedVariables false
open Go.RowKit Go.Pm

end Go.Proofs.YtnhabkipjmgaaaaGreat.T
namespace Go.Proofs.YtnhabkipjmgaaaaGreat.T
set_option linter.unusedSimpArgs false
set_option linter.unusedVariables false
open Go.RowKit Go.Pm

section
variable {W : World} {K : Hl} {L R : List HP} {w : World} {tb : Nat} {E : List Ent}
def trA (tb : Nat) (E : List Ent) : HP := fun h => ∃ t, (wf (0, 0) t ∧ ents t = E) ∧ sats (TrieL tb E.length t) h
theorem trOpen (H : Ow W K L w) (t : Tk L (trA tb E) R) : ∃ x : {t : Tr // wf (0, 0) t ∧ ents t = E}, Ow W K (pts tb (trC (ptr x.1) E.length true) 117 :: trP x.1 :: R) w :=
  H.open t (Bs := fun x : {t : Tr // wf (0, 0) t ∧ ents t = E} => TrieL tb E.length x.1) (fun _ ⟨t, h1, h2⟩ => ⟨⟨t, h1⟩, h2⟩)
theorem trShut {t : Tr} (hw : wf (0, 0) t) (he : ents t = E) (H : Ow W K L w) (s : Sb L [pts tb (trC (ptr t) E.length true) 117, trP t] R) : Ow W K (trA tb E :: R) w :=
  H.shut s (fun _ hk => ⟨t, ⟨hw, he⟩, hk⟩)
structure EOk (E : List Ent) : Prop where
  s : Srt E
  e : ∀ x ∈ E, Rt x.1 ∧ PfN x.1 ∧ VN x.2
theorem EOk.of {t : Tr} (hw : wf (0, 0) t) : EOk (ents t) := ⟨wf_srt hw, fun _ hx => by
  have h := wf_wi hw hx
  exact ⟨h.1.rt2, h.2⟩⟩
theorem trOk (H : Ow W K L w) (t : Tk L (trA tb E) R) : EOk E := by
  obtain ⟨⟨x, hw, he⟩, _⟩ := trOpen H t
  rw [← he]
  exact .of hw
end
theorem new_a : Pact Tryz.prog 33 #[] (fun _ => True) [] (fun u L' => ∃ tb, u = .pointer (some ⟨tb, 0, none⟩) ∧ L' = [trA tb []]) := fun W K w hK H =>
  (new_s W K w hK H).mono fun e w' h => by
    obtain ⟨u, L', ⟨tb, rfl, rfl⟩, h5, h6⟩ := h
    exact ⟨_, _, ⟨tb, rfl, rfl⟩, h5, (trShut (t := .nil) trivial rfl h6 xZ).sel xZ⟩
theorem get_a (tb : Nat) (E : List Ent) (p : Pf) (hp : PfN p) : Pact Tryz.prog 44 #[.pointer (some ⟨tb, 0, none⟩), .agg (pfC p).toArray] (fun _ => True) [trA tb E] (fun v L' => v = optV (getL E p) ∧ L' = [trA tb E]) := fun W K w hK H => by
  obtain ⟨⟨t, hw, he⟩, H⟩ := trOpen H .here
  subst he
  refine (get_s tb _ t p hp hw W K w hK H).mono fun e w' h => ?_
  obtain ⟨u, L', ⟨rfl, rfl⟩, h5, h6⟩ := h
  exact ⟨_, _, ⟨rfl, rfl⟩, h5, (trShut hw rfl h6 xZ).sel xZ⟩
theorem put_a (tb : Nat) (E : List Ent) (p : Pf) (v : Vt) (hp : PfN p) (hv : VN v) (hn : E.length ≤ 4096) : Pact Tryz.prog 47 #[.pointer (some ⟨tb, 0, none⟩), .agg (pfC p).toArray, .agg (vC v).toArray] (fun _ => True) [trA tb E] (fun u L' => u = .int .i64 (putE E p v).1 ∧ L' = [trA tb (putE E p v).2]) := fun W K w hK H => by
  obtain ⟨⟨t, hw, he⟩, H⟩ := trOpen H .here
  subst he
  refine (put_s tb t p v hp hv hw hn W K w hK H).mono fun e w' h => ?_
  obtain ⟨u, L', ⟨t', h1, h2, rfl, rfl⟩, h5, h6⟩ := h
  rw [← h2]
  exact ⟨_, _, ⟨rfl, rfl⟩, h5, (trShut h1 rfl h6 xZ).sel xZ⟩
theorem drop_a (tb : Nat) (E : List Ent) (p : Pf) (hp : PfN p) (hn : E.length ≤ 4096) : Pact Tryz.prog 74 #[.pointer (some ⟨tb, 0, none⟩), .agg (pfC p).toArray] (fun _ => True) [trA tb E] (fun u L' => u = .bool (getL E p).isSome ∧ L' = [trA tb (dropL E p)]) := fun W K w hK H => by
  obtain ⟨⟨t, hw, he⟩, H⟩ := trOpen H .here
  subst he
  refine (drop_s tb t p hp hw hn W K w hK H).mono fun e w' h => ?_
  obtain ⟨u, L', ⟨t', h1, h2, rfl, rfl⟩, h5, h6⟩ := h
  rw [← h2]
  exact ⟨_, _, ⟨rfl, rfl⟩, h5, (trShut h1 rfl h6 xZ).sel xZ⟩
theorem len_a (tb : Nat) (E : List Ent) : Pact Tryz.prog 37 #[.pointer (some ⟨tb, 0, none⟩)] (fun _ => True) [trA tb E] (fun u L' => u = .int .i64 E.length ∧ L' = [trA tb E]) := fun W K w hK H => by
  obtain ⟨⟨t, hw, he⟩, H⟩ := trOpen H .here
  subst he
  have H2 := H.frame (L := [pts tb (trC (ptr t) (ents t).length true) 117]) (R := [trP t])
  obtain ⟨hR, sR, dR, H3, back⟩ := H2
  refine (len_s tb (ptr t) (ents t).length true W _ w (fun _ _ => trivial) H3).mono fun e w' h => ?_
  obtain ⟨u, L', ⟨rfl, rfl⟩, h5, h6⟩ := h
  exact ⟨_, _, ⟨rfl, rfl⟩, h5, (trShut hw rfl (back _ _ h6) xZ).sel xZ⟩
def keysE (E : List Ent) : List Pf := E.map (·.1)
theorem all_a (tb : Nat) (E : List Ent) (hn : E.length ≤ 4096) : Pact Tryz.prog 54 #[.pointer (some ⟨tb, 0, none⟩)] (fun _ => True) [trA tb E] (fun u L' => ∃ a c, u = .slice a (keysE E).length c ∧ L' = [Ar 41 2 pfC (.slice a (keysE E).length c) (keysE E), trA tb E]) := fun W K w hK H => by
  obtain ⟨⟨t, hw, he⟩, H⟩ := trOpen H .here
  subst he
  refine (allT_s tb _ t hw hn W K w hK H).mono fun e w' h => ?_
  obtain ⟨u, L', ⟨a, c, rfl, rfl⟩, h5, h6⟩ := h
  exact ⟨_, _, ⟨a, c, rfl, rfl⟩, h5, (trShut hw rfl h6 xZ).sel xZ⟩
end Go.Proofs.YtnhabkipjmgaaaaGreat.T
namespace Go.Proofs.YtnhabkipjmgaaaaGreat.T
set_option linter.unusedSimpArgs false
set_option linter.unusedVariables false
open Go.RowKit Go.Pm

def b2 (b : Bool) : Int := if b then 1 else 0
def cntI (q : Vt → Bool) (E : List Ent) : Int := ((E.filter fun e => q e.2).length : Nat)
def oldV (E : List Ent) (p : Pf) : Vt := (getL E p).getD zV
theorem cntI_nil (q : Vt → Bool) : cntI q [] = 0 := rfl
theorem cntI_cons (q : Vt → Bool) (x : Ent) (E : List Ent) : cntI q (x :: E) = b2 (q x.2) + cntI q E := by
  unfold cntI b2
  rcases h : q x.2 with _ | _
  · rw [List.filter_cons_of_neg (by simp [h])]; simp
  · rw [List.filter_cons_of_pos (by simp [h])]; simp; omega
theorem cntI_le (q : Vt → Bool) (E : List Ent) : 0 ≤ cntI q E ∧ cntI q E ≤ E.length := by
  unfold cntI
  have := List.length_filter_le (fun e : Ent => q e.2) E
  omega
theorem getL_cons_eq {x : Ent} {E : List Ent} {p : Pf} (h : x.1 = p) : getL (x :: E) p = some x.2 := by
  unfold getL; rw [List.find?_cons_of_pos (by simpa using h)]; rfl
theorem getL_cons_ne {x : Ent} {E : List Ent} {p : Pf} (h : x.1 ≠ p) : getL (x :: E) p = getL E p := by
  unfold getL; rw [List.find?_cons_of_neg (by simpa using h)]
theorem getL_lt {E : List Ent} {p : Pf} (h : ∀ e ∈ E, Ah p e.1) : getL E p = none := getL_none.2 fun e he e2 => by
  have := h e he
  rw [e2] at this
  exact Ah.irrefl this
theorem cnt_put {q : Vt → Bool} (hz : q zV = false) : ∀ {E : List Ent} {p : Pf} {v : Vt}, Srt E → cntI q (putL E p v) = cntI q E - b2 (q (oldV E p)) + b2 (q v)
  | [], p, v, _ => by
    show cntI q [(p, v)] = cntI q [] - b2 (q zV) + b2 (q v)
    rw [cntI_cons, cntI_nil, hz]
    show b2 (q v) + 0 = 0 - 0 + b2 (q v)
    omega
  | x :: r, p, v, h => by
    obtain ⟨h1, h2⟩ := List.pairwise_cons.1 h
    have ih := cnt_put hz (p := p) (v := v) h2
    unfold putL
    by_cases ha : Ah x.1 p
    · have hne : x.1 ≠ p := fun e => by rw [e] at ha; exact Ah.irrefl ha
      have e : oldV (x :: r) p = oldV r p := by unfold oldV; rw [getL_cons_ne hne]
      rw [if_pos ha, cntI_cons, cntI_cons, e, ih]
      omega
    · rw [if_neg ha]
      by_cases hp : x.1 = p
      · have e : oldV (x :: r) p = x.2 := by unfold oldV; rw [getL_cons_eq hp]; rfl
        rw [if_pos hp, cntI_cons, cntI_cons, e]
        show b2 (q v) + cntI q r = _
        omega
      · have hlt : Ah p x.1 := Ah.total ha hp
        have e : oldV (x :: r) p = zV := by
          unfold oldV
          rw [getL_lt (E := x :: r) (fun e he => by
            rcases List.mem_cons.1 he with rfl | he
            · exact hlt
            · exact hlt.trans (h1 e he))]
          rfl
        rw [if_neg hp, cntI_cons, e, hz]
        show b2 (q v) + _ = _ - 0 + b2 (q v)
        omega
theorem cnt_drop {q : Vt → Bool} (hz : q zV = false) : ∀ {E : List Ent} {p : Pf}, Srt E → cntI q (dropL E p) = cntI q E - b2 (q (oldV E p))
  | [], p, _ => by
    show cntI q [] = cntI q [] - b2 (q zV)
    rw [hz]; rfl
  | x :: r, p, h => by
    obtain ⟨h1, h2⟩ := List.pairwise_cons.1 h
    have ih := cnt_drop hz (p := p) h2
    by_cases hp : x.1 = p
    · have e : oldV (x :: r) p = x.2 := by unfold oldV; rw [getL_cons_eq hp]; rfl
      have e2 : dropL (x :: r) p = dropL r p := by unfold dropL; rw [List.filter_cons_of_neg (by simpa using hp)]
      have e3 : dropL r p = r := dropL_none (getL_lt fun e he => by have := h1 e he; rwa [hp] at this)
      rw [e2, e3, e, cntI_cons]
      omega
    · have e : oldV (x :: r) p = oldV r p := by unfold oldV; rw [getL_cons_ne hp]
      have e2 : dropL (x :: r) p = x :: dropL r p := by unfold dropL; rw [List.filter_cons_of_pos (by simpa using hp)]
      rw [e2, e, cntI_cons, cntI_cons, ih]
      omega
theorem srt_dropL {E : List Ent} {p : Pf} (h : Srt E) : Srt (dropL E p) := h.filter _
theorem getL_put {E : List Ent} {p r : Pf} {v : Vt} (h : Srt E) : getL (putL E p v) r = if r = p then some v else getL E r := by
  have hs := srt_putL (p := p) (v := v) h
  by_cases hr : r = p
  · subst hr
    rw [if_pos rfl]
    exact (getL_mem hs).2 ((mem_putL h).2 (.inl rfl))
  · rw [if_neg hr]
    cases hg : getL E r with
    | none =>
      refine getL_none.2 fun e he e2 => ?_
      rcases (mem_putL h).1 he with rfl | ⟨h3, _⟩
      · exact hr e2.symm
      · exact getL_none.1 hg e h3 e2
    | some x => exact (getL_mem hs).2 ((mem_putL h).2 (.inr ⟨(getL_mem h).1 hg, hr⟩))
theorem getL_drop {E : List Ent} {p r : Pf} (h : Srt E) : getL (dropL E p) r = if r = p then none else getL E r := by
  have hs := srt_dropL (p := p) h
  by_cases hr : r = p
  · subst hr
    rw [if_pos rfl]
    exact getL_none.2 fun e he e2 => by
      have := (List.mem_filter.1 he).2
      simp [e2] at this
  · rw [if_neg hr]
    cases hg : getL E r with
    | none => exact getL_none.2 fun e he e2 => getL_none.1 hg e (List.mem_filter.1 he).1 e2
    | some x => exact (getL_mem hs).2 (List.mem_filter.2 ⟨(getL_mem h).1 hg, by simpa using hr⟩)
theorem EOk.put {E : List Ent} {p : Pf} {v : Vt} (h : EOk E) (hr : Rt p) (hp : PfN p) (hv : VN v) : EOk (putL E p v) := ⟨srt_putL h.s, fun x hx => by
  rcases (mem_putL h.s).1 hx with rfl | ⟨h1, _⟩
  · exact ⟨hr, hp, hv⟩
  · exact h.e x h1⟩
theorem EOk.drop {E : List Ent} {p : Pf} (h : EOk E) : EOk (dropL E p) := ⟨srt_dropL h.s, fun x hx => h.e x (List.mem_filter.1 hx).1⟩
theorem putE_ok {E : List Ent} {p : Pf} {v : Vt} (hr : Rt p) (h : (getL E p).isSome = true ∨ E.length < 4096) : putE E p v = (0, putL E p v) := by
  unfold putE
  rw [if_pos hr]
  cases hg : (getL E p).isSome with
  | true => simp
  | false =>
    have : E.length < 4096 := by rcases h with h | h
                                 · rw [hg] at h; cases h
                                 · exact h
    simp; omega
def setE (E : List Ent) (p : Pf) (x : Vt) : List Ent := if x = zV then dropL E p else putL E p x
theorem EOk.set {E : List Ent} {p : Pf} {x : Vt} (h : EOk E) (hr : Rt p) (hp : PfN p) (hv : VN x) : EOk (setE E p x) := by
  unfold setE
  split
  · exact h.drop
  · exact h.put hr hp hv
theorem get_old (tb : Nat) (E : List Ent) (p : Pf) (hp : PfN p) (o : Vt) (ho : oldV E p = o) (b : Bool) (hb : (getL E p).isSome = b) : Pact Tryz.prog 44 #[.pointer (some ⟨tb, 0, none⟩), .agg (pfC p).toArray] (fun _ => True) [trA tb E] (fun v L' => v = .tuple #[.agg #[.int .i64 o.1, .bool o.2], .bool b] ∧ L' = [trA tb E]) := by
  subst ho hb
  exact get_a tb E p hp
end Go.Proofs.YtnhabkipjmgaaaaGreat.T
namespace Go.Proofs.YtnhabkipjmgaaaaGreat.T
set_option linter.unusedSimpArgs false
set_option linter.unusedVariables false
set_option maxRecDepth 20000
set_option maxHeartbeats 4000000
open Go.RowKit Go.Pm

theorem size_s (l : Int) (h0 : 0 ≤ l) (h1 : l ≤ 32) : Pact Tryz.prog 113 #[.int .i64 l] (fun _ => True) [] (ret0 (.int .u64 (pw l))) := by
  refine pact Tryz.func113 rfl Tryz.ntmps113 rfl ?_
  intro W K _
  have hmax : max l 0 = l := by omega
  have p2 : ∀ k : Nat, k ≤ 32 → 0 < (2 : Int) ^ k ∧ (2 : Int) ^ k ≤ 4294967296 := fun k hk => by
    refine ⟨Int.pow_pos (by omega), ?_⟩
    have h1 := pw_le (32 - k) (by omega)
    unfold pw at h1
    rwa [show (32 - (32 - (k : Int))).toNat = k by omega] at h1
  (repeat' (first | ((with_reducible apply gL); (first | refine yL0 ?_ | refine yL ?_ | fail)) | refine yJ ?_ | ((with_reducible apply gJ_if); (first | (refine J_if xR ?_ ?_ <;> intro _ <;> (try (exfalso; first | contradiction | omega))) | (refine J_ifb xR ?_ ?_ <;> (intro hgb; subst hgb)) | (refine J_ifb xR ?_ ?_ <;> intro _) | fail)) | fail))
  refine J_loop (α := Nat) 0 (fun k => 32 - k) (fun k => l + k ≤ 32) (fun k => [(3, .int .u64 (2 ^ k)), (4, .int .i64 (l + k))]) (fun _ => []) (by show l + 0 ≤ 32; omega) ⟨rfl, ?_, trivial⟩ (fun w H => H.sel xZ) ?_
  · show some (Value.int .i64 (max l 0)) = some (Value.int .i64 (l + 0))
    rw [hmax, Int.add_zero]
  rintro k hk
  have hk2 := p2 k (by omega)
  by_cases hlt : l + k < 32
  · (repeat' (first | ((with_reducible apply gL); (first | refine yL0 ?_ | refine yL ?_ | fail)) | refine yJ ?_ | ((with_reducible apply gJ_if); (first | (refine J_if xR ?_ ?_ <;> intro _ <;> (try (exfalso; first | contradiction | omega))) | (refine J_ifb xR ?_ ?_ <;> (intro hgb; subst hgb)) | (refine J_ifb xR ?_ ?_ <;> intro _) | fail)) | fail))
    refine J_again (k + 1) (by omega) (by show l + ((k + 1 : Nat) : Int) ≤ 32; omega) ⟨?_, ?_, trivial⟩ (fun w H => H.sel xZ)
    · show some _ = some _
      rw [Int.pow_succ, Int.mul_comm]
    · show some _ = some _
      congr 2
      omega
  · (repeat' (first | ((with_reducible apply gL); (first | refine yL0 ?_ | refine yL ?_ | fail)) | refine yJ ?_ | ((with_reducible apply gJ_if); (first | (refine J_if xR ?_ ?_ <;> intro _ <;> (try (exfalso; first | contradiction | omega))) | (refine J_ifb xR ?_ ?_ <;> (intro hgb; subst hgb)) | (refine J_ifb xR ?_ ?_ <;> intro _) | fail)) | fail))
    refine J_ret1 rfl (by rfl) fun w H => ⟨[], ⟨?_, rfl⟩, H.sel .nil⟩
    unfold pw
    rw [show (32 - l).toNat = k by omega]
theorem rright_s (p : Pf) (hp : PfN p) : Pact Tryz.prog 85 #[.agg (pfC p).toArray] (fun _ => True) [] (ret0 (.bool (decide (Rt p)))) := by
  refine pact Tryz.func85 rfl Tryz.ntmps85 rfl ?_
  intro W K _
  have h1 := hp.1
  unfold U32 at h1
  have hpos := pw_pos p.2
  (repeat' (first | ((with_reducible apply gL); (first | refine yL0 ?_ | refine yL ?_ | (refine yM ?_; intro _) | fail)) | ((with_reducible apply gD); (first | (refine JD_nil ?_; try simp only [List.cons_append, List.nil_append]) | (refine JD_bar ?_; try simp only [List.cons_append, List.nil_append]) | refine yD0 ?_ | refine yD ?_ | ((with_reducible apply gD_go); (first | (refine JD_goq (size_s p.2 (by omega) (by omega)) (hφ := xF) (h := ?_); rintro _ _ ⟨rfl, rfl⟩; try simp only [List.cons_append, List.nil_append]) | fail)) | ((with_reducible apply gD_gd); (first | (refine JD_guard xR xR ?_ ?_ <;> intro _ <;> (try (exfalso; first | contradiction | omega))) | (refine JD_guardb xR xR ?_ ?_ <;> (intro hgb; subst hgb)) | (refine JD_guardb xR xR ?_ ?_ <;> (intro hgb; fail_if_success (have : type_of% hgb := rfl))) | fail)) | fail)) | refine yJ ?_ | refine J_draw (id := 1) [0, 1, 2, 3, 4, 5, 6, 7, 8, 9, 10, 11, 12, 13, 14] [15, 16, 17, 18] mixed xC xD xD ?_ | fail))
  all_goals (refine J_ret1 rfl (by rfl) fun w H => ⟨[], ⟨?_, rfl⟩, H.sel .nil⟩)
  all_goals congr 1
  · rename_i h1 h2
    simp [Rt, h1, h2]
  · rename_i h1 h2
    simp [Rt, h1, h2]
  · rename_i h1
    simp [Rt, h1]
theorem rwithin_s (p q : Pf) (hp : PfN p) (hq : PfN q) : Pact Tryz.prog 133 #[.agg (pfC p).toArray, .agg (pfC q).toArray] (fun _ => True) [] (ret0 (.bool (decide (Wi p q)))) := by
  refine pact Tryz.func133 rfl Tryz.ntmps133 rfl ?_
  intro W K _
  have h1 := hp.1
  have h2 := hq.1
  unfold U32 at h1 h2
  have hpos := pw_pos p.2
  have d1 : p.1 / pw p.2 ≤ p.1 := Int.ediv_le_self _ h1.1
  have d2 : q.1 / pw p.2 ≤ q.1 := Int.ediv_le_self _ h2.1
  have d3 : 0 ≤ p.1 / pw p.2 := Int.ediv_nonneg h1.1 (by omega)
  have d4 : 0 ≤ q.1 / pw p.2 := Int.ediv_nonneg h2.1 (by omega)
  (repeat' (first | ((with_reducible apply gL); (first | refine yL0 ?_ | refine yL ?_ | (refine yM ?_; intro _) | fail)) | ((with_reducible apply gD); (first | (refine JD_nil ?_; try simp only [List.cons_append, List.nil_append]) | (refine JD_bar ?_; try simp only [List.cons_append, List.nil_append]) | refine yD0 ?_ | refine yD ?_ | ((with_reducible apply gD_go); (first | (refine JD_goq (rright_s p hp) (hφ := xF) (h := ?_); rintro _ _ ⟨rfl, rfl⟩; try simp only [List.cons_append, List.nil_append]) | (refine JD_goq (rright_s q hq) (hφ := xF) (h := ?_); rintro _ _ ⟨rfl, rfl⟩; try simp only [List.cons_append, List.nil_append]) | (refine JD_goq (size_s p.2 (rt_lo (by assumption)) (rt_hi (by assumption))) (hφ := xF) (h := ?_); rintro _ _ ⟨rfl, rfl⟩; try simp only [List.cons_append, List.nil_append]) | fail)) | ((with_reducible apply gD_gd); (first | (refine JD_guard xR xR ?_ ?_ <;> intro _ <;> (try (exfalso; first | contradiction | omega))) | (refine JD_guardb xR xR ?_ ?_ <;> (intro hgb; subst hgb)) | (refine JD_guardb xR xR ?_ ?_ <;> (intro hgb; fail_if_success (have : type_of% hgb := rfl))) | fail)) | fail)) | refine yJ ?_ | refine J_draw (id := 1) [0] [1, 2, 3, 4, 5, 6, 7, 8, 9, 10, 11, 12, 13, 14, 15, 16, 17, 18, 21, 22, 23, 24, 25, 19, 20, 26, 27, 28, 29, 30] mixed xC xD xD ?_ | fail))
  all_goals (refine J_ret1 rfl (by rfl) fun w H => ⟨[], ⟨?_, rfl⟩, H.sel .nil⟩)
  all_goals congr 1
  · rename_i h1 h2 h3
    simp [Wi, h1, h2, h3]
  · rename_i h1 h2 h3
    simp [Wi, h1, h2, h3]
  · rename_i h1 h2
    simp [Wi, h1, h2]
  · rename_i h1
    simp [Wi, h1]

theorem ahead_s (p q : Pf) : Pact Tryz.prog 77 #[.agg (pfC p).toArray, .agg (pfC q).toArray] (fun _ => True) [] (ret0 (.bool (decide (Ah p q)))) := by
  refine pact Tryz.func77 rfl Tryz.ntmps77 rfl ?_
  intro W K _
  (repeat' (first | ((with_reducible apply gL); (first | refine yL0 ?_ | refine yL ?_ | (refine yM ?_; intro _) | fail)) | refine yJ ?_ | ((with_reducible apply gJ_if); (first | (refine J_if xR ?_ ?_ <;> intro _ <;> (try (exfalso; first | contradiction | omega))) | (refine J_ifb xR ?_ ?_ <;> (intro hgb; subst hgb)) | (refine J_ifb xR ?_ ?_ <;> intro _) | fail)) | fail))
  all_goals (refine J_ret1 rfl (by rfl) fun w H => ⟨[], ⟨?_, rfl⟩, H.sel .nil⟩)
  all_goals congr 1
  · rename_i h1
    simp only [Ah]
    congr 1
    simp only [eq_iff_iff]
    omega
  · rename_i h1
    simp only [Ah]
    congr 1
    simp only [eq_iff_iff]
    omega
theorem rahead_s (p q : Pf) : Pact Tryz.prog 114 #[.agg (pfC p).toArray, .agg (pfC q).toArray] (fun _ => True) [] (ret0 (.bool (decide (Ah p q)))) := by
  refine pact Tryz.func114 rfl Tryz.ntmps114 rfl ?_
  intro W K _
  (repeat' (first | ((with_reducible apply gL); (first | refine yL0 ?_ | refine yL ?_ | (refine yM ?_; intro _) | ((with_reducible apply gL_gd); (first | (refine JL_guard xR xR ?_ ?_ <;> intro _ <;> (try (exfalso; first | contradiction | omega))) | (refine JL_guardb xR xR ?_ ?_ <;> (intro hgb; subst hgb)) | (refine JL_guardb xR xR ?_ ?_ <;> (intro hgb; fail_if_success (have : type_of% hgb := rfl))) | fail)) | fail)) | refine yJ ?_ | fail))
  all_goals (refine J_ret1 rfl (by rfl) fun w H => ⟨[], ⟨?_, rfl⟩, H.sel .nil⟩)
  all_goals congr 1
  all_goals (simp only [Ah]; first | (symm; apply decide_eq_true; omega) | (symm; apply decide_eq_false; omega) | (congr 1; simp only [eq_iff_iff]; omega))
end Go.Proofs.YtnhabkipjmgaaaaGreat.T
