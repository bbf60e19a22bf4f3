/-
  Tq14, Tq15, Tq16, Tq17, Ju, Jp: merged.
-/
import Derived.Test.YtdnokmpnemaoaaaGreatZViewPlays16
import Derived.Lib.AppendZeros
namespace Go.Proofs.YtdnokmpnemaoaaaGreat.T
set_option linter.unusedSimpArgs false
set_option linter.unusedVariables false
set_option maxRecDepth 20000
set_option maxHeartbeats 4000000
open Go.RowKit Go.Pm

def AccP (g : Nat) (xs : List Pf) : HP := fun h => ∃ y : Option Addr × Nat, sats [pts g [.slice y.1 xs.length y.2] 103, Ar 28 2 pfC (.slice y.1 xs.length y.2) xs] h
def PfsR (xs : List Pf) (v : Value) (L' : List HP) : Prop := ∃ a c, v = .slice a xs.length c ∧ L' = [Ar 28 2 pfC (.slice a xs.length c) xs]
theorem appendSeq_s {gf : FuncId} {first lb : List Value} {φ : World → Prop} {N : Nat} {St Sp : List Pf → Prop} (It : Iter Tryz.prog gf (fun l => first ++ yldV l :: lb) φ pfA N St Sp) (ho : ownB Tryz.prog gf = true) (hN : N ≤ 1000000) :
    Pact Tryz.prog 168 [.slice none 0 0, .func (.func gf) first.toArray lb.toArray].toArray φ [] (fun v L' => ∃ xs, St xs ∧ PfsR xs v L') := by
  refine pact Tryz.func168 rfl Tryz.ntmps168 rfl ?_
  intro W K hK
  (repeat' (first | ((with_reducible apply gL); (first | refine yL0 ?_ | refine yL ?_ | (refine yM ?_; intro _) | (refine yA ?_; intro _ _ _ _) | fail)) | refine yJ ?_ | fail))
  rename_i g
  refine J_heap (L' := [AccP g []]) (fun w H => ?_) ?_
  · exact (Ow.arNil (e := 28) (sz := 2) (enc := pfC) H).shut (M := [pts g [.slice none 0 0] 103, Ar 28 2 pfC (.slice none 0 0) ([] : List Pf)]) xZ (fun k hk => ⟨(none, 0), hk⟩)
  refine J_range (first := first) (lb := lb) It rfl rfl rfl ho rfl (fun _ => rfl) (fun xs => [AccP g xs]) (fun _ _ => [pu False]) (.cons .here .nil) (fun w hr => hK w hr.1) ?_ ?_ ?_
  · intro W3 K3 l3 pre x hle hlen
    simp only [parTM, pfA]
    refine J_open (fun w H => H.open (A := AccP g pre) .here (α := Option Addr × Nat) (Bs := fun y => [pts g [.slice y.1 pre.length y.2] 103, Ar 28 2 pfC (.slice y.1 pre.length y.2) pre]) (fun _ h => h)) ?_
    rintro ⟨a, c⟩
    simp only [List.cons_append, List.nil_append]
    (repeat' (first | ((with_reducible apply gL); (first | refine yL0 ?_ | refine yL ?_ | (refine yM ?_; intro _) | (refine yA ?_; intro _ _ _ _) | fail)) | refine yJ ?_ | fail))
    refine J_body ?_
    intro K4 hle4 hrec
    (repeat' (first | ((with_reducible apply gL); (first | refine yL0 ?_ | ((with_reducible apply gL_c_append); (first | (refine JL_ap1 (z := x) (tabE etab_ok xR) xR xR xA xA xC xR xL xR (by omega) xR xR ?_; intro ad c2 _ _) | fail)) | refine yL ?_ | (refine yM ?_; intro _) | (refine yA ?_; intro _ _ _ _) | fail)) | refine yJ ?_ | fail))
    refine J_rnd fun w H => ?_
    rw [show pre.length + 1 = (pre ++ [x]).length by simp] at H
    exact H.shut (M := [pts g [.slice ad (pre ++ [x]).length c2] 103, Ar 28 2 pfC (.slice ad (pre ++ [x]).length c2) (pre ++ [x])]) (A := AccP g (pre ++ [x])) xZ (fun k hk => ⟨(ad, c2), hk⟩) |>.sel xZ
  · intro D xs hx
    simp only [List.cons_append, List.nil_append]
    refine J_open (fun w H => H.open (A := AccP g xs) xA (α := Option Addr × Nat) (Bs := fun y => [pts g [.slice y.1 xs.length y.2] 103, Ar 28 2 pfC (.slice y.1 xs.length y.2) xs]) (fun _ h => h)) ?_
    rintro ⟨a, c⟩
    simp only [List.cons_append, List.nil_append]
    (repeat' (first | ((with_reducible apply gL); (first | refine yL0 ?_ | refine yL ?_ | (refine yM ?_; intro _) | (refine yA ?_; intro _ _ _ _) | fail)) | refine yJ ?_ | fail))
    exact J_ret1M (Ds := [D]) (dec_enc [D]) rfl (by rfl) fun w H => ⟨_, ⟨xs, hx, a, c, rfl, rfl⟩, H.sel (M := [dfr D, Ar 28 2 pfC (.slice a xs.length c) xs]) xZ⟩
  · intro D c pre _
    exact J_fact (φ := False) (fun w H => H.pu (p := False) (by simp only [List.cons_append, List.nil_append]; (first | ((with_reducible (repeat (first | exact Tk.here | apply Tk.there))); done) | ((simp only [List.cons_append, List.nil_append]); (with_reducible (repeat (first | exact Tk.here | apply Tk.there))); done) | fail))) (fun h => h.elim)
theorem collect_s {gf : FuncId} {first lb : List Value} {φ : World → Prop} {N : Nat} {St Sp : List Pf → Prop} (It : Iter Tryz.prog gf (fun l => first ++ yldV l :: lb) φ pfA N St Sp) (ho : ownB Tryz.prog gf = true) (hN : N ≤ 1000000) :
    Pact Tryz.prog 145 [.func (.func gf) first.toArray lb.toArray].toArray φ [] (fun v L' => ∃ xs, St xs ∧ PfsR xs v L') := by
  refine pact Tryz.func145 rfl Tryz.ntmps145 rfl ?_
  intro W K hK
  (repeat' (first | ((with_reducible apply gL); (first | refine yL0 ?_ | refine yL ?_ | ((with_reducible apply gL_go); (first | (refine JL_goq (appendSeq_s It ho hN) (hφ := (by (try simp only [List.cons_append, List.nil_append]); exact fun w hr => hK w hr.1)) (h := ?_); rintro _ _ ⟨xs, hx, a, c, rfl, rfl⟩; try simp only [List.cons_append, List.nil_append]) | fail)) | fail)) | refine yJ ?_ | fail))
  exact J_ret1 rfl (by rfl) fun w H => ⟨_, ⟨xs, hx, a, c, rfl, rfl⟩, H.sel xZ⟩

theorem filter_none {l : List Ent} {f : Ent → Bool} (h : ∀ e ∈ l, f e = false) : l.filter f = [] := List.filter_eq_nil_iff.2 fun e he => by simp [h e he]
theorem und_some {C : List Fr} {b : Nat} {q p : Pf} {has : Bool} {v : Vt} {k0 k1 : Tr} (hw : wf (0, 0) (plug C (.node b q has v k0 k1))) (hp : Path p C) (hq : Wi p q) : underL (ents (plug C (.node b q has v k0 k1))) p = keysT (.node b q has v k0 k1) := by
  obtain ⟨hc, hs⟩ := (wf_plug C _).1 hw
  have h1 : wf q (.node b q has v k0 k1) := ⟨hs.1, hs.2.1, .refl hs.2.2.1.rt2, hs.2.2.2⟩
  unfold underL keysT
  rw [ents_plug, List.filter_append, List.filter_append, filter_none fun e he => decide_eq_false (out_wi hc hp (.inl he)), filter_none fun e he => decide_eq_false (out_wi hc hp (.inr he)),
    List.filter_eq_self.2 fun e he => decide_eq_true (hq.trans (wf_wi h1 he).1)]
  simp
theorem und_none {C : List Fr} {s : Tr} {p : Pf} (hw : wf (0, 0) (plug C s)) (hp : Path p C) (hF : Found p s) (hr : Rt p) (hq : ∀ q, top s = some q → ¬ Wi p q) : underL (ents (plug C s)) p = [] := by
  obtain ⟨hc, hs⟩ := (wf_plug C s).1 hw
  unfold underL
  rw [filter_none]
  · rfl
  intro e he
  refine decide_eq_false fun hwe => ?_
  rcases mem_plug.1 he with h | h
  · cases s with
    | nil => simp [ents] at h
    | node b q has v k0 k1 =>
      have h1 : wf q (.node b q has v k0 k1) := ⟨hs.1, hs.2.1, .refl hs.2.2.1.rt2, hs.2.2.2⟩
      have h2 := (wf_wi h1 h).1
      have h3 := hq q rfl
      rcases Int.le_total p.2 q.2 with hl | hl
      · exact h3 (hwe.comp h2 hl)
      · have h4 := h2.comp hwe hl
        rcases hF q rfl with h5 | h5
        · exact h3 (by rw [h5]; exact .refl hr)
        · exact h5 h4
  · exact out_wi hc hp h hwe
theorem und_notRt {l : List Ent} {p : Pf} (hr : ¬ Rt p) : underL l p = [] := by
  unfold underL
  rw [filter_none fun e _ => decide_eq_false fun h => hr h.1]
  rfl
def UndR (tb : Nat) (n : Int) (t : Tr) (xs : List Pf) (v : Value) (L' : List HP) : Prop := ∃ a c, v = .slice a xs.length c ∧ L' = Ar 28 2 pfC (.slice a xs.length c) xs :: TrieL tb n t
theorem under_s (tb : Nat) (n : Int) (t : Tr) (p : Pf) (hp : PfN p) (hw : wf (0, 0) t) (hn : (ents t).length ≤ 4096) : Pact Tryz.prog 114 #[.pointer (some ⟨tb, 0, none⟩), .agg (pfC p).toArray] (fun _ => True) [pts tb (trC (ptr t) n true) 143, trP t] (UndR tb n t (underL (ents t) p)) := by
  refine pact Tryz.func114 rfl Tryz.ntmps114 rfl ?_
  intro W K _
  by_cases hr : Rt p
  · (repeat' (first | ((with_reducible apply gL); (first | refine yL0 ?_ | refine yL ?_ | ((with_reducible apply gL_go); (first | (refine JL_goq (is_s tb (ptr t) n true) (hφ := xF) (h := ?_); rintro _ _ ⟨rfl, rfl⟩; try simp only [List.cons_append, List.nil_append]) | (refine JL_goq (right_b p hp true (decide_eq_true hr)) (hφ := xF) (h := ?_); rintro _ _ ⟨rfl, rfl⟩; try simp only [List.cons_append, List.nil_append]) | (refine JL_goq (find_s tb n t p hp hw) (hφ := xF) (h := ?_); rintro _ _ ⟨C, s, ht, hC, hF, rfl, rfl⟩; try simp only [List.cons_append, List.nil_append]) | fail)) | (refine yM ?_; intro _) | ((with_reducible apply gL_gd); (first | (refine JL_guard xR xR ?_ ?_ <;> intro _ <;> (try (exfalso; first | contradiction | omega))) | (refine JL_guardb xR xR ?_ ?_ <;> (intro hgb; subst hgb)) | (refine JL_guardb xR xR ?_ ?_ <;> (intro hgb; fail_if_success (have : type_of% hgb := rfl))) | fail)) | fail)) | ((with_reducible apply gD); (first | (refine JD_nil ?_; try simp only [List.cons_append, List.nil_append]) | (refine JD_bar ?_; try simp only [List.cons_append, List.nil_append]) | refine yD0 ?_ | refine yD ?_ | ((with_reducible apply gD_go); (first | (refine JD_goq (is_s tb (ptr t) n true) (hφ := xF) (h := ?_); rintro _ _ ⟨rfl, rfl⟩; try simp only [List.cons_append, List.nil_append]) | (refine JD_goq (right_b p hp true (decide_eq_true hr)) (hφ := xF) (h := ?_); rintro _ _ ⟨rfl, rfl⟩; try simp only [List.cons_append, List.nil_append]) | (refine JD_goq (find_s tb n t p hp hw) (hφ := xF) (h := ?_); rintro _ _ ⟨C, s, ht, hC, hF, rfl, rfl⟩; try simp only [List.cons_append, List.nil_append]) | fail)) | ((with_reducible apply gD_gd); (first | (refine JD_guard xR xR ?_ ?_ <;> intro _ <;> (try (exfalso; first | contradiction | omega))) | (refine JD_guardb xR xR ?_ ?_ <;> (intro hgb; subst hgb)) | (refine JD_guardb xR xR ?_ ?_ <;> (intro hgb; fail_if_success (have : type_of% hgb := rfl))) | fail)) | fail)) | refine yJ ?_ | ((with_reducible apply gJ_if); (first | (refine J_if xR ?_ ?_ <;> intro _ <;> (try (exfalso; first | contradiction | omega))) | (refine J_ifb xR ?_ ?_ <;> (intro hgb; subst hgb)) | (refine J_ifb xR ?_ ?_ <;> intro _) | fail)) | refine J_draw (id := 4) [0, 1, 2, 3, 4, 5, 6, 7] [8, 9, 10] mixed xC xD xD ?_ | fail))
    subst ht
    have hs := ((wf_plug C s).1 hw).2
    cases s with
    | nil =>
      rw [und_none hw hC hF hr (by intro q h; simp [top] at h)]
      (repeat' (first | ((with_reducible apply gL); (first | refine yL0 ?_ | ((with_reducible apply gL_load); (first | refine JL_p rfl xR xR (pe_ldH xR xC (fun w hr => hole_see hr xA)) ?_ | fail)) | refine yL ?_ | (refine yM ?_; intro _) | ((with_reducible apply gL_gd); (first | (refine JL_guard xR xR ?_ ?_ <;> intro _ <;> (try (exfalso; first | contradiction | omega))) | (refine JL_guardb xR xR ?_ ?_ <;> (intro hgb; subst hgb)) | (refine JL_guardb xR xR ?_ ?_ <;> (intro hgb; fail_if_success (have : type_of% hgb := rfl))) | fail)) | fail)) | ((with_reducible apply gD); (first | (refine JD_nil ?_; try simp only [List.cons_append, List.nil_append]) | (refine JD_bar ?_; try simp only [List.cons_append, List.nil_append]) | refine yD0 ?_ | ((with_reducible apply gD_load); (first | refine JL_p rfl xR xR (pe_ldH xR xC (fun w hr => hole_see hr xA)) ?_ | fail)) | refine yD ?_ | ((with_reducible apply gD_gd); (first | (refine JD_guard xR xR ?_ ?_ <;> intro _ <;> (try (exfalso; first | contradiction | omega))) | (refine JD_guardb xR xR ?_ ?_ <;> (intro hgb; subst hgb)) | (refine JD_guardb xR xR ?_ ?_ <;> (intro hgb; fail_if_success (have : type_of% hgb := rfl))) | fail)) | fail)) | refine yJ ?_ | ((with_reducible apply gJ_if); (first | (refine J_if xR ?_ ?_ <;> intro _ <;> (try (exfalso; first | contradiction | omega))) | (refine J_ifb xR ?_ ?_ <;> (intro hgb; subst hgb)) | (refine J_ifb xR ?_ ?_ <;> intro _) | fail)) | refine J_draw (id := 4) [0, 1, 2, 3, 4, 5, 6, 7] [8, 9, 10] mixed xC xD xD ?_ | fail))
      exact J_ret1 rfl (by rfl) fun w H => ⟨_, ⟨none, 0, rfl, rfl⟩, ((Ow.arNil (e := 28) (sz := 2) (enc := pfC) (owPlugB (C := C) (s := .nil) H xZ)).sel xZ)⟩
    | node b q has v k0 k1 =>
      by_cases hq : Wi p q
      · rw [und_some hw hC hq]
        have hN : (keysT (.node b q has v k0 k1)).length ≤ 1000000 := by
          have h1 : (ents (plug C (.node b q has v k0 k1))).length = (pre C).length + (ents (.node b q has v k0 k1)).length + (post C).length := by rw [ents_plug]; simp; omega
          have h2 : (keysT (.node b q has v k0 k1)).length = (ents (.node b q has v k0 k1)).length := by simp [keysT]
          omega
        refine JL_heap (fun w H => owNodeO H xA) ?_
        (repeat' (first | ((with_reducible apply gL); (first | refine yL0 ?_ | ((with_reducible apply gL_load); (first | refine JL_p rfl xR xR (pe_ldH xR xC (fun w hr => hole_see hr xA)) ?_ | fail)) | refine yL ?_ | ((with_reducible apply gL_go); (first | (refine JL_goq (within_b p q hp hs.1 true (decide_eq_true hq)) (hφ := xF) (h := ?_); rintro _ _ ⟨rfl, rfl⟩; try simp only [List.cons_append, List.nil_append]) | (refine JL_goq (all_s (some ⟨b, 0, none⟩)) (hφ := xF) (h := ?_); rintro _ _ ⟨g, rfl, rfl⟩; try simp only [List.cons_append, List.nil_append]) | fail)) | (refine yM ?_; intro _) | ((with_reducible apply gL_gd); (first | (refine JL_guard xR xR ?_ ?_ <;> intro _ <;> (try (exfalso; first | contradiction | omega))) | (refine JL_guardb xR xR ?_ ?_ <;> (intro hgb; subst hgb)) | (refine JL_guardb xR xR ?_ ?_ <;> (intro hgb; fail_if_success (have : type_of% hgb := rfl))) | fail)) | fail)) | ((with_reducible apply gD); (first | (refine JD_nil ?_; try simp only [List.cons_append, List.nil_append]) | (refine JD_bar ?_; try simp only [List.cons_append, List.nil_append]) | refine yD0 ?_ | ((with_reducible apply gD_load); (first | refine JL_p rfl xR xR (pe_ldH xR xC (fun w hr => hole_see hr xA)) ?_ | fail)) | refine yD ?_ | ((with_reducible apply gD_go); (first | (refine JD_goq (within_b p q hp hs.1 true (decide_eq_true hq)) (hφ := xF) (h := ?_); rintro _ _ ⟨rfl, rfl⟩; try simp only [List.cons_append, List.nil_append]) | (refine JD_goq (all_s (some ⟨b, 0, none⟩)) (hφ := xF) (h := ?_); rintro _ _ ⟨g, rfl, rfl⟩; try simp only [List.cons_append, List.nil_append]) | fail)) | ((with_reducible apply gD_gd); (first | (refine JD_guard xR xR ?_ ?_ <;> intro _ <;> (try (exfalso; first | contradiction | omega))) | (refine JD_guardb xR xR ?_ ?_ <;> (intro hgb; subst hgb)) | (refine JD_guardb xR xR ?_ ?_ <;> (intro hgb; fail_if_success (have : type_of% hgb := rfl))) | fail)) | fail)) | refine yJ ?_ | ((with_reducible apply gJ_if); (first | (refine J_if xR ?_ ?_ <;> intro _ <;> (try (exfalso; first | contradiction | omega))) | (refine J_ifb xR ?_ ?_ <;> (intro hgb; subst hgb)) | (refine J_ifb xR ?_ ?_ <;> intro _) | fail)) | refine J_draw (id := 4) [0, 1, 2, 3, 4, 5, 6, 7] [8, 9, 10] mixed xC xD xD ?_ | fail))
        refine JL_heap (fun w H => owMkNodeB (b := b) (p := q) (has := has) (v := v) (k0 := k0) (k1 := k1) H xZ) ?_
        (repeat' (first | ((with_reducible apply gL); (first | refine yL0 ?_ | refine yL ?_ | ((with_reducible apply gL_go); (first | (refine JL_goq (collect_s (first := []) (lb := [.pointer (some ⟨g, 0, none⟩)]) (all1_it (.node b q has v k0 k1) g) (by decide +kernel) hN) (hφ := (by (try simp only [List.cons_append, List.nil_append]); exact fun w hr => ⟨hr.cell xA rfl, rdw_v hr xA⟩)) (h := ?_); rintro _ _ ⟨xs, rfl, a, c, rfl, rfl⟩; try simp only [List.cons_append, List.nil_append]) | fail)) | (refine yM ?_; intro _) | ((with_reducible apply gL_gd); (first | (refine JL_guard xR xR ?_ ?_ <;> intro _ <;> (try (exfalso; first | contradiction | omega))) | (refine JL_guardb xR xR ?_ ?_ <;> (intro hgb; subst hgb)) | (refine JL_guardb xR xR ?_ ?_ <;> (intro hgb; fail_if_success (have : type_of% hgb := rfl))) | fail)) | fail)) | ((with_reducible apply gD); (first | (refine JD_nil ?_; try simp only [List.cons_append, List.nil_append]) | (refine JD_bar ?_; try simp only [List.cons_append, List.nil_append]) | refine yD0 ?_ | refine yD ?_ | ((with_reducible apply gD_go); (first | (refine JD_goq (collect_s (first := []) (lb := [.pointer (some ⟨g, 0, none⟩)]) (all1_it (.node b q has v k0 k1) g) (by decide +kernel) hN) (hφ := (by (try simp only [List.cons_append, List.nil_append]); exact fun w hr => ⟨hr.cell xA rfl, rdw_v hr xA⟩)) (h := ?_); rintro _ _ ⟨xs, rfl, a, c, rfl, rfl⟩; try simp only [List.cons_append, List.nil_append]) | fail)) | ((with_reducible apply gD_gd); (first | (refine JD_guard xR xR ?_ ?_ <;> intro _ <;> (try (exfalso; first | contradiction | omega))) | (refine JD_guardb xR xR ?_ ?_ <;> (intro hgb; subst hgb)) | (refine JD_guardb xR xR ?_ ?_ <;> (intro hgb; fail_if_success (have : type_of% hgb := rfl))) | fail)) | fail)) | refine yJ ?_ | ((with_reducible apply gJ_if); (first | (refine J_if xR ?_ ?_ <;> intro _ <;> (try (exfalso; first | contradiction | omega))) | (refine J_ifb xR ?_ ?_ <;> (intro hgb; subst hgb)) | (refine J_ifb xR ?_ ?_ <;> intro _) | fail)) | refine J_draw (id := 4) [0, 1, 2, 3, 4, 5, 6, 7] [8, 9, 10] mixed xC xD xD ?_ | fail))
        exact J_ret1 rfl (by rfl) fun w H => ⟨_, ⟨a, c, rfl, rfl⟩, (owPlugB (C := C) (s := .node b q has v k0 k1) H xZ).sel xZ⟩
      · rw [und_none hw hC hF hr (by intro x h; cases h; exact hq)]
        refine JL_heap (fun w H => owNodeO H xA) ?_
        (repeat' (first | ((with_reducible apply gL); (first | refine yL0 ?_ | ((with_reducible apply gL_load); (first | refine JL_p rfl xR xR (pe_ldH xR xC (fun w hr => hole_see hr xA)) ?_ | fail)) | refine yL ?_ | ((with_reducible apply gL_go); (first | (refine JL_goq (within_b p q hp hs.1 false (decide_eq_false hq)) (hφ := xF) (h := ?_); rintro _ _ ⟨rfl, rfl⟩; try simp only [List.cons_append, List.nil_append]) | fail)) | (refine yM ?_; intro _) | ((with_reducible apply gL_gd); (first | (refine JL_guard xR xR ?_ ?_ <;> intro _ <;> (try (exfalso; first | contradiction | omega))) | (refine JL_guardb xR xR ?_ ?_ <;> (intro hgb; subst hgb)) | (refine JL_guardb xR xR ?_ ?_ <;> (intro hgb; fail_if_success (have : type_of% hgb := rfl))) | fail)) | fail)) | ((with_reducible apply gD); (first | (refine JD_nil ?_; try simp only [List.cons_append, List.nil_append]) | (refine JD_bar ?_; try simp only [List.cons_append, List.nil_append]) | refine yD0 ?_ | ((with_reducible apply gD_load); (first | refine JL_p rfl xR xR (pe_ldH xR xC (fun w hr => hole_see hr xA)) ?_ | fail)) | refine yD ?_ | ((with_reducible apply gD_go); (first | (refine JD_goq (within_b p q hp hs.1 false (decide_eq_false hq)) (hφ := xF) (h := ?_); rintro _ _ ⟨rfl, rfl⟩; try simp only [List.cons_append, List.nil_append]) | fail)) | ((with_reducible apply gD_gd); (first | (refine JD_guard xR xR ?_ ?_ <;> intro _ <;> (try (exfalso; first | contradiction | omega))) | (refine JD_guardb xR xR ?_ ?_ <;> (intro hgb; subst hgb)) | (refine JD_guardb xR xR ?_ ?_ <;> (intro hgb; fail_if_success (have : type_of% hgb := rfl))) | fail)) | fail)) | refine yJ ?_ | ((with_reducible apply gJ_if); (first | (refine J_if xR ?_ ?_ <;> intro _ <;> (try (exfalso; first | contradiction | omega))) | (refine J_ifb xR ?_ ?_ <;> (intro hgb; subst hgb)) | (refine J_ifb xR ?_ ?_ <;> intro _) | fail)) | refine J_draw (id := 4) [0, 1, 2, 3, 4, 5, 6, 7] [8, 9, 10] mixed xC xD xD ?_ | fail))
        exact J_ret1 rfl (by rfl) fun w H => ⟨_, ⟨none, 0, rfl, rfl⟩, ((Ow.arNil (e := 28) (sz := 2) (enc := pfC) (owPlugB (C := C) (s := .node b q has v k0 k1) (owMkNodeB (k0 := k0) (k1 := k1) (v := v) (p := q) (has := has) H xZ) xZ)).sel xZ)⟩
  · rw [und_notRt hr]
    (repeat' (first | ((with_reducible apply gL); (first | refine yL0 ?_ | refine yL ?_ | ((with_reducible apply gL_go); (first | (refine JL_goq (is_s tb (ptr t) n true) (hφ := xF) (h := ?_); rintro _ _ ⟨rfl, rfl⟩; try simp only [List.cons_append, List.nil_append]) | (refine JL_goq (right_b p hp false (decide_eq_false hr)) (hφ := xF) (h := ?_); rintro _ _ ⟨rfl, rfl⟩; try simp only [List.cons_append, List.nil_append]) | fail)) | (refine yM ?_; intro _) | ((with_reducible apply gL_gd); (first | (refine JL_guard xR xR ?_ ?_ <;> intro _ <;> (try (exfalso; first | contradiction | omega))) | (refine JL_guardb xR xR ?_ ?_ <;> (intro hgb; subst hgb)) | (refine JL_guardb xR xR ?_ ?_ <;> (intro hgb; fail_if_success (have : type_of% hgb := rfl))) | fail)) | fail)) | ((with_reducible apply gD); (first | (refine JD_nil ?_; try simp only [List.cons_append, List.nil_append]) | (refine JD_bar ?_; try simp only [List.cons_append, List.nil_append]) | refine yD0 ?_ | refine yD ?_ | ((with_reducible apply gD_go); (first | (refine JD_goq (is_s tb (ptr t) n true) (hφ := xF) (h := ?_); rintro _ _ ⟨rfl, rfl⟩; try simp only [List.cons_append, List.nil_append]) | (refine JD_goq (right_b p hp false (decide_eq_false hr)) (hφ := xF) (h := ?_); rintro _ _ ⟨rfl, rfl⟩; try simp only [List.cons_append, List.nil_append]) | fail)) | ((with_reducible apply gD_gd); (first | (refine JD_guard xR xR ?_ ?_ <;> intro _ <;> (try (exfalso; first | contradiction | omega))) | (refine JD_guardb xR xR ?_ ?_ <;> (intro hgb; subst hgb)) | (refine JD_guardb xR xR ?_ ?_ <;> (intro hgb; fail_if_success (have : type_of% hgb := rfl))) | fail)) | fail)) | refine yJ ?_ | ((with_reducible apply gJ_if); (first | (refine J_if xR ?_ ?_ <;> intro _ <;> (try (exfalso; first | contradiction | omega))) | (refine J_ifb xR ?_ ?_ <;> (intro hgb; subst hgb)) | (refine J_ifb xR ?_ ?_ <;> intro _) | fail)) | refine J_draw (id := 4) [0, 1, 2, 3, 4, 5, 6, 7] [8, 9, 10] mixed xC xD xD ?_ | fail))
    exact J_ret1 rfl (by rfl) fun w H => ⟨_, ⟨none, 0, rfl, rfl⟩, (Ow.arNil (e := 28) (sz := 2) (enc := pfC) H).sel xZ⟩
end Go.Proofs.YtdnokmpnemaoaaaGreat.T
namespace Go.Proofs.YtdnokmpnemaoaaaGreat.T
set_option linter.unusedSimpArgs false
set_option linter.unusedVariables false
set_option maxRecDepth 20000
set_option maxHeartbeats 4000000
open Go.RowKit Go.Pm

theorem pf0_n : PfN (0, 0) := by unfold PfN U32 I64; decide
theorem und_all {t : Tr} (hw : wf (0, 0) t) : underL (ents t) (0, 0) = keysT t := by
  unfold underL keysT
  rw [List.filter_eq_self.2 fun e he => decide_eq_true (wf_wi hw he).1]
theorem allT_s (tb : Nat) (n : Int) (t : Tr) (hw : wf (0, 0) t) (hn : (ents t).length ≤ 4096) : Pact Tryz.prog 82 #[.pointer (some ⟨tb, 0, none⟩)] (fun _ => True) [pts tb (trC (ptr t) n true) 143, trP t] (UndR tb n t (keysT t)) := by
  refine pact Tryz.func82 rfl Tryz.ntmps82 rfl ?_
  intro W K _
  rw [← und_all hw]
  (repeat' (first | ((with_reducible apply gL); (first | refine yL0 ?_ | refine yL ?_ | ((with_reducible apply gL_go); (first | (refine JL_goq (under_s tb n t (0, 0) pf0_n hw hn) (hφ := xF) (h := ?_); rintro _ _ ⟨a, c, rfl, rfl⟩; try simp only [List.cons_append, List.nil_append]) | fail)) | fail)) | refine yJ ?_ | fail))
  exact J_ret1 rfl (by rfl) fun w H => ⟨_, ⟨a, c, rfl, rfl⟩, H.sel xZ⟩

/-! No call made it. -/
section
variable (tb : Nat) (p : Pf) (v : Vt)
end
end Go.Proofs.YtdnokmpnemaoaaaGreat.T
namespace Go.Proofs.YtdnokmpnemaoaaaGreat.T
set_option linter.unusedSimpArgs false
set_option linter.unusedVariables false
open Go.RowKit Go.Pm

end Go.Proofs.YtdnokmpnemaoaaaGreat.T
namespace Go.Proofs.YtdnokmpnemaoaaaGreat.T
set_option linter.unusedSimpArgs false
set_option linter.unusedVariables false
open Go.RowKit Go.Pm

section
variable {W : World} {K : Hl} {L R : List HP} {w : World} {tb : Nat} {E : List Ent}
def trA (tb : Nat) (E : List Ent) : HP := fun h => ∃ t, (wf (0, 0) t ∧ ents t = E) ∧ sats (TrieL tb E.length t) h
theorem trOpen (H : Ow W K L w) (t : Tk L (trA tb E) R) : ∃ x : {t : Tr // wf (0, 0) t ∧ ents t = E}, Ow W K (pts tb (trC (ptr x.1) E.length true) 143 :: trP x.1 :: R) w :=
  H.open t (Bs := fun x : {t : Tr // wf (0, 0) t ∧ ents t = E} => TrieL tb E.length x.1) (fun _ ⟨t, h1, h2⟩ => ⟨⟨t, h1⟩, h2⟩)
theorem trShut {t : Tr} (hw : wf (0, 0) t) (he : ents t = E) (H : Ow W K L w) (s : Sb L [pts tb (trC (ptr t) E.length true) 143, trP t] R) : Ow W K (trA tb E :: R) w :=
  H.shut s (fun _ hk => ⟨t, ⟨hw, he⟩, hk⟩)
structure EOk (E : List Ent) : Prop where
  s : Srt E
  e : ∀ x ∈ E, Rt x.1 ∧ PfN x.1 ∧ VN x.2
theorem EOk.of {t : Tr} (hw : wf (0, 0) t) : EOk (ents t) := ⟨wf_srt hw, fun _ hx => by
  have h := wf_wi hw hx
  exact ⟨h.1.rt2, h.2⟩⟩
theorem trOk (H : Ow W K L w) (t : Tk L (trA tb E) R) : EOk E := by
  obtain ⟨⟨x, hw, he⟩, _⟩ := trOpen H t
  rw [← he]
  exact .of hw
end
theorem new_a : Pact Tryz.prog 33 #[] (fun _ => True) [] (fun u L' => ∃ tb, u = .pointer (some ⟨tb, 0, none⟩) ∧ L' = [trA tb []]) := fun W K w hK H =>
  (new_s W K w hK H).mono fun e w' h => by
    obtain ⟨u, L', ⟨tb, rfl, rfl⟩, h5, h6⟩ := h
    exact ⟨_, _, ⟨tb, rfl, rfl⟩, h5, (trShut (t := .nil) trivial rfl h6 xZ).sel xZ⟩
theorem get_a (tb : Nat) (E : List Ent) (p : Pf) (hp : PfN p) : Pact Tryz.prog 64 #[.pointer (some ⟨tb, 0, none⟩), .agg (pfC p).toArray] (fun _ => True) [trA tb E] (fun v L' => v = optV (getL E p) ∧ L' = [trA tb E]) := fun W K w hK H => by
  obtain ⟨⟨t, hw, he⟩, H⟩ := trOpen H .here
  subst he
  refine (get_s tb _ t p hp hw W K w hK H).mono fun e w' h => ?_
  obtain ⟨u, L', ⟨rfl, rfl⟩, h5, h6⟩ := h
  exact ⟨_, _, ⟨rfl, rfl⟩, h5, (trShut hw rfl h6 xZ).sel xZ⟩
theorem put_a (tb : Nat) (E : List Ent) (p : Pf) (v : Vt) (hp : PfN p) (hv : VN v) (hn : E.length ≤ 4096) : Pact Tryz.prog 85 #[.pointer (some ⟨tb, 0, none⟩), .agg (pfC p).toArray, .agg (vC v).toArray] (fun _ => True) [trA tb E] (fun u L' => u = .int .i64 (putE E p v).1 ∧ L' = [trA tb (putE E p v).2]) := fun W K w hK H => by
  obtain ⟨⟨t, hw, he⟩, H⟩ := trOpen H .here
  subst he
  refine (put_s tb t p v hp hv hw hn W K w hK H).mono fun e w' h => ?_
  obtain ⟨u, L', ⟨t', h1, h2, rfl, rfl⟩, h5, h6⟩ := h
  rw [← h2]
  exact ⟨_, _, ⟨rfl, rfl⟩, h5, (trShut h1 rfl h6 xZ).sel xZ⟩
theorem drop_a (tb : Nat) (E : List Ent) (p : Pf) (hp : PfN p) (hn : E.length ≤ 4096) : Pact Tryz.prog 84 #[.pointer (some ⟨tb, 0, none⟩), .agg (pfC p).toArray] (fun _ => True) [trA tb E] (fun u L' => u = .bool (getL E p).isSome ∧ L' = [trA tb (dropL E p)]) := fun W K w hK H => by
  obtain ⟨⟨t, hw, he⟩, H⟩ := trOpen H .here
  subst he
  refine (drop_s tb t p hp hw hn W K w hK H).mono fun e w' h => ?_
  obtain ⟨u, L', ⟨t', h1, h2, rfl, rfl⟩, h5, h6⟩ := h
  rw [← h2]
  exact ⟨_, _, ⟨rfl, rfl⟩, h5, (trShut h1 rfl h6 xZ).sel xZ⟩
theorem len_a (tb : Nat) (E : List Ent) : Pact Tryz.prog 68 #[.pointer (some ⟨tb, 0, none⟩)] (fun _ => True) [trA tb E] (fun u L' => u = .int .i64 E.length ∧ L' = [trA tb E]) := fun W K w hK H => by
  obtain ⟨⟨t, hw, he⟩, H⟩ := trOpen H .here
  subst he
  have H2 := H.frame (L := [pts tb (trC (ptr t) (ents t).length true) 143]) (R := [trP t])
  obtain ⟨hR, sR, dR, H3, back⟩ := H2
  refine (len_s tb (ptr t) (ents t).length true W _ w (fun _ _ => trivial) H3).mono fun e w' h => ?_
  obtain ⟨u, L', ⟨rfl, rfl⟩, h5, h6⟩ := h
  exact ⟨_, _, ⟨rfl, rfl⟩, h5, (trShut hw rfl (back _ _ h6) xZ).sel xZ⟩
def keysE (E : List Ent) : List Pf := E.map (·.1)
theorem all_a (tb : Nat) (E : List Ent) (hn : E.length ≤ 4096) : Pact Tryz.prog 82 #[.pointer (some ⟨tb, 0, none⟩)] (fun _ => True) [trA tb E] (fun u L' => ∃ a c, u = .slice a (keysE E).length c ∧ L' = [Ar 28 2 pfC (.slice a (keysE E).length c) (keysE E), trA tb E]) := fun W K w hK H => by
  obtain ⟨⟨t, hw, he⟩, H⟩ := trOpen H .here
  subst he
  refine (allT_s tb _ t hw hn W K w hK H).mono fun e w' h => ?_
  obtain ⟨u, L', ⟨a, c, rfl, rfl⟩, h5, h6⟩ := h
  exact ⟨_, _, ⟨a, c, rfl, rfl⟩, h5, (trShut hw rfl h6 xZ).sel xZ⟩
end Go.Proofs.YtdnokmpnemaoaaaGreat.T
namespace Go.Pm
set_option linter.unusedSimpArgs false
set_option linter.unusedVariables false
open Go.RowKit

theorem beqBA (a b : ByteArray) : (a == b) = decide (a = b) := by
  show ByteArray.beq a b = _
  cases a with | mk x => cases b with | mk y =>
    rw [Bool.eq_iff_iff]
    simp [ByteArray.beq]
section
variable {κ : Type} [DecidableEq κ]
def KeyOk (P : Program) (key : TypeId) (kv : κ → Value) : Prop := ∃ kd, P.underlying key = some kd ∧ (∀ a b : κ, Instr.sameNow kd (kv a) (kv b) = some (decide (a = b))) ∧ (∀ e (a : κ) w, (Instr.checkKey e 10000 key (kv a)).run P w = .ok () w) ∧ ∀ a : κ, Instr.sameBits 10000 (kv a) (kv a) = true
def MI (P : Program) (t : TypeId) (kv : κ → Value) (zv : Value) : Prop := ∃ key elem i, P.underlying t = some (.map key elem) ∧ KeyOk P key kv ∧ P.info? elem = some i ∧ i.zero = some zv
structure Born (ents : List MapEntry) (clock : Nat) : Prop where
  lt : ∀ e ∈ ents, e.born < clock
  ne : ents.Pairwise (fun a b => a.born ≠ b.born)
def mq (kv : κ → Value) (b : Nat) (es : List (κ × Value)) : HP := fun h => ∃ ents clock, h = Hl.one b (.map ents clock) ∧ ents.toList.map (fun e => (e.key, e.val)) = es.map (fun p => (kv p.1, p.2)) ∧ Born ents.toList clock
def aG : List (κ × Value) → κ → Option Value
  | [], _ => none
  | (x, v) :: r, z => if x = z then some v else aG r z
def aP : List (κ × Value) → κ → Value → List (κ × Value)
  | [], z, v => [(z, v)]
  | (x, u) :: r, z, v => if x = z then (x, v) :: r else (x, u) :: aP r z v
def aD : List (κ × Value) → κ → List (κ × Value)
  | [], _ => []
  | (x, u) :: r, z => if x = z then r else (x, u) :: aD r z
end
theorem keyOkS {P : Program} {key : TypeId} (h : P.underlying key = some .string) : KeyOk P key Value.string := by
  refine ⟨_, h, fun a b => ?_, fun e a w => ?_, fun a => ?_⟩
  · simp only [Instr.sameNow, beqBA]
  · have : ∀ m, (Instr.checkKey e (m + 1) key (.string a)).run P w = .ok () w := fun m => by
      unfold Instr.checkKey
      simp [Sem.run_bind, run_underlying h]
    exact this 9999
  · have : ∀ m, Instr.sameBits m (.string a) (.string a) = true := fun m => by cases m <;> simp [Instr.sameBits, beqBA]
    exact this _
theorem keyOkI {P : Program} {key : TypeId} {k : IntKind} (h : P.underlying key = some (.int k)) : KeyOk P key (Value.int k) := by
  refine ⟨_, h, fun a b => ?_, fun e a w => run_checkKey h e a w, fun a => ?_⟩
  · simp only [Instr.sameNow, if_pos]
    congr 1
  · have : ∀ m, Instr.sameBits m (.int k a) (.int k a) = true := fun m => by cases m <;> simp [Instr.sameBits]
    exact this _
section
variable {κ : Type} [DecidableEq κ] {kv : κ → Value}
variable {P : Program} {n : Nat} {W : World} {K : Hl} {F : Fp} {k : List It} {tm : TM} {L L' R S M M' : List HP} {T : TypeId} {pos : String} {af : Array Edge} {gd : Option (Nat × Bool)} {ops : Array Oper} {rest nx : List Oper} {d : Tmp}
theorem findNow_aG {kd : TypeDesc} (hs : ∀ a b : κ, Instr.sameNow kd (kv a) (kv b) = some (decide (a = b))) (z : κ) : ∀ (ents : List MapEntry) (es : List (κ × Value)) (i : Nat), ents.map (fun e => (e.key, e.val)) = es.map (fun p => (kv p.1, p.2)) →
    (aG es z = none ∧ Instr.findNow kd (kv z) ents i = some none ∧ aD es z = es) ∨ (∃ j v, aG es z = some v ∧ Instr.findNow kd (kv z) ents i = some (some (i + j, v)) ∧ j < ents.length ∧ (ents[j]?).map (·.key) = some (kv z) ∧ es.length = ents.length ∧ (∀ u, aP es z u = es.set j (z, u)) ∧ aD es z = es.eraseIdx j)
  | [], [], i, _ => .inl ⟨rfl, rfl, rfl⟩
  | [], p :: _, _, h => by simp at h
  | e :: ents, [], _, h => by simp at h
  | e :: ents, (x, v) :: es, i, h => by
    simp only [List.map_cons, List.cons.injEq, Prod.mk.injEq] at h
    obtain ⟨⟨h1, h2⟩, h3⟩ := h
    have hlen : es.length = ents.length := by have := congrArg List.length h3; simpa using this.symm
    by_cases hx : x = z
    · subst hx
      refine .inr ⟨0, v, by simp [aG], ?_, by simp, by simp [h1], by simp [hlen], fun u => by simp [aP], by simp [aD]⟩
      simp [Instr.findNow, h1, h2, hs]
    · have hstep : Instr.findNow kd (kv z) (e :: ents) i = Instr.findNow kd (kv z) ents (i + 1) := by
        simp [Instr.findNow, h1, hs, Ne.symm hx]
      rw [hstep]
      rcases findNow_aG hs z ents es (i + 1) h3 with ⟨a, b, c⟩ | ⟨j, u, a, b, c, d, e, f, g⟩
      · exact .inl ⟨by simp [aG, hx, a], b, by simp [aD, hx, c]⟩
      · refine .inr ⟨j + 1, u, by simp [aG, hx, a], by rw [b]; congr 3; omega, by simp [c], by simpa using d, by simp [hlen], fun w => ?_, ?_⟩
        · simp [aP, hx, f w]
        · simp [aD, hx, g]
omit [DecidableEq κ] in
theorem mq_obj {h : Hl} {b : Nat} {es : List (κ × Value)} (hm : mq kv b es h) {w : World} (i : h.inn w) : ∃ ents clock, w.heap[b]? = some (.map ents clock) ∧ ents.toList.map (fun e => (e.key, e.val)) = es.map (fun p => (kv p.1, p.2)) ∧ Born ents.toList clock := by
  obtain ⟨ents, clock, rfl, he, hb⟩ := hm
  exact ⟨ents, clock, i b _ (by simp [Hl.one]), he, hb⟩
omit [DecidableEq κ] in
theorem run_findKeyG {key : TypeId} {kd : TypeDesc} (hk : P.underlying key = some kd) {z : κ} {es : List MapEntry} {r : Option (Nat × Value)} (h : Instr.findNow kd (kv z) es 0 = some r) (w : World) : (Instr.findKey key (kv z) es).run P w = .ok r w := by
  simp [Instr.findKey, Sem.run_bind, run_underlying hk, h]
theorem pe_lookG {od : Option Tmp} {t : TypeId} {x y : Operand} {b : Nat} {z : κ} {es : List (κ × Value)} {zv : Value} {ok : Bool} {v : Value} (ht : MI P t kv zv) (hx : evT tm x = some (.map (some b))) (hy : evT tm y = some (kv z)) (hm : Tk L (mq kv b es) R) (hq : lookV (aG es z) zv ok = v) : PE P K L ⟨od, .lookup t x y ok, T, pos, af, gd⟩ (tget tm) v := fun ρ w ha hr => by
  subst hq
  have h1 := ha x (by simp [Op.operands]) _ hx
  have h2 := ha y (by simp [Op.operands]) _ hy
  obtain ⟨key, elem, i, hu, ⟨kd, hk, hs, hck, _⟩, hi, hz⟩ := ht
  obtain ⟨q, hq, hin⟩ := hr.tk hm
  obtain ⟨ents, clock, ho, he, hbo⟩ := mq_obj hq hin
  unfold execOp
  simp only [h1, h2]
  rcases findNow_aG hs z ents.toList es 0 he with ⟨e1, e2, _⟩ | ⟨j, v', e1, e2, _⟩
  · simp only [Instr.lookup, Sem.run_bind, run_underlying hu, Result.andThen_ok, run_getObj ho, Sem.run_pure, hck, run_findKeyG hk e2, zeroValue, typeInfo, e1, lookV]
    cases ok <;> simp [hi, hz]
  · simp only [Instr.lookup, Sem.run_bind, run_underlying hu, Result.andThen_ok, run_getObj ho, Sem.run_pure, hck, run_findKeyG hk e2, e1, lookV]
    cases ok <;> simp
theorem pe_lenG {od : Option Tmp} {t : TypeId} {x : Operand} {b N : Nat} {es : List (κ × Value)} {zv : Value} (ht : MI P t kv zv) (hx : evT tm x = some (.map (some b))) (hm : Tk L (mq kv b es) R) (hN : es.length = N) : PE P K L ⟨od, .call ⟨.builtin .len, #[x], #[t]⟩, T, pos, af, gd⟩ (tget tm) (.int .i64 N) := pe_call (vs := [.map (some b)]) (by simp [hx]) fun w hr cs => by
  subst hN
  obtain ⟨key, elem, i, hu, _⟩ := ht
  obtain ⟨q, hq, hin⟩ := hr.tk hm
  obtain ⟨ents, clock, ho, he, hbo⟩ := mq_obj hq hin
  have hl : ents.size = es.length := by have := congrArg List.length he; simpa using this
  simp [builtin, Builtin.len_, Sem.run_bind, run_underlying hu, run_getObj ho, hl]
  rfl
omit [DecidableEq κ] in
theorem mq_change {W : World} {K' : Hl} {w : World} {b : Nat} {es es' : List (κ × Value)} {ents ents' : Array MapEntry} {clock clock' : Nat} (hO : Ow W K' (mq kv b es :: R) w) (ho : w.heap[b]? = some (.map ents clock)) (he' : ents'.toList.map (fun e => (e.key, e.val)) = es'.map (fun p => (kv p.1, p.2))) (hb' : Born ents'.toList clock') : Ow W K' (mq kv b es' :: R) { w with heap := w.heap.setIfInBounds b (.map ents' clock') } := by
  refine Ow.change hO rfl ((Tp.refl _).same rfl rfl) rfl (by simp) (fun h hh ih => ?_)
  obtain ⟨en, cl, rfl, _, _⟩ := hh
  have hlt : b < w.heap.size := (Array.getElem?_eq_some_iff.1 ho).1
  refine ⟨⟨Hl.one b (.map ents' clock'), ⟨ents', clock', rfl, he', hb'⟩, fun c o e => ?_, fun c hc => ?_⟩, fun c hl hc => ?_⟩
  · unfold Hl.one at e
    split at e
    · rename_i hcb; subst hcb; cases e
      simp [Array.getElem?_setIfInBounds, hlt]
    · cases e
  · left
    unfold Hl.one at hc ⊢
    split at hc <;> simp_all
  · have hcb : b ≠ c := fun e => by subst e; simp [Hl.one] at hc
    simp [Array.getElem?_setIfInBounds, hcb]
theorem born_set {ents : Array MapEntry} {clock : Nat} (hb : Born ents.toList clock) {o : Option (Option (Nat × Value))} {z v : Value} : Born (match o with | some (some (j, _)) => ents.modify j fun e => { e with key := z, val := v } | _ => ents.push { key := z, val := v, born := clock }).toList (match o with | some (some _) => clock | _ => clock + 1) := by
  have push : Born (ents.push { key := z, val := v, born := clock }).toList (clock + 1) := by
    refine ⟨fun e he => ?_, ?_⟩
    · rw [Array.toList_push] at he
      rcases List.mem_append.1 he with he | he
      · have := hb.lt e he; omega
      · obtain rfl := List.mem_singleton.1 he; exact Nat.lt_succ_self _
    · rw [Array.toList_push]
      refine List.pairwise_append.2 ⟨hb.ne, List.pairwise_singleton _ _, fun a ha b hb' => ?_⟩
      obtain rfl := List.mem_singleton.1 hb'
      have := hb.lt a ha
      dsimp only
      omega
  match o with
  | none => exact push
  | some none => exact push
  | some (some (j, _)) =>
    have hm : (ents.modify j fun e => { e with key := z, val := v }).toList.map (·.born) = ents.toList.map (·.born) := by
      apply List.ext_getElem?
      intro q
      simp only [List.getElem?_map, Array.getElem?_toList, Array.getElem?_modify]
      split
      · cases ents[q]? <;> rfl
      · rfl
    dsimp only
    refine ⟨fun e he => ?_, ?_⟩
    · have h1 : e.born ∈ (ents.modify j fun e => { e with key := z, val := v }).toList.map (·.born) := List.mem_map.2 ⟨e, he, rfl⟩
      rw [hm] at h1
      obtain ⟨e', he', h2⟩ := List.mem_map.1 h1
      rw [← h2]; exact hb.lt e' he'
    · have h1 : (ents.toList.map (·.born)).Pairwise (· ≠ ·) := List.pairwise_map.2 hb.ne
      rw [← hm] at h1
      exact List.pairwise_map.1 h1
theorem born_del {ents : Array MapEntry} {clock : Nat} (hb : Born ents.toList clock) {o : Option (Option (Nat × Value))} : Born (match o with | some (some (j, _)) => ents.eraseIdxIfInBounds j | _ => ents).toList clock := by
  match o with
  | none => exact hb
  | some none => exact hb
  | some (some (j, _)) =>
    dsimp only
    have hs : ((ents.eraseIdxIfInBounds j).toList).Sublist ents.toList := by
      unfold Array.eraseIdxIfInBounds
      split
      · simp only [Array.toList_eraseIdx]
        exact List.eraseIdx_sublist ..
      · exact List.Sublist.refl _
    exact ⟨fun e he => hb.lt e (hs.subset he), hb.ne.sublist hs⟩
theorem ae_setG {od : Option Tmp} {t : TypeId} {x y u : Operand} {b : Nat} {z : κ} {es : List (κ × Value)} {zv v : Value} (ht : MI P t kv zv) (hx : evT tm x = some (.map (some b))) (hy : evT tm y = some (kv z)) (hv : evT tm u = some v) :
    AE P n K R [mq kv b es] ⟨od, .mapUpdate t x y u, T, pos, af, gd⟩ (tget tm) (one undef [mq kv b (aP es z v)]) := fun W K' w a next hK hf hO hn => by
  obtain ⟨key, elem, i, hu, ⟨kd, hk, hs, hck, hsb⟩, hi, hz⟩ := ht
  obtain ⟨q, hq, hin⟩ := hO.part
  obtain ⟨ents, clock, ho, he, hbo⟩ := mq_obj hq hin
  refine wp_done (w' := { w with heap := w.heap.setIfInBounds b (.map (match Instr.findNow kd (kv z) ents.toList 0 with | some (some (j, _)) => ents.modify j fun e => { e with key := kv z, val := v } | _ => ents.push { key := kv z, val := v, born := clock }) (match Instr.findNow kd (kv z) ents.toList 0 with | some (some _) => clock | _ => clock + 1)) }) ?_ (hn undef _ _ ⟨rfl, rfl⟩ (mq_change hO ho ?_ ?_))
  · unfold execOp
    simp only [hf.eval hx, hf.eval hy, hf.eval hv]
    rcases findNow_aG hs z ents.toList es 0 he with ⟨e1, e2, _⟩ | ⟨j, u', e1, e2, e3, e4, _⟩
    · simp only [Instr.mapUpdate, Sem.run_bind, run_underlying hu, Result.andThen_ok, run_getObj ho, hck, run_findKeyG hk e2, e2]
      simp [setObj, Sem.run, ho]
    · have hold : ((ents[0 + j]?).map (·.key)).getD (kv z) = kv z := by
        rw [Nat.zero_add]
        have : (ents[j]?).map (·.key) = some (kv z) := by simpa using e4
        rw [this]; rfl
      have hsame : (Instr.keyThatStays (kv z) (kv z)).run P w = .ok (kv z) w := by
        simp [Instr.keyThatStays, hsb]
      simp only [Instr.mapUpdate, Sem.run_bind, run_underlying hu, Result.andThen_ok, run_getObj ho, hck, run_findKeyG hk e2, e2, hold, hsame]
      simp [setObj, Sem.run, ho]
  · rcases findNow_aG hs z ents.toList es 0 he with ⟨e1, e2, _⟩ | ⟨j, u', e1, e2, e3, e4, e6, e5, _⟩
    · rw [e2]
      have : ∀ (l : List (κ × Value)), aG l z = none → aP l z v = l ++ [(z, v)] := by
        intro l
        induction l with
        | nil => intro _; rfl
        | cons p l ih =>
          intro h
          obtain ⟨x, u⟩ := p
          simp only [aG] at h
          split at h
          · cases h
          · rename_i hx; simp [aP, hx, ih h]
      rw [this es e1]
      simp [he]
    · rw [e2]
      dsimp only
      rw [Nat.zero_add, e5 v]
      apply List.ext_getElem?
      intro q
      have hq2 := congrArg (·[q]?) he
      simp only [List.getElem?_map] at hq2
      simp only [List.getElem?_map, Array.getElem?_toList, Array.getElem?_modify, List.getElem?_set]
      by_cases hjq : j = q
      · subst hjq
        have e6 : j < es.length := by rw [e6]; exact e3
        simp only [if_pos rfl, if_pos e6]
        have : j < ents.size := by simpa using e3
        simp [Array.getElem?_eq_getElem this]
      · rw [if_neg hjq, if_neg hjq]
        simpa using hq2
  · exact born_set hbo
theorem ae_delG {od : Option Tmp} {t : TypeId} {x y : Operand} {ts : Array TypeId} {b : Nat} {z : κ} {es : List (κ × Value)} {zv : Value} (ht : MI P t kv zv) (h0 : ts[0]? = some t) (hx : evT tm x = some (.map (some b))) (hy : evT tm y = some (kv z)) :
    AE P n K R [mq kv b es] ⟨od, .call ⟨.builtin .delete, #[x, y], ts⟩, T, pos, af, gd⟩ (tget tm) (one (.tuple #[]) [mq kv b (aD es z)]) := fun W K' w a next hK hf hO hn => by
  obtain ⟨key, elem, i, hu, ⟨kd, hk, hs, hck, hsb⟩, hi, hz⟩ := ht
  obtain ⟨q, hq, hin⟩ := hO.part
  obtain ⟨ents, clock, ho, he, hbo⟩ := mq_obj hq hin
  have hr : (Builtin.delete_ ts T #[.map (some b), kv z]).run P w = .ok (.tuple #[]) { w with heap := w.heap.setIfInBounds b (.map (match Instr.findNow kd (kv z) ents.toList 0 with | some (some (j, _)) => ents.eraseIdxIfInBounds j | _ => ents) clock) } := by
    rcases findNow_aG hs z ents.toList es 0 he with ⟨e1, e2, _⟩ | ⟨j, u', e1, e2, e3, e4, _⟩
    · simp [Builtin.delete_, h0, Sem.run_bind, run_underlying hu, run_getObj ho, hck, run_findKeyG hk e2, e2, setObj, Sem.run, ho]
    · simp [Builtin.delete_, h0, Sem.run_bind, run_underlying hu, run_getObj ho, hck, run_findKeyG hk e2, e2, setObj, Sem.run, ho]
  refine wpI_of_wp ?_
  unfold Oper.wp execOp
  simp only [resolve, invoke, builtin, Sem.run_bind, Sem.run_pure, Result.andThen_ok, List.map_toArray, List.map_cons, List.map_nil, hf.eval hx, hf.eval hy, hr]
  refine hn (.tuple #[]) _ _ ⟨rfl, rfl⟩ (mq_change hO ho ?_ (born_del hbo))
  rcases findNow_aG hs z ents.toList es 0 he with ⟨e1, e2, e3⟩ | ⟨j, u', e1, e2, e3, e4, e6, e5, e7⟩
  · rw [e2, e3]
    exact he
  · rw [e2, e7]
    dsimp only
    rw [Nat.zero_add]
    have h8 : (ents.eraseIdxIfInBounds j).toList = ents.toList.eraseIdx j := by
      unfold Array.eraseIdxIfInBounds
      rw [dif_pos (by simpa using e3)]
      simp
    have h9 : ∀ {α β : Type} (f : α → β) (l : List α) (j : Nat), (l.eraseIdx j).map f = (l.map f).eraseIdx j := by
      intro α β f l
      induction l with
      | nil => intro j; simp
      | cons x l ih => intro j; cases j <;> simp [ih]
    rw [h8, h9, h9, he]
omit [DecidableEq κ] in
theorem JL_mmG {t : TypeId} (kv : κ → Value) (hn : Nat.blt d n = true) (hg : wantF ops ⟨some d, .makeMap t none, T, pos, af, gd⟩ (tget tm) = some true) (h : ∀ b, JL P n W K F ops k rest ((d, .map (some b)) :: tm) (mq kv b [] :: L)) : JL P n W K F ops k (⟨some d, .makeMap t none, T, pos, af, gd⟩ :: rest) tm L :=
  JL_m rfl hn hg al_mapNew fun b => JL_heap (fun w H => H.imp fun q hq => ⟨#[], 0, hq, rfl, by simp, by simp⟩) (h b)
theorem JD_setG {t : TypeId} {x y u : Operand} {b : Nat} {z : κ} {es : List (κ × Value)} {zv v : Value} (ht : MI P t kv zv) (hx : evT tm x = some (.map (some b))) (hy : evT tm y = some (kv z)) (hv : evT tm u = some v) (hm : Tk M (mq kv b es) R) (hg : wantF ops ⟨none, .mapUpdate t x y u, T, pos, af, gd⟩ (tget tm) = some true)
    (h : JD P n W K F ops k nx rest tm S (mq kv b (aP es z v) :: R)) : JD P n W K F ops k nx (⟨none, .mapUpdate t x y u, T, pos, af, gd⟩ :: rest) tm S M :=
  JD_a0 rfl hg rfl (.cons hm .nil) (ae_setG ht hx hy hv) (by rintro _ _ ⟨rfl, rfl⟩; exact h)
theorem JL_delG {t : TypeId} {x y : Operand} {ts : Array TypeId} {b : Nat} {z : κ} {es : List (κ × Value)} {zv : Value} (ht : MI P t kv zv) (hx : evT tm x = some (.map (some b))) (hy : evT tm y = some (kv z)) (h0 : ts[0]? = some t) (hm : Tk L (mq kv b es) R) (hg : wantF ops ⟨none, .call ⟨.builtin .delete, #[x, y], ts⟩, T, pos, af, gd⟩ (tget tm) = some true)
    (h : JL P n W K F ops k rest tm (mq kv b (aD es z) :: R)) : JL P n W K F ops k (⟨none, .call ⟨.builtin .delete, #[x, y], ts⟩, T, pos, af, gd⟩ :: rest) tm L :=
  JL_a0 rfl hg (.cons hm .nil) (ae_delG ht h0 hx hy) (by rintro _ _ ⟨rfl, rfl⟩; exact h)
theorem JD_delG {t : TypeId} {x y : Operand} {ts : Array TypeId} {b : Nat} {z : κ} {es : List (κ × Value)} {zv : Value} (ht : MI P t kv zv) (hx : evT tm x = some (.map (some b))) (hy : evT tm y = some (kv z)) (h0 : ts[0]? = some t) (hm : Tk M (mq kv b es) R) (hg : wantF ops ⟨none, .call ⟨.builtin .delete, #[x, y], ts⟩, T, pos, af, gd⟩ (tget tm) = some true)
    (h : JD P n W K F ops k nx rest tm S (mq kv b (aD es z) :: R)) : JD P n W K F ops k nx (⟨none, .call ⟨.builtin .delete, #[x, y], ts⟩, T, pos, af, gd⟩ :: rest) tm S M :=
  JD_a0 rfl hg rfl (.cons hm .nil) (ae_delG ht h0 hx hy) (by rintro _ _ ⟨rfl, rfl⟩; exact h)
end
end Go.Pm
namespace Go.Pm
set_option linter.unusedSimpArgs false
set_option linter.unusedVariables false
open Go.RowKit

section
variable {P : Program} {n : Nat} {W : World} {K : Hl} {F : Fp} {k : List It} {tm : TM} {L L' R S M C : List HP} {T : TypeId} {pos : String} {af : Array Edge} {gd : Option (Nat × Bool)} {ops : Array Oper} {rest nx : List Oper} {d : Option Tmp}

def byC (z : Int) : List Value := [.int .u8 z]
theorem flat_byC (l : List Int) : flat byC l = bys l := by
  unfold flat bys
  induction l with
  | nil => rfl
  | cons x r ih => rw [List.flatMap_cons, ih]; rfl
def isStrD : TypeDesc → Bool
  | .string => true
  | _ => false
def isBytes (P : Program) (t : TypeId) : Bool := match P.underlying t with
  | some (.slice e) => match P.underlying e with
    | some (.int .u8) => true
    | _ => false
  | _ => false
theorem isBytes_spec {t : TypeId} (h : isBytes P t = true) : ∃ e, P.underlying t = some (.slice e) ∧ P.underlying e = some (.int .u8) := by
  unfold isBytes at h
  split at h
  · rename_i e he
    split at h
    · rename_i h2; exact ⟨e, he, h2⟩
    · cases h
  · cases h
theorem pe_str {st dt : TypeId} {x : Operand} {v : Value} {m : Nat} {l : List Int} (hx : evT tm x = some v) (hs : isBytes P st = true) (hd : tyIs P dt isStrD = true) (hv : Src K L v 1 m (flat byC l)) : PE P K L ⟨d, .convert st dt x, T, pos, af, gd⟩ (tget tm) (.string (strOfNums l)) := fun ρ w ha hr => by
  have h1 := ha x (by simp [Op.operands]) _ hx
  obtain ⟨e, h2, h3⟩ := isBytes_spec hs
  obtain ⟨dd, h4, h5⟩ := tyIs_spec hd
  cases dd <;> simp [isStrD] at h5
  have h6 := hv w hr
  rw [flat_byC] at h6
  have h7 := run_string h2 h3 h4 h6
  unfold execOp
  simp only [h1]
  simp [Sem.run_bind, h7]
end
end Go.Pm
