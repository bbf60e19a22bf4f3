/-
  Tq14, Tq15, Tq16, Tq17, Aq7, Jw: merged.
-/
import Derived.Test.YtdnokmpnemaoaaaGreatZViewChooses26
import Derived.WalkSpells
import Derived.WalkLawsBesides
import Derived.BigRegion
namespace Go.Proofs.YtdnokmpnemaoaaaGreat.T
set_option linter.unusedSimpArgs false
set_option linter.unusedVariables false
set_option maxRecDepth 20000
set_option maxHeartbeats 4000000
open Go.RowKit Go.Pm
theorem zd114Tq14 {p q : Prop} (k : p) (h : p → q := by intro hk; first | exact J_draw (id := 4) [0, 1, 2, 3, 4, 5, 6, 7] [8, 9, 10] mixed xC xD xD hk | fail) : q := h k

def AccP (g : Nat) (xs : List Pf) : HP := fun h => ∃ y : Option Addr × Nat, sats [pts g [.slice y.1 xs.length y.2] 103, Ar 28 2 pfC (.slice y.1 xs.length y.2) xs] h
def PfsR (xs : List Pf) (v : Value) (L' : List HP) : Prop := ∃ a c, v = .slice a xs.length c ∧ L' = [Ar 28 2 pfC (.slice a xs.length c) xs]
theorem appendSeq_s {gf : FuncId} {first lb : List Value} {φ : World → Prop} {N : Nat} {St Sp : List Pf → Prop} (It : Iter Tryz.prog gf (fun l => first ++ yldV l :: lb) φ pfA N St Sp) (ho : ownB Tryz.prog gf = true) (hN : N ≤ 1000000) :
    Pact Tryz.prog 168 [.slice none 0 0, .func (.func gf) first.toArray lb.toArray].toArray φ [] (fun v L' => ∃ xs, St xs ∧ PfsR xs v L') := by
  refine pact Tryz.func168 rfl Tryz.ntmps168 rfl ?_
  intro W K hK
  (repeat' (first | (refine gL ?_; first | refine yL0 ?_ | refine yL ?_ | (refine yM ?_; intro _) | (refine yA ?_; intro _ _ _ _)) | refine yJ ?_ | fail))
  rename_i g
  refine J_heap (L' := [AccP g []]) (fun w H => ?_) ?_
  · exact (Ow.arNil (e := 28) (sz := 2) (enc := pfC) H).shut (M := [pts g [.slice none 0 0] 103, Ar 28 2 pfC (.slice none 0 0) ([] : List Pf)]) xZ (fun k hk => ⟨(none, 0), hk⟩)
  refine J_range (first := first) (lb := lb) It rfl rfl rfl ho rfl (fun _ => rfl) (fun xs => [AccP g xs]) (fun _ _ => [pu False]) (.cons .here .nil) (fun w hr => hK w hr.1) ?_ ?_ ?_
  · intro W3 K3 l3 pre x hle hlen
    simp only [parTM, pfA]
    refine J_open (fun w H => H.open (A := AccP g pre) .here (α := Option Addr × Nat) (Bs := fun y => [pts g [.slice y.1 pre.length y.2] 103, Ar 28 2 pfC (.slice y.1 pre.length y.2) pre]) (fun _ h => h)) ?_
    rintro ⟨a, c⟩
    simp only [List.cons_append, List.nil_append]
    (repeat' (first | (refine gL ?_; first | refine yL0 ?_ | refine yL ?_ | (refine yM ?_; intro _) | (refine yA ?_; intro _ _ _ _)) | refine yJ ?_ | fail))
    refine J_body ?_
    intro K4 hle4 hrec
    (repeat' (first | (refine gL ?_; first | refine yL0 ?_ | (refine gL_c_append ?_; (refine JL_ap1 (z := x) (tabE etab_ok xR) xR xR xA xA xC xR xL xR (by omega) xR xR ?_; intro ad c2 _ _)) | refine yL ?_ | (refine yM ?_; intro _) | (refine yA ?_; intro _ _ _ _)) | refine yJ ?_ | fail))
    refine J_rnd fun w H => ?_
    rw [show pre.length + 1 = (pre ++ [x]).length by simp] at H
    exact H.shut (M := [pts g [.slice ad (pre ++ [x]).length c2] 103, Ar 28 2 pfC (.slice ad (pre ++ [x]).length c2) (pre ++ [x])]) (A := AccP g (pre ++ [x])) xZ (fun k hk => ⟨(ad, c2), hk⟩) |>.sel xZ
  · intro D xs hx
    simp only [List.cons_append, List.nil_append]
    refine J_open (fun w H => H.open (A := AccP g xs) xA (α := Option Addr × Nat) (Bs := fun y => [pts g [.slice y.1 xs.length y.2] 103, Ar 28 2 pfC (.slice y.1 xs.length y.2) xs]) (fun _ h => h)) ?_
    rintro ⟨a, c⟩
    simp only [List.cons_append, List.nil_append]
    (repeat' (first | (refine gL ?_; first | refine yL0 ?_ | refine yL ?_ | (refine yM ?_; intro _) | (refine yA ?_; intro _ _ _ _)) | refine yJ ?_ | fail))
    exact J_ret1M (Ds := [D]) (dec_enc [D]) rfl (by rfl) fun w H => ⟨_, ⟨xs, hx, a, c, rfl, rfl⟩, H.sel (M := [dfr D, Ar 28 2 pfC (.slice a xs.length c) xs]) xZ⟩
  · intro D c pre _
    exact J_fact (φ := False) (fun w H => H.pu (p := False) (by simp only [List.cons_append, List.nil_append]; (first | ((with_reducible (repeat (first | exact Tk.here | apply Tk.there))); done) | ((simp only [List.cons_append, List.nil_append]); (with_reducible (repeat (first | exact Tk.here | apply Tk.there))); done) | fail))) (fun h => h.elim)
theorem collect_s {gf : FuncId} {first lb : List Value} {φ : World → Prop} {N : Nat} {St Sp : List Pf → Prop} (It : Iter Tryz.prog gf (fun l => first ++ yldV l :: lb) φ pfA N St Sp) (ho : ownB Tryz.prog gf = true) (hN : N ≤ 1000000) :
    Pact Tryz.prog 145 [.func (.func gf) first.toArray lb.toArray].toArray φ [] (fun v L' => ∃ xs, St xs ∧ PfsR xs v L') := by
  refine pact Tryz.func145 rfl Tryz.ntmps145 rfl ?_
  intro W K hK
  (repeat' (first | (refine gL ?_; first | refine yL0 ?_ | refine yL ?_ | (refine gL_go ?_; (refine JL_goq (appendSeq_s It ho hN) (hφ := (by (try simp only [cAp, nAp]); exact fun w hr => hK w hr.1)) (h := ?_); rintro _ _ ⟨xs, hx, a, c, rfl, rfl⟩; try simp only [cAp, nAp]))) | refine yJ ?_ | fail))
  exact J_ret1 rfl (by rfl) fun w H => ⟨_, ⟨xs, hx, a, c, rfl, rfl⟩, H.sel xZ⟩

theorem filter_none {l : List Ent} {f : Ent → Bool} (h : ∀ e ∈ l, f e = false) : l.filter f = [] := List.filter_eq_nil_iff.2 fun e he => by simp [h e he]
theorem und_some {C : List Fr} {b : Nat} {q p : Pf} {has : Bool} {v : Vt} {k0 k1 : Tr} (hw : wf (0, 0) (plug C (.node b q has v k0 k1))) (hp : Path p C) (hq : Wi p q) : underL (ents (plug C (.node b q has v k0 k1))) p = keysT (.node b q has v k0 k1) := by
  obtain ⟨hc, hs⟩ := (wf_plug C _).1 hw
  have h1 : wf q (.node b q has v k0 k1) := ⟨hs.1, hs.2.1, .refl hs.2.2.1.rt2, hs.2.2.2⟩
  unfold underL keysT
  rw [ents_plug, List.filter_append, List.filter_append, filter_none fun e he => decide_eq_false (out_wi hc hp (.inl he)), filter_none fun e he => decide_eq_false (out_wi hc hp (.inr he)),
    List.filter_eq_self.2 fun e he => decide_eq_true (hq.trans (wf_wi h1 he).1)]
  simp
theorem und_none {C : List Fr} {s : Tr} {p : Pf} (hw : wf (0, 0) (plug C s)) (hp : Path p C) (hF : Found p s) (hr : Rt p) (hq : ∀ q, top s = some q → ¬ Wi p q) : underL (ents (plug C s)) p = [] := by
  obtain ⟨hc, hs⟩ := (wf_plug C s).1 hw
  unfold underL
  rw [filter_none]
  · rfl
  intro e he
  refine decide_eq_false fun hwe => ?_
  rcases mem_plug.1 he with h | h
  · cases s with
    | nil => simp [ents] at h
    | node b q has v k0 k1 =>
      have h1 : wf q (.node b q has v k0 k1) := ⟨hs.1, hs.2.1, .refl hs.2.2.1.rt2, hs.2.2.2⟩
      have h2 := (wf_wi h1 h).1
      have h3 := hq q rfl
      rcases Int.le_total p.2 q.2 with hl | hl
      · exact h3 (hwe.comp h2 hl)
      · have h4 := h2.comp hwe hl
        rcases hF q rfl with h5 | h5
        · exact h3 (by rw [h5]; exact .refl hr)
        · exact h5 h4
  · exact out_wi hc hp h hwe
theorem und_notRt {l : List Ent} {p : Pf} (hr : ¬ Rt p) : underL l p = [] := by
  unfold underL
  rw [filter_none fun e _ => decide_eq_false fun h => hr h.1]
  rfl
def UndR (tb : Nat) (n : Int) (t : Tr) (xs : List Pf) (v : Value) (L' : List HP) : Prop := ∃ a c, v = .slice a xs.length c ∧ L' = Ar 28 2 pfC (.slice a xs.length c) xs :: TrieL tb n t
theorem under_s (tb : Nat) (n : Int) (t : Tr) (p : Pf) (hp : PfN p) (hw : wf (0, 0) t) (hn : (ents t).length ≤ 4096) : Pact Tryz.prog 114 #[.pointer (some ⟨tb, 0, none⟩), .agg (pfC p).toArray] (fun _ => True) [pts tb (trC (ptr t) n true) 143, trP t] (UndR tb n t (underL (ents t) p)) := by
  refine pact Tryz.func114 rfl Tryz.ntmps114 rfl ?_
  intro W K _
  by_cases hr : Rt p
  · (repeat' (first | (refine gL ?_; first | refine yL0 ?_ | refine yL ?_ | (refine gL_go ?_; first | (refine JL_goq (is_s tb (ptr t) n true) (hφ := xF) (h := ?_); rintro _ _ ⟨rfl, rfl⟩; try simp only [cAp, nAp]) | (refine JL_goq (right_b p hp true (decide_eq_true hr)) (hφ := xF) (h := ?_); rintro _ _ ⟨rfl, rfl⟩; try simp only [cAp, nAp]) | (refine JL_goq (find_s tb n t p hp hw) (hφ := xF) (h := ?_); rintro _ _ ⟨C, s, ht, hC, hF, rfl, rfl⟩; try simp only [cAp, nAp])) | (refine yM ?_; intro _)) | (refine gD ?_; first | (refine yN ?_; try simp only [cAp, nAp]) | refine yD0 ?_ | refine yD ?_ | (refine gD_go ?_; first | (refine JD_goq (is_s tb (ptr t) n true) (hφ := xF) (h := ?_); rintro _ _ ⟨rfl, rfl⟩; try simp only [cAp, nAp]) | (refine JD_goq (right_b p hp true (decide_eq_true hr)) (hφ := xF) (h := ?_); rintro _ _ ⟨rfl, rfl⟩; try simp only [cAp, nAp]) | (refine JD_goq (find_s tb n t p hp hw) (hφ := xF) (h := ?_); rintro _ _ ⟨C, s, ht, hC, hF, rfl, rfl⟩; try simp only [cAp, nAp]))) | refine yJ ?_ | refine zd114Tq14 ?_ | (refine yI ?_ ?_ <;> intro _ <;> try exact xX) | (refine yK ?_ ?_ <;> intro hgb <;> first | subst hgb | fail_if_success have : type_of% hgb := rfl) | fail))
    subst ht
    have hs := ((wf_plug C s).1 hw).2
    cases s with
    | nil =>
      rw [und_none hw hC hF hr (by intro q h; simp [top] at h)]
      (repeat' (first | (refine gL ?_; first | refine yL0 ?_ | (refine gL_load ?_; refine JL_p rfl xR xR (pe_ldH xR xC (fun w hr => hole_see hr xA)) ?_) | refine yL ?_ | (refine yM ?_; intro _)) | (refine gD ?_; first | (refine yN ?_; try simp only [cAp, nAp]) | refine yD0 ?_ | (refine gD_load ?_; refine JL_p rfl xR xR (pe_ldH xR xC (fun w hr => hole_see hr xA)) ?_) | refine yD ?_) | refine yJ ?_ | refine zd114Tq14 ?_ | (refine yI ?_ ?_ <;> intro _ <;> try exact xX) | (refine yK ?_ ?_ <;> intro hgb <;> first | subst hgb | fail_if_success have : type_of% hgb := rfl) | fail))
      exact J_ret1 rfl (by rfl) fun w H => ⟨_, ⟨none, 0, rfl, rfl⟩, ((Ow.arNil (e := 28) (sz := 2) (enc := pfC) (owPlugB (C := C) (s := .nil) H xZ)).sel xZ)⟩
    | node b q has v k0 k1 =>
      by_cases hq : Wi p q
      · rw [und_some hw hC hq]
        have hN : (keysT (.node b q has v k0 k1)).length ≤ 1000000 := by
          have h1 : (ents (plug C (.node b q has v k0 k1))).length = (pre C).length + (ents (.node b q has v k0 k1)).length + (post C).length := by rw [ents_plug]; simp; omega
          have h2 : (keysT (.node b q has v k0 k1)).length = (ents (.node b q has v k0 k1)).length := by simp [keysT]
          omega
        refine JL_heap (fun w H => owNodeO H xA) ?_
        (repeat' (first | (refine gL ?_; first | refine yL0 ?_ | (refine gL_load ?_; refine JL_p rfl xR xR (pe_ldH xR xC (fun w hr => hole_see hr xA)) ?_) | refine yL ?_ | (refine gL_go ?_; first | (refine JL_goq (within_b p q hp hs.1 true (decide_eq_true hq)) (hφ := xF) (h := ?_); rintro _ _ ⟨rfl, rfl⟩; try simp only [cAp, nAp]) | (refine JL_goq (all_s (some ⟨b, 0, none⟩)) (hφ := xF) (h := ?_); rintro _ _ ⟨g, rfl, rfl⟩; try simp only [cAp, nAp])) | (refine yM ?_; intro _)) | (refine gD ?_; first | (refine yN ?_; try simp only [cAp, nAp]) | refine yD0 ?_ | (refine gD_load ?_; refine JL_p rfl xR xR (pe_ldH xR xC (fun w hr => hole_see hr xA)) ?_) | refine yD ?_ | (refine gD_go ?_; first | (refine JD_goq (within_b p q hp hs.1 true (decide_eq_true hq)) (hφ := xF) (h := ?_); rintro _ _ ⟨rfl, rfl⟩; try simp only [cAp, nAp]) | (refine JD_goq (all_s (some ⟨b, 0, none⟩)) (hφ := xF) (h := ?_); rintro _ _ ⟨g, rfl, rfl⟩; try simp only [cAp, nAp]))) | refine yJ ?_ | refine zd114Tq14 ?_ | (refine yI ?_ ?_ <;> intro _ <;> try exact xX) | (refine yK ?_ ?_ <;> intro hgb <;> first | subst hgb | fail_if_success have : type_of% hgb := rfl) | fail))
        refine JL_heap (fun w H => owMkNodeB (b := b) (p := q) (has := has) (v := v) (k0 := k0) (k1 := k1) H xZ) ?_
        (repeat' (first | (refine gL ?_; first | refine yL0 ?_ | refine yL ?_ | (refine gL_go ?_; (refine JL_goq (collect_s (first := []) (lb := [.pointer (some ⟨g, 0, none⟩)]) (all1_it (.node b q has v k0 k1) g) (by decide +kernel) hN) (hφ := (by (try simp only [cAp, nAp]); exact fun w hr => ⟨hr.cell xA rfl, rdw_v hr xA⟩)) (h := ?_); rintro _ _ ⟨xs, rfl, a, c, rfl, rfl⟩; try simp only [cAp, nAp])) | (refine yM ?_; intro _)) | (refine gD ?_; first | (refine yN ?_; try simp only [cAp, nAp]) | refine yD0 ?_ | refine yD ?_ | (refine gD_go ?_; (refine JD_goq (collect_s (first := []) (lb := [.pointer (some ⟨g, 0, none⟩)]) (all1_it (.node b q has v k0 k1) g) (by decide +kernel) hN) (hφ := (by (try simp only [cAp, nAp]); exact fun w hr => ⟨hr.cell xA rfl, rdw_v hr xA⟩)) (h := ?_); rintro _ _ ⟨xs, rfl, a, c, rfl, rfl⟩; try simp only [cAp, nAp]))) | refine yJ ?_ | refine zd114Tq14 ?_ | (refine yI ?_ ?_ <;> intro _ <;> try exact xX) | (refine yK ?_ ?_ <;> intro hgb <;> first | subst hgb | fail_if_success have : type_of% hgb := rfl) | fail))
        exact J_ret1 rfl (by rfl) fun w H => ⟨_, ⟨a, c, rfl, rfl⟩, (owPlugB (C := C) (s := .node b q has v k0 k1) H xZ).sel xZ⟩
      · rw [und_none hw hC hF hr (by intro x h; cases h; exact hq)]
        refine JL_heap (fun w H => owNodeO H xA) ?_
        (repeat' (first | (refine gL ?_; first | refine yL0 ?_ | (refine gL_load ?_; refine JL_p rfl xR xR (pe_ldH xR xC (fun w hr => hole_see hr xA)) ?_) | refine yL ?_ | (refine gL_go ?_; (refine JL_goq (within_b p q hp hs.1 false (decide_eq_false hq)) (hφ := xF) (h := ?_); rintro _ _ ⟨rfl, rfl⟩; try simp only [cAp, nAp])) | (refine yM ?_; intro _)) | (refine gD ?_; first | (refine yN ?_; try simp only [cAp, nAp]) | refine yD0 ?_ | (refine gD_load ?_; refine JL_p rfl xR xR (pe_ldH xR xC (fun w hr => hole_see hr xA)) ?_) | refine yD ?_ | (refine gD_go ?_; (refine JD_goq (within_b p q hp hs.1 false (decide_eq_false hq)) (hφ := xF) (h := ?_); rintro _ _ ⟨rfl, rfl⟩; try simp only [cAp, nAp]))) | refine yJ ?_ | refine zd114Tq14 ?_ | (refine yI ?_ ?_ <;> intro _ <;> try exact xX) | (refine yK ?_ ?_ <;> intro hgb <;> first | subst hgb | fail_if_success have : type_of% hgb := rfl) | fail))
        exact J_ret1 rfl (by rfl) fun w H => ⟨_, ⟨none, 0, rfl, rfl⟩, ((Ow.arNil (e := 28) (sz := 2) (enc := pfC) (owPlugB (C := C) (s := .node b q has v k0 k1) (owMkNodeB (k0 := k0) (k1 := k1) (v := v) (p := q) (has := has) H xZ) xZ)).sel xZ)⟩
  · rw [und_notRt hr]
    (repeat' (first | (refine gL ?_; first | refine yL0 ?_ | refine yL ?_ | (refine gL_go ?_; first | (refine JL_goq (is_s tb (ptr t) n true) (hφ := xF) (h := ?_); rintro _ _ ⟨rfl, rfl⟩; try simp only [cAp, nAp]) | (refine JL_goq (right_b p hp false (decide_eq_false hr)) (hφ := xF) (h := ?_); rintro _ _ ⟨rfl, rfl⟩; try simp only [cAp, nAp])) | (refine yM ?_; intro _)) | (refine gD ?_; first | (refine yN ?_; try simp only [cAp, nAp]) | refine yD0 ?_ | refine yD ?_ | (refine gD_go ?_; first | (refine JD_goq (is_s tb (ptr t) n true) (hφ := xF) (h := ?_); rintro _ _ ⟨rfl, rfl⟩; try simp only [cAp, nAp]) | (refine JD_goq (right_b p hp false (decide_eq_false hr)) (hφ := xF) (h := ?_); rintro _ _ ⟨rfl, rfl⟩; try simp only [cAp, nAp]))) | refine yJ ?_ | refine zd114Tq14 ?_ | (refine yI ?_ ?_ <;> intro _ <;> try exact xX) | (refine yK ?_ ?_ <;> intro hgb <;> first | subst hgb | fail_if_success have : type_of% hgb := rfl) | fail))
    exact J_ret1 rfl (by rfl) fun w H => ⟨_, ⟨none, 0, rfl, rfl⟩, (Ow.arNil (e := 28) (sz := 2) (enc := pfC) H).sel xZ⟩
end Go.Proofs.YtdnokmpnemaoaaaGreat.T
namespace Go.Proofs.YtdnokmpnemaoaaaGreat.T
set_option linter.unusedSimpArgs false
set_option linter.unusedVariables false
set_option maxRecDepth 20000
set_option maxHeartbeats 4000000
open Go.RowKit Go.Pm
theorem pf0_n : PfN (0, 0) := by unfold PfN U32 I64; decide
theorem und_all {t : Tr} (hw : wf (0, 0) t) : underL (ents t) (0, 0) = keysT t := by
  unfold underL keysT
  rw [List.filter_eq_self.2 fun e he => decide_eq_true (wf_wi hw he).1]
theorem allT_s (tb : Nat) (n : Int) (t : Tr) (hw : wf (0, 0) t) (hn : (ents t).length ≤ 4096) : Pact Tryz.prog 82 #[.pointer (some ⟨tb, 0, none⟩)] (fun _ => True) [pts tb (trC (ptr t) n true) 143, trP t] (UndR tb n t (keysT t)) := by
  refine pact Tryz.func82 rfl Tryz.ntmps82 rfl ?_
  intro W K _
  rw [← und_all hw]
  (repeat' (first | (refine gL ?_; first | refine yL0 ?_ | refine yL ?_ | (refine gL_go ?_; (refine JL_goq (under_s tb n t (0, 0) pf0_n hw hn) (hφ := xF) (h := ?_); rintro _ _ ⟨a, c, rfl, rfl⟩; try simp only [cAp, nAp]))) | refine yJ ?_ | fail))
  exact J_ret1 rfl (by rfl) fun w H => ⟨_, ⟨a, c, rfl, rfl⟩, H.sel xZ⟩

/-! No call made it. -/
section
variable (tb : Nat) (p : Pf) (v : Vt)
end
end Go.Proofs.YtdnokmpnemaoaaaGreat.T
namespace Go.Proofs.YtdnokmpnemaoaaaGreat.T
set_option linter.unusedSimpArgs false
set_option linter.unusedVariables false
open Go.RowKit Go.Pm

end Go.Proofs.YtdnokmpnemaoaaaGreat.T
namespace Go.Proofs.YtdnokmpnemaoaaaGreat.T
set_option linter.unusedSimpArgs false
set_option linter.unusedVariables false
open Go.RowKit Go.Pm

section
variable {W : World} {K : Hl} {L R : List HP} {w : World} {tb : Nat} {E : List Ent}
def trA (tb : Nat) (E : List Ent) : HP := fun h => ∃ t, (wf (0, 0) t ∧ ents t = E) ∧ sats (TrieL tb E.length t) h
theorem trOpen (H : Ow W K L w) (t : Tk L (trA tb E) R) : ∃ x : {t : Tr // wf (0, 0) t ∧ ents t = E}, Ow W K (pts tb (trC (ptr x.1) E.length true) 143 :: trP x.1 :: R) w :=
  H.open t (Bs := fun x : {t : Tr // wf (0, 0) t ∧ ents t = E} => TrieL tb E.length x.1) (fun _ ⟨t, h1, h2⟩ => ⟨⟨t, h1⟩, h2⟩)
theorem trShut {t : Tr} (hw : wf (0, 0) t) (he : ents t = E) (H : Ow W K L w) (s : Sb L [pts tb (trC (ptr t) E.length true) 143, trP t] R) : Ow W K (trA tb E :: R) w :=
  H.shut s (fun _ hk => ⟨t, ⟨hw, he⟩, hk⟩)
structure EOk (E : List Ent) : Prop where
  s : Srt E
  e : ∀ x ∈ E, Rt x.1 ∧ PfN x.1 ∧ VN x.2
theorem EOk.of {t : Tr} (hw : wf (0, 0) t) : EOk (ents t) := ⟨wf_srt hw, fun _ hx => by
  have h := wf_wi hw hx
  exact ⟨h.1.rt2, h.2⟩⟩
theorem trOk (H : Ow W K L w) (t : Tk L (trA tb E) R) : EOk E := by
  obtain ⟨⟨x, hw, he⟩, _⟩ := trOpen H t
  rw [← he]
  exact .of hw
end
theorem new_a : Pact Tryz.prog 33 #[] (fun _ => True) [] (fun u L' => ∃ tb, u = .pointer (some ⟨tb, 0, none⟩) ∧ L' = [trA tb []]) := fun W K w hK H =>
  (new_s W K w hK H).mono fun e w' h => by
    obtain ⟨u, L', ⟨tb, rfl, rfl⟩, h5, h6⟩ := h
    exact ⟨_, _, ⟨tb, rfl, rfl⟩, h5, (trShut (t := .nil) trivial rfl h6 xZ).sel xZ⟩
theorem get_a (tb : Nat) (E : List Ent) (p : Pf) (hp : PfN p) : Pact Tryz.prog 64 #[.pointer (some ⟨tb, 0, none⟩), .agg (pfC p).toArray] (fun _ => True) [trA tb E] (fun v L' => v = optV (getL E p) ∧ L' = [trA tb E]) := fun W K w hK H => by
  obtain ⟨⟨t, hw, he⟩, H⟩ := trOpen H .here
  subst he
  refine (get_s tb _ t p hp hw W K w hK H).mono fun e w' h => ?_
  obtain ⟨u, L', ⟨rfl, rfl⟩, h5, h6⟩ := h
  exact ⟨_, _, ⟨rfl, rfl⟩, h5, (trShut hw rfl h6 xZ).sel xZ⟩
theorem put_a (tb : Nat) (E : List Ent) (p : Pf) (v : Vt) (hp : PfN p) (hv : VN v) (hn : E.length ≤ 4096) : Pact Tryz.prog 85 #[.pointer (some ⟨tb, 0, none⟩), .agg (pfC p).toArray, .agg (vC v).toArray] (fun _ => True) [trA tb E] (fun u L' => u = .int .i64 (putE E p v).1 ∧ L' = [trA tb (putE E p v).2]) := fun W K w hK H => by
  obtain ⟨⟨t, hw, he⟩, H⟩ := trOpen H .here
  subst he
  refine (put_s tb t p v hp hv hw hn W K w hK H).mono fun e w' h => ?_
  obtain ⟨u, L', ⟨t', h1, h2, rfl, rfl⟩, h5, h6⟩ := h
  rw [← h2]
  exact ⟨_, _, ⟨rfl, rfl⟩, h5, (trShut h1 rfl h6 xZ).sel xZ⟩
theorem drop_a (tb : Nat) (E : List Ent) (p : Pf) (hp : PfN p) (hn : E.length ≤ 4096) : Pact Tryz.prog 84 #[.pointer (some ⟨tb, 0, none⟩), .agg (pfC p).toArray] (fun _ => True) [trA tb E] (fun u L' => u = .bool (getL E p).isSome ∧ L' = [trA tb (dropL E p)]) := fun W K w hK H => by
  obtain ⟨⟨t, hw, he⟩, H⟩ := trOpen H .here
  subst he
  refine (drop_s tb t p hp hw hn W K w hK H).mono fun e w' h => ?_
  obtain ⟨u, L', ⟨t', h1, h2, rfl, rfl⟩, h5, h6⟩ := h
  rw [← h2]
  exact ⟨_, _, ⟨rfl, rfl⟩, h5, (trShut h1 rfl h6 xZ).sel xZ⟩
theorem len_a (tb : Nat) (E : List Ent) : Pact Tryz.prog 68 #[.pointer (some ⟨tb, 0, none⟩)] (fun _ => True) [trA tb E] (fun u L' => u = .int .i64 E.length ∧ L' = [trA tb E]) := fun W K w hK H => by
  obtain ⟨⟨t, hw, he⟩, H⟩ := trOpen H .here
  subst he
  have H2 := H.frame (L := [pts tb (trC (ptr t) (ents t).length true) 143]) (R := [trP t])
  obtain ⟨hR, sR, dR, H3, back⟩ := H2
  refine (len_s tb (ptr t) (ents t).length true W _ w (fun _ _ => trivial) H3).mono fun e w' h => ?_
  obtain ⟨u, L', ⟨rfl, rfl⟩, h5, h6⟩ := h
  exact ⟨_, _, ⟨rfl, rfl⟩, h5, (trShut hw rfl (back _ _ h6) xZ).sel xZ⟩
def keysE (E : List Ent) : List Pf := E.map (·.1)
theorem all_a (tb : Nat) (E : List Ent) (hn : E.length ≤ 4096) : Pact Tryz.prog 82 #[.pointer (some ⟨tb, 0, none⟩)] (fun _ => True) [trA tb E] (fun u L' => ∃ a c, u = .slice a (keysE E).length c ∧ L' = [Ar 28 2 pfC (.slice a (keysE E).length c) (keysE E), trA tb E]) := fun W K w hK H => by
  obtain ⟨⟨t, hw, he⟩, H⟩ := trOpen H .here
  subst he
  refine (allT_s tb _ t hw hn W K w hK H).mono fun e w' h => ?_
  obtain ⟨u, L', ⟨a, c, rfl, rfl⟩, h5, h6⟩ := h
  exact ⟨_, _, ⟨a, c, rfl, rfl⟩, h5, (trShut hw rfl h6 xZ).sel xZ⟩
end Go.Proofs.YtdnokmpnemaoaaaGreat.T
namespace Go.Proofs.YtdnokmpnemaoaaaGreat
set_option linter.unusedSimpArgs false
set_option linter.unusedVariables false
set_option maxRecDepth 20000
set_option maxHeartbeats 4000000
open Go.RowKit Go.Pm

theorem bytesEl : El Tryz.prog 77 5 1 1 := El.mk' (z := .int .u8 0) Tryz.underlying77 (by kernel_rfl) rfl (by omega) (by omega)

theorem OwnB.empty {e : TypeId} {w : World} {base g cap : Nat} {cur : Array Value} (h : Blk w g cur e) (hb : base ≤ g) (hs : cur.size = cap) (hm : cap ≤ maxLen) : OwnB e w base (.slice (some ⟨g, 0, none⟩) 0 cap) [] :=
  ⟨rfl, .inr ⟨g, cap, cur, rfl, hb, h, Nat.zero_le _, hm, by omega, rfl⟩⟩

theorem grow_nil (n : Nat) (w : World) (hn : n ≤ 140737488355328) :
    Calls Tryz.prog 188 #[.slice none 0 0, .int .i64 n] w (FreshB 5 w []) := by
  obtain ⟨i, z, hi, hz, hsz, hby, hzs⟩ := bytesEl.inf
  have hm : n ≤ 9223372036854775807 := by omega
  by_cases h0 : n = 0
  · subst h0
    go_enter Tryz.func188, Tryz.ntmps188
    go_wp2
    go_ret
    exact ⟨_, rfl, OwnB.nil _ _ _, Only.refl _ _⟩
  · have hpos : 0 < n := by omega
    have HR := Lib.hid (Lib.run_append_nil_zeros (P := Tryz.prog) w 77 3 77 5 i z .i64 .i64 Tryz.underlying77 Tryz.underlying3 hi hz n hpos (by omega) (by omega) (by rw [hby]; omega))
    have HC1 := Lib.hid (grownCap_ge w n 0 5)
    have HC2 := Lib.hid (grownCap_le_maxLen w n 0 5 (by unfold maxLen; omega))
    generalize z.cells = zc at *
    have HZ := Lib.hid hzs
    generalize grownCap w n 0 5 = c at *
    have hc : n ≤ c := HC1.out
    have hc2 : c ≤ 9223372036854775807 := by have := HC2.out; unfold maxLen at this; omega
    go_enter Tryz.func188, Tryz.ntmps188
    go_wp2_with (at_builtin; refine Lib.wpList_append_run _ rfl _ _ _ _ rfl _ _ rfl rfl _ _ HR.out ?_)
    go_ret
    refine ⟨_, rfl, OwnB.empty (Blk.new w.drew _ _) (Nat.le_refl _) ?_ HC2.out, ((Only.refl _ _).drew).alloc _⟩
    rw [Array.size_append, size_zeroCells, size_zeroCells, HZ.out]; omega

def SlR (l : List Int) (u : Value) (L' : List HP) : Prop := ∃ a c, u = .slice a l.length c ∧ L' = [Ar 5 1 byC (.slice a l.length c) l]
theorem ar_bytes (v : Value) (l : List Int) : SlB 5 v l = Ar 5 1 byC v l := by
  unfold SlB Ar
  rw [flat_byC]
theorem grow_s (n : Nat) (hn : n ≤ 140737488355328) : Pact Tryz.prog 188 #[.slice none 0 0, .int .i64 n] (fun _ => True) [] (SlR []) := fun W K w hK H =>
  (grow_nil n w hn).mono fun e w' h => by
    obtain ⟨v, rfl, ho, hO⟩ := h
    obtain ⟨a, c, rfl, h1, h2⟩ := ho.vw.shape
    have H2 := H.freshB hO ho
    rw [ar_bytes] at H2
    exact ⟨_, _, ⟨a, c, rfl, rfl⟩, rfl, H2⟩
structure Bs where
  a : Option Addr
  c : Nat
  l : List Int
def bsC (s : Bs) : List Value := [.slice s.a s.l.length s.c]
def bsV (w : World) (s : Bs) : Prop := Vw w (.slice s.a s.l.length s.c) 1 s.l.length (flat byC s.l)
structure PartsV (w : World) (a : Option Addr) (c : Nat) (p : List Bs) : Prop where
  vw : Vw w (.slice a p.length c) 1 p.length (flat bsC p)
  parts : ∀ s ∈ p, bsV w s
def catB (p : List Bs) : List Int := p.flatMap (·.l)
theorem catB_snoc (p : List Bs) (s : Bs) : catB (p ++ [s]) = catB p ++ s.l := by simp [catB]
theorem catB_take {p : List Bs} {k : Nat} {s : Bs} (h : p[k]? = some s) : catB (p.take (k + 1)) = catB (p.take k) ++ s.l := by rw [take_snoc h, catB_snoc]
theorem catB_le (p : List Bs) (k : Nat) : (catB (p.take k)).length ≤ (catB p).length := by
  have : catB p = catB (p.take k) ++ catB (p.drop k) := by
    unfold catB
    rw [← List.flatMap_append, List.take_append_drop]
  rw [this, List.length_append]
  omega
structure Cc where
  i : Nat
  ad : Option Addr
  c : Nat
theorem concat_s (a : Option Addr) (c : Nat) (p : List Bs) (hp : p.length ≤ 1000) (hl : (catB p).length ≤ 1000000) : Pact Tryz.prog 184 #[.slice a p.length c] (fun w => PartsV w a c p) [] (SlR (catB p)) := by
  refine pact Tryz.func184 rfl Tryz.ntmps184 rfl ?_
  intro W K hK
  have hO : Kn K (fun w => Vw w (.slice a p.length c) 1 p.length (flat bsC p)) := hK.imp fun _ h => h.vw
  (repeat' (first | (refine gL ?_; first | refine yL0 ?_ | refine yL ?_ | (refine yA ?_; intro _ _ _ _)) | refine yJ ?_ | (refine yI ?_ ?_ <;> intro _ <;> try exact xX) | (refine yK ?_ ?_ <;> intro hgb <;> first | subst hgb | fail_if_success have : type_of% hgb := rfl) | fail))
  refine J_loop (α := Nat) 0 (fun x => p.length - x) (fun x => x ≤ p.length) (fun x => [(0, .slice a p.length c), (9, .slice a p.length c), (10, .int .i64 p.length), (11, .int .i64 x), (3, .int .i64 (catB (p.take x)).length)]) (fun _ => []) (Nat.zero_le _) ⟨rfl, rfl, rfl, rfl, rfl, trivial⟩ (fun w H => H.sel .nil) ?_
  intro k hk
  have hkl := catB_le p k
  obtain ⟨N, hN⟩ : ∃ N, (catB (p.take k)).length = N := ⟨_, rfl⟩
  rw [hN] at hkl ⊢
  by_cases hlt : k < p.length
  · obtain ⟨s, hs⟩ : ∃ s, p[k]? = some s := ⟨_, List.getElem?_eq_getElem hlt⟩
    have h1 := catB_le p (k + 1)
    rw [catB_take hs, List.length_append, hN] at h1
    (repeat' (first | (refine gL ?_; first | refine yL0 ?_ | refine yL ?_ | (refine yA ?_; intro _ _ _ _)) | refine yJ ?_ | (refine yI ?_ ?_ <;> intro _ <;> try exact xX) | (refine yK ?_ ?_ <;> intro hgb <;> first | subst hgb | fail_if_success have : type_of% hgb := rfl) | fail))
    refine J_again (k + 1) (by omega) (by omega) ⟨rfl, rfl, rfl, rfl, ?_, trivial⟩ (fun w H => H.sel .nil)
    rw [catB_take hs, List.length_append, hN]
    show some _ = some _
    simp
  · have hke : k = p.length := by omega
    subst hke
    rw [List.take_length] at hN
    (repeat' (first | (refine gL ?_; first | refine yL0 ?_ | refine yL ?_ | (refine gL_go ?_; (refine JL_goq (grow_s N (by omega)) (hφ := xF) (h := ?_); rintro _ _ ⟨ga, gc, rfl, rfl⟩; try simp only [cAp, nAp])) | (refine yA ?_; intro _ _ _ _)) | refine yJ ?_ | (refine yI ?_ ?_ <;> intro _ <;> try exact xX) | (refine yK ?_ ?_ <;> intro hgb <;> first | subst hgb | fail_if_success have : type_of% hgb := rfl) | fail))
    refine J_loop (α := Cc) ⟨0, ga, gc⟩ (fun x => p.length - x.i) (fun x => x.i ≤ p.length) (fun x => [(25, .slice a p.length c), (26, .int .i64 p.length), (27, .int .i64 x.i), (6, .slice x.ad (catB (p.take x.i)).length x.c)]) (fun x => [Ar 5 1 byC (.slice x.ad (catB (p.take x.i)).length x.c) (catB (p.take x.i))]) (Nat.zero_le _) ⟨rfl, rfl, rfl, rfl, trivial⟩ (fun w H => H.sel xZ) ?_
    rintro ⟨k, ad, cc⟩ hk
    dsimp only at hk ⊢
    have hkl := catB_le p k
    by_cases hlt : k < p.length
    · obtain ⟨s, hs⟩ : ∃ s, p[k]? = some s := ⟨_, List.getElem?_eq_getElem hlt⟩
      have h1 := catB_le p (k + 1)
      have h2 := catB_take hs
      rw [h2, List.length_append] at h1
      have hu : Kn K (fun w => Vw w (.slice s.a s.l.length s.c) 1 s.l.length (flat byC s.l)) := hK.imp fun _ h => h.parts s (List.mem_of_getElem? hs)
      (repeat' (first | (refine gL ?_; first | refine yL0 ?_ | (refine gL_c_append ?_; (refine JL_app (fs := s.l) (tabE etab_ok xR) xR xR xA (Src.kn hu) xC xL xU (by omega) xR xR ?_; intro ad2 cc2 _ _)) | refine yL ?_ | (refine yA ?_; intro _ _ _ _)) | refine yJ ?_ | (refine yI ?_ ?_ <;> intro _ <;> try exact xX) | (refine yK ?_ ?_ <;> intro hgb <;> first | subst hgb | fail_if_success have : type_of% hgb := rfl) | fail))
      refine J_again ⟨k + 1, ad2, cc2⟩ (by dsimp only; omega) (by dsimp only; omega) ⟨rfl, rfl, rfl, ?_, trivial⟩ (fun w H => ?_)
      · dsimp only
        rw [h2, List.length_append]
        rfl
      · dsimp only
        rw [h2, List.length_append]
        exact H.sel xZ
    · have hke : k = p.length := by omega
      subst hke
      rw [List.take_length]
      (repeat' (first | (refine gL ?_; first | refine yL0 ?_ | refine yL ?_ | (refine yA ?_; intro _ _ _ _)) | refine yJ ?_ | (refine yI ?_ ?_ <;> intro _ <;> try exact xX) | (refine yK ?_ ?_ <;> intro hgb <;> first | subst hgb | fail_if_success have : type_of% hgb := rfl) | fail))
      exact J_ret1 rfl (by rfl) fun w H => ⟨_, ⟨ad, cc, rfl, rfl⟩, H.sel xZ⟩
end Go.Proofs.YtdnokmpnemaoaaaGreat
namespace Go.Pm
set_option linter.unusedSimpArgs false
set_option linter.unusedVariables false
open Go.RowKit
inductive NumsOf : List Value → List Int → Prop
  | nil : NumsOf [] []
  | cons {x : Int} {cs : List Value} {bs : List Int} : NumsOf cs bs → NumsOf (.int .u8 x :: cs) (x :: bs)
theorem NumsOf.eq {cs : List Value} {bs : List Int} (h : NumsOf cs bs) : cs = flat byC bs := by
  induction h with
  | nil => rfl
  | cons _ ih => rw [ih]; rfl
theorem NumsOf.cons' {x y : Int} {cs : List Value} {bs : List Int} (h : y = x) (hc : NumsOf cs bs) : NumsOf (.int .u8 y :: cs) (x :: bs) := by subst h; exact .cons hc
theorem flat_byC_len (bs : List Int) : (flat byC bs).length = bs.length := by
  have := flat_length (f := byC) (sz := 1) (fun _ => rfl) bs
  omega
theorem flat_byC_one (bs : List Int) : ∀ u ∈ flat byC bs, u.oneCell' = true := by
  intro u hu
  obtain ⟨x, _, hx⟩ := List.mem_flatMap.1 hu
  obtain rfl := List.mem_singleton.1 hx
  rfl
section
variable {P : Program} {n : Nat} {W : World} {K : Hl} {F : Fp} {k : List It} {tm : TM} {L L' R S M M' R' : List HP} {T : TypeId} {pos : String} {af : Array Edge} {gd : Option (Nat × Bool)} {ops : Array Oper} {rest nx : List Oper} {d : Tmp}
variable {t e T' : TypeId} {m b : Nat} {s x : Operand} {v : Value} {es bs : List Int} {cs : List Value}
theorem Src.nums {K : Hl} {L R : List HP} {g m : Nat} {cs : List Value} {e : TypeId} {bs : List Int} (t : Tk L (pts g cs e) R) (hb : NumsOf cs bs) (hl : Nat.beq bs.length m = true) (hm : Nat.ble m 1000000 = true) : Src K L (.slice (some ⟨g, 0, none⟩) m m) 1 m (flat byC bs) := by
  rw [← hb.eq]
  have h1 := Nat.eq_of_beq_eq_true hl
  have h2 := Nat.le_of_ble_eq_true hm
  exact Src.lit t (by rw [hb.eq, flat_byC_len]; omega) (by simp [maxLen]; omega)
theorem JL_apN (hi : elemInfo P t = some (e, 1, 1)) (hs : evT tm s = some v) (hx : evT tm x = some (.slice (some ⟨b, 0, none⟩) m m)) (hm : Tk L (Ar e 1 byC v es) R) (hb : Tk R (pts b cs T') R') (hy : NumsOf cs bs) (hlen : Nat.beq bs.length m = true) (hm2 : Nat.ble m 1000000 = true) (hok : elOk P t e 1 1 = true) (hsz : es.length + m ≤ 140737488355328)
    (hn : Nat.blt d n = true) (hg : wantF ops ⟨some d, .call ⟨.builtin .append, #[s, x], #[t, t]⟩, T, pos, af, gd⟩ (tget tm) = some true) (h : ∀ ad c, es.length + m ≤ c → c ≤ maxLen → JL P n W K F ops k rest ((d, .slice ad (es.length + m) c) :: tm) (Ar e 1 byC (.slice ad (es.length + m) c) (es ++ bs) :: R)) : JL P n W K F ops k (⟨some d, .call ⟨.builtin .append, #[s, x], #[t, t]⟩, T, pos, af, gd⟩ :: rest) tm L :=
  JL_app hi hs hx hm (Src.nums hb hy hlen hm2) hok (fun _ => rfl) (flat_byC_one bs) (by omega) hn hg h
theorem JD_apN (hi : elemInfo P t = some (e, 1, 1)) (hs : evT tm s = some v) (hx : evT tm x = some (.slice (some ⟨b, 0, none⟩) m m)) (hm : Tk M (Ar e 1 byC v es) R) (hb : Tk R (pts b cs T') R') (hy : NumsOf cs bs) (hlen : Nat.beq bs.length m = true) (hm2 : Nat.ble m 1000000 = true) (hok : elOk P t e 1 1 = true) (hsz : es.length + m ≤ 140737488355328)
    (hg : wantF ops ⟨some d, .call ⟨.builtin .append, #[s, x], #[t, t]⟩, T, pos, af, gd⟩ (tget tm) = some true) (h : ∀ ad c, es.length + m ≤ c → c ≤ maxLen → JD P n W K F ops k nx rest ((d, .slice ad (es.length + m) c) :: tm) S (Ar e 1 byC (.slice ad (es.length + m) c) (es ++ bs) :: R)) : JD P n W K F ops k nx (⟨some d, .call ⟨.builtin .append, #[s, x], #[t, t]⟩, T, pos, af, gd⟩ :: rest) tm S M :=
  JD_app hi hs hx hm (Src.nums (hb.app S) hy hlen hm2) hok (fun _ => rfl) (flat_byC_one bs) (by omega) hg h
theorem Ow.arNums {w : World} (H : Ow W K L w) (hb : Tk L (pts b cs e) R) (hy : NumsOf cs bs) (hlen : Nat.beq bs.length m = true) (hm2 : Nat.ble m 1000000 = true) : Ow W K (Ar e 1 byC (.slice (some ⟨b, 0, none⟩) m m) bs :: R) w := by
  have h1 := Nat.eq_of_beq_eq_true hlen
  have h2 := Nat.le_of_ble_eq_true hm2
  unfold Ar
  rw [h1, ← hy.eq]
  exact H.slLit hb (by rw [hy.eq, flat_byC_len]; omega) (by simp [maxLen]; omega)
end
end Go.Pm
