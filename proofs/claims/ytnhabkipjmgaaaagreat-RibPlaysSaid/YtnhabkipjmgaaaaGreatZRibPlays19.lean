/-
  Rb1, Rb2: merged.
-/
import Derived.Test.YtnhabkipjmgaaaaGreatZRibPlays18
namespace Go.Proofs.YtnhabkipjmgaaaaGreat
set_option linter.unusedSimpArgs false
set_option linter.unusedVariables false
set_option maxRecDepth 20000
set_option maxHeartbeats 4000000
open Go.RowKit Go.Pm Go.Sort Go.Shelf

def sortLays_ren : Go.Shelf.Ren := ⟨fun | 6 => 42 | 15 => 76 | 14 => 75 | 28 => 104 | 29 => 105 | 20 => 96 | 21 => 97 | 22 => 98 | 23 => 99 | 24 => 100 | 25 => 101 | 26 => 102 | 27 => 103 | 46 => 125 | 47 => 126 | 48 => 127 | 49 => 128 | 50 => 129 | 57 => 142 | n => n, fun | 22 => 22 | 24 => 41 | 25 => 91 | 3 => 3 | 39 => 125 | 0 => 0 | 53 => 24 | 55 => 78 | 4 => 4 | 46 => 151 | 45 => 150 | 50 => 119 | 5 => 5 | 9 => 9 | 66 => 185 | 70 => 189 | 76 => 202 | 77 => 203 | n => n, fun | n => n⟩
theorem sortLays : Go.Proofs.SlLaysF0.n6 Tryz.prog sortLays_ren := {
  mixed := by kernel_rfl
  f6 := ⟨ "slices.SortFunc[[]pointsman/api.Prefix,pointsman/api.Prefix]", by decide, Tryz.func42.trans (congrArg some (by kernel_rfl))⟩
  f14 := ⟨ "slices.pdqsortCmpFunc[pointsman/api.Prefix]", by decide, Tryz.func75.trans (congrArg some (by kernel_rfl))⟩
  f15 := Tryz.func76.trans (congrArg some (by kernel_rfl))
  f20 := ⟨ "slices.insertionSortCmpFunc[pointsman/api.Prefix]", by decide, Tryz.func96.trans (congrArg some (by kernel_rfl))⟩
  f21 := ⟨ "slices.heapSortCmpFunc[pointsman/api.Prefix]", by decide, Tryz.func97.trans (congrArg some (by kernel_rfl))⟩
  f22 := ⟨ "slices.breakPatternsCmpFunc[pointsman/api.Prefix]", by decide, Tryz.func98.trans (congrArg some (by kernel_rfl))⟩
  f23 := ⟨ "slices.choosePivotCmpFunc[pointsman/api.Prefix]", by decide, Tryz.func99.trans (congrArg some (by kernel_rfl))⟩
  f24 := ⟨ "slices.reverseRangeCmpFunc[pointsman/api.Prefix]", by decide, Tryz.func100.trans (congrArg some (by kernel_rfl))⟩
  f25 := ⟨ "slices.partialInsertionSortCmpFunc[pointsman/api.Prefix]", by decide, Tryz.func101.trans (congrArg some (by kernel_rfl))⟩
  f26 := ⟨ "slices.partitionEqualCmpFunc[pointsman/api.Prefix]", by decide, Tryz.func102.trans (congrArg some (by kernel_rfl))⟩
  f27 := ⟨ "slices.partitionCmpFunc[pointsman/api.Prefix]", by decide, Tryz.func103.trans (congrArg some (by kernel_rfl))⟩
  f28 := Tryz.func104.trans (congrArg some (by kernel_rfl))
  f29 := Tryz.func105.trans (congrArg some (by kernel_rfl))
  f46 := ⟨ "slices.siftDownCmpFunc[pointsman/api.Prefix]", by decide, Tryz.func125.trans (congrArg some (by kernel_rfl))⟩
  f47 := Tryz.func126.trans (congrArg some (by kernel_rfl))
  f48 := Tryz.func127.trans (congrArg some (by kernel_rfl))
  f49 := ⟨ "slices.medianAdjacentCmpFunc[pointsman/api.Prefix]", by decide, Tryz.func128.trans (congrArg some (by kernel_rfl))⟩
  f50 := ⟨ "slices.medianCmpFunc[pointsman/api.Prefix]", by decide, Tryz.func129.trans (congrArg some (by kernel_rfl))⟩
  f57 := ⟨ "slices.order2CmpFunc[pointsman/api.Prefix]", by decide, Tryz.func142.trans (congrArg some (by kernel_rfl))⟩
  t0 := Tryz.underlying0
  a0 := Tryz.isAgg0
  z0 := Tryz.sizeOf0
  v0 := Tryz.zeroValue0
  t3 := Tryz.underlying3
  a3 := Tryz.isAgg3
  z3 := Tryz.sizeOf3
  v3 := Tryz.zeroValue3
  t4 := Tryz.underlying4
  a4 := Tryz.isAgg4
  z4 := Tryz.sizeOf4
  v4 := Tryz.zeroValue4
  t5 := Tryz.underlying5
  a5 := Tryz.isAgg5
  z5 := Tryz.sizeOf5
  v5 := Tryz.zeroValue5
  t9 := Tryz.underlying9
  a9 := Tryz.isAgg9
  z9 := Tryz.sizeOf9
  v9 := Tryz.zeroValue9
  t22 := Tryz.underlying22
  a22 := Tryz.isAgg22
  z22 := Tryz.sizeOf22
  v22 := Tryz.zeroValue22
  t25 := Tryz.underlying91
  a25 := Tryz.isAgg91
  z25 := Tryz.sizeOf91
  v25 := Tryz.zeroValue91
  t39 := Tryz.underlying125
  a39 := Tryz.isAgg125
  z39 := Tryz.sizeOf125
  v39 := Tryz.zeroValue125
  t45 := Tryz.underlying150
  a45 := Tryz.isAgg150
  z45 := Tryz.sizeOf150
  v45 := Tryz.zeroValue150
  t46 := Tryz.underlying151
  a46 := Tryz.isAgg151
  z46 := Tryz.sizeOf151
  v46 := Tryz.zeroValue151
  t50 := Tryz.underlying119
  a50 := Tryz.isAgg119
  z50 := Tryz.sizeOf119
  v50 := Tryz.zeroValue119
  t53 := Tryz.underlying24
  a53 := Tryz.isAgg24
  z53 := Tryz.sizeOf24
  v53 := Tryz.zeroValue24
  t55 := Tryz.underlying78
  a55 := Tryz.isAgg78
  z55 := Tryz.sizeOf78
  v55 := Tryz.zeroValue78
  t66 := Tryz.underlying185
  a66 := Tryz.isAgg185
  z66 := Tryz.sizeOf185
  v66 := Tryz.zeroValue185
  t70 := Tryz.underlying189
  a70 := Tryz.isAgg189
  z70 := Tryz.sizeOf189
  v70 := Tryz.zeroValue189
  t76 := Tryz.underlying202
  a76 := Tryz.isAgg202
  z76 := Tryz.sizeOf202
  v76 := Tryz.zeroValue202
  t77 := Tryz.underlying203
  a77 := Tryz.isAgg203
  z77 := Tryz.sizeOf203
  v77 := Tryz.zeroValue203 }

open T (Pf PfN Rt Ah pfC)
def cmpP (p q : Pf) : Int := if p = q then 0 else if Ah p q then -1 else 1
theorem ltP (p q : Pf) : Go.Proofs.ltOf cmpP p q = decide (Ah p q) := by
  unfold Go.Proofs.ltOf cmpP
  rw [Bool.eq_iff_iff]
  simp only [decide_eq_true_eq]
  by_cases h : p = q
  · subst h
    simp [T.Ah.irrefl]
  · rw [if_neg h]
    by_cases ha : Ah p q <;> simp [ha]
theorem compare_s (p q : Pf) : Pact Tryz.prog 43 #[.agg (pfC p).toArray, .agg (pfC q).toArray] (fun _ => True) [] (ret0 (.int .i64 (cmpP p q))) := by
  refine pact Tryz.func43 rfl Tryz.ntmps43 rfl ?_
  intro W K _
  have ha := T.ahead_s p q
  by_cases h : p.1 = q.1 ∧ p.2 = q.2
  · obtain rfl : p = q := Prod.ext h.1 h.2
    have e : cmpP p p = 0 := if_pos rfl
    rw [e]
    (repeat' (first | ((with_reducible apply gL); (first | refine yL0 ?_ | refine yL ?_ | (refine yM ?_; intro _) | fail)) | refine yJ ?_ | ((with_reducible apply gJ_if); (first | (refine J_if xR ?_ ?_ <;> intro _ <;> (try (exfalso; first | contradiction | omega))) | (refine J_ifb xR ?_ ?_ <;> (intro hgb; subst hgb)) | (refine J_ifb xR ?_ ?_ <;> intro _) | fail)) | fail))
    all_goals (first | (exfalso; simp_all; done) | skip)
    all_goals exact J_ret1 rfl (by rfl) fun w H => ⟨_, ⟨rfl, rfl⟩, H.sel .nil⟩
  · have hne : p ≠ q := fun e => h ⟨by rw [e], by rw [e]⟩
    rcases hb : decide (Ah p q) with _ | _
    · have e : cmpP p q = 1 := by unfold cmpP; rw [if_neg hne, if_neg (of_decide_eq_false hb)]
      rw [e]
      rw [hb] at ha
      (repeat' (first | ((with_reducible apply gL); (first | refine yL0 ?_ | refine yL ?_ | ((with_reducible apply gL_go); (first | (refine JL_goq (ha) (hφ := xF) (h := ?_); rintro _ _ ⟨rfl, rfl⟩; try simp only [List.cons_append, List.nil_append]) | fail)) | (refine yM ?_; intro _) | fail)) | refine yJ ?_ | ((with_reducible apply gJ_if); (first | (refine J_if xR ?_ ?_ <;> intro _ <;> (try (exfalso; first | contradiction | omega))) | (refine J_ifb xR ?_ ?_ <;> (intro hgb; subst hgb)) | (refine J_ifb xR ?_ ?_ <;> intro _) | fail)) | fail))
      all_goals exact J_ret1 rfl (by rfl) fun w H => ⟨_, ⟨rfl, rfl⟩, H.sel .nil⟩
    · have e : cmpP p q = -1 := by unfold cmpP; rw [if_neg hne, if_pos (of_decide_eq_true hb)]
      rw [e]
      rw [hb] at ha
      (repeat' (first | ((with_reducible apply gL); (first | refine yL0 ?_ | refine yL ?_ | ((with_reducible apply gL_go); (first | (refine JL_goq (ha) (hφ := xF) (h := ?_); rintro _ _ ⟨rfl, rfl⟩; try simp only [List.cons_append, List.nil_append]) | fail)) | (refine yM ?_; intro _) | fail)) | refine yJ ?_ | ((with_reducible apply gJ_if); (first | (refine J_if xR ?_ ?_ <;> intro _ <;> (try (exfalso; first | contradiction | omega))) | (refine J_ifb xR ?_ ?_ <;> (intro hgb; subst hgb)) | (refine J_ifb xR ?_ ?_ <;> intro _) | fail)) | fail))
      all_goals exact J_ret1 rfl (by rfl) fun w H => ⟨_, ⟨rfl, rfl⟩, H.sel .nil⟩
theorem swoP : SWO (Go.Proofs.ltOf cmpP) where
  irrefl x := by rw [ltP]; exact decide_eq_false T.Ah.irrefl
  trans x y z h1 h2 := by rw [ltP] at *; exact decide_eq_true ((of_decide_eq_true h1).trans (of_decide_eq_true h2))
  ntrans x y z h1 h2 := by
    rw [ltP] at *
    have a := of_decide_eq_false h1
    have b := of_decide_eq_false h2
    refine decide_eq_false fun c => ?_
    unfold Ah at *
    omega
theorem totP (x y : Pf) (h1 : Go.Proofs.ltOf cmpP x y = false) (h2 : Go.Proofs.ltOf cmpP y x = false) : x = y := by
  rw [ltP] at *
  have a := of_decide_eq_false h1
  have b := of_decide_eq_false h2
  by_cases h : x = y
  · exact h
  · exact absurd (T.Ah.total a h) b
def srtP (l : List Pf) : List Pf := l.mergeSort fun x y => !(Go.Proofs.ltOf cmpP) y x
theorem sort_s (a : Option Addr) (c n : Nat) (l : List Pf) (hn : l.length = n) (hl : n < 4611686018427387904) : Pact Tryz.prog 42 #[.slice a n c, .func (.func 43) #[] #[]] (fun _ => True) [Ar 41 2 pfC (.slice a n c) l] (fun u L' => u = .tuple #[] ∧ L' = [Ar 41 2 pfC (.slice a n c) (srtP l)]) := by
  subst hn
  exact sortS sortLays 2 (by decide) (fun w => Tryz.isAgg41 w) (fun w => Tryz.sizeOf41 w) 41 pfC (fun _ => rfl) (fun x v hv => by
    simp only [pfC, List.mem_cons, List.not_mem_nil, or_false] at hv
    rcases hv with rfl | rfl <;> rfl) cmpP swoP totP 43 #[] (by decide +kernel) (fun x y => compare_s x y) a c l hl
theorem srtP_perm (l : List Pf) : (srtP l).Perm l := List.mergeSort_perm l _
theorem srtP_len (l : List Pf) : (srtP l).length = l.length := List.length_mergeSort _
theorem srtP_srt (l : List Pf) : (srtP l).Pairwise fun x y => ¬ Ah y x := by
  have tr : ∀ a b c : Pf, (!(Go.Proofs.ltOf cmpP) b a) = true → (!(Go.Proofs.ltOf cmpP) c b) = true → (!(Go.Proofs.ltOf cmpP) c a) = true := fun a b c h1 h2 => by
    simp only [Bool.not_eq_true'] at *
    exact swoP.ntrans c b a h2 h1
  have to : ∀ a b : Pf, ((!(Go.Proofs.ltOf cmpP) b a) || (!(Go.Proofs.ltOf cmpP) a b)) = true := fun a b => by
    rw [ltP, ltP]
    simp only [Bool.or_eq_true, Bool.not_eq_true', decide_eq_false_iff_not]
    unfold Ah
    omega
  refine (List.pairwise_mergeSort tr to l).imp fun {a b} h => ?_
  rw [ltP] at h
  simpa using h
theorem clone_p (a : Option Addr) (c : Nat) (l : List Pf) (hl : l.length ≤ 1000000) : Pact Tryz.prog 65 #[.slice a l.length c] (fun w => Vw w (.slice a l.length c) 2 l.length (flat pfC l)) [] (fun u L' => ∃ a c, u = .slice a l.length c ∧ L' = [Ar 41 2 pfC (.slice a l.length c) l]) := by
  refine pact Tryz.func65 rfl Tryz.ntmps65 rfl ?_
  intro W K hK
  cases a with
  | none =>
    refine J_fact (φ := l = []) (fun w H => ?_) ?_
    · obtain ⟨a', c', he, _, _, _, h4, _⟩ := hK.of H
      cases he
      exact List.eq_nil_of_length_eq_zero (h4 rfl).1
    · rintro rfl
      (repeat' (first | ((with_reducible apply gL); (first | refine yL0 ?_ | refine yL ?_ | (refine yM ?_; intro _) | (refine yA ?_; intro _ _ _ _) | fail)) | refine yJ ?_ | ((with_reducible apply gJ_if); (first | (refine J_if xR ?_ ?_ <;> intro _ <;> (try (exfalso; first | contradiction | omega))) | (refine J_ifb xR ?_ ?_ <;> (intro hgb; subst hgb)) | (refine J_ifb xR ?_ ?_ <;> intro _) | fail)) | fail))
      exact J_ret1 rfl (by rfl) fun w H => ⟨_, ⟨none, 0, rfl, rfl⟩, (Ow.arNil (e := 41) (sz := 2) (enc := pfC) H).sel xZ⟩
  | some p =>
    (repeat' (first | ((with_reducible apply gL); (first | refine yL0 ?_ | ((with_reducible apply gL_c_append); (first | (refine JL_appL pfC (fs := l) (tabE etab_ok xR) xR xR xA (Src.kn hK) xC xL (all_one _ (by intro _ _; rfl)) (by omega) xR xR ?_; intro ad c2 _ _) | fail)) | refine yL ?_ | (refine yM ?_; intro _) | (refine yA ?_; intro _ _ _ _) | fail)) | refine yJ ?_ | ((with_reducible apply gJ_if); (first | (refine J_if xR ?_ ?_ <;> intro _ <;> (try (exfalso; first | contradiction | omega))) | (refine J_ifb xR ?_ ?_ <;> (intro hgb; subst hgb)) | (refine J_ifb xR ?_ ?_ <;> intro _) | fail)) | fail))
    exact J_ret1 rfl (by rfl) fun w H => ⟨_, ⟨ad, c2, rfl, rfl⟩, H.sel xZ⟩
end Go.Proofs.YtnhabkipjmgaaaaGreat
namespace Go.Proofs.YtnhabkipjmgaaaaGreat
set_option linter.unusedSimpArgs false
set_option linter.unusedVariables false
set_option maxRecDepth 20000
set_option maxHeartbeats 4000000
open Go.RowKit Go.Pm

open T (Pf PfN Rt Ah pfC)
def TstP (F : FuncId) (caps : List Value) (q : Pf → Bool) (φ : World → Prop) (A : HP) : Prop := ownB Tryz.prog F = true ∧ ∀ p, PfN p → Pact Tryz.prog F (.agg (pfC p).toArray :: caps).toArray φ [A] (fun u L' => u = .bool (q p) ∧ L' = [A])
def idxP (q : Pf → Bool) : List Pf → Nat → Int
  | [], _ => -1
  | o :: r, k => if q o then k else idxP q r (k + 1)
theorem idxP_drop (q : Pf → Bool) {es : List Pf} {k : Nat} {o : Pf} (h : es[k]? = some o) : idxP q (es.drop k) k = if q o then (k : Int) else idxP q (es.drop (k + 1)) (k + 1) := by
  obtain ⟨hk, rfl⟩ := List.getElem?_eq_some_iff.1 h
  rw [List.drop_eq_getElem_cons hk]; rfl
def keepP (q : Pf → Bool) (es : List Pf) : List Pf := es.filter (fun o => !q o)
theorem keepP_snoc (q : Pf → Bool) {es : List Pf} {j : Nat} {o : Pf} (h : es[j]? = some o) : keepP q (es.take (j + 1)) = keepP q (es.take j) ++ (if q o then [] else [o]) := by
  rw [take_snoc h]
  unfold keepP
  rw [List.filter_append]
  congr 1
  cases hD : q o <;> simp [List.filter_cons, hD]
theorem keepP_len (q : Pf → Bool) (es : List Pf) : (keepP q es).length ≤ es.length := List.length_filter_le _ _
theorem idxP_none (q : Pf → Bool) : ∀ (es : List Pf) (k : Nat), idxP q es k = -1 → keepP q es = es
  | [], _, _ => rfl
  | o :: r, k, h => by
    unfold idxP at h
    cases hD : q o
    · rw [hD] at h
      have := idxP_none q r (k + 1) h
      unfold keepP at this ⊢
      simp [List.filter_cons, hD, this]
    · rw [hD] at h; simp at h
theorem idxP_some (q : Pf → Bool) : ∀ (es : List Pf) (k : Nat), idxP q es k ≠ -1 → ∃ i, ∃ (hi : i < es.length), idxP q es k = (k : Int) + i ∧ q es[i] = true ∧ keepP q (es.take i) = es.take i
  | [], k, h => (h rfl).elim
  | o :: r, k, h => by
    cases hD : q o
    · have he : idxP q (o :: r) k = idxP q r (k + 1) := by show (if q o then _ else _) = _; rw [hD]; rfl
      rw [he] at h
      obtain ⟨i, hi, h1, h2, h3⟩ := idxP_some q r (k + 1) h
      refine ⟨i + 1, by simp; exact hi, by rw [he, h1]; omega, by simpa using h2, ?_⟩
      unfold keepP at h3 ⊢
      simp [List.filter_cons, hD, h3]
    · refine ⟨0, by simp, ?_, by simpa using hD, rfl⟩
      show (if q o then _ else _) = _
      rw [hD]; simp
theorem index_p (a : Option Addr) (c : Nat) (es : List Pf) (F : FuncId) (caps : List Value) (q : Pf → Bool) (φ : World → Prop) (A : HP) (hT : TstP F caps q φ A) (hn : ∀ o ∈ es, PfN o) (hl : es.length ≤ 1000000) :
    Pact Tryz.prog 90 #[.slice a es.length c, .func (.func F) #[] caps.toArray] (fun w => Vw w (.slice a es.length c) 2 es.length (flat pfC es) ∧ φ w) [A] (fun u L' => u = .int .i64 (idxP q es 0) ∧ L' = [A]) := by
  have ho := hT.1
  refine pact Tryz.func90 rfl Tryz.ntmps90 rfl ?_
  intro W K hK
  have hv := hK.left
  (repeat' (first | ((with_reducible apply gL); (first | refine yL0 ?_ | refine yL ?_ | fail)) | refine yJ ?_ | ((with_reducible apply gJ_if); (first | (refine J_if xR ?_ ?_ <;> intro _ <;> (try (exfalso; first | contradiction | omega))) | (refine J_ifb xR ?_ ?_ <;> (intro hgb; subst hgb)) | (refine J_ifb xR ?_ ?_ <;> intro _) | fail)) | fail))
  refine J_loop (α := Nat) 0 (fun k => es.length - k) (fun k => k ≤ es.length ∧ idxP q es 0 = idxP q (es.drop k) k) (fun k => [(0, .slice a es.length c), (1, .func (.func F) #[] caps.toArray), (7, .int .i64 es.length), (8, .int .i64 k)]) (fun _ => [A]) ⟨Nat.zero_le _, rfl⟩ ⟨rfl, rfl, rfl, rfl, trivial⟩ (fun w H => H) ?_
  rintro k ⟨hk, he⟩
  by_cases hlt : k < es.length
  · obtain ⟨o, hs⟩ : ∃ o, es[k]? = some o := ⟨_, List.getElem?_eq_getElem hlt⟩
    have hm := List.mem_of_getElem? hs
    rw [idxP_drop q hs] at he
    have ht := hT.2 o (hn o hm)
    rcases hqo : q o with _ | _
    · rw [hqo] at ht he
      (repeat' (first | ((with_reducible apply gL); (first | refine yL0 ?_ | refine yL ?_ | ((with_reducible apply gL_go); (first | (refine JL_goq (ht) (hφ := (by (try simp only [List.cons_append, List.nil_append]); exact fun w hr => (hK w hr.1).2)) (h := ?_); rintro _ _ ⟨rfl, rfl⟩; try simp only [List.cons_append, List.nil_append]) | fail)) | fail)) | refine yJ ?_ | ((with_reducible apply gJ_if); (first | (refine J_if xR ?_ ?_ <;> intro _ <;> (try (exfalso; first | contradiction | omega))) | (refine J_ifb xR ?_ ?_ <;> (intro hgb; subst hgb)) | (refine J_ifb xR ?_ ?_ <;> intro _) | fail)) | fail))
      exact J_again (k + 1) (by omega) ⟨by omega, he⟩ ⟨rfl, rfl, rfl, rfl, trivial⟩ (fun w H => H.sel xZ)
    · rw [hqo] at ht he
      (repeat' (first | ((with_reducible apply gL); (first | refine yL0 ?_ | refine yL ?_ | ((with_reducible apply gL_go); (first | (refine JL_goq (ht) (hφ := (by (try simp only [List.cons_append, List.nil_append]); exact fun w hr => (hK w hr.1).2)) (h := ?_); rintro _ _ ⟨rfl, rfl⟩; try simp only [List.cons_append, List.nil_append]) | fail)) | fail)) | refine yJ ?_ | ((with_reducible apply gJ_if); (first | (refine J_if xR ?_ ?_ <;> intro _ <;> (try (exfalso; first | contradiction | omega))) | (refine J_ifb xR ?_ ?_ <;> (intro hgb; subst hgb)) | (refine J_ifb xR ?_ ?_ <;> intro _) | fail)) | fail))
      exact J_ret1 rfl (by rfl) fun w H => ⟨_, ⟨by rw [he]; rfl, rfl⟩, H.sel xZ⟩
  · obtain rfl : k = es.length := by omega
    (repeat' (first | ((with_reducible apply gL); (first | refine yL0 ?_ | refine yL ?_ | fail)) | refine yJ ?_ | ((with_reducible apply gJ_if); (first | (refine J_if xR ?_ ?_ <;> intro _ <;> (try (exfalso; first | contradiction | omega))) | (refine J_ifb xR ?_ ?_ <;> (intro hgb; subst hgb)) | (refine J_ifb xR ?_ ?_ <;> intro _) | fail)) | fail))
    refine J_ret1 rfl (by rfl) fun w H => ⟨_, ⟨?_, rfl⟩, H.sel xZ⟩
    rw [he, List.drop_length]; rfl
def DelR (A : HP) (q : Pf → Bool) (es : List Pf) (v : Value) (L' : List HP) : Prop := ∃ a' c', v = .slice a' (keepP q es).length c' ∧ L' = [A, Ar 41 2 pfC (.slice a' (keepP q es).length c') (keepP q es)]
structure Lp where
  j : Nat
  xs : List Pf
theorem delete_p (a : Option Addr) (c : Nat) (es : List Pf) (F : FuncId) (caps : List Value) (q : Pf → Bool) (φ : World → Prop) (A : HP) (hT : TstP F caps q φ A) (hn : ∀ o ∈ es, PfN o) (hl : es.length ≤ 1000000) :
    Pact Tryz.prog 64 #[.slice a es.length c, .func (.func F) #[] caps.toArray] φ [A, Ar 41 2 pfC (.slice a es.length c) es] (DelR A q es) := by
  have ho := hT.1
  refine pact Tryz.func64 rfl Tryz.ntmps64 rfl ?_
  intro W K hK
  refine J_fact (φ := es.length ≤ c ∧ c ≤ maxLen) (fun w H => (H.arShape (.there .here)).2) ?_
  rintro ⟨hnc, hcm⟩
  unfold maxLen at hcm
  by_cases hi : idxP q es 0 = -1
  · (repeat' (first | ((with_reducible apply gL); (first | refine yL0 ?_ | refine yL ?_ | ((with_reducible apply gL_go); (first | (refine JL_goq (index_p a c es F caps q φ A hT hn hl) (hφ := (by (try simp only [List.cons_append, List.nil_append]); exact fun w hr => ⟨Src.ar .here w hr, hK w hr.1⟩)) (h := ?_); rintro _ _ ⟨rfl, rfl⟩; try simp only [List.cons_append, List.nil_append]) | fail)) | (refine yM ?_; intro _) | fail)) | refine yJ ?_ | ((with_reducible apply gJ_if); (first | (refine J_if xR ?_ ?_ <;> intro _ <;> (try (exfalso; first | contradiction | omega))) | (refine J_ifb xR ?_ ?_ <;> (intro hgb; subst hgb)) | (refine J_ifb xR ?_ ?_ <;> intro _) | fail)) | fail))
    refine J_ret1 rfl (by rfl) fun w H => ⟨_, ⟨a, c, ?_, rfl⟩, ?_⟩ <;> rw [idxP_none q es 0 hi]
    exact H.sel xZ
  · obtain ⟨i, hil, hie, hD, hkeep⟩ := idxP_some q es 0 hi
    have hx := index_p a c es F caps q φ A hT hn hl
    rw [hie, Int.natCast_zero, Int.zero_add] at hx
    have hk1 : keepP q (es.take (i + 1)) = es.take i := by rw [keepP_snoc q (List.getElem?_eq_getElem hil), hkeep, hD]; simp
    have hkl : (es.take i).length = i := by simp; omega
    (repeat' (first | ((with_reducible apply gL); (first | refine yL0 ?_ | refine yL ?_ | ((with_reducible apply gL_go); (first | (refine JL_goq (hx) (hφ := (by (try simp only [List.cons_append, List.nil_append]); exact fun w hr => ⟨Src.ar .here w hr, hK w hr.1⟩)) (h := ?_); rintro _ _ ⟨rfl, rfl⟩; try simp only [List.cons_append, List.nil_append]) | fail)) | (refine yM ?_; intro _) | fail)) | refine yJ ?_ | ((with_reducible apply gJ_if); (first | (refine J_if xR ?_ ?_ <;> intro _ <;> (try (exfalso; first | contradiction | omega))) | (refine J_ifb xR ?_ ?_ <;> (intro hgb; subst hgb)) | (refine J_ifb xR ?_ ?_ <;> intro _) | fail)) | fail))
    refine J_loop (α := Lp) ⟨i + 1, es⟩ (fun x => es.length - x.j) (fun x => x.j ≤ es.length ∧ x.xs.length = es.length ∧ (keepP q (es.take x.j)).length < x.j ∧ x.xs.take (keepP q (es.take x.j)).length = keepP q (es.take x.j) ∧ x.xs.drop x.j = es.drop x.j)
      (fun x => [(0, .slice a es.length c), (1, .func (.func F) #[] caps.toArray), (5, .int .i64 (keepP q (es.take x.j)).length), (6, .int .i64 x.j)]) (fun x => [A, Ar 41 2 pfC (.slice a es.length c) x.xs]) ?_ ?_ (fun w H => H.sel xZ) ?_
    · dsimp only; rw [hk1, hkl]; exact ⟨hil, rfl, by omega, rfl, rfl⟩
    · dsimp only; rw [hk1, hkl]; exact ⟨rfl, rfl, rfl, rfl, trivial⟩
    rintro ⟨j, xs⟩ ⟨hj, hxl, hkj, hxt, hxd⟩
    dsimp only at hj hxl hkj hxt hxd ⊢
    by_cases hlt : j < es.length
    · obtain ⟨o, hs⟩ : ∃ o, es[j]? = some o := ⟨_, List.getElem?_eq_getElem hlt⟩
      have hm := List.mem_of_getElem? hs
      have hxs : xs[j]? = some o := by have := congrArg (·[0]?) hxd; simpa [hs] using this
      have hke := keepP_snoc q hs
      have ht := hT.2 o (hn o hm)
      rcases hqo : q o with _ | _
      · rw [hqo] at ht
        have hke2 : keepP q (es.take (j + 1)) = keepP q (es.take j) ++ [o] := by rw [hke, hqo]; rfl
        have hil2 : (keepP q (es.take j)).length < xs.length := by omega
        (repeat' (first | ((with_reducible apply gL); (first | refine yL0 ?_ | refine yL ?_ | ((with_reducible apply gL_go); (first | (refine JL_goq (ht) (hφ := (by (try simp only [List.cons_append, List.nil_append]); exact fun w hr => hK w hr.1)) (h := ?_); rintro _ _ ⟨rfl, rfl⟩; try simp only [List.cons_append, List.nil_append]) | fail)) | (refine yM ?_; intro _) | fail)) | refine yJ ?_ | ((with_reducible apply gJ_if); (first | (refine J_if xR ?_ ?_ <;> intro _ <;> (try (exfalso; first | contradiction | omega))) | (refine J_ifb xR ?_ ?_ <;> (intro hgb; subst hgb)) | (refine J_ifb xR ?_ ?_ <;> intro _) | fail)) | fail))
        refine J_again ⟨j + 1, xs.set (keepP q (es.take j)).length o⟩ (by dsimp only; omega) ?_ ?_ (fun w H => H.sel xZ)
        · dsimp only
          rw [hke2]
          refine ⟨hlt, by simp [hxl], by simp; omega, ?_, ?_⟩
          · rw [List.length_append, List.length_singleton, List.take_add_one, List.getElem?_set_self hil2, List.take_set_of_le (Nat.le_refl _), hxt]
            rfl
          · rw [List.drop_set_of_lt (by omega), ← List.drop_drop, hxd, List.drop_drop]
        · refine ⟨rfl, rfl, ?_, rfl, trivial⟩
          show some _ = some _
          rw [hke2, List.length_append]
          rfl
      · rw [hqo] at ht
        have hke2 : keepP q (es.take (j + 1)) = keepP q (es.take j) := by rw [hke, hqo]; simp
        (repeat' (first | ((with_reducible apply gL); (first | refine yL0 ?_ | refine yL ?_ | ((with_reducible apply gL_go); (first | (refine JL_goq (ht) (hφ := (by (try simp only [List.cons_append, List.nil_append]); exact fun w hr => hK w hr.1)) (h := ?_); rintro _ _ ⟨rfl, rfl⟩; try simp only [List.cons_append, List.nil_append]) | fail)) | (refine yM ?_; intro _) | fail)) | refine yJ ?_ | ((with_reducible apply gJ_if); (first | (refine J_if xR ?_ ?_ <;> intro _ <;> (try (exfalso; first | contradiction | omega))) | (refine J_ifb xR ?_ ?_ <;> (intro hgb; subst hgb)) | (refine J_ifb xR ?_ ?_ <;> intro _) | fail)) | fail))
        refine J_again ⟨j + 1, xs⟩ (by dsimp only; omega) ?_ ?_ (fun w H => H.sel xZ)
        · dsimp only
          rw [hke2]
          exact ⟨hlt, hxl, by omega, hxt, by rw [← List.drop_drop, hxd, List.drop_drop]⟩
        · refine ⟨rfl, rfl, ?_, rfl, trivial⟩
          show some _ = some _
          rw [hke2]
    · obtain rfl : j = es.length := by omega
      rw [List.take_length] at *
      (repeat' (first | ((with_reducible apply gL); (first | refine yL0 ?_ | ((with_reducible apply gL_c_clear); (first | refine JL_clear ((0, 0) : Pf) (tabE etab_ok (by rfl)) (by rfl) (by with_reducible exact Tk.there Tk.here) (by rfl) (by decide +kernel) (by decide +kernel) (by intro _; rfl) (by omega) (by rfl) ?_ | fail)) | refine yL ?_ | (refine yM ?_; intro _) | fail)) | refine yJ ?_ | ((with_reducible apply gJ_if); (first | (refine J_if xR ?_ ?_ <;> intro _ <;> (try (exfalso; first | contradiction | omega))) | (refine J_ifb xR ?_ ?_ <;> (intro hgb; subst hgb)) | (refine J_ifb xR ?_ ?_ <;> intro _) | fail)) | fail))
      refine J_ret1 rfl (by rfl) fun w H => ⟨_, ⟨a, c, rfl, rfl⟩, ?_⟩
      have hkl2 := keepP_len q es
      have H2 := H.arTake xA (by intro _; rfl) (keepP q es).length (by simp; omega)
      rw [List.take_append_of_le_length (by simp; omega), List.take_take, Nat.min_self, hxt] at H2
      exact H2.sel xZ
/-! Compact. -/
def ddF : Option Pf → List Pf → List Pf
  | _, [] => []
  | o, x :: r => if o = some x then ddF (some x) r else x :: ddF (some x) r
def lastO : Option Pf → List Pf → Option Pf
  | o, [] => o
  | _, x :: r => lastO (some x) r
theorem ddF_snoc (x : Pf) : ∀ (l : List Pf) (o : Option Pf), ddF o (l ++ [x]) = ddF o l ++ if lastO o l = some x then [] else [x]
  | [], o => by
    show (if o = some x then [] else [x]) = _
    rfl
  | y :: r, o => by
    simp only [List.cons_append, ddF, lastO]
    split
    · exact ddF_snoc x r _
    · rw [ddF_snoc x r]; rfl
abbrev ddP (l : List Pf) : List Pf := ddF none l
theorem lastO_snoc (x : Pf) : ∀ (l : List Pf) (o : Option Pf), lastO o (l ++ [x]) = some x
  | [], _ => rfl
  | y :: r, _ => lastO_snoc x r _
theorem ddP_take {es : List Pf} {m : Nat} {x y : Pf} (hx : es[m + 1]? = some x) (hy : es[m]? = some y) : ddP (es.take (m + 1 + 1)) = ddP (es.take (m + 1)) ++ if y = x then [] else [x] := by
  rw [take_snoc hx]
  unfold ddP
  rw [ddF_snoc, take_snoc hy, lastO_snoc]
  simp
theorem ddF_len : ∀ (l : List Pf) (o : Option Pf), (ddF o l).length ≤ l.length
  | [], _ => Nat.le_refl _
  | x :: r, o => by
    simp only [ddF]
    have := ddF_len r (some x)
    split
    · simp only [List.length_cons]; omega
    · simp only [List.length_cons]; omega
theorem ddF_mem : ∀ (l : List Pf) (o : Option Pf) (z : Pf), (z ∈ ddF o l → z ∈ l) ∧ (z ∈ l → z ∈ ddF o l ∨ o = some z)
  | [], _, _ => ⟨id, fun h => absurd h List.not_mem_nil⟩
  | x :: r, o, z => by
    obtain ⟨h1, h2⟩ := ddF_mem r (some x) z
    simp only [ddF]
    split
    · rename_i e
      refine ⟨fun h => List.mem_cons_of_mem _ (h1 h), fun h => ?_⟩
      rcases List.mem_cons.1 h with rfl | h
      · exact .inr e
      · rcases h2 h with h | h
        · exact .inl h
        · cases h; exact .inr e
    · refine ⟨fun h => ?_, fun h => ?_⟩
      · rcases List.mem_cons.1 h with rfl | h
        · exact List.mem_cons_self ..
        · exact List.mem_cons_of_mem _ (h1 h)
      · rcases List.mem_cons.1 h with rfl | h
        · exact .inl (List.mem_cons_self ..)
        · rcases h2 h with h | h
          · exact .inl (List.mem_cons_of_mem _ h)
          · cases h; exact .inl (List.mem_cons_self ..)
theorem ddP_mem (l : List Pf) (z : Pf) : z ∈ ddP l ↔ z ∈ l := ⟨(ddF_mem l none z).1, fun h => by
  rcases (ddF_mem l none z).2 h with h | h
  · exact h
  · cases h⟩
theorem ddF_srt : ∀ (l : List Pf) (o : Option Pf), l.Pairwise (fun x y => ¬ Ah y x) → (∀ y, o = some y → ∀ x ∈ l, ¬ Ah x y) → (ddF o l).Pairwise (fun x y => Ah x y) ∧ ∀ y, o = some y → ∀ x ∈ ddF o l, Ah y x
  | [], _, _, _ => ⟨.nil, fun _ _ _ h => absurd h List.not_mem_nil⟩
  | x :: r, o, h, ho => by
    obtain ⟨h1, h2⟩ := List.pairwise_cons.1 h
    obtain ⟨i1, i2⟩ := ddF_srt r (some x) h2 (fun y e z hz => by cases e; exact h1 z hz)
    simp only [ddF]
    split
    · rename_i e
      subst e
      exact ⟨i1, i2⟩
    · rename_i e
      refine ⟨List.pairwise_cons.2 ⟨fun z hz => i2 x rfl z hz, i1⟩, fun y hy z hz => ?_⟩
      have hyx : Ah y x := T.Ah.total (ho y hy x (List.mem_cons_self ..)) (fun e2 => e (by rw [hy, e2]))
      rcases List.mem_cons.1 hz with rfl | hz
      · exact hyx
      · exact hyx.trans (i2 x rfl z hz)
structure Kp where
  k : Nat
  j : Nat
  xs : List Pf
theorem compact_p (a : Option Addr) (c n : Nat) (es : List Pf) (hes : es.length = n) (hl : n ≤ 1000000) :
    Pact Tryz.prog 68 #[.slice a n c] (fun _ => True) [Ar 41 2 pfC (.slice a n c) es] (fun u L' => ∃ a' c', u = .slice a' (ddP es).length c' ∧ L' = [Ar 41 2 pfC (.slice a' (ddP es).length c') (ddP es)]) := by
  subst hes
  refine pact Tryz.func68 rfl Tryz.ntmps68 rfl ?_
  intro W K hK
  refine J_fact (φ := es.length ≤ c ∧ c ≤ maxLen) (fun w H => (H.arShape .here).2) ?_
  rintro ⟨hnc, hcm⟩
  unfold maxLen at hcm
  by_cases h2 : es.length < 2
  · have e : ddP es = es := by
      rcases es with _ | ⟨x, _ | ⟨y, r⟩⟩
      · rfl
      · rfl
      · simp at h2; omega
    rw [e]
    (repeat' (first | ((with_reducible apply gL); (first | refine yL0 ?_ | refine yL ?_ | fail)) | ((with_reducible apply gD); (first | (refine JD_nil ?_; try simp only [List.cons_append, List.nil_append]) | (refine JD_bar ?_; try simp only [List.cons_append, List.nil_append]) | refine yD ?_ | fail)) | refine yJ ?_ | ((with_reducible apply gJ_if); (first | (refine J_if xR ?_ ?_ <;> intro _ <;> (try (exfalso; first | contradiction | omega))) | (refine J_ifb xR ?_ ?_ <;> (intro hgb; subst hgb)) | (refine J_ifb xR ?_ ?_ <;> intro _) | fail)) | refine J_draw (id := 6) [0, 1, 2, 3, 4, 5, 6, 7, 8] [9] mixed xC xD xD ?_ | refine J_draw (id := 11) [0, 1, 2, 3, 4, 5, 6, 7, 8] [9] mixed xC xD xD ?_ | fail))
    all_goals (first | (exfalso; omega) | skip)
    exact J_ret1 rfl (by rfl) fun w H => ⟨_, ⟨a, c, rfl, rfl⟩, H.sel xZ⟩
  · obtain ⟨x0, hx0⟩ : ∃ x, es[0]? = some x := ⟨_, List.getElem?_eq_getElem (by omega)⟩
    have h1 : ddP (es.take (0 + 1)) = es.take (0 + 1) := by rw [take_snoc hx0]; rfl
    (repeat' (first | ((with_reducible apply gL); (first | refine yL0 ?_ | refine yL ?_ | fail)) | ((with_reducible apply gD); (first | (refine JD_nil ?_; try simp only [List.cons_append, List.nil_append]) | (refine JD_bar ?_; try simp only [List.cons_append, List.nil_append]) | refine yD ?_ | fail)) | refine yJ ?_ | ((with_reducible apply gJ_if); (first | (refine J_if xR ?_ ?_ <;> intro _ <;> (try (exfalso; first | contradiction | omega))) | (refine J_ifb xR ?_ ?_ <;> (intro hgb; subst hgb)) | (refine J_ifb xR ?_ ?_ <;> intro _) | fail)) | refine J_draw (id := 6) [0, 1, 2, 3, 4, 5, 6, 7, 8] [9] mixed xC xD xD ?_ | refine J_draw (id := 11) [0, 1, 2, 3, 4, 5, 6, 7, 8] [9] mixed xC xD xD ?_ | fail))
    all_goals (first | (exfalso; omega) | skip)
    refine J_loop (α := Nat) 0 (fun x => es.length - x) (fun x => x + 1 ≤ es.length ∧ ddP (es.take (x + 1)) = es.take (x + 1)) (fun x => [(0, .slice a es.length c), (3, .int .i64 ((x + 1 : Nat) : Int))]) (fun _ => [Ar 41 2 pfC (.slice a es.length c) es]) ⟨by omega, h1⟩ ⟨rfl, rfl, trivial⟩ (fun w H => H.sel xZ) ?_
    rintro k ⟨hk, hd⟩
    by_cases hlt : k + 1 < es.length
    · obtain ⟨x, hx⟩ : ∃ x, es[k + 1]? = some x := ⟨_, List.getElem?_eq_getElem hlt⟩
      obtain ⟨y, hy⟩ : ∃ y, es[k]? = some y := ⟨_, List.getElem?_eq_getElem (by omega)⟩
      have hsn := ddP_take hx hy
      have hy2 : es[(((k + 1 : Nat) : Int) - 1).toNat]? = some y := by rw [show (((k + 1 : Nat) : Int) - 1).toNat = k by omega]; exact hy
      by_cases hxy : x.1 = y.1 ∧ x.2 = y.2
      · obtain rfl : x = y := Prod.ext hxy.1 hxy.2
        rw [if_pos rfl, List.append_nil, hd] at hsn
        have htl : (es.take (k + 1)).length = k + 1 := by rw [List.length_take]; omega
        (repeat' (first | ((with_reducible apply gL); (first | refine yL0 ?_ | refine yL ?_ | fail)) | ((with_reducible apply gD); (first | (refine JD_nil ?_; try simp only [List.cons_append, List.nil_append]) | (refine JD_bar ?_; try simp only [List.cons_append, List.nil_append]) | refine yD ?_ | fail)) | refine yJ ?_ | ((with_reducible apply gJ_if); (first | (refine J_if xR ?_ ?_ <;> intro _ <;> (try (exfalso; first | contradiction | omega))) | (refine J_ifb xR ?_ ?_ <;> (intro hgb; subst hgb)) | (refine J_ifb xR ?_ ?_ <;> intro _) | fail)) | refine J_draw (id := 6) [0, 1, 2, 3, 4, 5, 6, 7, 8] [9] mixed xC xD xD ?_ | refine J_draw (id := 11) [0, 1, 2, 3, 4, 5, 6, 7, 8] [9] mixed xC xD xD ?_ | fail))
        all_goals (first | (exfalso; omega) | skip)
        refine J_loop (α := Kp) ⟨k + 1, 0, es⟩ (fun x => es.length - x.j) (fun x => k + 1 + x.j + 1 ≤ es.length ∧ x.xs.length = es.length ∧ x.k = (ddP (es.take (k + 1 + x.j + 1))).length ∧ x.k ≤ k + 1 + x.j ∧ x.xs.take x.k = ddP (es.take (k + 1 + x.j + 1)) ∧ x.xs.drop (k + 1 + x.j) = es.drop (k + 1 + x.j))
          (fun x => [(0, .slice a es.length c), (3, .int .i64 x.k), (4, .slice (slA a c (k + 1) 2) (es.length - (k + 1)) (c - (k + 1))), (5, .int .i64 ((x.j + 1 : Nat) : Int))]) (fun x => [Ar 41 2 pfC (.slice a es.length c) x.xs]) ?_ ⟨rfl, rfl, rfl, rfl, trivial⟩ (fun w H => H.sel xZ) ?_
        · dsimp only
          have e : k + 1 + 0 + 1 = k + 1 + 1 := rfl
          rw [e, hsn]
          exact ⟨by omega, rfl, htl.symm, by omega, rfl, rfl⟩
        rintro ⟨m, j, xs⟩ ⟨hj, hxl, hm, hmj, hxt, hxd⟩
        dsimp only at hj hxl hm hmj hxt hxd ⊢
        have hS : ∀ {K' : Hl} {L R : List HP}, Tk L (Ar 41 2 pfC (.slice a es.length c) xs) R → Src K' L (.slice (slA a c (k + 1) 2) (es.length - (k + 1)) (c - (k + 1))) 2 (es.length - (k + 1)) (flat pfC (xs.drop (k + 1))) := fun {K' L R} t =>
          Src.drop (a := a) (c := c) (n := es.length) (enc := pfC) (es := xs) (by have h := Src.ar (K := K') t; rw [hxl] at h; exact h) (fun _ => rfl) hxl (k + 1) (es.length - (k + 1)) (by omega) rfl
        by_cases hjl : k + 1 + j + 1 < es.length
        · obtain ⟨x', hx'⟩ : ∃ x, es[k + 1 + j + 1]? = some x := ⟨_, List.getElem?_eq_getElem hjl⟩
          obtain ⟨y', hy'⟩ : ∃ y, es[k + 1 + j]? = some y := ⟨_, List.getElem?_eq_getElem (by omega)⟩
          have hsn' := ddP_take hx' hy'
          have d1 : (xs.drop (k + 1))[j + 1]? = some x' := by
            rw [List.getElem?_drop]
            have := congrArg (·[1]?) hxd
            simp only [List.getElem?_drop] at this
            rw [show k + 1 + (j + 1) = k + 1 + j + 1 by omega, this]; exact hx'
          have d2 : (xs.drop (k + 1))[(((j + 1 : Nat) : Int) - 1).toNat]? = some y' := by
            rw [List.getElem?_drop, show (((j + 1 : Nat) : Int) - 1).toNat = j by omega]
            have := congrArg (·[0]?) hxd
            simp only [List.getElem?_drop, Nat.add_zero] at this
            rw [this]; exact hy'
          by_cases hxy' : x'.1 = y'.1 ∧ x'.2 = y'.2
          · obtain rfl : x' = y' := Prod.ext hxy'.1 hxy'.2
            (repeat' (first | ((with_reducible apply gL); (first | refine yL0 ?_ | ((with_reducible apply gL_indexAddr); (first | (first | (refine JD_pM rfl xR rfl xA (pe_ix xR xR (tabE etab_ok xR) (hS .here) xI xO) ?_) | (refine JD_p rfl xR rfl (pe_ix xR xR (tabE etab_ok xR) (hS xA) xI xO) ?_) | (refine JL_p rfl xR xR (pe_ix xR xR (tabE etab_ok xR) (hS xA) xI xO) ?_)) | fail)) | ((with_reducible apply gL_load); (first | (first | (refine JD_p rfl xR rfl (pe_el xR (hS xA) xL xR xC xH) ?_) | (refine JL_p rfl xR xR (pe_el xR (hS xA) xL xR xC xH) ?_)) | fail)) | refine yL ?_ | fail)) | ((with_reducible apply gD); (first | (refine JD_nil ?_; try simp only [List.cons_append, List.nil_append]) | (refine JD_bar ?_; try simp only [List.cons_append, List.nil_append]) | ((with_reducible apply gD_indexAddr); (first | (first | (refine JD_pM rfl xR rfl xA (pe_ix xR xR (tabE etab_ok xR) (hS .here) xI xO) ?_) | (refine JD_p rfl xR rfl (pe_ix xR xR (tabE etab_ok xR) (hS xA) xI xO) ?_) | (refine JL_p rfl xR xR (pe_ix xR xR (tabE etab_ok xR) (hS xA) xI xO) ?_)) | fail)) | ((with_reducible apply gD_load); (first | (first | (refine JD_p rfl xR rfl (pe_el xR (hS xA) xL xR xC xH) ?_) | (refine JL_p rfl xR xR (pe_el xR (hS xA) xL xR xC xH) ?_)) | fail)) | refine yD ?_ | fail)) | refine yJ ?_ | ((with_reducible apply gJ_if); (first | (refine J_if xR ?_ ?_ <;> intro _ <;> (try (exfalso; first | contradiction | omega))) | (refine J_ifb xR ?_ ?_ <;> (intro hgb; subst hgb)) | (refine J_ifb xR ?_ ?_ <;> intro _) | fail)) | refine J_draw (id := 6) [0, 1, 2, 3, 4, 5, 6, 7, 8] [9] mixed xC xD xD ?_ | refine J_draw (id := 11) [0, 1, 2, 3, 4, 5, 6, 7, 8] [9] mixed xC xD xD ?_ | fail))
            all_goals (first | (exfalso; omega) | skip)
            refine J_again ⟨m, j + 1, xs⟩ (by dsimp only; omega) ?_ ⟨rfl, rfl, rfl, rfl, trivial⟩ (fun w H => H.sel xZ)
            dsimp only
            rw [if_pos rfl, List.append_nil] at hsn'
            have e : k + 1 + (j + 1) + 1 = k + 1 + j + 1 + 1 := by omega
            rw [e, hsn']
            refine ⟨by omega, hxl, hm, by omega, hxt, ?_⟩
            rw [show k + 1 + (j + 1) = k + 1 + j + 1 by omega, ← List.drop_drop, hxd, List.drop_drop]
          · have hne' : ¬ y' = x' := fun e => hxy' ⟨by rw [e], by rw [e]⟩
            have hml : m < xs.length := by omega
            (repeat' (first | ((with_reducible apply gL); (first | refine yL0 ?_ | ((with_reducible apply gL_indexAddr); (first | (first | (refine JD_pM rfl xR rfl xA (pe_ix xR xR (tabE etab_ok xR) (hS .here) xI xO) ?_) | (refine JD_p rfl xR rfl (pe_ix xR xR (tabE etab_ok xR) (hS xA) xI xO) ?_) | (refine JL_p rfl xR xR (pe_ix xR xR (tabE etab_ok xR) (hS xA) xI xO) ?_)) | fail)) | ((with_reducible apply gL_load); (first | (first | (refine JD_p rfl xR rfl (pe_el xR (hS xA) xL xR xC xH) ?_) | (refine JL_p rfl xR xR (pe_el xR (hS xA) xL xR xC xH) ?_)) | fail)) | refine yL ?_ | fail)) | ((with_reducible apply gD); (first | (refine JD_nil ?_; try simp only [List.cons_append, List.nil_append]) | (refine JD_bar ?_; try simp only [List.cons_append, List.nil_append]) | ((with_reducible apply gD_indexAddr); (first | (first | (refine JD_pM rfl xR rfl xA (pe_ix xR xR (tabE etab_ok xR) (hS .here) xI xO) ?_) | (refine JD_p rfl xR rfl (pe_ix xR xR (tabE etab_ok xR) (hS xA) xI xO) ?_) | (refine JL_p rfl xR xR (pe_ix xR xR (tabE etab_ok xR) (hS xA) xI xO) ?_)) | fail)) | ((with_reducible apply gD_load); (first | (first | (refine JD_p rfl xR rfl (pe_el xR (hS xA) xL xR xC xH) ?_) | (refine JL_p rfl xR xR (pe_el xR (hS xA) xL xR xC xH) ?_)) | fail)) | refine yD ?_ | fail)) | refine yJ ?_ | ((with_reducible apply gJ_if); (first | (refine J_if xR ?_ ?_ <;> intro _ <;> (try (exfalso; first | contradiction | omega))) | (refine J_ifb xR ?_ ?_ <;> (intro hgb; subst hgb)) | (refine J_ifb xR ?_ ?_ <;> intro _) | fail)) | refine J_draw (id := 6) [0, 1, 2, 3, 4, 5, 6, 7, 8] [9] mixed xC xD xD ?_ | refine J_draw (id := 11) [0, 1, 2, 3, 4, 5, 6, 7, 8] [9] mixed xC xD xD ?_ | fail))
            all_goals (first | (exfalso; omega) | skip)
            refine J_again ⟨m + 1, j + 1, xs.set m x'⟩ (by dsimp only; omega) ?_ ⟨rfl, rfl, rfl, rfl, trivial⟩ (fun w H => H.sel xZ)
            dsimp only
            rw [if_neg hne'] at hsn'
            have e : k + 1 + (j + 1) + 1 = k + 1 + j + 1 + 1 := by omega
            rw [e, hsn']
            refine ⟨by omega, by simp [hxl], by rw [List.length_append, ← hm]; rfl, by omega, ?_, ?_⟩
            · rw [List.take_add_one, List.getElem?_set_self hml, List.take_set_of_le (Nat.le_refl _), hxt]
              rfl
            · rw [List.drop_set_of_lt (by omega), show k + 1 + (j + 1) = k + 1 + j + 1 by omega, ← List.drop_drop, hxd, List.drop_drop]
        · have hje : k + 1 + j + 1 = es.length := by omega
          rw [hje, List.take_length] at hm hxt
          (repeat' (first | ((with_reducible apply gL); (first | refine yL0 ?_ | ((with_reducible apply gL_c_clear); (first | refine JL_clear ((0, 0) : Pf) (tabE etab_ok (by rfl)) (by rfl) (by with_reducible exact Tk.here) (by rfl) (by decide +kernel) (by decide +kernel) (by intro _; rfl) (by omega) (by rfl) ?_ | fail)) | refine yL ?_ | fail)) | ((with_reducible apply gD); (first | (refine JD_nil ?_; try simp only [List.cons_append, List.nil_append]) | (refine JD_bar ?_; try simp only [List.cons_append, List.nil_append]) | refine yD ?_ | fail)) | refine yJ ?_ | ((with_reducible apply gJ_if); (first | (refine J_if xR ?_ ?_ <;> intro _ <;> (try (exfalso; first | contradiction | omega))) | (refine J_ifb xR ?_ ?_ <;> (intro hgb; subst hgb)) | (refine J_ifb xR ?_ ?_ <;> intro _) | fail)) | refine J_draw (id := 6) [0, 1, 2, 3, 4, 5, 6, 7, 8] [9] mixed xC xD xD ?_ | refine J_draw (id := 11) [0, 1, 2, 3, 4, 5, 6, 7, 8] [9] mixed xC xD xD ?_ | fail))
          all_goals (first | (exfalso; omega) | skip)
          refine J_ret1 rfl (by rfl) fun w H => ⟨_, ⟨a, c, by rw [← hm], rfl⟩, ?_⟩
          have H2 := H.arTake xA (by intro _; rfl) m (by simp; omega)
          rw [List.take_append_of_le_length (by simp; omega), List.take_take, Nat.min_self, hxt] at H2
          rw [← hm]
          exact H2.sel xZ
      · have hne : ¬ y = x := fun e => hxy ⟨by rw [e], by rw [e]⟩
        rw [if_neg hne, hd, ← take_snoc hx] at hsn
        (repeat' (first | ((with_reducible apply gL); (first | refine yL0 ?_ | refine yL ?_ | fail)) | ((with_reducible apply gD); (first | (refine JD_nil ?_; try simp only [List.cons_append, List.nil_append]) | (refine JD_bar ?_; try simp only [List.cons_append, List.nil_append]) | refine yD ?_ | fail)) | refine yJ ?_ | ((with_reducible apply gJ_if); (first | (refine J_if xR ?_ ?_ <;> intro _ <;> (try (exfalso; first | contradiction | omega))) | (refine J_ifb xR ?_ ?_ <;> (intro hgb; subst hgb)) | (refine J_ifb xR ?_ ?_ <;> intro _) | fail)) | refine J_draw (id := 6) [0, 1, 2, 3, 4, 5, 6, 7, 8] [9] mixed xC xD xD ?_ | refine J_draw (id := 11) [0, 1, 2, 3, 4, 5, 6, 7, 8] [9] mixed xC xD xD ?_ | fail))
        all_goals (first | (exfalso; omega) | skip)
        exact J_again (k + 1) (by omega) ⟨by omega, hsn⟩ ⟨rfl, rfl, trivial⟩ (fun w H => H.sel xZ)
    · have he : k + 1 = es.length := by omega
      rw [he, List.take_length] at hd
      rw [hd]
      (repeat' (first | ((with_reducible apply gL); (first | refine yL0 ?_ | refine yL ?_ | fail)) | ((with_reducible apply gD); (first | (refine JD_nil ?_; try simp only [List.cons_append, List.nil_append]) | (refine JD_bar ?_; try simp only [List.cons_append, List.nil_append]) | refine yD ?_ | fail)) | refine yJ ?_ | ((with_reducible apply gJ_if); (first | (refine J_if xR ?_ ?_ <;> intro _ <;> (try (exfalso; first | contradiction | omega))) | (refine J_ifb xR ?_ ?_ <;> (intro hgb; subst hgb)) | (refine J_ifb xR ?_ ?_ <;> intro _) | fail)) | refine J_draw (id := 6) [0, 1, 2, 3, 4, 5, 6, 7, 8] [9] mixed xC xD xD ?_ | refine J_draw (id := 11) [0, 1, 2, 3, 4, 5, 6, 7, 8] [9] mixed xC xD xD ?_ | fail))
      all_goals (first | (exfalso; omega) | skip)
      exact J_ret1 rfl (by rfl) fun w H => ⟨_, ⟨a, c, rfl, rfl⟩, H.sel xZ⟩
end Go.Proofs.YtnhabkipjmgaaaaGreat
