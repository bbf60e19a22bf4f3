/-
  Cq5: merged.
-/
import Derived.Test.YtdnokmpnemaoaaaGreatZViewChooses44
namespace Go.Proofs.YtdnokmpnemaoaaaGreat.C
set_option linter.unusedSimpArgs false
set_option linter.unusedVariables false
set_option maxRecDepth 20000
set_option maxHeartbeats 4000000
open Go.RowKit Go.Pm

theorem rcheck_s (a : Option Addr) (c : Nat) (l : List Sp) (hn : ∀ s ∈ l, SpN s) (hl : l.length ≤ 4096) : Pact Tryz.prog 24 #[.slice a l.length c] (fun w => Vw w (.slice a l.length c) 7 l.length (flat spC l)) [] (ret0 (.int .i64 (checkE l))) := by
  refine pact Tryz.func24 rfl Tryz.ntmps24 rfl ?_
  intro W K hK
  have h1 : ¬ 4096 < l.length := by omega
  (repeat' (first | (refine gL ?_; first | refine yL0 ?_ | refine yL ?_ | (refine yM ?_; intro _)) | refine yJ ?_ | (refine yI ?_ ?_ <;> intro _ <;> try exact xX) | (refine yK ?_ ?_ <;> intro hgb <;> first | subst hgb | fail_if_success have : type_of% hgb := rfl) | fail))
  refine J_loop (α := Nat) 0 (fun k => l.length - k) (fun k => k ≤ l.length ∧ ∀ i, i < k → ∀ s, l[i]? = some s → StepOk s i l.length) (fun k => [(0, .slice a l.length c), (2, .int .i64 0), (3, .int .i64 k)])
    (fun _ => []) ⟨Nat.zero_le _, fun i h => absurd h (Nat.not_lt_zero _)⟩ ⟨rfl, rfl, rfl, trivial⟩ (fun w H => H.sel .nil) ?_
  rintro k ⟨hk, hall⟩
  by_cases hlt : k < l.length
  · obtain ⟨s, hs⟩ : ∃ s, l[k]? = some s := ⟨_, List.getElem?_eq_getElem hlt⟩
    have hsn := hn s (List.mem_of_getElem? hs)
    have hp : PfN (s.a, s.l) := ⟨hsn.a, hsn.l⟩
    have hnx : StepOk s k l.length → ∀ i, i < k + 1 → ∀ s', l[i]? = some s' → StepOk s' i l.length := fun hok i hi s' hs' => by
      by_cases hik : i = k
      · subst hik; rw [hs] at hs'; cases hs'; exact hok
      · exact hall i (by omega) s' hs'
    (iterate 22 (first | (refine gL ?_; first | refine yL0 ?_ | refine yL ?_ | (refine yM ?_; intro _)) | refine yJ ?_ | (refine yI ?_ ?_ <;> intro _ <;> try exact xX) | (refine yK ?_ ?_ <;> intro hgb <;> first | subst hgb | fail_if_success have : type_of% hgb := rfl) | fail))
    rename_i sb
    refine J_cut (α := Unit) (fun _ => True) (fun _ => [(0, .slice a l.length c), (2, .int .i64 0), (3, .int .i64 k), (4, .pointer (some ⟨sb, 0, none⟩)), (5, .bool (decide ((k : Int) < s.x ∧ s.x < l.length)))]) (fun _ => [pts sb (spC s) 120]) ?_ ?_
    · (repeat' (first | (refine gL ?_; first | refine yL0 ?_ | refine yL ?_ | (refine yM ?_; intro _)) | refine yJ ?_ | (refine yI ?_ ?_ <;> intro _ <;> try exact xX) | (refine yK ?_ ?_ <;> intro hgb <;> first | subst hgb | fail_if_success have : type_of% hgb := rfl) | fail))
      all_goals refine J_meet () trivial ⟨rfl, rfl, rfl, rfl, ?_, trivial⟩ (fun w H => H.sel xZ)
      all_goals (show some _ = some _; refine congrArg (fun b => some (Value.bool b)) ?_; simp <;> omega)
    rintro ⟨⟩ -
    (iterate 5 (first | (refine gL ?_; first | refine yL0 ?_ | refine yL ?_ | (refine yM ?_; intro _)) | refine yJ ?_ | (refine yI ?_ ?_ <;> intro _ <;> try exact xX) | (refine yK ?_ ?_ <;> intro hgb <;> first | subst hgb | fail_if_success have : type_of% hgb := rfl) | fail))
    refine J_cut (α := Unit) (fun _ => True) (fun _ => [(0, .slice a l.length c), (2, .int .i64 0), (3, .int .i64 k), (6, .bool (decide (StepOk s k l.length)))]) (fun _ => []) ?_ ?_
    · clear hnx hall
      by_cases o1 : 4 ≤ s.op ∧ s.op ≤ 12
      · by_cases ht : TestOk s.op s.n (s.a, s.l)
        · have e : StepOk s k l.length ↔ s.m = 0 ∧ ((k : Int) < s.x ∧ s.x < l.length) ∧ ((k : Int) < s.y ∧ s.y < l.length) := ⟨by rintro (h | h | h | h) <;> omega, fun h => .inl ⟨o1, ht, h⟩⟩
          (repeat' (first | (refine gL ?_; first | refine yL0 ?_ | refine yL ?_ | (refine gL_go ?_; (refine JL_goq (rtest_b s.op s.n (s.a, s.l) hp true (decide_eq_true ht)) (hφ := xF) (h := ?_); rintro _ _ ⟨rfl, rfl⟩; try simp only [cAp, nAp])) | (refine yM ?_; intro _)) | refine yJ ?_ | (refine yI ?_ ?_ <;> intro _ <;> try exact xX) | (refine yK ?_ ?_ <;> intro hgb <;> first | subst hgb | fail_if_success have : type_of% hgb := rfl) | fail))
          all_goals refine J_meet () trivial ⟨rfl, rfl, rfl, ?_, trivial⟩ (fun w H => H.sel xZ)
          all_goals (show some _ = some _; refine congrArg (fun b => some (Value.bool b)) ?_; rw [Bool.eq_iff_iff]; simp only [decide_eq_true_eq, Bool.false_eq_true, true_iff, false_iff, e]; omega)
        · have e : StepOk s k l.length ↔ False := ⟨by rintro (h | h | h | h) <;> first | exact ht h.2.1 | omega, False.elim⟩
          (repeat' (first | (refine gL ?_; first | refine yL0 ?_ | refine yL ?_ | (refine gL_go ?_; (refine JL_goq (rtest_b s.op s.n (s.a, s.l) hp false (decide_eq_false ht)) (hφ := xF) (h := ?_); rintro _ _ ⟨rfl, rfl⟩; try simp only [cAp, nAp])) | (refine yM ?_; intro _)) | refine yJ ?_ | (refine yI ?_ ?_ <;> intro _ <;> try exact xX) | (refine yK ?_ ?_ <;> intro hgb <;> first | subst hgb | fail_if_success have : type_of% hgb := rfl) | fail))
          all_goals refine J_meet () trivial ⟨rfl, rfl, rfl, ?_, trivial⟩ (fun w H => H.sel xZ)
          all_goals (show some _ = some _; refine congrArg (fun b => some (Value.bool b)) ?_; rw [Bool.eq_iff_iff]; simp only [decide_eq_true_eq, Bool.false_eq_true, true_iff, false_iff, e])
      by_cases o2 : s.op = 21
      · have e : StepOk s k l.length ↔ s.n = 0 ∧ s.m = 0 ∧ (s.a = 0 ∧ s.l = 0) ∧ ((k : Int) < s.x ∧ s.x < l.length) ∧ s.y = 0 := ⟨by rintro (h | h | h | h) <;> omega, fun h => .inr (.inl ⟨o2, h⟩)⟩
        (repeat' (first | (refine gL ?_; first | refine yL0 ?_ | refine yL ?_ | (refine gL_go ?_; (refine JL_goq (rbare_s (s.a, s.l)) (hφ := xF) (h := ?_); rintro _ _ ⟨rfl, rfl⟩; try simp only [cAp, nAp])) | (refine yM ?_; intro _)) | refine yJ ?_ | (refine yI ?_ ?_ <;> intro _ <;> try exact xX) | (refine yK ?_ ?_ <;> intro hgb <;> first | subst hgb | fail_if_success have : type_of% hgb := rfl) | fail))
        all_goals refine J_meet () trivial ⟨rfl, rfl, rfl, ?_, trivial⟩ (fun w H => H.sel xZ)
        all_goals (show some _ = some _; refine congrArg (fun b => some (Value.bool b)) ?_; rw [Bool.eq_iff_iff]; simp only [decide_eq_true_eq, Bool.false_eq_true, true_iff, false_iff, e]; omega)
      by_cases o3 : s.op = 22 ∨ s.op = 23
      · by_cases ha : ActOk (s.op - 20) s.n s.m
        · have e : StepOk s k l.length ↔ (s.a = 0 ∧ s.l = 0) ∧ s.x = 0 ∧ s.y = 0 := ⟨by rintro (h | h | h | h) <;> omega, fun h => .inr (.inr (.inl ⟨o3, ha, h⟩))⟩
          (repeat' (first | (refine gL ?_; first | refine yL0 ?_ | refine yL ?_ | (refine gL_go ?_; first | (refine JL_goq (ract_b (s.op - 20) s.n s.m true (decide_eq_true ha)) (hφ := xF) (h := ?_); rintro _ _ ⟨rfl, rfl⟩; try simp only [cAp, nAp]) | (refine JL_goq (rbare_s (s.a, s.l)) (hφ := xF) (h := ?_); rintro _ _ ⟨rfl, rfl⟩; try simp only [cAp, nAp])) | (refine yM ?_; intro _)) | refine yJ ?_ | (refine yI ?_ ?_ <;> intro _ <;> try exact xX) | (refine yK ?_ ?_ <;> intro hgb <;> first | subst hgb | fail_if_success have : type_of% hgb := rfl) | fail))
          all_goals refine J_meet () trivial ⟨rfl, rfl, rfl, ?_, trivial⟩ (fun w H => H.sel xZ)
          all_goals (show some _ = some _; refine congrArg (fun b => some (Value.bool b)) ?_; rw [Bool.eq_iff_iff]; simp only [decide_eq_true_eq, Bool.false_eq_true, true_iff, false_iff, e]; omega)
        · have e : StepOk s k l.length ↔ False := ⟨by rintro (h | h | h | h) <;> first | exact ha h.2.1 | omega, False.elim⟩
          (repeat' (first | (refine gL ?_; first | refine yL0 ?_ | refine yL ?_ | (refine gL_go ?_; (refine JL_goq (ract_b (s.op - 20) s.n s.m false (decide_eq_false ha)) (hφ := xF) (h := ?_); rintro _ _ ⟨rfl, rfl⟩; try simp only [cAp, nAp])) | (refine yM ?_; intro _)) | refine yJ ?_ | (refine yI ?_ ?_ <;> intro _ <;> try exact xX) | (refine yK ?_ ?_ <;> intro hgb <;> first | subst hgb | fail_if_success have : type_of% hgb := rfl) | fail))
          all_goals refine J_meet () trivial ⟨rfl, rfl, rfl, ?_, trivial⟩ (fun w H => H.sel xZ)
          all_goals (show some _ = some _; refine congrArg (fun b => some (Value.bool b)) ?_; rw [Bool.eq_iff_iff]; simp only [decide_eq_true_eq, Bool.false_eq_true, true_iff, false_iff, e])
      by_cases o4 : 24 ≤ s.op ∧ s.op ≤ 29
      · by_cases ha : ActOk (s.op - 20) s.n s.m
        · have e : StepOk s k l.length ↔ (s.a = 0 ∧ s.l = 0) ∧ ((k : Int) < s.x ∧ s.x < l.length) ∧ s.y = 0 := ⟨by rintro (h | h | h | h) <;> omega, fun h => .inr (.inr (.inr ⟨o4, ha, h⟩))⟩
          (repeat' (first | (refine gL ?_; first | refine yL0 ?_ | refine yL ?_ | (refine gL_go ?_; first | (refine JL_goq (ract_b (s.op - 20) s.n s.m true (decide_eq_true ha)) (hφ := xF) (h := ?_); rintro _ _ ⟨rfl, rfl⟩; try simp only [cAp, nAp]) | (refine JL_goq (rbare_s (s.a, s.l)) (hφ := xF) (h := ?_); rintro _ _ ⟨rfl, rfl⟩; try simp only [cAp, nAp])) | (refine yM ?_; intro _)) | refine yJ ?_ | (refine yI ?_ ?_ <;> intro _ <;> try exact xX) | (refine yK ?_ ?_ <;> intro hgb <;> first | subst hgb | fail_if_success have : type_of% hgb := rfl) | fail))
          all_goals refine J_meet () trivial ⟨rfl, rfl, rfl, ?_, trivial⟩ (fun w H => H.sel xZ)
          all_goals (show some _ = some _; refine congrArg (fun b => some (Value.bool b)) ?_; rw [Bool.eq_iff_iff]; simp only [decide_eq_true_eq, Bool.false_eq_true, true_iff, false_iff, e]; omega)
        · have e : StepOk s k l.length ↔ False := ⟨by rintro (h | h | h | h) <;> first | exact ha h.2.1 | omega, False.elim⟩
          (repeat' (first | (refine gL ?_; first | refine yL0 ?_ | refine yL ?_ | (refine gL_go ?_; (refine JL_goq (ract_b (s.op - 20) s.n s.m false (decide_eq_false ha)) (hφ := xF) (h := ?_); rintro _ _ ⟨rfl, rfl⟩; try simp only [cAp, nAp])) | (refine yM ?_; intro _)) | refine yJ ?_ | (refine yI ?_ ?_ <;> intro _ <;> try exact xX) | (refine yK ?_ ?_ <;> intro hgb <;> first | subst hgb | fail_if_success have : type_of% hgb := rfl) | fail))
          all_goals refine J_meet () trivial ⟨rfl, rfl, rfl, ?_, trivial⟩ (fun w H => H.sel xZ)
          all_goals (show some _ = some _; refine congrArg (fun b => some (Value.bool b)) ?_; rw [Bool.eq_iff_iff]; simp only [decide_eq_true_eq, Bool.false_eq_true, true_iff, false_iff, e])
      · have e : StepOk s k l.length ↔ False := ⟨by rintro (h | h | h | h) <;> omega, False.elim⟩
        (repeat' (first | (refine gL ?_; first | refine yL0 ?_ | refine yL ?_ | (refine yM ?_; intro _)) | refine yJ ?_ | (refine yI ?_ ?_ <;> intro _ <;> try exact xX) | (refine yK ?_ ?_ <;> intro hgb <;> first | subst hgb | fail_if_success have : type_of% hgb := rfl) | fail))
        all_goals refine J_meet () trivial ⟨rfl, rfl, rfl, ?_, trivial⟩ (fun w H => H.sel xZ)
        all_goals (show some _ = some _; refine congrArg (fun b => some (Value.bool b)) ?_; rw [Bool.eq_iff_iff]; simp only [decide_eq_true_eq, Bool.false_eq_true, true_iff, false_iff, e])
    · rintro ⟨⟩ -
      by_cases hok : StepOk s k l.length
      · rw [decide_eq_true hok]
        (repeat' (first | (refine gL ?_; first | refine yL0 ?_ | refine yL ?_ | (refine yM ?_; intro _)) | refine yJ ?_ | (refine yI ?_ ?_ <;> intro _ <;> try exact xX) | (refine yK ?_ ?_ <;> intro hgb <;> first | subst hgb | fail_if_success have : type_of% hgb := rfl) | fail))
        exact J_again (k + 1) (by omega) ⟨hlt, hnx hok⟩ ⟨rfl, rfl, rfl, trivial⟩ (fun w H => H.sel .nil)
      · rw [decide_eq_false hok]
        (repeat' (first | (refine gL ?_; first | refine yL0 ?_ | refine yL ?_ | (refine yM ?_; intro _)) | refine yJ ?_ | (refine yI ?_ ?_ <;> intro _ <;> try exact xX) | (refine yK ?_ ?_ <;> intro hgb <;> first | subst hgb | fail_if_success have : type_of% hgb := rfl) | fail))
        exact J_ret1 rfl (by rfl) fun w H => ⟨_, ⟨by rw [checkE_bad h1 hs hok], rfl⟩, H.sel .nil⟩
  · obtain rfl : k = l.length := by omega
    by_cases h0 : l.length = 0
    · (repeat' (first | (refine gL ?_; first | refine yL0 ?_ | refine yL ?_ | (refine yM ?_; intro _)) | refine yJ ?_ | (refine yI ?_ ?_ <;> intro _ <;> try exact xX) | (refine yK ?_ ?_ <;> intro hgb <;> first | subst hgb | fail_if_success have : type_of% hgb := rfl) | fail))
      exact J_ret1 rfl (by rfl) fun w H => ⟨_, ⟨by rw [checkE_last h1 (fun s hs => by rw [List.getElem?_eq_none (by omega)] at hs; cases hs)], rfl⟩, H.sel .nil⟩
    · obtain ⟨s, hs⟩ : ∃ s, l[l.length - 1]? = some s := ⟨_, List.getElem?_eq_getElem (by omega)⟩
      have hs2 : l[((l.length : Int) - 1).toNat]? = some s := by rw [show ((l.length : Int) - 1).toNat = l.length - 1 by omega]; exact hs
      (repeat' (first | (refine gL ?_; first | refine yL0 ?_ | refine yL ?_ | (refine yM ?_; intro _)) | refine yJ ?_ | (refine yI ?_ ?_ <;> intro _ <;> try exact xX) | (refine yK ?_ ?_ <;> intro hgb <;> first | subst hgb | fail_if_success have : type_of% hgb := rfl) | fail))
      all_goals (refine J_ret1 rfl (by rfl) fun w H => ⟨_, ⟨?_, rfl⟩, H.sel .nil⟩; refine congrArg (Value.int .i64) ?_; first | exact (checkE_ok h1 hall hs (by omega)).symm | exact (checkE_last h1 (fun s' hs' => by rw [hs] at hs'; cases hs'; omega)).symm)
end Go.Proofs.YtdnokmpnemaoaaaGreat.C
