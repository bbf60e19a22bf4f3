/-
  slices.DeleteFunc of candidates with places.
-/
import Derived.Test.YtgocmihmgnllcaaB3
namespace Go.Proofs.Ytgocmihmgnllcaa
set_option linter.unusedSimpArgs false
set_option linter.unusedVariables false
set_option maxRecDepth 20000
set_option maxHeartbeats 4000000
open Go.RowKit Go.Pm




def keepL (D : On → Bool) (es : List On) : List On := es.filter (fun o => !D o)
theorem keepL_snoc (D : On → Bool) {es : List On} {j : Nat} {o : On} (h : es[j]? = some o) : keepL D (es.take (j + 1)) = keepL D (es.take j) ++ (if D o then [] else [o]) := by
  rw [take_snoc h]
  unfold keepL
  rw [List.filter_append]
  congr 1
  cases hD : D o <;> simp [List.filter_cons, hD]
theorem keepL_len (D : On → Bool) (es : List On) : (keepL D es).length ≤ es.length := List.length_filter_le _ _
theorem idxOf_none (D : On → Bool) : ∀ (es : List On) (k : Nat), idxOf D es k = -1 → keepL D es = es
  | [], _, _ => rfl
  | o :: r, k, h => by
    unfold idxOf at h
    cases hD : D o
    · rw [hD] at h
      have := idxOf_none D r (k + 1) h
      unfold keepL at this ⊢
      simp [List.filter_cons, hD, this]
    · rw [hD] at h; simp at h
theorem idxOf_some (D : On → Bool) : ∀ (es : List On) (k : Nat), idxOf D es k ≠ -1 → ∃ i, ∃ (hi : i < es.length), idxOf D es k = (k : Int) + i ∧ D es[i] = true ∧ keepL D (es.take i) = es.take i
  | [], k, h => (h rfl).elim
  | o :: r, k, h => by
    cases hD : D o
    · have he : idxOf D (o :: r) k = idxOf D r (k + 1) := by show (if D o then _ else _) = _; rw [hD]; rfl
      rw [he] at h
      obtain ⟨i, hi, h1, h2, h3⟩ := idxOf_some D r (k + 1) h
      refine ⟨i + 1, by simp; exact hi, by rw [he, h1]; omega, by simpa using h2, ?_⟩
      unfold keepL at h3 ⊢
      simp [List.filter_cons, hD, h3]
    · refine ⟨0, by simp, ?_, by simpa using hD, rfl⟩
      show (if D o then _ else _) = _
      rw [hD]; simp

def onZ : On := ⟨⟨0, 0, 0, 0, 0, none, 0, [], 0, false, 0, false, 0, false, false, 0, 0, none, 0, 0, none, 0, 0⟩, 0⟩
def DelR (D : On → Bool) (es : List On) (v : Value) (L' : List HP) : Prop := ∃ a' c', v = .slice a' (keepL D es).length c' ∧ L' = [Ar 48 18 onC (.slice a' (keepL D es).length c') (keepL D es)]
structure Lp where
  j : Nat
  xs : List On
theorem delete_s (a : Option Addr) (c : Nat) (es : List On) (F : FuncId) (caps : List Value) (D : On → Bool) (φ : World → Prop) (hT : Tst F caps D φ) (hn : ∀ o ∈ es, CdN o.c ∧ I64 o.at_) (hl : es.length ≤ 9223372036854775807) :
    Pact Try.prog 28 #[.slice a es.length c, .func (.func F) #[] caps.toArray] (fun w => φ w ∧ pathsV es w) [Ar 48 18 onC (.slice a es.length c) es] (DelR D es) := by
  have ho := hT.1
  refine pact Try.func28 rfl Try.ntmps28 rfl ?_
  intro W K hK
  refine J_fact (φ := es.length ≤ c ∧ c ≤ maxLen) (fun w H => (H.arShape .here).2) ?_
  rintro ⟨hnc, hcm⟩
  unfold maxLen at hcm
  by_cases hi : idxOf D es 0 = -1
  · (repeat' (first | ((with_reducible apply gJ); (first | refine J_seq ?_ | refine J_reg ?_ | refine J_skip ?_ | refine J_block ?_ | refine J_blk ?_ | refine J_exit rfl ?_ | ((with_reducible apply gJ_if); (first | refine J_ift rfl ?_ | refine J_iff rfl ?_ | (refine J_if xR ?_ ?_ <;> intro _ <;> (try (exfalso; first | contradiction | omega))) | (refine J_ifb xR ?_ ?_ <;> (intro hgb; subst hgb)) | (refine J_ifb xR ?_ ?_ <;> intro _) | fail)) | refine J_label ?_ | fail)) | ((with_reducible apply gL); (first | refine JL_nil ?_ | ((with_reducible apply gL_move); (first | refine JL_p rfl xR xR (pe_move xR) ?_ | fail)) | ((with_reducible apply gL_assign); (first | refine JL_p rfl xR xR (pe_assign xR) ?_ | fail)) | ((with_reducible apply gL_c_len); (first | refine JL_p rfl xR xR (pe_len xR xR) ?_ | fail)) | ((with_reducible apply gL_bin_eql); (first | refine JL_p rfl xR xR (pe_eql xR xR) ?_ | refine JL_p rfl xR xR (pe_eqS xR xR xR) ?_ | refine JL_p rfl xR xR (pe_eqP xR xR xR) ?_ | refine JL_p rfl xR xR (pe_eqB xR xR xR) ?_ | fail)) | ((with_reducible apply gL_bin_lss); (first | refine JL_p rfl xR xR (pe_lss xR xR) ?_ | fail)) | ((with_reducible apply gL_bin_add); (first | refine JL_p rfl xR xR (pe_add xR xR (w_i64 xO xO)) ?_ | refine JL_p rfl xR xR (pe_add xR xR rfl) ?_ | fail)) | ((with_reducible apply gL_un_not); (first | refine JL_p rfl xR xR (pe_notT xR) ?_ | refine JL_p rfl xR xR (pe_notF xR) ?_ | refine JL_p rfl xR xR (pe_notD xR) ?_ | refine JL_p rfl xR xR (pe_notB xR) ?_ | fail)) | ((with_reducible apply gL_load); (first | refine JL_p rfl xR xR (pe_ld xR xT xC xR) ?_ | refine JL_p rfl xR xR (pe_ldW xR xT xW) ?_ | refine JL_p rfl xR xR (pe_ldS xR xT (tabS stab_ok xR) xG xC) ?_ | refine JL_p rfl xR xR (pe_ldK xR xH xC) ?_ | refine JL_p rfl xR xR (pe_el xR xV xL xR xC xH) ?_ | refine JL_p rfl xR xR (pe_elC xR xV xL xR xC xH xR) ?_ | refine JL_p rfl xR xR (pe_elF xR xV xL xR xC xH xR) ?_ | refine JL_p rfl xR xR (pe_elS xR xV xL xR (tabS stab_ok xR) xH xG xC) ?_ | (refine JL_el xR xV xL xR xC xR xR xO ?_; intro _ _) | (refine JL_elC xR xV xL xR xC xL xR xR xO ?_; intro _ _) | (refine JL_elF xR xV xL xR xC xL xR xR xO ?_; intro _ _) | fail)) | ((with_reducible apply gL_slice); (first | refine JL_p rfl xR xR (pe_sl0 xR (tabE etab_ok xR) (by first | exact rfl | exact ⟨_, _, by rfl, xI⟩) xO xO) ?_ | refine JL_p rfl xR xR (pe_sl xR (tabE etab_ok xR) (by first | exact rfl | exact ⟨_, _, by rfl, xI⟩) (by first | exact rfl | exact ⟨_, _, by rfl, xI⟩) xO xO) ?_ | fail)) | ((with_reducible apply gL_indexAddr); (first | refine JL_p rfl xR xR (pe_ixL xR xR (tabE etab_ok xR) xI xO) ?_ | refine JL_p rfl xR xR (pe_ix xR xR (tabE etab_ok xR) xV xI xO) ?_ | refine JL_p rfl xR xR (pe_ixA xR xR (tabA atab_ok xR) xI xO) ?_ | fail)) | ((with_reducible apply gL_alloc); (first | (refine JL_mc rfl xR xR (al_alloc xN xK) ?_; intro _) | fail)) | ((with_reducible apply gL_store); (first | refine JL_st xR xR xT xC xR xE xR ?_ | refine JL_stW xR xR xT xW xR xR xR ?_ | refine JL_stS xR xR xT xW xP xR xR ?_ | refine JL_stEl xR xR xT xR xL xR (tabS stab_ok xR) xR xR xO ?_ | fail)) | ((with_reducible apply gL_go); (first | (refine JL_go (index_s a c es F caps D φ hT hn hl) xR xR xQ xS (by (try simp only [List.cons_append, List.nil_append]); exact fun w hr => ⟨Src.ar .here w hr, (hK w hr.1).1, (hK w hr.1).2⟩) xB xR xR ?_; rintro _ _ ⟨rfl, rfl⟩; try simp only [List.cons_append, List.nil_append]) | (refine JL_go0 (index_s a c es F caps D φ hT hn hl) xR xR xQ xS (by (try simp only [List.cons_append, List.nil_append]); exact fun w hr => ⟨Src.ar .here w hr, (hK w hr.1).1, (hK w hr.1).2⟩) xB xR ?_; rintro _ _ ⟨rfl, rfl⟩; try simp only [List.cons_append, List.nil_append]) | fail)) | fail)) | fail))
    refine J_ret1 rfl (by rfl) fun w H => ⟨_, ⟨a, c, ?_, rfl⟩, ?_⟩ <;> rw [idxOf_none D es 0 hi]
    exact H
  · obtain ⟨i, hil, hie, hD, hkeep⟩ := idxOf_some D es 0 hi
    have hx := index_s a c es F caps D φ hT hn hl
    rw [hie, Int.natCast_zero, Int.zero_add] at hx
    have hk1 : keepL D (es.take (i + 1)) = es.take i := by rw [keepL_snoc D (List.getElem?_eq_getElem hil), hkeep, hD]; simp
    have hkl : (es.take i).length = i := by simp; omega
    (repeat' (first | ((with_reducible apply gJ); (first | refine J_seq ?_ | refine J_reg ?_ | refine J_skip ?_ | refine J_block ?_ | refine J_blk ?_ | refine J_exit rfl ?_ | ((with_reducible apply gJ_if); (first | refine J_ift rfl ?_ | refine J_iff rfl ?_ | (refine J_if xR ?_ ?_ <;> intro _ <;> (try (exfalso; first | contradiction | omega))) | (refine J_ifb xR ?_ ?_ <;> (intro hgb; subst hgb)) | (refine J_ifb xR ?_ ?_ <;> intro _) | fail)) | refine J_label ?_ | fail)) | ((with_reducible apply gL); (first | refine JL_nil ?_ | ((with_reducible apply gL_move); (first | refine JL_p rfl xR xR (pe_move xR) ?_ | fail)) | ((with_reducible apply gL_assign); (first | refine JL_p rfl xR xR (pe_assign xR) ?_ | fail)) | ((with_reducible apply gL_c_len); (first | refine JL_p rfl xR xR (pe_len xR xR) ?_ | fail)) | ((with_reducible apply gL_bin_eql); (first | refine JL_p rfl xR xR (pe_eql xR xR) ?_ | refine JL_p rfl xR xR (pe_eqS xR xR xR) ?_ | refine JL_p rfl xR xR (pe_eqP xR xR xR) ?_ | refine JL_p rfl xR xR (pe_eqB xR xR xR) ?_ | fail)) | ((with_reducible apply gL_bin_lss); (first | refine JL_p rfl xR xR (pe_lss xR xR) ?_ | fail)) | ((with_reducible apply gL_bin_add); (first | refine JL_p rfl xR xR (pe_add xR xR (w_i64 xO xO)) ?_ | refine JL_p rfl xR xR (pe_add xR xR rfl) ?_ | fail)) | ((with_reducible apply gL_un_not); (first | refine JL_p rfl xR xR (pe_notT xR) ?_ | refine JL_p rfl xR xR (pe_notF xR) ?_ | refine JL_p rfl xR xR (pe_notD xR) ?_ | refine JL_p rfl xR xR (pe_notB xR) ?_ | fail)) | ((with_reducible apply gL_load); (first | refine JL_p rfl xR xR (pe_ld xR xT xC xR) ?_ | refine JL_p rfl xR xR (pe_ldW xR xT xW) ?_ | refine JL_p rfl xR xR (pe_ldS xR xT (tabS stab_ok xR) xG xC) ?_ | refine JL_p rfl xR xR (pe_ldK xR xH xC) ?_ | refine JL_p rfl xR xR (pe_el xR xV xL xR xC xH) ?_ | refine JL_p rfl xR xR (pe_elC xR xV xL xR xC xH xR) ?_ | refine JL_p rfl xR xR (pe_elF xR xV xL xR xC xH xR) ?_ | refine JL_p rfl xR xR (pe_elS xR xV xL xR (tabS stab_ok xR) xH xG xC) ?_ | (refine JL_el xR xV xL xR xC xR xR xO ?_; intro _ _) | (refine JL_elC xR xV xL xR xC xL xR xR xO ?_; intro _ _) | (refine JL_elF xR xV xL xR xC xL xR xR xO ?_; intro _ _) | fail)) | ((with_reducible apply gL_slice); (first | refine JL_p rfl xR xR (pe_sl0 xR (tabE etab_ok xR) (by first | exact rfl | exact ⟨_, _, by rfl, xI⟩) xO xO) ?_ | refine JL_p rfl xR xR (pe_sl xR (tabE etab_ok xR) (by first | exact rfl | exact ⟨_, _, by rfl, xI⟩) (by first | exact rfl | exact ⟨_, _, by rfl, xI⟩) xO xO) ?_ | fail)) | ((with_reducible apply gL_indexAddr); (first | refine JL_p rfl xR xR (pe_ixL xR xR (tabE etab_ok xR) xI xO) ?_ | refine JL_p rfl xR xR (pe_ix xR xR (tabE etab_ok xR) xV xI xO) ?_ | refine JL_p rfl xR xR (pe_ixA xR xR (tabA atab_ok xR) xI xO) ?_ | fail)) | ((with_reducible apply gL_alloc); (first | (refine JL_mc rfl xR xR (al_alloc xN xK) ?_; intro _) | fail)) | ((with_reducible apply gL_store); (first | refine JL_st xR xR xT xC xR xE xR ?_ | refine JL_stW xR xR xT xW xR xR xR ?_ | refine JL_stS xR xR xT xW xP xR xR ?_ | refine JL_stEl xR xR xT xR xL xR (tabS stab_ok xR) xR xR xO ?_ | fail)) | ((with_reducible apply gL_go); (first | (refine JL_go (hx) xR xR xQ xS (by (try simp only [List.cons_append, List.nil_append]); exact fun w hr => ⟨Src.ar .here w hr, (hK w hr.1).1, (hK w hr.1).2⟩) xB xR xR ?_; rintro _ _ ⟨rfl, rfl⟩; try simp only [List.cons_append, List.nil_append]) | (refine JL_go0 (hx) xR xR xQ xS (by (try simp only [List.cons_append, List.nil_append]); exact fun w hr => ⟨Src.ar .here w hr, (hK w hr.1).1, (hK w hr.1).2⟩) xB xR ?_; rintro _ _ ⟨rfl, rfl⟩; try simp only [List.cons_append, List.nil_append]) | fail)) | fail)) | fail))
    refine J_loop (α := Lp) ⟨i + 1, es⟩ (fun x => es.length - x.j) (fun x => x.j ≤ es.length ∧ x.xs.length = es.length ∧ (keepL D (es.take x.j)).length < x.j ∧ x.xs.take (keepL D (es.take x.j)).length = keepL D (es.take x.j) ∧ x.xs.drop x.j = es.drop x.j)
      (fun x => [(0, .slice a es.length c), (1, .func (.func F) #[] caps.toArray), (5, .int .i64 (keepL D (es.take x.j)).length), (6, .int .i64 x.j)]) (fun x => [Ar 48 18 onC (.slice a es.length c) x.xs]) ?_ ?_ (fun w H => H) ?_
    · dsimp only; rw [hk1, hkl]; exact ⟨hil, rfl, by omega, rfl, rfl⟩
    · dsimp only; rw [hk1, hkl]; exact ⟨rfl, rfl, rfl, rfl, trivial⟩
    rintro ⟨j, xs⟩ ⟨hj, hxl, hkj, hxt, hxd⟩
    dsimp only at hj hxl hkj hxt hxd ⊢
    by_cases hlt : j < es.length
    · obtain ⟨o, hs⟩ : ∃ o, es[j]? = some o := ⟨_, List.getElem?_eq_getElem hlt⟩
      have hm := List.mem_of_getElem? hs
      have hxs : xs[j]? = some o := by have := congrArg (·[0]?) hxd; simpa [hs] using this
      have hke := keepL_snoc D hs
      (repeat' (first | ((with_reducible apply gJ); (first | refine J_seq ?_ | refine J_reg ?_ | refine J_skip ?_ | refine J_block ?_ | refine J_blk ?_ | refine J_exit rfl ?_ | ((with_reducible apply gJ_if); (first | refine J_ift rfl ?_ | refine J_iff rfl ?_ | (refine J_if xR ?_ ?_ <;> intro _ <;> (try (exfalso; first | contradiction | omega))) | (refine J_ifb xR ?_ ?_ <;> (intro hgb; subst hgb)) | (refine J_ifb xR ?_ ?_ <;> intro _) | fail)) | refine J_label ?_ | fail)) | ((with_reducible apply gL); (first | refine JL_nil ?_ | ((with_reducible apply gL_move); (first | refine JL_p rfl xR xR (pe_move xR) ?_ | fail)) | ((with_reducible apply gL_assign); (first | refine JL_p rfl xR xR (pe_assign xR) ?_ | fail)) | ((with_reducible apply gL_c_len); (first | refine JL_p rfl xR xR (pe_len xR xR) ?_ | fail)) | ((with_reducible apply gL_bin_eql); (first | refine JL_p rfl xR xR (pe_eql xR xR) ?_ | refine JL_p rfl xR xR (pe_eqS xR xR xR) ?_ | refine JL_p rfl xR xR (pe_eqP xR xR xR) ?_ | refine JL_p rfl xR xR (pe_eqB xR xR xR) ?_ | fail)) | ((with_reducible apply gL_bin_lss); (first | refine JL_p rfl xR xR (pe_lss xR xR) ?_ | fail)) | ((with_reducible apply gL_bin_add); (first | refine JL_p rfl xR xR (pe_add xR xR (w_i64 xO xO)) ?_ | refine JL_p rfl xR xR (pe_add xR xR rfl) ?_ | fail)) | ((with_reducible apply gL_un_not); (first | refine JL_p rfl xR xR (pe_notT xR) ?_ | refine JL_p rfl xR xR (pe_notF xR) ?_ | refine JL_p rfl xR xR (pe_notD xR) ?_ | refine JL_p rfl xR xR (pe_notB xR) ?_ | fail)) | ((with_reducible apply gL_load); (first | refine JL_p rfl xR xR (pe_ld xR xT xC xR) ?_ | refine JL_p rfl xR xR (pe_ldW xR xT xW) ?_ | refine JL_p rfl xR xR (pe_ldS xR xT (tabS stab_ok xR) xG xC) ?_ | refine JL_p rfl xR xR (pe_ldK xR xH xC) ?_ | refine JL_p rfl xR xR (pe_el xR xV xL xR xC xH) ?_ | refine JL_p rfl xR xR (pe_elC xR xV xL xR xC xH xR) ?_ | refine JL_p rfl xR xR (pe_elF xR xV xL xR xC xH xR) ?_ | refine JL_p rfl xR xR (pe_elS xR xV xL xR (tabS stab_ok xR) xH xG xC) ?_ | (refine JL_el xR xV xL xR xC xR xR xO ?_; intro _ _) | (refine JL_elC xR xV xL xR xC xL xR xR xO ?_; intro _ _) | (refine JL_elF xR xV xL xR xC xL xR xR xO ?_; intro _ _) | fail)) | ((with_reducible apply gL_slice); (first | refine JL_p rfl xR xR (pe_sl0 xR (tabE etab_ok xR) (by first | exact rfl | exact ⟨_, _, by rfl, xI⟩) xO xO) ?_ | refine JL_p rfl xR xR (pe_sl xR (tabE etab_ok xR) (by first | exact rfl | exact ⟨_, _, by rfl, xI⟩) (by first | exact rfl | exact ⟨_, _, by rfl, xI⟩) xO xO) ?_ | fail)) | ((with_reducible apply gL_indexAddr); (first | refine JL_p rfl xR xR (pe_ixL xR xR (tabE etab_ok xR) xI xO) ?_ | refine JL_p rfl xR xR (pe_ix xR xR (tabE etab_ok xR) xV xI xO) ?_ | refine JL_p rfl xR xR (pe_ixA xR xR (tabA atab_ok xR) xI xO) ?_ | fail)) | ((with_reducible apply gL_alloc); (first | (refine JL_mc rfl xR xR (al_alloc xN xK) ?_; intro _) | fail)) | ((with_reducible apply gL_store); (first | refine JL_st xR xR xT xC xR xE xR ?_ | refine JL_stW xR xR xT xW xR xR xR ?_ | refine JL_stS xR xR xT xW xP xR xR ?_ | refine JL_stEl xR xR xT xR xL xR (tabS stab_ok xR) xR xR xO ?_ | fail)) | ((with_reducible apply gL_go); (first | (refine JL_go (hT.2 o (hn o hm).1 (hn o hm).2) xR xR xQ xS (by (try simp only [List.cons_append, List.nil_append]); exact fun w hr => ⟨(hK w hr.1).1, (hK w hr.1).2 o hm⟩) xB xR xR ?_; rintro _ _ ⟨rfl, rfl⟩; try simp only [List.cons_append, List.nil_append]) | (refine JL_go0 (hT.2 o (hn o hm).1 (hn o hm).2) xR xR xQ xS (by (try simp only [List.cons_append, List.nil_append]); exact fun w hr => ⟨(hK w hr.1).1, (hK w hr.1).2 o hm⟩) xB xR ?_; rintro _ _ ⟨rfl, rfl⟩; try simp only [List.cons_append, List.nil_append]) | fail)) | fail)) | fail))
      · rename_i hD0
        have hke2 : keepL D (es.take (j + 1)) = keepL D (es.take j) ++ [o] := by rw [hke, if_neg hD0]
        have hil2 : (keepL D (es.take j)).length < xs.length := by omega
        refine J_again ⟨j + 1, xs.set (keepL D (es.take j)).length o⟩ (by dsimp only; omega) ?_ ?_ (fun w H => H.sel (by (first | ((with_reducible (repeat (first | exact Sb.nil | apply Sb.cons | exact Tk.here | apply Tk.there))); done) | (repeat (first | exact Sb.nil | apply Sb.cons | exact Tk.here | apply Tk.there)))))
        · dsimp only
          rw [hke2]
          refine ⟨hlt, by simp [hxl], by simp; omega, ?_, ?_⟩
          · rw [List.length_append, List.length_singleton, List.take_add_one, List.getElem?_set_self hil2, List.take_set_of_le (Nat.le_refl _), hxt]
            rfl
          · rw [List.drop_set_of_lt (by omega), ← List.drop_drop, hxd, List.drop_drop]
        · refine ⟨rfl, rfl, ?_, rfl, trivial⟩
          show some _ = some _
          rw [hke2, List.length_append]
          rfl
      · rename_i hD0
        have hke2 : keepL D (es.take (j + 1)) = keepL D (es.take j) := by rw [hke, if_pos (by simpa using hD0)]; simp
        refine J_again ⟨j + 1, xs⟩ (by dsimp only; omega) ?_ ?_ (fun w H => H.sel (by (first | ((with_reducible (repeat (first | exact Sb.nil | apply Sb.cons | exact Tk.here | apply Tk.there))); done) | (repeat (first | exact Sb.nil | apply Sb.cons | exact Tk.here | apply Tk.there)))))
        · dsimp only
          rw [hke2]
          exact ⟨hlt, hxl, by omega, hxt, by rw [← List.drop_drop, hxd, List.drop_drop]⟩
        · refine ⟨rfl, rfl, ?_, rfl, trivial⟩
          show some _ = some _
          rw [hke2]
    · obtain rfl : j = es.length := by omega
      rw [List.take_length] at *
      (repeat' (first | ((with_reducible apply gJ); (first | refine J_seq ?_ | refine J_reg ?_ | refine J_skip ?_ | refine J_block ?_ | refine J_blk ?_ | refine J_exit rfl ?_ | ((with_reducible apply gJ_if); (first | refine J_ift rfl ?_ | refine J_iff rfl ?_ | (refine J_if xR ?_ ?_ <;> intro _ <;> (try (exfalso; first | contradiction | omega))) | (refine J_ifb xR ?_ ?_ <;> (intro hgb; subst hgb)) | (refine J_ifb xR ?_ ?_ <;> intro _) | fail)) | refine J_label ?_ | fail)) | ((with_reducible apply gL); (first | refine JL_nil ?_ | ((with_reducible apply gL_move); (first | refine JL_p rfl xR xR (pe_move xR) ?_ | fail)) | ((with_reducible apply gL_assign); (first | refine JL_p rfl xR xR (pe_assign xR) ?_ | fail)) | ((with_reducible apply gL_c_len); (first | refine JL_p rfl xR xR (pe_len xR xR) ?_ | fail)) | ((with_reducible apply gL_bin_eql); (first | refine JL_p rfl xR xR (pe_eql xR xR) ?_ | refine JL_p rfl xR xR (pe_eqS xR xR xR) ?_ | refine JL_p rfl xR xR (pe_eqP xR xR xR) ?_ | refine JL_p rfl xR xR (pe_eqB xR xR xR) ?_ | fail)) | ((with_reducible apply gL_bin_lss); (first | refine JL_p rfl xR xR (pe_lss xR xR) ?_ | fail)) | ((with_reducible apply gL_bin_add); (first | refine JL_p rfl xR xR (pe_add xR xR (w_i64 xO xO)) ?_ | refine JL_p rfl xR xR (pe_add xR xR rfl) ?_ | fail)) | ((with_reducible apply gL_un_not); (first | refine JL_p rfl xR xR (pe_notT xR) ?_ | refine JL_p rfl xR xR (pe_notF xR) ?_ | refine JL_p rfl xR xR (pe_notD xR) ?_ | refine JL_p rfl xR xR (pe_notB xR) ?_ | fail)) | ((with_reducible apply gL_load); (first | refine JL_p rfl xR xR (pe_ld xR xT xC xR) ?_ | refine JL_p rfl xR xR (pe_ldW xR xT xW) ?_ | refine JL_p rfl xR xR (pe_ldS xR xT (tabS stab_ok xR) xG xC) ?_ | refine JL_p rfl xR xR (pe_ldK xR xH xC) ?_ | refine JL_p rfl xR xR (pe_el xR xV xL xR xC xH) ?_ | refine JL_p rfl xR xR (pe_elC xR xV xL xR xC xH xR) ?_ | refine JL_p rfl xR xR (pe_elF xR xV xL xR xC xH xR) ?_ | refine JL_p rfl xR xR (pe_elS xR xV xL xR (tabS stab_ok xR) xH xG xC) ?_ | (refine JL_el xR xV xL xR xC xR xR xO ?_; intro _ _) | (refine JL_elC xR xV xL xR xC xL xR xR xO ?_; intro _ _) | (refine JL_elF xR xV xL xR xC xL xR xR xO ?_; intro _ _) | fail)) | ((with_reducible apply gL_slice); (first | refine JL_p rfl xR xR (pe_sl0 xR (tabE etab_ok xR) (by first | exact rfl | exact ⟨_, _, by rfl, xI⟩) xO xO) ?_ | refine JL_p rfl xR xR (pe_sl xR (tabE etab_ok xR) (by first | exact rfl | exact ⟨_, _, by rfl, xI⟩) (by first | exact rfl | exact ⟨_, _, by rfl, xI⟩) xO xO) ?_ | fail)) | ((with_reducible apply gL_indexAddr); (first | refine JL_p rfl xR xR (pe_ixL xR xR (tabE etab_ok xR) xI xO) ?_ | refine JL_p rfl xR xR (pe_ix xR xR (tabE etab_ok xR) xV xI xO) ?_ | refine JL_p rfl xR xR (pe_ixA xR xR (tabA atab_ok xR) xI xO) ?_ | fail)) | ((with_reducible apply gL_alloc); (first | (refine JL_mc rfl xR xR (al_alloc xN xK) ?_; intro _) | fail)) | ((with_reducible apply gL_store); (first | refine JL_st xR xR xT xC xR xE xR ?_ | refine JL_stW xR xR xT xW xR xR xR ?_ | refine JL_stS xR xR xT xW xP xR xR ?_ | refine JL_stEl xR xR xT xR xL xR (tabS stab_ok xR) xR xR xO ?_ | fail)) | ((with_reducible apply gL_c_clear); (first | refine JL_clear onZ (tabE etab_ok (by rfl)) (by rfl) (by with_reducible exact Tk.here) (by rfl) (by decide +kernel) (by decide +kernel) (by intro _; rfl) (by omega) (by rfl) ?_ | fail)) | fail)) | fail))
      refine J_ret1 rfl (by rfl) fun w H => ⟨_, ⟨a, c, rfl, rfl⟩, ?_⟩
      have hkl2 := keepL_len D es
      have H2 := H.arTake .here (by intro _; rfl) (keepL D es).length (by simp; omega)
      rw [List.take_append_of_le_length (by simp; omega), List.take_take, Nat.min_self, hxt] at H2
      exact H2
end Go.Proofs.Ytgocmihmgnllcaa
