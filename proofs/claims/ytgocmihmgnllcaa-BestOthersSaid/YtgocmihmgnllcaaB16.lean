/-
  One taken away: plain laws.
-/
import Derived.Test.YtgocmihmgnllcaaB14
namespace Go.Proofs.Ytgocmihmgnllcaa
set_option linter.unusedSimpArgs false
set_option linter.unusedVariables false
open Go.RowKit Go.Pm




theorem stepL_map {k : Int} {es : List On} {f : On → On} (h : ∀ o ∈ es, ∀ x ∈ es, beat k (f x) (f o) ↔ beat k x o) : stepL k (es.map f) = (stepL k es).map f := by
  classical
  have h1 := stepL_eq k es (fun o => decide (∀ x ∈ es, ¬ beat k x o)) (fun o _ => by simp)
  have h2 := stepL_eq k (es.map f) (fun o => decide (∀ x ∈ es.map f, ¬ beat k x o)) (fun o _ => by simp)
  rw [h1, h2, List.filter_map]
  congr 1
  refine filter_of_mem fun o ho => ?_
  simp only [Function.comp, decide_eq_true_eq, List.mem_map, forall_exists_index, and_imp, forall_apply_eq_imp_iff₂]
  exact ⟨fun hh x hx hb => hh x hx ((h o ho x hx).2 hb), fun hh x hx hb => hh x hx ((h o ho x hx).1 hb)⟩
theorem stepsN_map {es : List On} {f : On → On} (hc : ∀ o ∈ es, (f o).c = o.c) (ha : ∀ o ∈ es, ∀ x ∈ es, (f x).at_ < (f o).at_ ↔ x.at_ < o.at_) : ∀ n, stepsN n (es.map f) = (stepsN n es).map f
  | 0 => rfl
  | n + 1 => by
    rw [stepsN, stepsN, stepsN_map hc ha n]
    refine stepL_map fun o ho x hx => ?_
    have ho' := stepsN_sub n es o ho
    have hx' := stepsN_sub n es x hx
    unfold beat
    rw [hc o ho', hc x hx']
    repeat' split
    all_goals first | exact Iff.rfl | exact ha o ho' x hx'
theorem beat3 {k : Int} (hk : 1 ≤ k ∧ k ≤ 3) : ∃ κ : On → Int, ∀ x o, beat k x o ↔ κ x < κ o := by
  unfold beat
  repeat' split
  all_goals first
    | exact ⟨fun o => -cLocal o.c, fun _ _ => Iff.rfl⟩
    | exact ⟨fun o => pLen o.c.path, fun _ _ => Iff.rfl⟩
    | exact ⟨fun o => o.c.origin, fun _ _ => Iff.rfl⟩
    | (exfalso; omega)
theorem stepL_less {k : Int} (hk : 1 ≤ k ∧ k ≤ 3) {es : List On} {p : On → Bool} (h : ∃ y ∈ stepL k es, p y = true) : stepL k (es.filter p) = (stepL k es).filter p := by
  classical
  obtain ⟨κ, hκ⟩ := beat3 hk
  obtain ⟨y, hy, hp⟩ := h
  obtain ⟨hy1, hy2⟩ := (mem_stepL _ _ _).1 hy
  have h1 := stepL_eq k es (fun o => decide (∀ x ∈ es, ¬ beat k x o)) (fun o _ => by simp)
  have h2 := stepL_eq k (es.filter p) (fun o => decide (∀ x ∈ es.filter p, ¬ beat k x o)) (fun o _ => by simp)
  rw [h1, h2, List.filter_filter, List.filter_filter]
  refine filter_of_mem fun o _ => ?_
  simp only [Bool.and_eq_true, decide_eq_true_eq, List.mem_filter, and_imp]
  constructor
  · rintro ⟨ha, hb⟩
    refine ⟨hb, fun x hx hxo => ?_⟩
    have a1 := ha y hy1 hp
    have a2 := hy2 x hx
    rw [hκ] at a1 a2 hxo
    omega
  · rintro ⟨ha, hb⟩
    exact ⟨fun x hx _ => hb x hx, ha⟩
theorem stepsN_less {es : List On} {p : On → Bool} (h : ∃ y ∈ stepsN 3 es, p y = true) : ∀ n, n ≤ 3 → stepsN n (es.filter p) = (stepsN n es).filter p
  | 0, _ => rfl
  | n + 1, hn => by
    rw [stepsN, stepsN, stepsN_less h n (by omega)]
    obtain ⟨y, hy, hp⟩ := h
    refine stepL_less (by omega) ⟨y, ?_, hp⟩
    have : stepL ((n + 1 : Nat) : Int) (stepsN n es) = stepsN (n + 1) es := rfl
    rw [this]
    have mono : ∀ a b, y ∈ stepsN (a + b) es → y ∈ stepsN a es := by
      intro a b
      induction b with
      | zero => exact id
      | succ b ih => exact fun h => ih (stepL_sub _ _ y h)
    exact mono (n + 1) (3 - (n + 1)) (by rwa [show n + 1 + (3 - (n + 1)) = 3 by omega])
theorem stepsN_from {es fs : List On} {m : Nat} (h : stepsN m es = stepsN m fs) : ∀ n, stepsN (m + n) es = stepsN (m + n) fs
  | 0 => h
  | n + 1 => by
    show stepL _ (stepsN (m + n) es) = stepL _ (stepsN (m + n) fs)
    rw [stepsN_from h n]
/-- Without the j-th. -/
def lessL (j : Nat) (cs : List Cd) : List Cd := cs.take j ++ cs.drop (j + 1)
def offJ (j : Nat) (o : On) : On := ⟨o.c, if o.at_ < j then o.at_ else o.at_ - 1⟩
theorem zipIdx_shift (l : List Cd) (a b : Nat) : (l.zipIdx (a + b)).map (fun p => (p.1, p.2 - b)) = l.zipIdx a := by
  apply List.ext_getElem?
  intro i
  rw [List.getElem?_map, List.getElem?_zipIdx, List.getElem?_zipIdx]
  cases l[i]? <;> simp
  omega
theorem onesL_less {cs : List Cd} {j : Nat} (h : j < cs.length) : onesL (lessL j cs) = ((onesL cs).filter fun o => decide (o.at_ ≠ (j : Int))).map (offJ j) := by
  have hs : cs = cs.take j ++ cs[j] :: cs.drop (j + 1) := by rw [← List.drop_eq_getElem_cons h, List.take_append_drop]
  have htl : (cs.take j).length = j := by rw [List.length_take]; omega
  have e1 : onesL cs = ((cs.take j).zipIdx.map fun p => (⟨p.1, p.2⟩ : On)) ++ ⟨cs[j], j⟩ :: ((cs.drop (j + 1)).zipIdx (j + 1)).map fun p => (⟨p.1, p.2⟩ : On) := by
    unfold onesL
    conv => lhs; rw [hs]
    rw [List.zipIdx_append, htl, List.map_append, List.zipIdx_cons, List.map_cons, Nat.zero_add]
  have e2 : onesL (lessL j cs) = ((cs.take j).zipIdx.map fun p => (⟨p.1, p.2⟩ : On)) ++ ((cs.drop (j + 1)).zipIdx j).map fun p => (⟨p.1, p.2⟩ : On) := by
    unfold onesL lessL
    rw [List.zipIdx_append, htl, List.map_append, Nat.zero_add]
  rw [e1, e2, List.filter_append, List.map_append, List.filter_cons]
  have f1 : ∀ o ∈ ((cs.take j).zipIdx.map fun p => (⟨p.1, p.2⟩ : On)), o.at_ < j := by
    intro o ho
    obtain ⟨p, hp, rfl⟩ := List.mem_map.1 ho
    have := List.mem_zipIdx hp
    show (p.2 : Int) < j
    omega
  have f2 : ∀ o ∈ (((cs.drop (j + 1)).zipIdx (j + 1)).map fun p => (⟨p.1, p.2⟩ : On)), (j : Int) < o.at_ := by
    intro o ho
    obtain ⟨p, hp, rfl⟩ := List.mem_map.1 ho
    have := List.mem_zipIdx hp
    show (j : Int) < p.2
    omega
  congr 1
  · rw [List.filter_eq_self.2 (fun o ho => by have := f1 o ho; simp; omega)]
    conv => lhs; rw [← List.map_id ((cs.take j).zipIdx.map fun p => (⟨p.1, p.2⟩ : On))]
    refine List.map_congr_left fun o ho => ?_
    have := f1 o ho
    simp [offJ, this]
  · rw [if_neg (by simp), List.filter_eq_self.2 (fun o ho => by have := f2 o ho; simp; omega), ← zipIdx_shift (cs.drop (j + 1)) j 1, List.map_map, List.map_map]
    refine List.map_congr_left fun p hp => ?_
    have := List.mem_zipIdx hp
    have hnl : ¬ (p.2 : Int) < j := by omega
    simp only [Function.comp, offJ, if_neg hnl]
    congr 1
    omega
/-- One that does not stay behind step 3 taken away: the others stay as they did. -/
theorem left_less {cs : List Cd} {j n : Nat} (hj : j < cs.length) (h3 : (j : Int) ∉ leftL cs 3) (hn : 3 ≤ n ∧ n ≤ 8) : ∃ es : List On, leftL cs n = es.map On.at_ ∧ leftL (lessL j cs) n = es.map (fun o => (offJ j o).at_) ∧
    ∀ o ∈ es, ∃ a b x, o.at_ = ((a : Nat) : Int) ∧ (offJ j o).at_ = ((b : Nat) : Int) ∧ cs[a]? = some x ∧ (lessL j cs)[b]? = some x := by
  have hes : leftL cs 3 = (stepsN 3 (onesL cs)).map On.at_ := rfl
  rw [hes] at h3
  have hp : ∀ o ∈ stepsN 3 (onesL cs), decide (o.at_ ≠ (j : Int)) = true := fun o ho => by
    simp only [decide_eq_true_eq]
    intro e
    exact h3 (List.mem_map.2 ⟨o, ho, e⟩)
  have hne := stepsN_ne 3 (onesL cs) (onesL_ne (by intro e; rw [e] at hj; simp at hj))
  have hex : ∃ y ∈ stepsN 3 (onesL cs), decide (y.at_ ≠ (j : Int)) = true := by
    obtain ⟨y, hy⟩ := List.exists_mem_of_ne_nil _ hne
    exact ⟨y, hy, hp y hy⟩
  have k3 := stepsN_less hex 3 (Nat.le_refl _)
  rw [List.filter_eq_self.2 hp] at k3
  have kn := stepsN_from k3 (n - 3)
  rw [show 3 + (n - 3) = n by omega] at kn
  have km : stepsN n (onesL (lessL j cs)) = (stepsN n (onesL cs)).map (offJ j) := by
    rw [onesL_less hj, stepsN_map, kn]
    · intro o _; rfl
    · intro o ho x hx
      have h1 := of_decide_eq_true (List.mem_filter.1 ho).2
      have h2 := of_decide_eq_true (List.mem_filter.1 hx).2
      simp only [offJ]
      split <;> split <;> omega
  refine ⟨stepsN n (onesL cs), leftL_nat cs hn.2, ?_, fun o ho => ?_⟩
  · rw [leftL_nat _ hn.2, km, List.map_map]
    rfl
  · obtain ⟨a, e1, e2⟩ := onesL_get (stepsN_sub n _ o ho)
    have ho2 : offJ j o ∈ onesL (lessL j cs) := stepsN_sub n _ _ (by rw [km]; exact List.mem_map_of_mem ho)
    obtain ⟨b, e3, e4⟩ := onesL_get ho2
    exact ⟨a, b, o.c, e1, e3, e2, e4⟩
end Go.Proofs.Ytgocmihmgnllcaa
