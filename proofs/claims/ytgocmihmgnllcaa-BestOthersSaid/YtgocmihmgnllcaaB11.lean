/-
  Who stays: plain laws.
-/
import Derived.Test.YtgocmihmgnllcaaB10
namespace Go.Proofs.Ytgocmihmgnllcaa
set_option linter.unusedSimpArgs false
set_option linter.unusedVariables false
open Go.RowKit Go.Pm




/-- One beats another at a step. -/
def beat (k : Int) (x o : On) : Prop :=
  if k = 1 then -cLocal x.c < -cLocal o.c else if k = 2 then pLen x.c.path < pLen o.c.path else if k = 3 then x.c.origin < o.c.origin else if k = 4 then cNb x.c = cNb o.c ∧ cMed x.c < cMed o.c
  else if k = 5 then x.c.id < o.c.id else if k = 6 then x.c.addr < o.c.addr else if k = 7 then x.c.peer < o.c.peer else x.at_ < o.at_
theorem minL_le (κ : On → Int) : ∀ (l : List On) (m : Int), minL κ l m ≤ m ∧ (∀ o ∈ l, minL κ l m ≤ κ o) ∧ (minL κ l m = m ∨ ∃ o ∈ l, minL κ l m = κ o)
  | [], m => ⟨Int.le_refl _, by simp, .inl rfl⟩
  | o :: r, m => by
    obtain ⟨h1, h2, h3⟩ := minL_le κ r (min m (κ o))
    simp only [minL]
    refine ⟨by omega, ?_, ?_⟩
    · intro x hx
      rcases List.mem_cons.1 hx with rfl | hx
      · omega
      · exact h2 x hx
    · rcases h3 with h3 | ⟨x, hx, h3⟩
      · by_cases hm : m ≤ κ o
        · left; omega
        · right; exact ⟨o, List.mem_cons_self .., by omega⟩
      · exact .inr ⟨x, List.mem_cons_of_mem _ hx, h3⟩
theorem mem_leastL (κ : On → Int) (es : List On) (o : On) : o ∈ leastL κ es ↔ o ∈ es ∧ ∀ x ∈ es, ¬ κ x < κ o := by
  cases es with
  | nil => simp [leastL]
  | cons a r =>
    obtain ⟨h1, h2, h3⟩ := minL_le κ (a :: r) (κ a)
    simp only [leastL, keepL, List.mem_filter]
    constructor
    · rintro ⟨ho, he⟩
      refine ⟨ho, fun x hx => ?_⟩
      have := h2 x hx
      simp at he
      omega
    · rintro ⟨ho, he⟩
      refine ⟨ho, ?_⟩
      have h4 := h2 o ho
      simp only [Bool.not_eq_true', decide_eq_false_iff_not, Decidable.not_not]
      rcases h3 with h3 | ⟨x, hx, h3⟩
      · have := he a (List.mem_cons_self ..)
        omega
      · have := he x hx
        omega
theorem nbMed_le : ∀ (es : List On) (n : Int), match nbMed es n with | none => ∀ o ∈ es, cNb o.c ≠ n | some m => (∀ o ∈ es, cNb o.c = n → m ≤ cMed o.c) ∧ ∃ o ∈ es, cNb o.c = n ∧ cMed o.c = m
  | [], n => by simp [nbMed]
  | o :: r, n => by
    have ih := nbMed_le r n
    simp only [nbMed]
    cases hq : nbMed r n with
    | none =>
      rw [hq] at ih
      by_cases hn : cNb o.c = n
      · simp only [if_pos hn]
        refine ⟨?_, o, List.mem_cons_self .., hn, rfl⟩
        intro x hx hxn
        rcases List.mem_cons.1 hx with rfl | hx
        · omega
        · exact absurd hxn (ih x hx)
      · simp only [if_neg hn]
        intro x hx
        rcases List.mem_cons.1 hx with rfl | hx
        · exact hn
        · exact ih x hx
    | some m =>
      rw [hq] at ih
      obtain ⟨h1, y, hy, hyn, hym⟩ := ih
      by_cases hn : cNb o.c = n
      · simp only [if_pos hn]
        refine ⟨?_, ?_⟩
        · intro x hx hxn
          rcases List.mem_cons.1 hx with rfl | hx
          · omega
          · have := h1 x hx hxn
            omega
        · by_cases hle : cMed o.c ≤ m
          · exact ⟨o, List.mem_cons_self .., hn, by omega⟩
          · exact ⟨y, List.mem_cons_of_mem _ hy, hyn, by omega⟩
      · simp only [if_neg hn]
        refine ⟨?_, y, List.mem_cons_of_mem _ hy, hyn, hym⟩
        intro x hx hxn
        rcases List.mem_cons.1 hx with rfl | hx
        · exact absurd hxn hn
        · exact h1 x hx hxn
theorem mem_medsL (es : List On) (o : On) : o ∈ medsL es ↔ o ∈ es ∧ ∀ x ∈ es, ¬ (cNb x.c = cNb o.c ∧ cMed x.c < cMed o.c) := by
  simp only [medsL, keepL, List.mem_filter, Bool.not_eq_true', decide_eq_false_iff_not]
  constructor
  · rintro ⟨ho, he⟩
    refine ⟨ho, fun x hx hb => ?_⟩
    have h := nbMed_le es (cNb o.c)
    cases hq : nbMed es (cNb o.c) with
    | none => rw [hq] at h; exact h o ho rfl
    | some m =>
      rw [hq] at h he
      have := h.1 x hx hb.1
      simp at he
      omega
  · rintro ⟨ho, he⟩
    refine ⟨ho, fun hb => ?_⟩
    have h := nbMed_le es (cNb o.c)
    cases hq : nbMed es (cNb o.c) with
    | none => rw [hq] at h; exact h o ho rfl
    | some m =>
      rw [hq] at h hb
      obtain ⟨_, y, hy, h1, h2⟩ := h
      simp at hb
      exact he y hy ⟨h1, by omega⟩
theorem mem_stepL (k : Int) (es : List On) (o : On) : o ∈ stepL k es ↔ o ∈ es ∧ ∀ x ∈ es, ¬ beat k x o := by
  unfold stepL beat
  repeat' split
  all_goals first | exact mem_leastL _ _ _ | exact mem_medsL _ _
theorem filter_of_mem {α : Type} {p q : α → Bool} {l : List α} (h : ∀ x ∈ l, p x = true ↔ q x = true) : l.filter p = l.filter q := List.filter_congr fun x hx => Bool.eq_iff_iff.2 (h x hx)
/-- A step keeps a part, in order. -/
theorem stepL_filter (k : Int) (es : List On) : ∃ p : On → Bool, stepL k es = es.filter p := by
  unfold stepL medsL keepL
  cases es with
  | nil => exact ⟨fun _ => true, by simp [leastL, keepL]⟩
  | cons a r =>
    simp only [leastL, keepL]
    repeat' split
    all_goals exact ⟨_, rfl⟩
theorem stepL_eq (k : Int) (es : List On) (q : On → Bool) (h : ∀ o ∈ es, q o = true ↔ ∀ x ∈ es, ¬ beat k x o) : stepL k es = es.filter q := by
  obtain ⟨p, hp⟩ := stepL_filter k es
  rw [hp]
  refine filter_of_mem fun x hx => ?_
  rw [h x hx]
  have := mem_stepL k es x
  rw [hp, List.mem_filter] at this
  exact ⟨fun hpx => (this.1 ⟨hx, hpx⟩).2, fun hb => (this.2 ⟨hx, hb⟩).2⟩
theorem beat_lt (k : Int) : ∃ κ : On → Int, ∀ x o, beat k x o → κ x < κ o := by
  unfold beat
  repeat' split
  · exact ⟨fun o => -cLocal o.c, fun _ _ h => h⟩
  · exact ⟨fun o => pLen o.c.path, fun _ _ h => h⟩
  · exact ⟨fun o => o.c.origin, fun _ _ h => h⟩
  · exact ⟨fun o => cMed o.c, fun _ _ h => h.2⟩
  · exact ⟨fun o => o.c.id, fun _ _ h => h⟩
  · exact ⟨fun o => o.c.addr, fun _ _ h => h⟩
  · exact ⟨fun o => o.c.peer, fun _ _ h => h⟩
  · exact ⟨fun o => o.at_, fun _ _ h => h⟩
theorem stepL_ne (k : Int) (es : List On) (h : es ≠ []) : stepL k es ≠ [] := by
  obtain ⟨κ, hκ⟩ := beat_lt k
  cases es with
  | nil => exact absurd rfl h
  | cons a r =>
    obtain ⟨h1, h2, h3⟩ := minL_le κ (a :: r) (κ a)
    have : ∃ o ∈ a :: r, minL κ (a :: r) (κ a) = κ o := by
      rcases h3 with h3 | h3
      · exact ⟨a, List.mem_cons_self .., h3⟩
      · exact h3
    obtain ⟨o, ho, he⟩ := this
    refine List.ne_nil_of_mem ((mem_stepL k _ o).2 ⟨ho, fun x hx hb => ?_⟩)
    have := hκ x o hb
    have := h2 x hx
    omega
theorem stepsN_ne : ∀ (n : Nat) (es : List On), es ≠ [] → stepsN n es ≠ []
  | 0, _, h => h
  | n + 1, es, h => stepL_ne _ _ (stepsN_ne n es h)
theorem stepL_subl (k : Int) (es : List On) : List.Sublist (stepL k es) es := by
  obtain ⟨p, hp⟩ := stepL_filter k es
  rw [hp]
  exact List.filter_sublist
theorem stepsN_subl : ∀ (n : Nat) (es : List On), List.Sublist (stepsN n es) es
  | 0, _ => List.Sublist.refl _
  | n + 1, es => (stepL_subl _ _).trans (stepsN_subl n es)
theorem onesL_at (cs : List Cd) : (onesL cs).map On.at_ = (List.range cs.length).map (fun i : Nat => (i : Int)) := by
  unfold onesL
  rw [List.map_map]
  apply List.ext_getElem?
  intro i
  simp only [List.getElem?_map, List.getElem?_zipIdx, List.getElem?_range', Function.comp]
  by_cases h : i < cs.length
  · simp [List.getElem?_eq_getElem h, List.getElem?_range h]
  · have h2 : (List.range cs.length)[i]? = none := List.getElem?_eq_none (by simp; omega)
    simp [List.getElem?_eq_none (Nat.le_of_not_lt h), h2]
theorem onesL_nodup (cs : List Cd) : ((onesL cs).map On.at_).Nodup := by
  rw [onesL_at]
  exact List.Pairwise.map _ (fun a b h e => h (Int.ofNat.inj e)) List.nodup_range
theorem onesL_ne {cs : List Cd} (h : cs ≠ []) : onesL cs ≠ [] := by
  intro e
  have := onesL_len cs
  rw [e] at this
  exact h (List.eq_nil_of_length_eq_zero this.symm)
theorem left8 (cs : List Cd) : (leftL cs 8).length = min 1 cs.length := by
  have hs : leftL cs 8 = (stepsN 8 (onesL cs)).map On.at_ := rfl
  rw [hs, List.length_map]
  by_cases h : cs = []
  · subst h
    rfl
  · have h1 := stepsN_ne 8 _ (onesL_ne h)
    have hlen : 0 < cs.length := List.length_pos_iff.2 h
    have h2 : ((stepsN 8 (onesL cs)).map On.at_).Nodup := ((stepsN_subl 8 (onesL cs)).map _).nodup (onesL_nodup cs)
    have h3 : ∀ o ∈ stepsN 8 (onesL cs), ∀ x ∈ stepsN 8 (onesL cs), o.at_ = x.at_ := by
      have h4 : stepsN 8 (onesL cs) = stepL (8 : Nat) (stepsN 7 (onesL cs)) := rfl
      rw [h4]
      intro o ho x hx
      have a1 := ((mem_stepL _ _ _).1 ho).2 x ((mem_stepL _ _ _).1 hx).1
      have a2 := ((mem_stepL _ _ _).1 hx).2 o ((mem_stepL _ _ _).1 ho).1
      simp [beat] at a1 a2
      omega
    generalize stepsN 8 (onesL cs) = l at *
    match l, h1, h2, h3 with
    | [_], _, _, _ => simp; omega
    | a :: b :: r, _, h2, h3 =>
      have := h3 a (by simp) b (by simp)
      simp [this] at h2
theorem leftL_of_le0 (cs : List Cd) {k : Int} (h : k ≤ 0) : leftL cs k = leftL cs 0 := by
  have h1 : (min k 8).toNat = 0 := by omega
  have h2 : (min (0 : Int) 8).toNat = 0 := by omega
  unfold leftL
  rw [h1, h2]
theorem leftL_of_ge8 (cs : List Cd) {k : Int} (h : 8 ≤ k) : leftL cs k = leftL cs 8 := by
  have h1 : (min k 8).toNat = 8 := by omega
  have h2 : (min (8 : Int) 8).toNat = 8 := by omega
  unfold leftL
  rw [h1, h2]
theorem left0 (cs : List Cd) : (leftL cs 0).length = cs.length := by
  have : leftL cs 0 = (onesL cs).map On.at_ := rfl
  rw [this, List.length_map, onesL_len]
theorem leftL_nat (cs : List Cd) {k : Nat} (h : k ≤ 8) : leftL cs k = (stepsN k (onesL cs)).map On.at_ := by
  have h1 : (min (k : Int) 8).toNat = k := by omega
  unfold leftL
  rw [h1]
theorem left_sub (cs : List Cd) (k : Nat) (h : k + 1 ≤ 8) {z : Int} (hz : z ∈ leftL cs (k + 1 : Nat)) : z ∈ leftL cs k := by
  rw [leftL_nat cs h] at hz
  rw [leftL_nat cs (by omega)]
  obtain ⟨o, ho, rfl⟩ := List.mem_map.1 hz
  exact List.mem_map_of_mem (stepL_sub _ _ o ho)
theorem leftL_len (cs : List Cd) (k : Int) : (leftL cs k).length ≤ cs.length := by
  unfold leftL
  rw [List.length_map]
  exact Nat.le_trans (stepsN_len _ _) (Nat.le_of_eq (onesL_len cs))
theorem leftL_mem {cs : List Cd} {k z : Int} (h : z ∈ leftL cs k) : 0 ≤ z ∧ z < cs.length := by
  obtain ⟨o, ho, rfl⟩ := List.mem_map.1 h
  exact (onesL_mem (stepsN_sub _ _ o ho)).2
end Go.Proofs.Ytgocmihmgnllcaa
