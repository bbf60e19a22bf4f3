/-
  Plain facts on prefixes and trees.
-/
import Derived.Test.YtmimfjgnmmfhdaaTr2
namespace Go.Proofs.Ytmimfjgnmmfhdaa
set_option linter.unusedSimpArgs false
set_option linter.unusedVariables false
open Go.RowKit Go.Pm


theorem div_pw (a l m : Int) (h0 : 0 ≤ l) (h1 : l ≤ m) (h2 : m ≤ 32) : a / pw l = a / pw m / 2 ^ (m - l).toNat := by
  have : pw l = pw m * 2 ^ (m - l).toNat := by
    unfold pw
    rw [← Int.pow_add]
    congr 1
    omega
  rw [this, Int.ediv_ediv_of_nonneg (Int.le_of_lt (pw_pos _))]
theorem Wi.rt1 {p q : Pf} (h : Wi p q) : Rt p := h.1
theorem Wi.rt2 {p q : Pf} (h : Wi p q) : Rt q := h.2.1
theorem Wi.le {p q : Pf} (h : Wi p q) : p.2 ≤ q.2 := h.2.2.1
theorem Wi.refl {p : Pf} (h : Rt p) : Wi p p := ⟨h, h, Int.le_refl _, rfl⟩
theorem Wi.trans {p q r : Pf} (h : Wi p q) (k : Wi q r) : Wi p r := by
  refine ⟨h.1, k.2.1, Int.le_trans h.le k.le, ?_⟩
  rw [div_pw r.1 p.2 q.2 h.1.1 h.le (rt_hi h.2.1), k.2.2.2, ← div_pw q.1 p.2 q.2 h.1.1 h.le (rt_hi h.2.1), h.2.2.2]
/-- Two that have a third one within: one has the other within. -/
theorem Wi.comp {p q r : Pf} (h : Wi p r) (k : Wi q r) (hl : p.2 ≤ q.2) : Wi p q := by
  refine ⟨h.1, k.1, hl, ?_⟩
  rw [div_pw q.1 p.2 q.2 h.1.1 hl (rt_hi k.1), ← k.2.2.2, ← div_pw r.1 p.2 q.2 h.1.1 hl (rt_hi k.1), h.2.2.2]
theorem rt_eq {p : Pf} (h : Rt p) : p.1 = pw p.2 * (p.1 / pw p.2) := by
  have := Int.mul_ediv_add_emod p.1 (pw p.2)
  have := h.2.2
  omega
theorem Wi.anti {p q : Pf} (h : Wi p q) (hl : q.2 ≤ p.2) : p = q := by
  have hle := h.le
  have e : p.2 = q.2 := by omega
  have h1 := rt_eq h.1
  have h2 := rt_eq h.2.1
  have h3 := h.2.2.2
  rw [e] at h1 h3
  have : p.1 = q.1 := by rw [h1, h2, h3]
  exact Prod.ext this e
theorem Wi.lt {p q : Pf} (h : Wi p q) (hne : p ≠ q) : p.2 < q.2 := by
  rcases Int.lt_or_le p.2 q.2 with h1 | h1
  · exact h1
  · exact (hne (h.anti h1)).elim
/-- Where it lies. -/
theorem Wi.lo {p q : Pf} (h : Wi p q) : p.1 ≤ q.1 := by
  have h1 := rt_eq h.1
  have h2 := Int.mul_ediv_add_emod q.1 (pw p.2)
  have h3 := Int.emod_nonneg q.1 (Int.ne_of_gt (pw_pos p.2))
  rw [h.2.2.2] at h2
  omega
theorem Wi.hi {p q : Pf} (h : Wi p q) : q.1 < p.1 + pw p.2 := by
  have h1 := rt_eq h.1
  have h2 := Int.mul_ediv_add_emod q.1 (pw p.2)
  have h3 := Int.emod_lt_of_pos q.1 (pw_pos p.2)
  rw [h.2.2.2] at h2
  omega

/-- The two halves of a prefix. -/
def kid (p : Pf) (i : Bool) : Pf := (p.1 + (if i then pw (p.2 + 1) else 0), p.2 + 1)
def btB (a l : Int) : Bool := decide (bt a l = 1)
theorem kid_div {p : Pf} (h : Rt p) (h1 : p.2 < 32) (i : Bool) : (kid p i).1 / pw (p.2 + 1) = 2 * (p.1 / pw p.2) + (if i then 1 else 0) := by
  have e := rt_eq h
  have hp := pw_succ p.2 h.1 h1
  have hpos := pw_pos (p.2 + 1)
  have e2 : (kid p i).1 = pw (p.2 + 1) * (2 * (p.1 / pw p.2) + (if i then 1 else 0)) := by
    show p.1 + (if i then pw (p.2 + 1) else 0) = _
    rw [Int.mul_add, ← Int.mul_assoc, Int.mul_comm (pw (p.2 + 1)) 2, ← hp, ← e]
    cases i <;> simp
  rw [e2, Int.mul_ediv_cancel_left _ (Int.ne_of_gt hpos)]
theorem kid_rt {p : Pf} (h : Rt p) (h1 : p.2 < 32) (i : Bool) : Rt (kid p i) := by
  have e := rt_eq h
  have hp := pw_succ p.2 h.1 h1
  refine ⟨by show 0 ≤ p.2 + 1; have := h.1; omega, by show p.2 + 1 ≤ 32; omega, ?_⟩
  show (kid p i).1 % pw (p.2 + 1) = 0
  have e2 : (kid p i).1 = pw (p.2 + 1) * (2 * (p.1 / pw p.2) + (if i then 1 else 0)) := by
    show p.1 + (if i then pw (p.2 + 1) else 0) = _
    rw [Int.mul_add, ← Int.mul_assoc, Int.mul_comm (pw (p.2 + 1)) 2, ← hp, ← e]
    cases i <;> simp
  rw [e2, Int.mul_emod_right]
/-- What is within a half. -/
theorem kid_wi {p q : Pf} {i : Bool} (h : Wi (kid p i) q) (hp : Rt p) : Wi p q ∧ p ≠ q ∧ btB q.1 p.2 = i := by
  have hlt : p.2 < 32 := by have := h.rt1.2.1; have e : (kid p i).2 = p.2 + 1 := rfl; omega
  have hle : p.2 + 1 ≤ q.2 := h.le
  have h3 : q.1 / pw (p.2 + 1) = (kid p i).1 / pw (p.2 + 1) := h.2.2.2
  rw [kid_div hp hlt i, bt_div q.1 p.2 hp.1 hlt] at h3
  have hb := bt_cases q.1 p.2
  have e1 : q.1 / pw p.2 = p.1 / pw p.2 := by cases i <;> simp at h3 <;> omega
  refine ⟨⟨hp, h.rt2, by omega, e1⟩, fun e => by subst e; omega, ?_⟩
  unfold btB
  cases i
  · apply decide_eq_false; simp at h3; omega
  · apply decide_eq_true; simp at h3; omega
theorem wi_kid {p q : Pf} (h : Wi p q) (hne : p ≠ q) : p.2 < 32 ∧ Wi (kid p (btB q.1 p.2)) q := by
  have hl := h.lt hne
  have hq := rt_hi h.2.1
  have hlt : p.2 < 32 := by omega
  refine ⟨hlt, kid_rt h.1 hlt _, h.rt2, by show p.2 + 1 ≤ q.2; omega, ?_⟩
  show q.1 / pw (p.2 + 1) = _
  show q.1 / pw (p.2 + 1) = (kid p (btB q.1 p.2)).1 / pw (p.2 + 1)
  rw [kid_div h.1 hlt, bt_div q.1 p.2 h.1.1 hlt, h.2.2.2]
  have hb := bt_cases q.1 p.2
  unfold btB
  rcases hb with hb | hb <;> simp [hb]

/-! Order. -/
theorem Ah.trans {p q r : Pf} (h : Ah p q) (k : Ah q r) : Ah p r := by unfold Ah at *; omega
theorem Ah.irrefl {p : Pf} : ¬ Ah p p := by unfold Ah; omega
theorem Ah.asymm {p q : Pf} (h : Ah p q) : ¬ Ah q p := by unfold Ah at *; omega
theorem Ah.total {p q : Pf} (h : ¬ Ah p q) (hne : p ≠ q) : Ah q p := by
  have : ¬ (p.1 = q.1 ∧ p.2 = q.2) := fun ⟨a, b⟩ => hne (Prod.ext a b)
  unfold Ah at *
  omega
theorem wi_ah {p q : Pf} (h : Wi p q) (hne : p ≠ q) : Ah p q := by
  have := h.lo
  have := h.lt hne
  unfold Ah
  omega

/-! Trees. -/
inductive Tr where
  | nil
  | node (b : Nat) (p : Pf) (has : Bool) (v : Int) (k0 k1 : Tr)
abbrev Ent := Pf × Int
def ents : Tr → List Ent
  | .nil => []
  | .node _ p has v k0 k1 => (if has then [(p, v)] else []) ++ (ents k0 ++ ents k1)
def wf : Pf → Tr → Prop
  | _, .nil => True
  | r, .node _ p _ v k0 k1 => PfN p ∧ I64 v ∧ Wi r p ∧ wf (kid p false) k0 ∧ wf (kid p true) k1
theorem wf_wi : ∀ {t : Tr} {r : Pf} {e : Ent}, wf r t → e ∈ ents t → Wi r e.1 ∧ PfN e.1 ∧ I64 e.2
  | .nil, _, _, _, h => by simp [ents] at h
  | .node b p has v k0 k1, r, e, ⟨hn, hv, hw, h0, h1⟩, h => by
    simp only [ents, List.mem_append] at h
    rcases h with h | h | h
    · cases has <;> simp at h
      subst h
      exact ⟨hw, hn, hv⟩
    · obtain ⟨a, c⟩ := wf_wi h0 h
      exact ⟨hw.trans (kid_wi a hw.rt2).1, c⟩
    · obtain ⟨a, c⟩ := wf_wi h1 h
      exact ⟨hw.trans (kid_wi a hw.rt2).1, c⟩
theorem wf_up {t : Tr} {r r' : Pf} (h : Wi r r') (k : wf r' t) : wf r t := by
  cases t with
  | nil => trivial
  | node b p has v k0 k1 => exact ⟨k.1, k.2.1, h.trans k.2.2.1, k.2.2.2⟩
def Srt (l : List Ent) : Prop := l.Pairwise fun x y => Ah x.1 y.1
theorem wf_srt : ∀ {t : Tr} {r : Pf}, wf r t → Srt (ents t)
  | .nil, _, _ => .nil
  | .node b p has v k0 k1, r, ⟨hn, hv, hw, h0, h1⟩ => by
    have hp := hw.rt2
    refine List.pairwise_append.2 ⟨by cases has <;> simp, List.pairwise_append.2 ⟨wf_srt h0, wf_srt h1, fun x hx y hy => ?_⟩, fun x hx y hy => ?_⟩
    · have a := (wf_wi h0 hx).1
      have c := (wf_wi h1 hy).1
      have e1 := a.hi
      have e2 := c.lo
      have e3 : (kid p false).1 = p.1 := by show p.1 + (if false = true then _ else 0) = p.1; simp
      have e4 : (kid p true).1 = p.1 + pw (p.2 + 1) := rfl
      have e5 : (kid p false).2 = p.2 + 1 := rfl
      rw [e3, e5] at e1
      rw [e4] at e2
      exact .inl (by omega)
    · cases has <;> simp at hx
      subst hx
      rcases List.mem_append.1 hy with hy | hy
      · obtain ⟨a, c, _⟩ := kid_wi (wf_wi h0 hy).1 hp
        exact wi_ah a c
      · obtain ⟨a, c, _⟩ := kid_wi (wf_wi h1 hy).1 hp
        exact wi_ah a c

/-- Sorted lists with the same members are the same. -/
theorem srt_ext : ∀ {l m : List Ent}, Srt l → Srt m → (∀ x, x ∈ l ↔ x ∈ m) → l = m
  | [], [], _, _, _ => rfl
  | [], y :: m, _, _, h => by have := (h y).2 (by simp); simp at this
  | x :: l, [], _, _, h => by have := (h x).1 (by simp); simp at this
  | x :: l, y :: m, hl, hm, h => by
    have hxy : x = y := by
      have h1 := (h x).1 (by simp)
      have h2 := (h y).2 (by simp)
      rcases List.mem_cons.1 h1 with h1 | h1
      · exact h1
      rcases List.mem_cons.1 h2 with h2 | h2
      · exact h2.symm
      exact absurd ((List.pairwise_cons.1 hl).1 y h2) ((List.pairwise_cons.1 hm).1 x h1).asymm
    subst hxy
    congr 1
    refine srt_ext (List.pairwise_cons.1 hl).2 (List.pairwise_cons.1 hm).2 fun z => ?_
    have hz := h z
    constructor
    · intro hzl
      have := hz.1 (List.mem_cons_of_mem _ hzl)
      rcases List.mem_cons.1 this with e | e
      · subst e; exact absurd ((List.pairwise_cons.1 hl).1 z hzl) Ah.irrefl
      · exact e
    · intro hzl
      have := hz.2 (List.mem_cons_of_mem _ hzl)
      rcases List.mem_cons.1 this with e | e
      · subst e; exact absurd ((List.pairwise_cons.1 hm).1 z hzl) Ah.irrefl
      · exact e
/-- In a sorted list a key is there once. -/
theorem srt_key {l : List Ent} (h : Srt l) {x y : Ent} (hx : x ∈ l) (hy : y ∈ l) (e : x.1 = y.1) : x = y := by
  induction h with
  | nil => simp at hx
  | cons ha _ ih =>
    rcases List.mem_cons.1 hx with h1 | h1 <;> rcases List.mem_cons.1 hy with h2 | h2
    · rw [h1, h2]
    · subst h1; exact absurd (ha y h2) (by rw [e]; exact Ah.irrefl)
    · subst h2; exact absurd (ha x h1) (by rw [e]; exact Ah.irrefl)
    · exact ih h1 h2
end Go.Proofs.Ytmimfjgnmmfhdaa
