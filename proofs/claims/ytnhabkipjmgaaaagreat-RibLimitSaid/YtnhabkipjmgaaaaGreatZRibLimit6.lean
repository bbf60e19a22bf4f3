/-
  Tq3, Tq4, Tq5, Tq6, Tq7, Tq8: merged.
-/
import Derived.Test.YtnhabkipjmgaaaaGreatZRibLimit5
namespace Go.Proofs.YtnhabkipjmgaaaaGreat.T
set_option linter.unusedSimpArgs false
set_option linter.unusedVariables false
open Go.RowKit Go.Pm


theorem div_pw (a l m : Int) (h0 : 0 ≤ l) (h1 : l ≤ m) (h2 : m ≤ 32) : a / pw l = a / pw m / 2 ^ (m - l).toNat := by
  have : pw l = pw m * 2 ^ (m - l).toNat := by
    unfold pw
    rw [← Int.pow_add]
    congr 1
    omega
  rw [this, Int.ediv_ediv_of_nonneg (Int.le_of_lt (pw_pos _))]
theorem Wi.rt1 {p q : Pf} (h : Wi p q) : Rt p := h.1
theorem Wi.rt2 {p q : Pf} (h : Wi p q) : Rt q := h.2.1
theorem Wi.le {p q : Pf} (h : Wi p q) : p.2 ≤ q.2 := h.2.2.1
theorem Wi.refl {p : Pf} (h : Rt p) : Wi p p := ⟨h, h, Int.le_refl _, rfl⟩
theorem Wi.trans {p q r : Pf} (h : Wi p q) (k : Wi q r) : Wi p r := by
  refine ⟨h.1, k.2.1, Int.le_trans h.le k.le, ?_⟩
  rw [div_pw r.1 p.2 q.2 h.1.1 h.le (rt_hi h.2.1), k.2.2.2, ← div_pw q.1 p.2 q.2 h.1.1 h.le (rt_hi h.2.1), h.2.2.2]
/-- Two that have a third one within: one has the other within. -/
theorem Wi.comp {p q r : Pf} (h : Wi p r) (k : Wi q r) (hl : p.2 ≤ q.2) : Wi p q := by
  refine ⟨h.1, k.1, hl, ?_⟩
  rw [div_pw q.1 p.2 q.2 h.1.1 hl (rt_hi k.1), ← k.2.2.2, ← div_pw r.1 p.2 q.2 h.1.1 hl (rt_hi k.1), h.2.2.2]
theorem rt_eq {p : Pf} (h : Rt p) : p.1 = pw p.2 * (p.1 / pw p.2) := by
  have := Int.mul_ediv_add_emod p.1 (pw p.2)
  have := h.2.2
  omega
theorem Wi.anti {p q : Pf} (h : Wi p q) (hl : q.2 ≤ p.2) : p = q := by
  have hle := h.le
  have e : p.2 = q.2 := by omega
  have h1 := rt_eq h.1
  have h2 := rt_eq h.2.1
  have h3 := h.2.2.2
  rw [e] at h1 h3
  have : p.1 = q.1 := by rw [h1, h2, h3]
  exact Prod.ext this e
theorem Wi.lt {p q : Pf} (h : Wi p q) (hne : p ≠ q) : p.2 < q.2 := by
  rcases Int.lt_or_le p.2 q.2 with h1 | h1
  · exact h1
  · exact (hne (h.anti h1)).elim
/-- Where it lies. -/
theorem Wi.lo {p q : Pf} (h : Wi p q) : p.1 ≤ q.1 := by
  have h1 := rt_eq h.1
  have h2 := Int.mul_ediv_add_emod q.1 (pw p.2)
  have h3 := Int.emod_nonneg q.1 (Int.ne_of_gt (pw_pos p.2))
  rw [h.2.2.2] at h2
  omega
theorem Wi.hi {p q : Pf} (h : Wi p q) : q.1 < p.1 + pw p.2 := by
  have h1 := rt_eq h.1
  have h2 := Int.mul_ediv_add_emod q.1 (pw p.2)
  have h3 := Int.emod_lt_of_pos q.1 (pw_pos p.2)
  rw [h.2.2.2] at h2
  omega

/-- The two halves of a prefix. -/
def kid (p : Pf) (i : Bool) : Pf := (p.1 + (if i then pw (p.2 + 1) else 0), p.2 + 1)
def btB (a l : Int) : Bool := decide (bt a l = 1)
theorem kid_div {p : Pf} (h : Rt p) (h1 : p.2 < 32) (i : Bool) : (kid p i).1 / pw (p.2 + 1) = 2 * (p.1 / pw p.2) + (if i then 1 else 0) := by
  have e := rt_eq h
  have hp := pw_succ p.2 h.1 h1
  have hpos := pw_pos (p.2 + 1)
  have e2 : (kid p i).1 = pw (p.2 + 1) * (2 * (p.1 / pw p.2) + (if i then 1 else 0)) := by
    show p.1 + (if i then pw (p.2 + 1) else 0) = _
    rw [Int.mul_add, ← Int.mul_assoc, Int.mul_comm (pw (p.2 + 1)) 2, ← hp, ← e]
    cases i <;> simp
  rw [e2, Int.mul_ediv_cancel_left _ (Int.ne_of_gt hpos)]
theorem kid_rt {p : Pf} (h : Rt p) (h1 : p.2 < 32) (i : Bool) : Rt (kid p i) := by
  have e := rt_eq h
  have hp := pw_succ p.2 h.1 h1
  refine ⟨by show 0 ≤ p.2 + 1; have := h.1; omega, by show p.2 + 1 ≤ 32; omega, ?_⟩
  show (kid p i).1 % pw (p.2 + 1) = 0
  have e2 : (kid p i).1 = pw (p.2 + 1) * (2 * (p.1 / pw p.2) + (if i then 1 else 0)) := by
    show p.1 + (if i then pw (p.2 + 1) else 0) = _
    rw [Int.mul_add, ← Int.mul_assoc, Int.mul_comm (pw (p.2 + 1)) 2, ← hp, ← e]
    cases i <;> simp
  rw [e2, Int.mul_emod_right]
/-- What is within a half. -/
theorem kid_wi {p q : Pf} {i : Bool} (h : Wi (kid p i) q) (hp : Rt p) : Wi p q ∧ p ≠ q ∧ btB q.1 p.2 = i := by
  have hlt : p.2 < 32 := by have := h.rt1.2.1; have e : (kid p i).2 = p.2 + 1 := rfl; omega
  have hle : p.2 + 1 ≤ q.2 := h.le
  have h3 : q.1 / pw (p.2 + 1) = (kid p i).1 / pw (p.2 + 1) := h.2.2.2
  rw [kid_div hp hlt i, bt_div q.1 p.2 hp.1 hlt] at h3
  have hb := bt_cases q.1 p.2
  have e1 : q.1 / pw p.2 = p.1 / pw p.2 := by cases i <;> simp at h3 <;> omega
  refine ⟨⟨hp, h.rt2, by omega, e1⟩, fun e => by subst e; omega, ?_⟩
  unfold btB
  cases i
  · apply decide_eq_false; simp at h3; omega
  · apply decide_eq_true; simp at h3; omega
theorem wi_kid {p q : Pf} (h : Wi p q) (hne : p ≠ q) : p.2 < 32 ∧ Wi (kid p (btB q.1 p.2)) q := by
  have hl := h.lt hne
  have hq := rt_hi h.2.1
  have hlt : p.2 < 32 := by omega
  refine ⟨hlt, kid_rt h.1 hlt _, h.rt2, by show p.2 + 1 ≤ q.2; omega, ?_⟩
  show q.1 / pw (p.2 + 1) = _
  show q.1 / pw (p.2 + 1) = (kid p (btB q.1 p.2)).1 / pw (p.2 + 1)
  rw [kid_div h.1 hlt, bt_div q.1 p.2 h.1.1 hlt, h.2.2.2]
  have hb := bt_cases q.1 p.2
  unfold btB
  rcases hb with hb | hb <;> simp [hb]

/-! Order. -/
theorem Ah.trans {p q r : Pf} (h : Ah p q) (k : Ah q r) : Ah p r := by unfold Ah at *; omega
theorem Ah.irrefl {p : Pf} : ¬ Ah p p := by unfold Ah; omega
theorem Ah.asymm {p q : Pf} (h : Ah p q) : ¬ Ah q p := by unfold Ah at *; omega
theorem Ah.total {p q : Pf} (h : ¬ Ah p q) (hne : p ≠ q) : Ah q p := by
  have : ¬ (p.1 = q.1 ∧ p.2 = q.2) := fun ⟨a, b⟩ => hne (Prod.ext a b)
  unfold Ah at *
  omega
theorem wi_ah {p q : Pf} (h : Wi p q) (hne : p ≠ q) : Ah p q := by
  have := h.lo
  have := h.lt hne
  unfold Ah
  omega

/-! Values. -/
abbrev Vt := Int × Bool
abbrev vC (v : Vt) : List Value := [.int .i64 v.1, .bool v.2]
def VN (v : Vt) : Prop := I64 v.1
abbrev zV : Vt := (0, false)
/-! Trees. -/
inductive Tr where
  | nil
  | node (b : Nat) (p : Pf) (has : Bool) (v : Vt) (k0 k1 : Tr)
abbrev Ent := Pf × Vt
def ents : Tr → List Ent
  | .nil => []
  | .node _ p has v k0 k1 => (if has then [(p, v)] else []) ++ (ents k0 ++ ents k1)
def wf : Pf → Tr → Prop
  | _, .nil => True
  | r, .node _ p _ v k0 k1 => PfN p ∧ VN v ∧ Wi r p ∧ wf (kid p false) k0 ∧ wf (kid p true) k1
theorem wf_wi : ∀ {t : Tr} {r : Pf} {e : Ent}, wf r t → e ∈ ents t → Wi r e.1 ∧ PfN e.1 ∧ VN e.2
  | .nil, _, _, _, h => by simp [ents] at h
  | .node b p has v k0 k1, r, e, ⟨hn, hv, hw, h0, h1⟩, h => by
    simp only [ents, List.mem_append] at h
    rcases h with h | h | h
    · cases has <;> simp at h
      subst h
      exact ⟨hw, hn, hv⟩
    · obtain ⟨a, c⟩ := wf_wi h0 h
      exact ⟨hw.trans (kid_wi a hw.rt2).1, c⟩
    · obtain ⟨a, c⟩ := wf_wi h1 h
      exact ⟨hw.trans (kid_wi a hw.rt2).1, c⟩
def Srt (l : List Ent) : Prop := l.Pairwise fun x y => Ah x.1 y.1
theorem wf_srt : ∀ {t : Tr} {r : Pf}, wf r t → Srt (ents t)
  | .nil, _, _ => .nil
  | .node b p has v k0 k1, r, ⟨hn, hv, hw, h0, h1⟩ => by
    have hp := hw.rt2
    refine List.pairwise_append.2 ⟨by cases has <;> simp, List.pairwise_append.2 ⟨wf_srt h0, wf_srt h1, fun x hx y hy => ?_⟩, fun x hx y hy => ?_⟩
    · have a := (wf_wi h0 hx).1
      have c := (wf_wi h1 hy).1
      have e1 := a.hi
      have e2 := c.lo
      have e3 : (kid p false).1 = p.1 := by show p.1 + (if false = true then _ else 0) = p.1; simp
      have e4 : (kid p true).1 = p.1 + pw (p.2 + 1) := rfl
      have e5 : (kid p false).2 = p.2 + 1 := rfl
      rw [e3, e5] at e1
      rw [e4] at e2
      exact .inl (by omega)
    · cases has <;> simp at hx
      subst hx
      rcases List.mem_append.1 hy with hy | hy
      · obtain ⟨a, c, _⟩ := kid_wi (wf_wi h0 hy).1 hp
        exact wi_ah a c
      · obtain ⟨a, c, _⟩ := kid_wi (wf_wi h1 hy).1 hp
        exact wi_ah a c

/-- Sorted lists with the same members are the same. -/
theorem srt_ext : ∀ {l m : List Ent}, Srt l → Srt m → (∀ x, x ∈ l ↔ x ∈ m) → l = m
  | [], [], _, _, _ => rfl
  | [], y :: m, _, _, h => by have := (h y).2 (by simp); simp at this
  | x :: l, [], _, _, h => by have := (h x).1 (by simp); simp at this
  | x :: l, y :: m, hl, hm, h => by
    have hxy : x = y := by
      have h1 := (h x).1 (by simp)
      have h2 := (h y).2 (by simp)
      rcases List.mem_cons.1 h1 with h1 | h1
      · exact h1
      rcases List.mem_cons.1 h2 with h2 | h2
      · exact h2.symm
      exact absurd ((List.pairwise_cons.1 hl).1 y h2) ((List.pairwise_cons.1 hm).1 x h1).asymm
    subst hxy
    congr 1
    refine srt_ext (List.pairwise_cons.1 hl).2 (List.pairwise_cons.1 hm).2 fun z => ?_
    have hz := h z
    constructor
    · intro hzl
      have := hz.1 (List.mem_cons_of_mem _ hzl)
      rcases List.mem_cons.1 this with e | e
      · subst e; exact absurd ((List.pairwise_cons.1 hl).1 z hzl) Ah.irrefl
      · exact e
    · intro hzl
      have := hz.2 (List.mem_cons_of_mem _ hzl)
      rcases List.mem_cons.1 this with e | e
      · subst e; exact absurd ((List.pairwise_cons.1 hm).1 z hzl) Ah.irrefl
      · exact e
/-- In a sorted list a key is there once. -/
theorem srt_key {l : List Ent} (h : Srt l) {x y : Ent} (hx : x ∈ l) (hy : y ∈ l) (e : x.1 = y.1) : x = y := by
  induction h with
  | nil => simp at hx
  | cons ha _ ih =>
    rcases List.mem_cons.1 hx with h1 | h1 <;> rcases List.mem_cons.1 hy with h2 | h2
    · rw [h1, h2]
    · subst h1; exact absurd (ha y h2) (by rw [e]; exact Ah.irrefl)
    · subst h2; exact absurd (ha x h1) (by rw [e]; exact Ah.irrefl)
    · exact ih h1 h2
end Go.Proofs.YtnhabkipjmgaaaaGreat.T
namespace Go.Proofs.YtnhabkipjmgaaaaGreat.T
set_option linter.unusedSimpArgs false
set_option linter.unusedVariables false
open Go.RowKit Go.Pm


structure Fr where
  b : Nat
  p : Pf
  has : Bool
  v : Vt
  side : Bool
  o : Tr
def fill (f : Fr) (s : Tr) : Tr := if f.side then .node f.b f.p f.has f.v f.o s else .node f.b f.p f.has f.v s f.o
def plug : List Fr → Tr → Tr
  | [], s => s
  | f :: C, s => plug C (fill f s)
def Path (p : Pf) (C : List Fr) : Prop := ∀ f ∈ C, Wi f.p p ∧ f.p ≠ p ∧ f.side = btB p.1 f.p.2
def hreg : List Fr → Pf
  | [] => (0, 0)
  | f :: _ => kid f.p f.side
def wfC : List Fr → Prop
  | [] => True
  | f :: C => PfN f.p ∧ VN f.v ∧ Wi (hreg C) f.p ∧ wf (kid f.p (!f.side)) f.o ∧ wfC C
theorem wf_fill (f : Fr) (s : Tr) (r : Pf) : wf r (fill f s) ↔ (PfN f.p ∧ VN f.v ∧ Wi r f.p ∧ wf (kid f.p (!f.side)) f.o) ∧ wf (kid f.p f.side) s := by
  unfold fill
  cases h : f.side
  · simp only [Bool.false_eq_true, if_false, wf, Bool.not_false]
    constructor
    · rintro ⟨a, b, c, d, e⟩; exact ⟨⟨a, b, c, e⟩, d⟩
    · rintro ⟨⟨a, b, c, e⟩, d⟩; exact ⟨a, b, c, d, e⟩
  · simp only [if_true, wf, Bool.not_true]
    constructor
    · rintro ⟨a, b, c, d, e⟩; exact ⟨⟨a, b, c, d⟩, e⟩
    · rintro ⟨⟨a, b, c, d⟩, e⟩; exact ⟨a, b, c, d, e⟩
theorem wf_plug : ∀ (C : List Fr) (s : Tr), wf (0, 0) (plug C s) ↔ wfC C ∧ wf (hreg C) s
  | [], s => by simp [plug, wfC, hreg]
  | f :: C, s => by
    rw [plug, wf_plug C, wf_fill]
    simp only [wfC, hreg]
    constructor
    · rintro ⟨a, ⟨b, c, d, e⟩, g⟩; exact ⟨⟨b, c, d, e, a⟩, g⟩
    · rintro ⟨⟨b, c, d, e, a⟩, g⟩; exact ⟨a, ⟨b, c, d, e⟩, g⟩
def own (f : Fr) : List Ent := if f.has then [(f.p, f.v)] else []
def pre : List Fr → List Ent
  | [] => []
  | f :: C => pre C ++ own f ++ (if f.side then ents f.o else [])
def post : List Fr → List Ent
  | [] => []
  | f :: C => (if f.side then [] else ents f.o) ++ post C
theorem ents_plug : ∀ (C : List Fr) (s : Tr), ents (plug C s) = pre C ++ ents s ++ post C
  | [], s => by simp [plug, pre, post]
  | f :: C, s => by
    rw [plug, ents_plug C]
    unfold fill
    cases h : f.side <;> simp [ents, pre, post, own, h, List.append_assoc]
theorem r0_wi {p : Pf} (h : Rt p) (hn : PfN p) : Wi (0, 0) p := by
  have := hn.1
  unfold U32 at this
  refine ⟨⟨by decide, by decide, rfl⟩, h, h.1, ?_⟩
  show p.1 / pw 0 = 0 / pw 0
  rw [pw_0]
  omega
theorem path_reg {C : List Fr} {p : Pf} (hc : wfC C) (hp : Path p C) (h : Rt p) (hn : PfN p) : Wi (hreg C) p := by
  cases C with
  | nil => exact r0_wi h hn
  | cons f C =>
    obtain ⟨a, b, c⟩ := hp f (by simp)
    have := (wi_kid a b).2
    rw [← c] at this
    exact this
/-- What lies outside is not within. -/
theorem out_wi : ∀ {C : List Fr} {p : Pf} {e : Ent}, wfC C → Path p C → (e ∈ pre C ∨ e ∈ post C) → ¬ Wi p e.1
  | [], _, _, _, _, h => by simp [pre, post] at h
  | f :: C, p, e, hc, hp, h => by
    obtain ⟨a, b, c⟩ := hp f (by simp)
    obtain ⟨h1, h2, h3, h4, h5⟩ := hc
    have ho : e ∈ ents f.o → ¬ Wi p e.1 := fun he hw => by
      have k1 := (kid_wi (wf_wi h4 he).1 a.rt1).2.2
      have k2 := (wi_kid a b).2
      rw [← c] at k2
      have k3 := (kid_wi (k2.trans hw) a.rt1).2.2
      rw [k1] at k3
      revert k3
      cases f.side <;> simp
    have hw : e ∈ own f → ¬ Wi p e.1 := fun he hw => by
      unfold own at he
      cases hh : f.has <;> simp [hh] at he
      subst he
      exact b (a.anti hw.le)
    have ih := fun h => out_wi (e := e) h5 (fun g hg => hp g (List.mem_cons_of_mem _ hg)) h
    rcases h with h | h
    · simp only [pre, List.mem_append] at h
      rcases h with (h | h) | h
      · exact ih (.inl h)
      · exact hw h
      · cases hs : f.side <;> simp [hs] at h
        exact ho h
    · simp only [post, List.mem_append] at h
      rcases h with h | h
      · cases hs : f.side <;> simp [hs] at h
        exact ho h
      · exact ih (.inr h)
theorem mem_plug {C : List Fr} {s : Tr} {e : Ent} : e ∈ ents (plug C s) ↔ e ∈ ents s ∨ (e ∈ pre C ∨ e ∈ post C) := by
  rw [ents_plug]
  simp only [List.mem_append]
  constructor
  · rintro ((h | h) | h)
    · exact .inr (.inl h)
    · exact .inl h
    · exact .inr (.inr h)
  · rintro (h | h | h)
    · exact .inl (.inr h)
    · exact .inl (.inl h)
    · exact .inr h

/-! What the document says, on lists. -/
def putL : List Ent → Pf → Vt → List Ent
  | [], p, v => [(p, v)]
  | x :: r, p, v => if Ah x.1 p then x :: putL r p v else if x.1 = p then (p, v) :: r else (p, v) :: x :: r
theorem mem_putL : ∀ {l : List Ent} {p : Pf} {v : Vt} {e : Ent}, Srt l → (e ∈ putL l p v ↔ e = (p, v) ∨ (e ∈ l ∧ e.1 ≠ p))
  | [], p, v, e, _ => by simp [putL]
  | x :: r, p, v, e, h => by
    obtain ⟨h1, h2⟩ := List.pairwise_cons.1 h
    unfold putL
    by_cases ha : Ah x.1 p
    · rw [if_pos ha, List.mem_cons, mem_putL h2, List.mem_cons]
      constructor
      · rintro (rfl | rfl | ⟨a, b⟩)
        · exact .inr ⟨.inl rfl, fun e => by rw [e] at ha; exact ha.irrefl⟩
        · exact .inl rfl
        · exact .inr ⟨.inr a, b⟩
      · rintro (rfl | ⟨rfl | a, b⟩)
        · exact .inr (.inl rfl)
        · exact .inl rfl
        · exact .inr (.inr ⟨a, b⟩)
    · rw [if_neg ha]
      by_cases hp : x.1 = p
      · rw [if_pos hp, List.mem_cons, List.mem_cons]
        constructor
        · rintro (rfl | a)
          · exact .inl rfl
          · exact .inr ⟨.inr a, fun e => by have := h1 _ a; rw [hp, e] at this; exact this.irrefl⟩
        · rintro (rfl | ⟨rfl | a, b⟩)
          · exact .inl rfl
          · exact absurd hp b
          · exact .inr a
      · rw [if_neg hp, List.mem_cons]
        constructor
        · rintro (rfl | a)
          · exact .inl rfl
          · refine .inr ⟨a, ?_⟩
            rcases List.mem_cons.1 a with rfl | b
            · exact hp
            · intro e
              have h3 := h1 _ b
              rw [e] at h3
              exact ha h3
        · rintro (rfl | ⟨a, b⟩)
          · exact .inl rfl
          · exact .inr a
theorem srt_putL : ∀ {l : List Ent} {p : Pf} {v : Vt}, Srt l → Srt (putL l p v)
  | [], p, v, _ => by simp [putL, Srt]
  | x :: r, p, v, h => by
    obtain ⟨h1, h2⟩ := List.pairwise_cons.1 h
    unfold putL
    by_cases ha : Ah x.1 p
    · rw [if_pos ha]
      refine List.pairwise_cons.2 ⟨fun y hy => ?_, srt_putL h2⟩
      rcases (mem_putL h2).1 hy with rfl | ⟨a, _⟩
      · exact ha
      · exact h1 y a
    · rw [if_neg ha]
      by_cases hp : x.1 = p
      · rw [if_pos hp]
        exact List.pairwise_cons.2 ⟨fun y hy => by have := h1 y hy; rw [hp] at this; exact this, h2⟩
      · rw [if_neg hp]
        have hx := Ah.total ha hp
        refine List.pairwise_cons.2 ⟨fun y hy => ?_, h⟩
        rcases List.mem_cons.1 hy with rfl | b
        · exact hx
        · exact hx.trans (h1 y b)
def dropL (l : List Ent) (p : Pf) : List Ent := l.filter fun e => decide (e.1 ≠ p)
def getL (l : List Ent) (p : Pf) : Option Vt := (l.find? fun e => decide (e.1 = p)).map (·.2)
def underL (l : List Ent) (p : Pf) : List Pf := (l.filter fun e => decide (Wi p e.1)).map (·.1)
theorem getL_mem {l : List Ent} {p : Pf} {v : Vt} (h : Srt l) : getL l p = some v ↔ (p, v) ∈ l := by
  unfold getL
  constructor
  · intro hg
    cases hf : l.find? fun e => decide (e.1 = p) with
    | none => simp [hf] at hg
    | some x =>
      have h1 := List.mem_of_find?_eq_some hf
      have h2 := List.find?_some hf
      simp [hf] at hg
      simp at h2
      have : x = (p, v) := Prod.ext h2 hg
      rw [← this]; exact h1
  · intro hm
    cases hf : l.find? fun e => decide (e.1 = p) with
    | none => have := List.find?_eq_none.1 hf _ hm; simp at this
    | some x =>
      have h1 := List.mem_of_find?_eq_some hf
      have h2 := List.find?_some hf
      simp at h2
      have := srt_key h h1 hm h2
      simp [this]
theorem getL_none {l : List Ent} {p : Pf} : getL l p = none ↔ ∀ e ∈ l, e.1 ≠ p := by
  unfold getL
  simp [List.find?_eq_none]

/-- A new subtree at the place of p. -/
theorem plug_put {C : List Fr} {s s' : Tr} {p : Pf} {v : Vt} (hw : wf (0, 0) (plug C s)) (hp : Path p C) (hr : Rt p) (hs : wf (hreg C) s') (hm : ∀ e, e ∈ ents s' ↔ e = (p, v) ∨ (e ∈ ents s ∧ e.1 ≠ p)) :
    wf (0, 0) (plug C s') ∧ ents (plug C s') = putL (ents (plug C s)) p v := by
  obtain ⟨hc, h0⟩ := (wf_plug C s).1 hw
  have hw' := (wf_plug C s').2 ⟨hc, hs⟩
  refine ⟨hw', srt_ext (wf_srt hw') (srt_putL (wf_srt hw)) fun e => ?_⟩
  rw [mem_putL (wf_srt hw), mem_plug, mem_plug, hm]
  have ho : (e ∈ pre C ∨ e ∈ post C) → e.1 ≠ p := fun h he => out_wi hc hp h (by rw [he]; exact .refl hr)
  constructor
  · rintro ((h | h) | h)
    · exact .inl h
    · exact .inr ⟨.inl h.1, h.2⟩
    · exact .inr ⟨.inr h, ho h⟩
  · rintro (h | ⟨h | h, h2⟩)
    · exact .inl (.inl h)
    · exact .inl (.inr ⟨h, h2⟩)
    · exact .inr h
theorem plug_drop {C : List Fr} {s s' : Tr} {p : Pf} (hw : wf (0, 0) (plug C s)) (hp : Path p C) (hr : Rt p) (hs : wf (hreg C) s') (hm : ∀ e, e ∈ ents s' ↔ e ∈ ents s ∧ e.1 ≠ p) :
    wf (0, 0) (plug C s') ∧ ents (plug C s') = dropL (ents (plug C s)) p := by
  obtain ⟨hc, h0⟩ := (wf_plug C s).1 hw
  have hw' := (wf_plug C s').2 ⟨hc, hs⟩
  refine ⟨hw', srt_ext (wf_srt hw') ((wf_srt hw).filter _) fun e => ?_⟩
  unfold dropL
  rw [List.mem_filter, mem_plug, mem_plug, hm]
  have ho : (e ∈ pre C ∨ e ∈ post C) → e.1 ≠ p := fun h he => out_wi hc hp h (by rw [he]; exact .refl hr)
  simp only [decide_eq_true_eq]
  constructor
  · rintro (h | h)
    · exact ⟨.inl h.1, h.2⟩
    · exact ⟨.inr h, ho h⟩
  · rintro ⟨h | h, h2⟩
    · exact .inl ⟨h, h2⟩
    · exact .inr h

/-! Where p is, or is to be put. -/
def top : Tr → Option Pf
  | .nil => none
  | .node _ q _ _ _ _ => some q
def Found (p : Pf) (s : Tr) : Prop := ∀ q, top s = some q → q = p ∨ ¬ Wi q p
theorem found_get {C : List Fr} {s : Tr} {p : Pf} (hw : wf (0, 0) (plug C s)) (hp : Path p C) (hr : Rt p) {e : Ent} (he : e ∈ ents (plug C s)) (hk : e.1 = p) : e ∈ ents s := by
  rcases mem_plug.1 he with h | h
  · exact h
  · exact absurd (by rw [hk]; exact .refl hr) (out_wi ((wf_plug C s).1 hw).1 hp h)
theorem found_none {b : Nat} {q p : Pf} {has : Bool} {v : Vt} {k0 k1 : Tr} {r : Pf} (hw : wf r (.node b q has v k0 k1)) (hq : q ≠ p) (hf : ¬ Wi q p) : ∀ e ∈ ents (.node b q has v k0 k1), e.1 ≠ p := by
  intro e he hk
  have h1 : wf q (.node b q has v k0 k1) := ⟨hw.1, hw.2.1, .refl hw.2.2.1.rt2, hw.2.2.2⟩
  have := (wf_wi h1 he).1
  rw [hk] at this
  exact hf this

/-- What nobody needs is taken away. -/
def isNil : Tr → Bool
  | .nil => true
  | _ => false
def lift (b : Nat) (q : Pf) (has : Bool) (v : Vt) (k0 k1 : Tr) : Tr :=
  if has then .node b q has v k0 k1 else if isNil k0 then k1 else if isNil k1 then k0 else .node b q has v k0 k1
def pruneT (p : Pf) : Tr → Tr
  | .nil => .nil
  | .node b q has v k0 k1 => if q ≠ p ∧ Wi q p then (if btB p.1 q.2 then lift b q has v k0 (pruneT p k1) else lift b q has v (pruneT p k0) k1) else lift b q has v k0 k1
theorem nil_of {t : Tr} (h : isNil t = true) : t = .nil := by cases t <;> simp [isNil] at h; rfl
theorem lift_ok {r : Pf} {b : Nat} {q : Pf} {has : Bool} {v : Vt} {k0 k1 : Tr} (h : wf r (.node b q has v k0 k1)) : wf r (lift b q has v k0 k1) ∧ ents (lift b q has v k0 k1) = ents (.node b q has v k0 k1) := by
  have up : ∀ (i : Bool) (k : Tr), wf (kid q i) k → wf r k := fun i k hk => by
    cases k with
    | nil => trivial
    | node b2 q2 h2 v2 a2 c2 => exact ⟨hk.1, hk.2.1, h.2.2.1.trans (kid_wi hk.2.2.1 h.2.2.1.rt2).1, hk.2.2.2⟩
  unfold lift
  cases has
  · simp only [Bool.false_eq_true, if_false]
    cases h0 : isNil k0
    · simp only [Bool.false_eq_true, if_false]
      cases h1 : isNil k1
      · simp only [Bool.false_eq_true, if_false]
        exact ⟨h, trivial⟩
      · obtain rfl := nil_of h1
        exact ⟨up _ _ h.2.2.2.1, by simp [ents]⟩
    · obtain rfl := nil_of h0
      exact ⟨up _ _ h.2.2.2.2, by simp [ents]⟩
  · exact ⟨h, rfl⟩
theorem prune_ok (p : Pf) : ∀ {t : Tr} {r : Pf}, wf r t → wf r (pruneT p t) ∧ ents (pruneT p t) = ents t
  | .nil, _, _ => ⟨trivial, rfl⟩
  | .node b q has v k0 k1, r, h => by
    unfold pruneT
    split
    · split
      · obtain ⟨a, c⟩ := prune_ok p h.2.2.2.2
        obtain ⟨d, e⟩ := lift_ok (r := r) (b := b) (q := q) (has := has) (v := v) (k0 := k0) (k1 := pruneT p k1) ⟨h.1, h.2.1, h.2.2.1, h.2.2.2.1, a⟩
        exact ⟨d, by rw [e]; simp [ents, c]⟩
      · obtain ⟨a, c⟩ := prune_ok p h.2.2.2.1
        obtain ⟨d, e⟩ := lift_ok (r := r) (b := b) (q := q) (has := has) (v := v) (k0 := pruneT p k0) (k1 := k1) ⟨h.1, h.2.1, h.2.2.1, a, h.2.2.2.2⟩
        exact ⟨d, by rw [e]; simp [ents, c]⟩
    · exact lift_ok h
end Go.Proofs.YtnhabkipjmgaaaaGreat.T
namespace Go.Proofs.YtnhabkipjmgaaaaGreat.T
set_option linter.unusedSimpArgs false
set_option linter.unusedVariables false
set_option maxRecDepth 20000
set_option maxHeartbeats 4000000
open Go.RowKit Go.Pm


def ptr : Tr → Option Addr
  | .nil => none
  | .node b .. => some ⟨b, 0, none⟩
abbrev ndC (p : Pf) (has : Bool) (v : Vt) (a0 a1 : Option Addr) : List Value := [.int .u32 p.1, .int .i64 p.2, .bool has, .int .i64 v.1, .bool v.2, .pointer a0, .pointer a1]
def trP : Tr → HP
  | .nil => sats []
  | .node b p has v k0 k1 => sats [pts b (ndC p has v (ptr k0) (ptr k1)) 131, trP k0, trP k1]
abbrev trC (a : Option Addr) (n : Int) (m : Bool) : List Value := [.pointer a, .int .i64 n, .bool m]
def frC (f : Fr) (h : Option Addr) : List Value := if f.side then ndC f.p f.has f.v (ptr f.o) h else ndC f.p f.has f.v h (ptr f.o)
/-- The tree but for what hangs at a place, where h stands. -/
def ctxP (tb : Nat) (n : Int) : List Fr → Option Addr → HP
  | [], h => sats [pts tb (trC h n true) 117]
  | f :: C, h => sats [pts f.b (frC f h) 131, trP f.o, ctxP tb n C (some ⟨f.b, 0, none⟩)]
def sideN (b : Bool) : Nat := if b then 1 else 0
def holeA (tb : Nat) : List Fr → Addr
  | [] => ⟨tb, 0, none⟩
  | f :: _ => ⟨f.b, 5 + sideN f.side, none⟩

section
variable {W : World} {K : Hl} {L R : List HP} {w : World} {tb : Nat} {n : Int} {C : List Fr} {h h' : Option Addr}
theorem owCtxTop (H : Ow W K L w) (t : Tk L (ctxP tb n [] h) R) : Ow W K (pts tb (trC h n true) 117 :: R) w := H.flat t
theorem owCtxFr {f : Fr} (H : Ow W K L w) (t : Tk L (ctxP tb n (f :: C) h) R) : Ow W K (pts f.b (frC f h) 131 :: trP f.o :: ctxP tb n C (some ⟨f.b, 0, none⟩) :: R) w := H.flat t
theorem owMkTop (H : Ow W K L w) (t : Tk L (pts tb (trC h n true) 117) R) : Ow W K (ctxP tb n [] h :: R) w := H.shut (M := [pts tb (trC h n true) 117]) (.cons t .nil) (fun _ h => h)
theorem owMkFr {f : Fr} (H : Ow W K (pts f.b (frC f h) 131 :: trP f.o :: ctxP tb n C (some ⟨f.b, 0, none⟩) :: R) w) : Ow W K (ctxP tb n (f :: C) h :: R) w := H.shut (M := [pts f.b (frC f h) 131, trP f.o, ctxP tb n C (some ⟨f.b, 0, none⟩)]) (R := R) (.cons .here (.cons .here (.cons .here .nil))) (fun _ h => h)
theorem owNodeO {b : Nat} {p : Pf} {has : Bool} {v : Vt} {k0 k1 : Tr} (H : Ow W K L w) (t : Tk L (trP (.node b p has v k0 k1)) R) : Ow W K (pts b (ndC p has v (ptr k0) (ptr k1)) 131 :: trP k0 :: trP k1 :: R) w := H.flat t
theorem owMkNode {b : Nat} {p : Pf} {has : Bool} {v : Vt} {k0 k1 : Tr} (H : Ow W K (pts b (ndC p has v (ptr k0) (ptr k1)) 131 :: trP k0 :: trP k1 :: R) w) : Ow W K (trP (.node b p has v k0 k1) :: R) w := H.shut (M := [pts b (ndC p has v (ptr k0) (ptr k1)) 131, trP k0, trP k1]) (R := R) (.cons .here (.cons .here (.cons .here .nil))) (fun _ h => h)
theorem owMkNil (H : Ow W K L w) : Ow W K (trP .nil :: L) w := H.satsNil
theorem owFill {f : Fr} {s : Tr} (H : Ow W K (pts f.b (frC f (ptr s)) 131 :: trP f.o :: trP s :: R) w) : Ow W K (trP (fill f s) :: R) w := by
  unfold frC at H
  unfold Proofs.YtnhabkipjmgaaaaGreat.T.fill
  cases hs : f.side
  · simp only [hs, Bool.false_eq_true, if_false] at H ⊢
    exact owMkNode (H.perm (.cons _ (.swap ..)))
  · simp only [hs, if_true] at H ⊢
    exact owMkNode H
theorem ptr_fill (f : Fr) (s : Tr) : ptr (fill f s) = some ⟨f.b, 0, none⟩ := by
  unfold fill
  cases f.side <;> rfl
/-- The tree as one again. -/
theorem owPlug : ∀ {C : List Fr} {s : Tr} {R : List HP}, Ow W K (ctxP tb n C (ptr s) :: trP s :: R) w → Ow W K (pts tb (trC (ptr (plug C s)) n true) 117 :: trP (plug C s) :: R) w
  | [], _, _, H => owCtxTop H .here
  | f :: C, s, R, H => by
    have H1 := (owCtxFr H .here).perm (L := pts f.b (frC f (ptr s)) 131 :: trP f.o :: ctxP tb n C (some ⟨f.b, 0, none⟩) :: trP s :: R) (M := pts f.b (frC f (ptr s)) 131 :: trP f.o :: trP s :: ctxP tb n C (some ⟨f.b, 0, none⟩) :: R) (.cons _ (.cons _ (.swap ..)))
    have H2 := owFill H1
    have H3 : Ow W K (ctxP tb n C (ptr (Proofs.YtnhabkipjmgaaaaGreat.T.fill f s)) :: trP (Proofs.YtnhabkipjmgaaaaGreat.T.fill f s) :: R) w := by
      rw [ptr_fill]
      exact H2.perm (.swap ..)
    exact owPlug (C := C) (s := Proofs.YtnhabkipjmgaaaaGreat.T.fill f s) (R := R) H3
/-- What stands at the place. -/
theorem hole_cell : ∀ {C : List Fr}, Ow W K (ctxP tb n C h :: R) w → w.cell? (holeA tb C) = some (.pointer h) ∧ w.frozen? (holeA tb C) = false ∧ ∀ h', Ow W K (ctxP tb n C h' :: R) (w.setCell (holeA tb C) (.pointer h'))
  | [], H => by
    have H1 := owCtxTop H .here
    have hb := H1.blk .here
    exact ⟨by rw [holeA, hb.cell]; rfl, hb.free 0, fun h' => owMkTop (h := h') (H1.set .here .z) .here⟩
  | f :: C, H => by
    have H1 := owCtxFr H .here
    have hb := H1.blk .here
    refine ⟨?_, hb.free _, fun h' => owMkFr ?_⟩
    · rw [holeA, hb.cell]
      unfold frC sideN
      cases f.side <;> rfl
    · have : SetAt (frC f h) (5 + sideN f.side) (.pointer h') (frC f h') := by
        unfold frC sideN ndC
        cases f.side
        all_goals (show SetAt _ _ _ _; repeat (first | exact SetAt.z | apply SetAt.s))
      exact H1.set .here this
end

theorem is_s (tb : Nat) (a : Option Addr) (n : Int) (m : Bool) : Pact Tryz.prog 71 #[.pointer (some ⟨tb, 0, none⟩)] (fun _ => True) [pts tb (trC a n m) 117] (fun v L' => v = .bool m ∧ L' = [pts tb (trC a n m) 117]) := by
  refine pact Tryz.func71 rfl Tryz.ntmps71 rfl ?_
  intro W K _
  (repeat' (first | ((with_reducible apply gL); (first | refine yL0 ?_ | refine yL ?_ | ((with_reducible apply gL_gd); (first | (refine JL_guard xR xR ?_ ?_ <;> intro _ <;> (try (exfalso; first | contradiction | omega))) | (refine JL_guardb xR xR ?_ ?_ <;> (intro hgb; subst hgb)) | (refine JL_guardb xR xR ?_ ?_ <;> (intro hgb; fail_if_success (have : type_of% hgb := rfl))) | fail)) | fail)) | refine yJ ?_ | fail))
  exact J_ret1 rfl (by rfl) fun w H => ⟨_, ⟨rfl, rfl⟩, H.sel xZ⟩
theorem new_s : Pact Tryz.prog 33 #[] (fun _ => True) [] (fun v L' => ∃ tb, v = .pointer (some ⟨tb, 0, none⟩) ∧ L' = [pts tb (trC none 0 true) 117, trP .nil]) := by
  refine pact Tryz.func33 rfl Tryz.ntmps33 rfl ?_
  intro W K _
  (repeat' (first | ((with_reducible apply gL); (first | refine yL0 ?_ | refine yL ?_ | (refine yM ?_; intro _) | fail)) | refine yJ ?_ | fail))
  exact J_ret1 rfl (by rfl) fun w H => ⟨_, ⟨_, rfl, rfl⟩, (owMkNil H).sel xZ⟩
theorem len_s (tb : Nat) (a : Option Addr) (n : Int) (m : Bool) : Pact Tryz.prog 37 #[.pointer (some ⟨tb, 0, none⟩)] (fun _ => True) [pts tb (trC a n m) 117] (fun v L' => v = .int .i64 (if m then n else 0) ∧ L' = [pts tb (trC a n m) 117]) := by
  refine pact Tryz.func37 rfl Tryz.ntmps37 rfl ?_
  intro W K _
  cases m
  · (repeat' (first | ((with_reducible apply gL); (first | refine yL0 ?_ | refine yL ?_ | ((with_reducible apply gL_go); (first | (refine JL_goq (is_s tb a n false) (hφ := xF) (h := ?_); rintro _ _ ⟨rfl, rfl⟩; try simp only [List.cons_append, List.nil_append]) | fail)) | fail)) | refine yJ ?_ | ((with_reducible apply gJ_if); (first | (refine J_if xR ?_ ?_ <;> intro _ <;> (try (exfalso; first | contradiction | omega))) | (refine J_ifb xR ?_ ?_ <;> (intro hgb; subst hgb)) | (refine J_ifb xR ?_ ?_ <;> intro _) | fail)) | fail))
    exact J_ret1 rfl (by rfl) fun w H => ⟨_, ⟨rfl, rfl⟩, H.sel xZ⟩
  · (repeat' (first | ((with_reducible apply gL); (first | refine yL0 ?_ | refine yL ?_ | ((with_reducible apply gL_go); (first | (refine JL_goq (is_s tb a n true) (hφ := xF) (h := ?_); rintro _ _ ⟨rfl, rfl⟩; try simp only [List.cons_append, List.nil_append]) | fail)) | fail)) | refine yJ ?_ | ((with_reducible apply gJ_if); (first | (refine J_if xR ?_ ?_ <;> intro _ <;> (try (exfalso; first | contradiction | omega))) | (refine J_ifb xR ?_ ?_ <;> (intro hgb; subst hgb)) | (refine J_ifb xR ?_ ?_ <;> intro _) | fail)) | fail))
    exact J_ret1 rfl (by rfl) fun w H => ⟨_, ⟨rfl, rfl⟩, H.sel xZ⟩
end Go.Proofs.YtnhabkipjmgaaaaGreat.T
namespace Go.Proofs.YtnhabkipjmgaaaaGreat.T
set_option linter.unusedSimpArgs false
set_option linter.unusedVariables false
set_option maxRecDepth 20000
set_option maxHeartbeats 4000000
open Go.RowKit Go.Pm


theorem hole_see {K : Hl} {L R : List HP} {w : World} {tb : Nat} {n : Int} {C : List Fr} {h : Option Addr} (hr : Rdw K L w) (t : Tk L (ctxP tb n C h) R) : w.cell? (holeA tb C) = some (.pointer h) := by
  obtain ⟨k, hk, i⟩ := hr.tk t
  cases C with
  | nil =>
    obtain ⟨h1, h2, a, _, d, rfl⟩ := hk
    obtain rfl : h1 = Hl.one tb (.cells (trC h n true).toArray 117 (0, 0)) := a
    have hb : Blk w tb (trC h n true).toArray 117 := ((Hl.inn_add d).1 i).1 tb _ (by simp [Hl.one])
    rw [holeA, hb.cell]
    rfl
  | cons f C =>
    obtain ⟨h1, h2, a, _, d, rfl⟩ := hk
    obtain rfl : h1 = Hl.one f.b (.cells (frC f h).toArray 131 (0, 0)) := a
    have hb : Blk w f.b (frC f h).toArray 131 := ((Hl.inn_add d).1 i).1 f.b _ (by simp [Hl.one])
    rw [holeA, hb.cell]
    unfold frC sideN
    cases f.side <;> rfl
def szT : Tr → Nat
  | .nil => 0
  | .node _ _ _ _ k0 k1 => szT k0 + szT k1 + 1
structure Pl where
  C : List Fr
  s : Tr
theorem bit_b (a l : Int) (i : Int) (hi : bt a l = i) (ha : U32 a) (h0 : 0 ≤ l) (h1 : l ≤ 31) : Pact Tryz.prog 107 #[.int .u32 a, .int .i64 l] (fun _ => True) [] (ret0 (.int .i64 i)) := hi ▸ bit_s a l ha h0 h1
theorem within_b (p q : Pf) (hp : PfN p) (hq : PfN q) (b : Bool) (hb : decide (Wi p q) = b) : Pact Tryz.prog 106 #[.agg (pfC p).toArray, .agg (pfC q).toArray] (fun _ => True) [] (ret0 (.bool b)) := hb ▸ within_s p q hp hq
theorem right_b (p : Pf) (hp : PfN p) (b : Bool) (hb : decide (Rt p) = b) : Pact Tryz.prog 67 #[.agg (pfC p).toArray] (fun _ => True) [] (ret0 (.bool b)) := hb ▸ right_s p hp
def FindR (t : Tr) (p : Pf) (tb : Nat) (n : Int) (v : Value) (L' : List HP) : Prop := ∃ C s, plug C s = t ∧ Path p C ∧ Found p s ∧ v = .pointer (some (holeA tb C)) ∧ L' = [ctxP tb n C (ptr s), trP s]
theorem find_s (tb : Nat) (n : Int) (t : Tr) (p : Pf) (hp : PfN p) (hw : wf (0, 0) t) : Pact Tryz.prog 78 #[.pointer (some ⟨tb, 0, none⟩), .agg (pfC p).toArray] (fun _ => True) [pts tb (trC (ptr t) n true) 117, trP t] (FindR t p tb n) := by
  refine pact Tryz.func78 rfl Tryz.ntmps78 rfl ?_
  intro W K _
  (repeat' (first | ((with_reducible apply gL); (first | refine yL0 ?_ | refine yL ?_ | (refine yM ?_; intro _) | fail)) | ((with_reducible apply gD); (first | (refine JD_nil ?_; try simp only [List.cons_append, List.nil_append]) | (refine JD_bar ?_; try simp only [List.cons_append, List.nil_append]) | refine yD0 ?_ | refine yD ?_ | ((with_reducible apply gD_gd); (first | (refine JD_guard xR xR ?_ ?_ <;> intro _ <;> (try (exfalso; first | contradiction | omega))) | (refine JD_guardb xR xR ?_ ?_ <;> (intro hgb; subst hgb)) | (refine JD_guardb xR xR ?_ ?_ <;> (intro hgb; fail_if_success (have : type_of% hgb := rfl))) | fail)) | fail)) | refine yJ ?_ | ((with_reducible apply gJ_if); (first | (refine J_if xR ?_ ?_ <;> intro _ <;> (try (exfalso; first | contradiction | omega))) | (refine J_ifb xR ?_ ?_ <;> (intro hgb; subst hgb)) | (refine J_ifb xR ?_ ?_ <;> intro _) | fail)) | refine J_draw (id := 3) [0, 1, 2, 3, 4, 5, 6, 7, 8, 9, 10, 11, 12, 13, 14, 15] [16, 17, 18] mixed xC xD xD ?_ | refine J_draw (id := 5) [0, 1, 2, 3, 4, 5, 6, 7, 9, 10, 8] [11, 12] mixed xC xD xD ?_ | fail))
  rename_i g
  refine J_scope (α := Pl) 0 (fun x => szT x.s) (fun x => plug x.C x.s = t ∧ Path p x.C) (fun x => [(0, .pointer (some ⟨tb, 0, none⟩)), (3, .pointer (some ⟨g, 0, none⟩)), (5, .pointer (some (holeA tb x.C)))])
    (fun x => [ctxP tb n x.C (ptr x.s), trP x.s, pts g (pfC p) 41]) rfl rfl ?_ ?_
  · simp only [List.map_cons, List.map_nil, List.cons_append, List.nil_append]
    (repeat' (first | ((with_reducible apply gL); (first | refine yL0 ?_ | refine yL ?_ | (refine yM ?_; intro _) | fail)) | ((with_reducible apply gD); (first | (refine JD_nil ?_; try simp only [List.cons_append, List.nil_append]) | (refine JD_bar ?_; try simp only [List.cons_append, List.nil_append]) | refine yD0 ?_ | refine yD ?_ | ((with_reducible apply gD_gd); (first | (refine JD_guard xR xR ?_ ?_ <;> intro _ <;> (try (exfalso; first | contradiction | omega))) | (refine JD_guardb xR xR ?_ ?_ <;> (intro hgb; subst hgb)) | (refine JD_guardb xR xR ?_ ?_ <;> (intro hgb; fail_if_success (have : type_of% hgb := rfl))) | fail)) | fail)) | refine yJ ?_ | ((with_reducible apply gJ_if); (first | (refine J_if xR ?_ ?_ <;> intro _ <;> (try (exfalso; first | contradiction | omega))) | (refine J_ifb xR ?_ ?_ <;> (intro hgb; subst hgb)) | (refine J_ifb xR ?_ ?_ <;> intro _) | fail)) | refine J_draw (id := 3) [0, 1, 2, 3, 4, 5, 6, 7, 8, 9, 10, 11, 12, 13, 14, 15] [16, 17, 18] mixed xC xD xD ?_ | refine J_draw (id := 5) [0, 1, 2, 3, 4, 5, 6, 7, 9, 10, 8] [11, 12] mixed xC xD xD ?_ | fail))
    exact J_meet ⟨[], t⟩ ⟨rfl, by intro f h; simp at h⟩ ⟨rfl, rfl, rfl, trivial⟩ (fun w H => (owMkTop H xA).sel xZ)
  rintro ⟨C, s⟩ ⟨ht, hC⟩
  dsimp only at ht hC ⊢
  simp only [List.map_cons, List.map_nil, List.cons_append, List.nil_append]
  have hws := ((wf_plug C s).1 (ht ▸ hw)).2
  cases s with
  | nil =>
    (repeat' (first | ((with_reducible apply gL); (first | refine yL0 ?_ | ((with_reducible apply gL_load); (first | refine JL_p rfl xR xR (pe_ldH xR xC (fun w hr => hole_see hr xA)) ?_ | fail)) | refine yL ?_ | (refine yM ?_; intro _) | fail)) | ((with_reducible apply gD); (first | (refine JD_nil ?_; try simp only [List.cons_append, List.nil_append]) | (refine JD_bar ?_; try simp only [List.cons_append, List.nil_append]) | refine yD0 ?_ | ((with_reducible apply gD_load); (first | refine JL_p rfl xR xR (pe_ldH xR xC (fun w hr => hole_see hr xA)) ?_ | fail)) | refine yD ?_ | ((with_reducible apply gD_gd); (first | (refine JD_guard xR xR ?_ ?_ <;> intro _ <;> (try (exfalso; first | contradiction | omega))) | (refine JD_guardb xR xR ?_ ?_ <;> (intro hgb; subst hgb)) | (refine JD_guardb xR xR ?_ ?_ <;> (intro hgb; fail_if_success (have : type_of% hgb := rfl))) | fail)) | fail)) | refine yJ ?_ | ((with_reducible apply gJ_if); (first | (refine J_if xR ?_ ?_ <;> intro _ <;> (try (exfalso; first | contradiction | omega))) | (refine J_ifb xR ?_ ?_ <;> (intro hgb; subst hgb)) | (refine J_ifb xR ?_ ?_ <;> intro _) | fail)) | refine J_draw (id := 3) [0, 1, 2, 3, 4, 5, 6, 7, 8, 9, 10, 11, 12, 13, 14, 15] [16, 17, 18] mixed xC xD xD ?_ | refine J_draw (id := 5) [0, 1, 2, 3, 4, 5, 6, 7, 9, 10, 8] [11, 12] mixed xC xD xD ?_ | fail))
    exact J_ret1 rfl (by rfl) fun w H => ⟨_, ⟨C, .nil, ht, hC, by intro q hq; simp [top] at hq, rfl, rfl⟩, H.sel xZ⟩
  | node b q has v k0 k1 =>
    refine J_heap (fun w H => owNodeO H xA) ?_
    by_cases hq : q.1 = p.1 ∧ q.2 = p.2
    · (repeat' (first | ((with_reducible apply gL); (first | refine yL0 ?_ | ((with_reducible apply gL_load); (first | refine JL_p rfl xR xR (pe_ldH xR xC (fun w hr => hole_see hr xA)) ?_ | fail)) | refine yL ?_ | (refine yM ?_; intro _) | fail)) | ((with_reducible apply gD); (first | (refine JD_nil ?_; try simp only [List.cons_append, List.nil_append]) | (refine JD_bar ?_; try simp only [List.cons_append, List.nil_append]) | refine yD0 ?_ | ((with_reducible apply gD_load); (first | refine JL_p rfl xR xR (pe_ldH xR xC (fun w hr => hole_see hr xA)) ?_ | fail)) | refine yD ?_ | ((with_reducible apply gD_gd); (first | (refine JD_guard xR xR ?_ ?_ <;> intro _ <;> (try (exfalso; first | contradiction | omega))) | (refine JD_guardb xR xR ?_ ?_ <;> (intro hgb; subst hgb)) | (refine JD_guardb xR xR ?_ ?_ <;> (intro hgb; fail_if_success (have : type_of% hgb := rfl))) | fail)) | fail)) | refine yJ ?_ | ((with_reducible apply gJ_if); (first | (refine J_if xR ?_ ?_ <;> intro _ <;> (try (exfalso; first | contradiction | omega))) | (refine J_ifb xR ?_ ?_ <;> (intro hgb; subst hgb)) | (refine J_ifb xR ?_ ?_ <;> intro _) | fail)) | refine J_draw (id := 3) [0, 1, 2, 3, 4, 5, 6, 7, 8, 9, 10, 11, 12, 13, 14, 15] [16, 17, 18] mixed xC xD xD ?_ | refine J_draw (id := 5) [0, 1, 2, 3, 4, 5, 6, 7, 9, 10, 8] [11, 12] mixed xC xD xD ?_ | fail))
      exact J_ret1 rfl (by rfl) fun w H => ⟨_, ⟨C, .node b q has v k0 k1, ht, hC, by intro x hx; cases hx; exact .inl (Prod.ext hq.1 hq.2), rfl, rfl⟩, (owMkNode (H.sb (M := [pts b (ndC q has v (ptr k0) (ptr k1)) 131, trP k0, trP k1]) xZ)).sel xZ⟩
    · have hne : q ≠ p := fun e => hq ⟨by rw [e], by rw [e]⟩
      by_cases hwi : Wi q p
      · have hl := hwi.lt hne
        have h32 := rt_hi hwi.rt2
        rcases bt_cases p.1 q.2 with hb | hb
        · (repeat' (first | ((with_reducible apply gL); (first | refine yL0 ?_ | ((with_reducible apply gL_load); (first | refine JL_p rfl xR xR (pe_ldH xR xC (fun w hr => hole_see hr xA)) ?_ | fail)) | refine yL ?_ | (refine yM ?_; intro _) | fail)) | ((with_reducible apply gD); (first | (refine JD_nil ?_; try simp only [List.cons_append, List.nil_append]) | (refine JD_bar ?_; try simp only [List.cons_append, List.nil_append]) | refine yD0 ?_ | ((with_reducible apply gD_load); (first | refine JL_p rfl xR xR (pe_ldH xR xC (fun w hr => hole_see hr xA)) ?_ | fail)) | refine yD ?_ | ((with_reducible apply gD_go); (first | (refine JD_goq (within_b q p hws.1 hp true (decide_eq_true hwi)) (hφ := xF) (h := ?_); rintro _ _ ⟨rfl, rfl⟩; try simp only [List.cons_append, List.nil_append]) | (refine JD_goq (bit_b p.1 q.2 0 hb hp.1 (rt_lo hwi.rt1) (by omega)) (hφ := xF) (h := ?_); rintro _ _ ⟨rfl, rfl⟩; try simp only [List.cons_append, List.nil_append]) | fail)) | ((with_reducible apply gD_gd); (first | (refine JD_guard xR xR ?_ ?_ <;> intro _ <;> (try (exfalso; first | contradiction | omega))) | (refine JD_guardb xR xR ?_ ?_ <;> (intro hgb; subst hgb)) | (refine JD_guardb xR xR ?_ ?_ <;> (intro hgb; fail_if_success (have : type_of% hgb := rfl))) | fail)) | fail)) | refine yJ ?_ | ((with_reducible apply gJ_if); (first | (refine J_if xR ?_ ?_ <;> intro _ <;> (try (exfalso; first | contradiction | omega))) | (refine J_ifb xR ?_ ?_ <;> (intro hgb; subst hgb)) | (refine J_ifb xR ?_ ?_ <;> intro _) | fail)) | refine J_draw (id := 3) [0, 1, 2, 3, 4, 5, 6, 7, 8, 9, 10, 11, 12, 13, 14, 15] [16, 17, 18] mixed xC xD xD ?_ | refine J_draw (id := 5) [0, 1, 2, 3, 4, 5, 6, 7, 9, 10, 8] [11, 12] mixed xC xD xD ?_ | fail))
          refine J_again ⟨⟨b, q, has, v, false, k1⟩ :: C, k0⟩ (by simp only [szT]; omega) ⟨ht, ?_⟩ ⟨rfl, rfl, rfl, trivial⟩ (fun w H => (owMkFr (f := ⟨b, q, has, v, false, k1⟩) (H.sb (M := [pts b (ndC q has v (ptr k0) (ptr k1)) 131, trP k1, ctxP tb n C (some ⟨b, 0, none⟩)]) xZ)).sel xZ)
          intro f hf
          rcases List.mem_cons.1 hf with rfl | hf
          · exact ⟨hwi, hne, by simp [btB, hb]⟩
          · exact hC f hf
        · (repeat' (first | ((with_reducible apply gL); (first | refine yL0 ?_ | ((with_reducible apply gL_load); (first | refine JL_p rfl xR xR (pe_ldH xR xC (fun w hr => hole_see hr xA)) ?_ | fail)) | refine yL ?_ | (refine yM ?_; intro _) | fail)) | ((with_reducible apply gD); (first | (refine JD_nil ?_; try simp only [List.cons_append, List.nil_append]) | (refine JD_bar ?_; try simp only [List.cons_append, List.nil_append]) | refine yD0 ?_ | ((with_reducible apply gD_load); (first | refine JL_p rfl xR xR (pe_ldH xR xC (fun w hr => hole_see hr xA)) ?_ | fail)) | refine yD ?_ | ((with_reducible apply gD_go); (first | (refine JD_goq (within_b q p hws.1 hp true (decide_eq_true hwi)) (hφ := xF) (h := ?_); rintro _ _ ⟨rfl, rfl⟩; try simp only [List.cons_append, List.nil_append]) | (refine JD_goq (bit_b p.1 q.2 1 hb hp.1 (rt_lo hwi.rt1) (by omega)) (hφ := xF) (h := ?_); rintro _ _ ⟨rfl, rfl⟩; try simp only [List.cons_append, List.nil_append]) | fail)) | ((with_reducible apply gD_gd); (first | (refine JD_guard xR xR ?_ ?_ <;> intro _ <;> (try (exfalso; first | contradiction | omega))) | (refine JD_guardb xR xR ?_ ?_ <;> (intro hgb; subst hgb)) | (refine JD_guardb xR xR ?_ ?_ <;> (intro hgb; fail_if_success (have : type_of% hgb := rfl))) | fail)) | fail)) | refine yJ ?_ | ((with_reducible apply gJ_if); (first | (refine J_if xR ?_ ?_ <;> intro _ <;> (try (exfalso; first | contradiction | omega))) | (refine J_ifb xR ?_ ?_ <;> (intro hgb; subst hgb)) | (refine J_ifb xR ?_ ?_ <;> intro _) | fail)) | refine J_draw (id := 3) [0, 1, 2, 3, 4, 5, 6, 7, 8, 9, 10, 11, 12, 13, 14, 15] [16, 17, 18] mixed xC xD xD ?_ | refine J_draw (id := 5) [0, 1, 2, 3, 4, 5, 6, 7, 9, 10, 8] [11, 12] mixed xC xD xD ?_ | fail))
          refine J_again ⟨⟨b, q, has, v, true, k0⟩ :: C, k1⟩ (by simp only [szT]; omega) ⟨ht, ?_⟩ ⟨rfl, rfl, rfl, trivial⟩ (fun w H => (owMkFr (f := ⟨b, q, has, v, true, k0⟩) (H.sb (M := [pts b (ndC q has v (ptr k0) (ptr k1)) 131, trP k0, ctxP tb n C (some ⟨b, 0, none⟩)]) xZ)).sel xZ)
          intro f hf
          rcases List.mem_cons.1 hf with rfl | hf
          · exact ⟨hwi, hne, by simp [btB, hb]⟩
          · exact hC f hf
      · (repeat' (first | ((with_reducible apply gL); (first | refine yL0 ?_ | ((with_reducible apply gL_load); (first | refine JL_p rfl xR xR (pe_ldH xR xC (fun w hr => hole_see hr xA)) ?_ | fail)) | refine yL ?_ | (refine yM ?_; intro _) | fail)) | ((with_reducible apply gD); (first | (refine JD_nil ?_; try simp only [List.cons_append, List.nil_append]) | (refine JD_bar ?_; try simp only [List.cons_append, List.nil_append]) | refine yD0 ?_ | ((with_reducible apply gD_load); (first | refine JL_p rfl xR xR (pe_ldH xR xC (fun w hr => hole_see hr xA)) ?_ | fail)) | refine yD ?_ | ((with_reducible apply gD_go); (first | (refine JD_goq (within_b q p hws.1 hp false (decide_eq_false hwi)) (hφ := xF) (h := ?_); rintro _ _ ⟨rfl, rfl⟩; try simp only [List.cons_append, List.nil_append]) | fail)) | ((with_reducible apply gD_gd); (first | (refine JD_guard xR xR ?_ ?_ <;> intro _ <;> (try (exfalso; first | contradiction | omega))) | (refine JD_guardb xR xR ?_ ?_ <;> (intro hgb; subst hgb)) | (refine JD_guardb xR xR ?_ ?_ <;> (intro hgb; fail_if_success (have : type_of% hgb := rfl))) | fail)) | fail)) | refine yJ ?_ | ((with_reducible apply gJ_if); (first | (refine J_if xR ?_ ?_ <;> intro _ <;> (try (exfalso; first | contradiction | omega))) | (refine J_ifb xR ?_ ?_ <;> (intro hgb; subst hgb)) | (refine J_ifb xR ?_ ?_ <;> intro _) | fail)) | refine J_draw (id := 3) [0, 1, 2, 3, 4, 5, 6, 7, 8, 9, 10, 11, 12, 13, 14, 15] [16, 17, 18] mixed xC xD xD ?_ | refine J_draw (id := 5) [0, 1, 2, 3, 4, 5, 6, 7, 9, 10, 8] [11, 12] mixed xC xD xD ?_ | fail))
        exact J_ret1 rfl (by rfl) fun w H => ⟨_, ⟨C, .node b q has v k0 k1, ht, hC, by intro x hx; cases hx; exact .inr hwi, rfl, rfl⟩, (owMkNode (H.sb (M := [pts b (ndC q has v (ptr k0) (ptr k1)) 131, trP k0, trP k1]) xZ)).sel xZ⟩
end Go.Proofs.YtnhabkipjmgaaaaGreat.T
namespace Go.Proofs.YtnhabkipjmgaaaaGreat.T
set_option linter.unusedSimpArgs false
set_option linter.unusedVariables false
set_option maxRecDepth 20000
set_option maxHeartbeats 4000000
open Go.RowKit Go.Pm


def hereV (p : Pf) : Tr → Option Vt
  | .nil => none
  | .node _ q has v _ _ => if q = p ∧ has = true then some v else none
theorem kids_ne {r : Pf} {b : Nat} {p : Pf} {has : Bool} {v : Vt} {k0 k1 : Tr} (hw : wf r (.node b p has v k0 k1)) {e : Ent} (he : e ∈ ents k0 ∨ e ∈ ents k1) : e.1 ≠ p := by
  obtain ⟨hn, hv, hr, h0, h1⟩ := hw
  rcases he with he | he
  · exact (kid_wi (wf_wi h0 he).1 hr.rt2).2.1.symm
  · exact (kid_wi (wf_wi h1 he).1 hr.rt2).2.1.symm
theorem found_res {C : List Fr} {s : Tr} {p : Pf} (hw : wf (0, 0) (plug C s)) (hp : Path p C) (hF : Found p s) (hr : Rt p) : getL (ents (plug C s)) p = hereV p s := by
  have hs := ((wf_plug C s).1 hw).2
  have none_of : (∀ e ∈ ents s, e.1 ≠ p) → getL (ents (plug C s)) p = none := fun h => getL_none.2 fun e he hk => h e (found_get hw hp hr he hk) hk
  cases s with
  | nil => exact none_of (by simp [ents])
  | node b q has v k0 k1 =>
    show _ = if q = p ∧ has = true then some v else none
    by_cases hq : q = p
    · subst hq
      cases has
      · rw [if_neg (by simp)]
        exact none_of fun e he => kids_ne hs (by simpa [ents] using he)
      · rw [if_pos ⟨rfl, rfl⟩]
        exact (getL_mem (wf_srt hw)).2 (mem_plug.2 (.inl (by simp [ents])))
    · rw [if_neg (fun h => hq h.1)]
      exact none_of (found_none hs hq ((hF q rfl).resolve_left hq))
theorem getL_notRt {t : Tr} {p : Pf} (hw : wf (0, 0) t) (h : ¬ Rt p) : getL (ents t) p = none := getL_none.2 fun e he hk => h (hk ▸ (wf_wi hw he).1.rt2)
abbrev optV (o : Option Vt) : Value := .tuple [.agg (vC (o.getD zV)).toArray, .bool o.isSome].toArray
abbrev TrieL (tb : Nat) (n : Int) (t : Tr) : List HP := [pts tb (trC (ptr t) n true) 117, trP t]
theorem get_s (tb : Nat) (n : Int) (t : Tr) (p : Pf) (hp : PfN p) (hw : wf (0, 0) t) : Pact Tryz.prog 44 #[.pointer (some ⟨tb, 0, none⟩), .agg (pfC p).toArray] (fun _ => True) [pts tb (trC (ptr t) n true) 117, trP t] (fun v L' => v = optV (getL (ents t) p) ∧ L' = TrieL tb n t) := by
  refine pact Tryz.func44 rfl Tryz.ntmps44 rfl ?_
  intro W K _
  by_cases hr : Rt p
  · (repeat' (first | ((with_reducible apply gL); (first | refine yL0 ?_ | refine yL ?_ | ((with_reducible apply gL_go); (first | (refine JL_goq (is_s tb (ptr t) n true) (hφ := xF) (h := ?_); rintro _ _ ⟨rfl, rfl⟩; try simp only [List.cons_append, List.nil_append]) | (refine JL_goq (right_b p hp true (decide_eq_true hr)) (hφ := xF) (h := ?_); rintro _ _ ⟨rfl, rfl⟩; try simp only [List.cons_append, List.nil_append]) | (refine JL_goq (find_s tb n t p hp hw) (hφ := xF) (h := ?_); rintro _ _ ⟨C, s, ht, hC, hF, rfl, rfl⟩; try simp only [List.cons_append, List.nil_append]) | fail)) | (refine yM ?_; intro _) | ((with_reducible apply gL_gd); (first | (refine JL_guard xR xR ?_ ?_ <;> intro _ <;> (try (exfalso; first | contradiction | omega))) | (refine JL_guardb xR xR ?_ ?_ <;> (intro hgb; subst hgb)) | (refine JL_guardb xR xR ?_ ?_ <;> (intro hgb; fail_if_success (have : type_of% hgb := rfl))) | fail)) | fail)) | ((with_reducible apply gD); (first | (refine JD_nil ?_; try simp only [List.cons_append, List.nil_append]) | (refine JD_bar ?_; try simp only [List.cons_append, List.nil_append]) | refine yD0 ?_ | refine yD ?_ | ((with_reducible apply gD_gd); (first | (refine JD_guard xR xR ?_ ?_ <;> intro _ <;> (try (exfalso; first | contradiction | omega))) | (refine JD_guardb xR xR ?_ ?_ <;> (intro hgb; subst hgb)) | (refine JD_guardb xR xR ?_ ?_ <;> (intro hgb; fail_if_success (have : type_of% hgb := rfl))) | fail)) | fail)) | refine yJ ?_ | ((with_reducible apply gJ_if); (first | (refine J_if xR ?_ ?_ <;> intro _ <;> (try (exfalso; first | contradiction | omega))) | (refine J_ifb xR ?_ ?_ <;> (intro hgb; subst hgb)) | (refine J_ifb xR ?_ ?_ <;> intro _) | fail)) | refine J_draw (id := 5) [0, 1, 2, 3, 4, 5, 6, 7] [8, 9, 10, 11, 12, 13, 14, 15, 16] mixed xC xD xD ?_ | fail))
    subst ht
    have hs := ((wf_plug C s).1 hw).2
    have hg := found_res hw hC hF hr
    rw [hg]
    cases s with
    | nil =>
      (repeat' (first | ((with_reducible apply gL); (first | refine yL0 ?_ | ((with_reducible apply gL_load); (first | refine JL_p rfl xR xR (pe_ldH xR xC (fun w hr => hole_see hr xA)) ?_ | fail)) | refine yL ?_ | (refine yM ?_; intro _) | ((with_reducible apply gL_gd); (first | (refine JL_guard xR xR ?_ ?_ <;> intro _ <;> (try (exfalso; first | contradiction | omega))) | (refine JL_guardb xR xR ?_ ?_ <;> (intro hgb; subst hgb)) | (refine JL_guardb xR xR ?_ ?_ <;> (intro hgb; fail_if_success (have : type_of% hgb := rfl))) | fail)) | fail)) | ((with_reducible apply gD); (first | (refine JD_nil ?_; try simp only [List.cons_append, List.nil_append]) | (refine JD_bar ?_; try simp only [List.cons_append, List.nil_append]) | refine yD0 ?_ | ((with_reducible apply gD_load); (first | refine JL_p rfl xR xR (pe_ldH xR xC (fun w hr => hole_see hr xA)) ?_ | fail)) | refine yD ?_ | ((with_reducible apply gD_gd); (first | (refine JD_guard xR xR ?_ ?_ <;> intro _ <;> (try (exfalso; first | contradiction | omega))) | (refine JD_guardb xR xR ?_ ?_ <;> (intro hgb; subst hgb)) | (refine JD_guardb xR xR ?_ ?_ <;> (intro hgb; fail_if_success (have : type_of% hgb := rfl))) | fail)) | fail)) | refine yJ ?_ | ((with_reducible apply gJ_if); (first | (refine J_if xR ?_ ?_ <;> intro _ <;> (try (exfalso; first | contradiction | omega))) | (refine J_ifb xR ?_ ?_ <;> (intro hgb; subst hgb)) | (refine J_ifb xR ?_ ?_ <;> intro _) | fail)) | refine J_draw (id := 5) [0, 1, 2, 3, 4, 5, 6, 7] [8, 9, 10, 11, 12, 13, 14, 15, 16] mixed xC xD xD ?_ | fail))
      exact J_retC1 (cs := vC zV) rfl (by rfl) (by rfl) xA (by rfl) fun w H => ⟨_, ⟨rfl, rfl⟩, (owPlug (C := C) (s := .nil) (H.sb (M := [ctxP tb n C (ptr .nil), trP .nil]) xZ)).sel xZ⟩
    | node b q has v k0 k1 =>
      refine JL_heap (fun w H => owNodeO H xA) ?_
      have back : ∀ {R : List HP} {w : World}, Ow W K (pts b (ndC q has v (ptr k0) (ptr k1)) 131 :: trP k0 :: trP k1 :: ctxP tb n C (ptr (.node b q has v k0 k1)) :: R) w → Ow W K (pts tb (trC (ptr (plug C (.node b q has v k0 k1))) n true) 117 :: trP (plug C (.node b q has v k0 k1)) :: R) w := fun H => owPlug (C := C) (s := .node b q has v k0 k1) ((owMkNode H).perm (.swap ..))
      by_cases hq : q.1 = p.1 ∧ q.2 = p.2
      · obtain rfl : q = p := Prod.ext hq.1 hq.2
        cases has
        · (repeat' (first | ((with_reducible apply gL); (first | refine yL0 ?_ | ((with_reducible apply gL_load); (first | refine JL_p rfl xR xR (pe_ldH xR xC (fun w hr => hole_see hr xA)) ?_ | fail)) | refine yL ?_ | (refine yM ?_; intro _) | ((with_reducible apply gL_gd); (first | (refine JL_guard xR xR ?_ ?_ <;> intro _ <;> (try (exfalso; first | contradiction | omega))) | (refine JL_guardb xR xR ?_ ?_ <;> (intro hgb; subst hgb)) | (refine JL_guardb xR xR ?_ ?_ <;> (intro hgb; fail_if_success (have : type_of% hgb := rfl))) | fail)) | fail)) | ((with_reducible apply gD); (first | (refine JD_nil ?_; try simp only [List.cons_append, List.nil_append]) | (refine JD_bar ?_; try simp only [List.cons_append, List.nil_append]) | refine yD0 ?_ | ((with_reducible apply gD_load); (first | refine JL_p rfl xR xR (pe_ldH xR xC (fun w hr => hole_see hr xA)) ?_ | fail)) | refine yD ?_ | ((with_reducible apply gD_gd); (first | (refine JD_guard xR xR ?_ ?_ <;> intro _ <;> (try (exfalso; first | contradiction | omega))) | (refine JD_guardb xR xR ?_ ?_ <;> (intro hgb; subst hgb)) | (refine JD_guardb xR xR ?_ ?_ <;> (intro hgb; fail_if_success (have : type_of% hgb := rfl))) | fail)) | fail)) | refine yJ ?_ | ((with_reducible apply gJ_if); (first | (refine J_if xR ?_ ?_ <;> intro _ <;> (try (exfalso; first | contradiction | omega))) | (refine J_ifb xR ?_ ?_ <;> (intro hgb; subst hgb)) | (refine J_ifb xR ?_ ?_ <;> intro _) | fail)) | refine J_draw (id := 5) [0, 1, 2, 3, 4, 5, 6, 7] [8, 9, 10, 11, 12, 13, 14, 15, 16] mixed xC xD xD ?_ | fail))
          exact J_retC1 (cs := vC zV) rfl (by rfl) (by rfl) xA (by rfl) fun w H => ⟨_, ⟨by simp [hereV, optV], rfl⟩, (back (H.sb (M := [pts b (ndC q false v (ptr k0) (ptr k1)) 131, trP k0, trP k1, ctxP tb n C (ptr (.node b q false v k0 k1))]) xZ)).sel xZ⟩
        · (repeat' (first | ((with_reducible apply gL); (first | refine yL0 ?_ | ((with_reducible apply gL_load); (first | refine JL_p rfl xR xR (pe_ldH xR xC (fun w hr => hole_see hr xA)) ?_ | fail)) | refine yL ?_ | (refine yM ?_; intro _) | ((with_reducible apply gL_gd); (first | (refine JL_guard xR xR ?_ ?_ <;> intro _ <;> (try (exfalso; first | contradiction | omega))) | (refine JL_guardb xR xR ?_ ?_ <;> (intro hgb; subst hgb)) | (refine JL_guardb xR xR ?_ ?_ <;> (intro hgb; fail_if_success (have : type_of% hgb := rfl))) | fail)) | fail)) | ((with_reducible apply gD); (first | (refine JD_nil ?_; try simp only [List.cons_append, List.nil_append]) | (refine JD_bar ?_; try simp only [List.cons_append, List.nil_append]) | refine yD0 ?_ | ((with_reducible apply gD_load); (first | refine JL_p rfl xR xR (pe_ldH xR xC (fun w hr => hole_see hr xA)) ?_ | fail)) | refine yD ?_ | ((with_reducible apply gD_gd); (first | (refine JD_guard xR xR ?_ ?_ <;> intro _ <;> (try (exfalso; first | contradiction | omega))) | (refine JD_guardb xR xR ?_ ?_ <;> (intro hgb; subst hgb)) | (refine JD_guardb xR xR ?_ ?_ <;> (intro hgb; fail_if_success (have : type_of% hgb := rfl))) | fail)) | fail)) | refine yJ ?_ | ((with_reducible apply gJ_if); (first | (refine J_if xR ?_ ?_ <;> intro _ <;> (try (exfalso; first | contradiction | omega))) | (refine J_ifb xR ?_ ?_ <;> (intro hgb; subst hgb)) | (refine J_ifb xR ?_ ?_ <;> intro _) | fail)) | refine J_draw (id := 5) [0, 1, 2, 3, 4, 5, 6, 7] [8, 9, 10, 11, 12, 13, 14, 15, 16] mixed xC xD xD ?_ | fail))
          exact J_retC1 (cs := vC v) rfl (by rfl) (by rfl) xA (by rfl) fun w H => ⟨_, ⟨by simp [hereV, optV], rfl⟩, (back (H.sb (M := [pts b (ndC q true v (ptr k0) (ptr k1)) 131, trP k0, trP k1, ctxP tb n C (ptr (.node b q true v k0 k1))]) xZ)).sel xZ⟩
      · have hne : q ≠ p := fun e => hq ⟨by rw [e], by rw [e]⟩
        (repeat' (first | ((with_reducible apply gL); (first | refine yL0 ?_ | ((with_reducible apply gL_load); (first | refine JL_p rfl xR xR (pe_ldH xR xC (fun w hr => hole_see hr xA)) ?_ | fail)) | refine yL ?_ | (refine yM ?_; intro _) | ((with_reducible apply gL_gd); (first | (refine JL_guard xR xR ?_ ?_ <;> intro _ <;> (try (exfalso; first | contradiction | omega))) | (refine JL_guardb xR xR ?_ ?_ <;> (intro hgb; subst hgb)) | (refine JL_guardb xR xR ?_ ?_ <;> (intro hgb; fail_if_success (have : type_of% hgb := rfl))) | fail)) | fail)) | ((with_reducible apply gD); (first | (refine JD_nil ?_; try simp only [List.cons_append, List.nil_append]) | (refine JD_bar ?_; try simp only [List.cons_append, List.nil_append]) | refine yD0 ?_ | ((with_reducible apply gD_load); (first | refine JL_p rfl xR xR (pe_ldH xR xC (fun w hr => hole_see hr xA)) ?_ | fail)) | refine yD ?_ | ((with_reducible apply gD_gd); (first | (refine JD_guard xR xR ?_ ?_ <;> intro _ <;> (try (exfalso; first | contradiction | omega))) | (refine JD_guardb xR xR ?_ ?_ <;> (intro hgb; subst hgb)) | (refine JD_guardb xR xR ?_ ?_ <;> (intro hgb; fail_if_success (have : type_of% hgb := rfl))) | fail)) | fail)) | refine yJ ?_ | ((with_reducible apply gJ_if); (first | (refine J_if xR ?_ ?_ <;> intro _ <;> (try (exfalso; first | contradiction | omega))) | (refine J_ifb xR ?_ ?_ <;> (intro hgb; subst hgb)) | (refine J_ifb xR ?_ ?_ <;> intro _) | fail)) | refine J_draw (id := 5) [0, 1, 2, 3, 4, 5, 6, 7] [8, 9, 10, 11, 12, 13, 14, 15, 16] mixed xC xD xD ?_ | fail))
        exact J_retC1 (cs := vC zV) rfl (by rfl) (by rfl) xA (by rfl) fun w H => ⟨_, ⟨by simp [hereV, optV, hne], rfl⟩, (back (H.sb (M := [pts b (ndC q has v (ptr k0) (ptr k1)) 131, trP k0, trP k1, ctxP tb n C (ptr (.node b q has v k0 k1))]) xZ)).sel xZ⟩
  · rw [getL_notRt hw hr]
    (repeat' (first | ((with_reducible apply gL); (first | refine yL0 ?_ | refine yL ?_ | ((with_reducible apply gL_go); (first | (refine JL_goq (is_s tb (ptr t) n true) (hφ := xF) (h := ?_); rintro _ _ ⟨rfl, rfl⟩; try simp only [List.cons_append, List.nil_append]) | (refine JL_goq (right_b p hp false (decide_eq_false hr)) (hφ := xF) (h := ?_); rintro _ _ ⟨rfl, rfl⟩; try simp only [List.cons_append, List.nil_append]) | fail)) | (refine yM ?_; intro _) | ((with_reducible apply gL_gd); (first | (refine JL_guard xR xR ?_ ?_ <;> intro _ <;> (try (exfalso; first | contradiction | omega))) | (refine JL_guardb xR xR ?_ ?_ <;> (intro hgb; subst hgb)) | (refine JL_guardb xR xR ?_ ?_ <;> (intro hgb; fail_if_success (have : type_of% hgb := rfl))) | fail)) | fail)) | ((with_reducible apply gD); (first | (refine JD_nil ?_; try simp only [List.cons_append, List.nil_append]) | (refine JD_bar ?_; try simp only [List.cons_append, List.nil_append]) | refine yD0 ?_ | refine yD ?_ | ((with_reducible apply gD_gd); (first | (refine JD_guard xR xR ?_ ?_ <;> intro _ <;> (try (exfalso; first | contradiction | omega))) | (refine JD_guardb xR xR ?_ ?_ <;> (intro hgb; subst hgb)) | (refine JD_guardb xR xR ?_ ?_ <;> (intro hgb; fail_if_success (have : type_of% hgb := rfl))) | fail)) | fail)) | refine yJ ?_ | ((with_reducible apply gJ_if); (first | (refine J_if xR ?_ ?_ <;> intro _ <;> (try (exfalso; first | contradiction | omega))) | (refine J_ifb xR ?_ ?_ <;> (intro hgb; subst hgb)) | (refine J_ifb xR ?_ ?_ <;> intro _) | fail)) | refine J_draw (id := 5) [0, 1, 2, 3, 4, 5, 6, 7] [8, 9, 10, 11, 12, 13, 14, 15, 16] mixed xC xD xD ?_ | fail))
    exact J_retC1 (cs := vC zV) rfl (by rfl) (by rfl) xA (by rfl) fun w H => ⟨_, ⟨rfl, rfl⟩, H.sel xZ⟩
/-- The only kid. -/
theorem only_s (b : Nat) (q : Pf) (has : Bool) (v : Vt) (a0 a1 : Option Addr) : Pact Tryz.prog 124 #[.pointer (some ⟨b, 0, none⟩)] (fun _ => True) [pts b (ndC q has v a0 a1) 131] (fun u L' => u = .tuple [.pointer (if a0.isSome && a1.isSome then none else if a0.isSome then a0 else a1), .bool (!(a0.isSome && a1.isSome))].toArray ∧ L' = [pts b (ndC q has v a0 a1) 131]) := by
  refine pact Tryz.func124 rfl Tryz.ntmps124 rfl ?_
  intro W K _
  cases a0 <;> cases a1
  all_goals (repeat' (first | ((with_reducible apply gL); (first | refine yL0 ?_ | refine yL ?_ | ((with_reducible apply gL_gd); (first | (refine JL_guard xR xR ?_ ?_ <;> intro _ <;> (try (exfalso; first | contradiction | omega))) | (refine JL_guardb xR xR ?_ ?_ <;> (intro hgb; subst hgb)) | (refine JL_guardb xR xR ?_ ?_ <;> (intro hgb; fail_if_success (have : type_of% hgb := rfl))) | fail)) | fail)) | refine yJ ?_ | ((with_reducible apply gJ_if); (first | (refine J_if xR ?_ ?_ <;> intro _ <;> (try (exfalso; first | contradiction | omega))) | (refine J_ifb xR ?_ ?_ <;> (intro hgb; subst hgb)) | (refine J_ifb xR ?_ ?_ <;> intro _) | fail)) | fail))
  all_goals exact J_ret2 rfl (by rfl) (by rfl) fun w H => ⟨_, ⟨rfl, rfl⟩, H.sel xZ⟩
end Go.Proofs.YtnhabkipjmgaaaaGreat.T
namespace Go.Proofs.YtnhabkipjmgaaaaGreat.T
set_option linter.unusedSimpArgs false
set_option linter.unusedVariables false
set_option maxRecDepth 20000
set_option maxHeartbeats 4000000
open Go.RowKit Go.Pm


theorem hole_st {W : World} {K : Hl} {R : List HP} {w : World} {tb : Nat} {n : Int} {C : List Fr} {h h' : Option Addr} (H : Ow W K (ctxP tb n C h :: R) w) : ∃ u, w.cell? (holeA tb C) = some u ∧ w.frozen? (holeA tb C) = false ∧ Ow W K (ctxP tb n C h' :: R) (w.setCell (holeA tb C) (.pointer h')) := by
  obtain ⟨a, b, c⟩ := hole_cell H
  exact ⟨_, a, b, c h'⟩
/-- What is inserted. -/
structure InsOk (r : Pf) (p : Pf) (v : Vt) (s s' : Tr) : Prop where
  w : wf r s'
  m : ∀ e, e ∈ ents s' ↔ e = (p, v) ∨ (e ∈ ents s ∧ e.1 ≠ p)
theorem ins_nil {r p : Pf} {v : Vt} {bx : Nat} (hp : PfN p) (hv : VN v) (hr : Wi r p) : InsOk r p v .nil (.node bx p true v .nil .nil) :=
  ⟨⟨hp, hv, hr, trivial, trivial⟩, fun e => by simp [ents]⟩
theorem ins_mem {b : Nat} {q p : Pf} {has : Bool} {v : Vt} {k0 k1 : Tr} {r : Pf} (hw : wf r (.node b q has v k0 k1)) (hq : q ≠ p) (hf : ¬ Wi q p) {e : Ent} : e ∈ ents (.node b q has v k0 k1) ↔ e ∈ ents (.node b q has v k0 k1) ∧ e.1 ≠ p :=
  ⟨fun h => ⟨h, found_none hw hq hf e h⟩, fun h => h.1⟩
theorem ins_kid {r p q : Pf} {v vo : Vt} {bx b : Nat} {has : Bool} {k0 k1 : Tr} (hp : PfN p) (hv : VN v) (hr : Wi r p) (hw : wf r (.node b q has vo k0 k1)) (hq : q ≠ p) (hf : ¬ Wi q p) (hpq : Wi p q) :
    InsOk r p v (.node b q has vo k0 k1) (if btB q.1 p.2 then .node bx p true v .nil (.node b q has vo k0 k1) else .node bx p true v (.node b q has vo k0 k1) .nil) := by
  have hk := (wi_kid hpq (Ne.symm hq)).2
  cases hb : btB q.1 p.2
  · rw [hb] at hk
    simp only [Bool.false_eq_true, if_false]
    refine ⟨⟨hp, hv, hr, ⟨hw.1, hw.2.1, hk, hw.2.2.2⟩, trivial⟩, fun e => ?_⟩
    rw [← ins_mem hw hq hf]
    simp [ents]
  · rw [hb] at hk
    simp only [if_true]
    refine ⟨⟨hp, hv, hr, trivial, ⟨hw.1, hw.2.1, hk, hw.2.2.2⟩⟩, fun e => ?_⟩
    rw [← ins_mem hw hq hf]
    simp [ents]
theorem com_wi {p : Pf} {m : Int} (rp : Rt p) (h0 : 0 ≤ m) (h1 : m ≤ p.2) : Rt (p.1 - p.1 % pw m, m) ∧ Wi (p.1 - p.1 % pw m, m) p := by
  have e1 := Int.mul_ediv_add_emod p.1 (pw m)
  have e2 : p.1 - p.1 % pw m = pw m * (p.1 / pw m) := by omega
  have hr : Rt (p.1 - p.1 % pw m, m) := ⟨h0, Int.le_trans h1 (rt_hi rp), by show (p.1 - p.1 % pw m) % pw m = 0; rw [e2, Int.mul_emod_right]⟩
  refine ⟨hr, hr, rp, h1, ?_⟩
  show p.1 / pw m = (p.1 - p.1 % pw m) / pw m
  rw [e2, Int.mul_ediv_cancel_left _ (Int.ne_of_gt (pw_pos m))]
theorem com_sym {p q : Pf} {m : Int} (h : p.1 / pw m = q.1 / pw m) : (p.1 - p.1 % pw m, m) = (q.1 - q.1 % pw m, m) := by
  have e1 := Int.mul_ediv_add_emod p.1 (pw m)
  have e2 := Int.mul_ediv_add_emod q.1 (pw m)
  rw [h] at e1
  refine Prod.ext ?_ rfl
  show p.1 - p.1 % pw m = q.1 - q.1 % pw m
  omega
theorem btB_eq (a l : Int) (i : Int) (h : bt a l = i) : btB a l = decide (i = 1) := by unfold btB; rw [h]
theorem ins_fork {r p q : Pf} {v vo : Vt} {m : Int} {bx b bf : Nat} {has : Bool} {k0 k1 : Tr} (hp : PfN p) (hv : VN v) (hr : Wi r p) (hw : wf r (.node b q has vo k0 k1)) (hq : q ≠ p) (hf : ¬ Wi q p) (h0 : 0 ≤ m) (h1 : m ≤ p.2) (h2 : m ≤ q.2) (h3 : p.1 / pw m = q.1 / pw m)
    (h4 : m < p.2 → m < q.2 → bt p.1 m ≠ bt q.1 m) (hc : ¬ (p.1 - p.1 % pw m = p.1 ∧ m = p.2)) :
    m < p.2 ∧ m < q.2 ∧ bt p.1 m ≠ bt q.1 m ∧ InsOk r p v (.node b q has vo k0 k1) (if btB p.1 m then .node bf (p.1 - p.1 % pw m, m) false zV (.node b q has vo k0 k1) (.node bx p true v .nil .nil) else .node bf (p.1 - p.1 % pw m, m) false zV (.node bx p true v .nil .nil) (.node b q has vo k0 k1)) := by
  have rp := hr.rt2
  have rq := hw.2.2.1.rt2
  obtain ⟨rc, wp⟩ := com_wi rp h0 h1
  have wq : Wi (p.1 - p.1 % pw m, m) q := by rw [com_sym h3]; exact (com_wi rq h0 h2).2
  have np : (p.1 - p.1 % pw m, m) ≠ p := fun e => hc ⟨congrArg Prod.fst e, congrArg Prod.snd e⟩
  have l1 : m < p.2 := wp.lt np
  have nq : (p.1 - p.1 % pw m, m) ≠ q := fun e => hf (by rw [← e]; exact wp)
  have l2 : m < q.2 := wq.lt nq
  have hb := h4 l1 l2
  have kp := (wi_kid wp np).2
  have kq := (wi_kid wq nq).2
  have rl : r.2 ≤ m := by
    rcases Int.lt_or_le m r.2 with hlt | hle
    · exfalso
      have a1 := hr.2.2.2
      have a2 := hw.2.2.1.2.2.2
      have a3 : p.1 / pw (m + 1) = q.1 / pw (m + 1) := by
        rw [div_pw p.1 (m + 1) r.2 (by omega) (by omega) (rt_hi hr.1), div_pw q.1 (m + 1) r.2 (by omega) (by omega) (rt_hi hr.1), a1, a2]
      have b1 := bt_div p.1 m h0 (by have := rt_hi rp; omega)
      have b2 := bt_div q.1 m h0 (by have := rt_hi rp; omega)
      omega
    · exact hle
  have wr : Wi r (p.1 - p.1 % pw m, m) := hr.comp wp rl
  have hcn : PfN (p.1 - p.1 % pw m, m) := ⟨mask_fits p.1 m hp.1 h0, by have := rt_hi rp; unfold I64; show -9223372036854775808 ≤ m ∧ m ≤ 9223372036854775807; omega⟩
  have hz : VN zV := by unfold VN I64 zV; decide
  refine ⟨l1, l2, hb, ?_⟩
  have c1 := bt_cases p.1 m
  have c2 := bt_cases q.1 m
  have hbq : btB q.1 m = !btB p.1 m := by
    unfold btB
    rcases c1 with c1 | c1 <;> rcases c2 with c2 | c2 <;> rw [c1, c2] at hb ⊢ <;> first | rfl | (exact absurd rfl hb)
  have kq' : Wi (kid (p.1 - p.1 % pw m, m) (!btB p.1 m)) q := by rw [← hbq]; exact kq
  have kp' : Wi (kid (p.1 - p.1 % pw m, m) (btB p.1 m)) p := kp
  cases hbb : btB p.1 m
  · rw [hbb] at kp' kq'
    simp only [Bool.false_eq_true, if_false]
    refine ⟨⟨hcn, hz, wr, ⟨hp, hv, kp', trivial, trivial⟩, ⟨hw.1, hw.2.1, kq', hw.2.2.2⟩⟩, fun e => ?_⟩
    rw [← ins_mem hw hq hf]
    simp [ents]
  · rw [hbb] at kp' kq'
    simp only [if_true]
    refine ⟨⟨hcn, hz, wr, ⟨hw.1, hw.2.1, kq', hw.2.2.2⟩, ⟨hp, hv, kp', trivial, trivial⟩⟩, fun e => ?_⟩
    rw [← ins_mem hw hq hf]
    simp only [ents, List.mem_append]
    cases has <;> simp [or_comm, or_left_comm, or_assoc]
theorem owX {W : World} {K : Hl} {L R : List HP} {w : World} {bx : Nat} {p : Pf} {v : Vt} (H : Ow W K L w) (t : Tk L (pts bx (ndC p true v none none) 131) R) : Ow W K (trP (.node bx p true v .nil .nil) :: R) w :=
  owMkNode (p := p) (has := true) (v := v) (k0 := .nil) (k1 := .nil) ((owMkNil (owMkNil (H.tk t))).sb (M := [pts bx (ndC p true v none none) 131, trP .nil, trP .nil]) (.cons (.there (.there .here)) (.cons .here (.cons .here .nil))))
/-- Behind insert. -/
def InsR (tb : Nat) (n : Int) (C : List Fr) (p : Pf) (v : Vt) (s : Tr) (_ : Value) (L' : List HP) : Prop := ∃ s', InsOk (hreg C) p v s s' ∧ L' = [ctxP tb n C (ptr s'), trP s']
theorem insert_s (tb : Nat) (n : Int) (C : List Fr) (s : Tr) (bx : Nat) (p : Pf) (v : Vt) (hp : PfN p) (hv : VN v) (hw : wf (hreg C) s) (hr : Wi (hreg C) p) (hF : ∀ q, top s = some q → q ≠ p ∧ ¬ Wi q p) :
    Pact Tryz.prog 80 #[.pointer (some ⟨bx, 0, none⟩), .pointer (some (holeA tb C))] (fun _ => True) [pts bx (ndC p true v none none) 131, ctxP tb n C (ptr s), trP s] (InsR tb n C p v s) := by
  refine pact Tryz.func80 rfl Tryz.ntmps80 rfl ?_
  intro W K _
  cases s with
  | nil =>
    (repeat' (first | ((with_reducible apply gL); (first | refine yL0 ?_ | ((with_reducible apply gL_load); (first | refine JL_p rfl xR xR (pe_ldH xR xC (fun w hr => hole_see hr xA)) ?_ | fail)) | ((with_reducible apply gL_store); (first | refine JL_stH (A := ctxP tb n C _) (B := ctxP tb n C _) xR xR xC xR xA (fun W K' w H => hole_st H) xR ?_ | fail)) | refine yL ?_ | (refine yM ?_; intro _) | fail)) | ((with_reducible apply gD); (first | (refine JD_nil ?_; try simp only [List.cons_append, List.nil_append]) | (refine JD_bar ?_; try simp only [List.cons_append, List.nil_append]) | ((with_reducible apply gD_load); (first | refine JL_p rfl xR xR (pe_ldH xR xC (fun w hr => hole_see hr xA)) ?_ | fail)) | ((with_reducible apply gD_store); (first | refine JL_stH (A := ctxP tb n C _) (B := ctxP tb n C _) xR xR xC xR xA (fun W K' w H => hole_st H) xR ?_ | fail)) | refine yD ?_ | (refine yE ?_; intro _) | fail)) | refine yJ ?_ | ((with_reducible apply gJ_if); (first | (refine J_if xR ?_ ?_ <;> intro _ <;> (try (exfalso; first | contradiction | omega))) | (refine J_ifb xR ?_ ?_ <;> (intro hgb; subst hgb)) | (refine J_ifb xR ?_ ?_ <;> intro _) | fail)) | refine J_draw (id := 3) [0, 1, 2, 3, 4, 5, 6, 7, 8, 9] [10] mixed xC xD xD ?_ | refine J_draw (id := 4) [0, 1, 2, 3, 4] [5] mixed xC xD xD ?_ | refine J_draw (id := 6) [0, 1, 2, 3, 4, 5, 6, 7, 9, 10, 11, 8] [12, 13] mixed xC xD xD ?_ | refine J_draw (id := 8) [0, 1, 2, 3, 4, 5, 6, 7, 8, 9, 10, 12, 13, 14, 11] [15, 16] mixed xC xD xD ?_ | fail))
    exact J_ret0 rfl fun w H => ⟨_, ⟨.node bx p true v .nil .nil, ins_nil hp hv hr, rfl⟩, (owMkNode (p := p) (has := true) (v := v) (k0 := .nil) (k1 := .nil) ((owMkNil (owMkNil H)).sb (M := [pts bx (ndC p true v none none) 131, trP .nil, trP .nil]) xZ)).sel xZ⟩
  | node b q has vo k0 k1 =>
    obtain ⟨hq, hf⟩ := hF q rfl
    have rp := hr.rt2
    have rq := hw.2.2.1.rt2
    refine J_heap (fun w H => owNodeO H xA) ?_
    (repeat' (first | ((with_reducible apply gL); (first | refine yL0 ?_ | ((with_reducible apply gL_load); (first | refine JL_p rfl xR xR (pe_ldH xR xC (fun w hr => hole_see hr xA)) ?_ | fail)) | ((with_reducible apply gL_store); (first | refine JL_stH (A := ctxP tb n C _) (B := ctxP tb n C _) xR xR xC xR xA (fun W K' w H => hole_st H) xR ?_ | fail)) | refine yL ?_ | (refine yM ?_; intro _) | fail)) | ((with_reducible apply gD); (first | (refine JD_nil ?_; try simp only [List.cons_append, List.nil_append]) | (refine JD_bar ?_; try simp only [List.cons_append, List.nil_append]) | ((with_reducible apply gD_load); (first | refine JL_p rfl xR xR (pe_ldH xR xC (fun w hr => hole_see hr xA)) ?_ | fail)) | ((with_reducible apply gD_store); (first | refine JL_stH (A := ctxP tb n C _) (B := ctxP tb n C _) xR xR xC xR xA (fun W K' w H => hole_st H) xR ?_ | fail)) | refine yD ?_ | ((with_reducible apply gD_go); (first | (refine JD_goq (common_s p q hp hw.1 rp rq) (hφ := xF) (h := ?_); rintro _ _ ⟨⟨m, h0, h1, h2, h3, h4, rfl⟩, rfl⟩; try simp only [List.cons_append, List.nil_append]) | fail)) | (refine yE ?_; intro _) | fail)) | refine yJ ?_ | ((with_reducible apply gJ_if); (first | (refine J_if xR ?_ ?_ <;> intro _ <;> (try (exfalso; first | contradiction | omega))) | (refine J_ifb xR ?_ ?_ <;> (intro hgb; subst hgb)) | (refine J_ifb xR ?_ ?_ <;> intro _) | fail)) | refine J_draw (id := 3) [0, 1, 2, 3, 4, 5, 6, 7, 8, 9] [10] mixed xC xD xD ?_ | refine J_draw (id := 4) [0, 1, 2, 3, 4] [5] mixed xC xD xD ?_ | refine J_draw (id := 6) [0, 1, 2, 3, 4, 5, 6, 7, 9, 10, 11, 8] [12, 13] mixed xC xD xD ?_ | refine J_draw (id := 8) [0, 1, 2, 3, 4, 5, 6, 7, 8, 9, 10, 12, 13, 14, 11] [15, 16] mixed xC xD xD ?_ | fail))
    · rename_i g5 hc bf
      obtain ⟨l1, l2, hb, hok⟩ := ins_fork (bx := bx) (b := b) (bf := bf) (has := has) (vo := vo) (k0 := k0) (k1 := k1) hp hv hr hw hq hf h0 h1 h2 h3 h4 hc
      have h32 := rt_hi rp
      rcases bt_cases p.1 m with e1 | e1
      · have e2 : bt q.1 m = 1 := by have := bt_cases q.1 m; omega
        rw [btB_eq _ _ _ e1] at hok
        (repeat' (first | ((with_reducible apply gL); (first | refine yL0 ?_ | ((with_reducible apply gL_load); (first | refine JL_p rfl xR xR (pe_ldH xR xC (fun w hr => hole_see hr xA)) ?_ | fail)) | ((with_reducible apply gL_store); (first | refine JL_stH (A := ctxP tb n C _) (B := ctxP tb n C _) xR xR xC xR xA (fun W K' w H => hole_st H) xR ?_ | fail)) | refine yL ?_ | (refine yM ?_; intro _) | fail)) | ((with_reducible apply gD); (first | (refine JD_nil ?_; try simp only [List.cons_append, List.nil_append]) | (refine JD_bar ?_; try simp only [List.cons_append, List.nil_append]) | ((with_reducible apply gD_load); (first | refine JL_p rfl xR xR (pe_ldH xR xC (fun w hr => hole_see hr xA)) ?_ | fail)) | ((with_reducible apply gD_store); (first | refine JL_stH (A := ctxP tb n C _) (B := ctxP tb n C _) xR xR xC xR xA (fun W K' w H => hole_st H) xR ?_ | fail)) | refine yD ?_ | ((with_reducible apply gD_go); (first | (refine JD_goq (bit_b p.1 m 0 e1 hp.1 h0 (by omega)) (hφ := xF) (h := ?_); rintro _ _ ⟨rfl, rfl⟩; try simp only [List.cons_append, List.nil_append]) | (refine JD_goq (bit_b q.1 m 1 e2 hw.1.1 h0 (by omega)) (hφ := xF) (h := ?_); rintro _ _ ⟨rfl, rfl⟩; try simp only [List.cons_append, List.nil_append]) | fail)) | (refine yE ?_; intro _) | fail)) | refine yJ ?_ | ((with_reducible apply gJ_if); (first | (refine J_if xR ?_ ?_ <;> intro _ <;> (try (exfalso; first | contradiction | omega))) | (refine J_ifb xR ?_ ?_ <;> (intro hgb; subst hgb)) | (refine J_ifb xR ?_ ?_ <;> intro _) | fail)) | refine J_draw (id := 3) [0, 1, 2, 3, 4, 5, 6, 7, 8, 9] [10] mixed xC xD xD ?_ | refine J_draw (id := 4) [0, 1, 2, 3, 4] [5] mixed xC xD xD ?_ | refine J_draw (id := 6) [0, 1, 2, 3, 4, 5, 6, 7, 9, 10, 11, 8] [12, 13] mixed xC xD xD ?_ | refine J_draw (id := 8) [0, 1, 2, 3, 4, 5, 6, 7, 8, 9, 10, 12, 13, 14, 11] [15, 16] mixed xC xD xD ?_ | fail))
        refine J_end0 rfl fun w H => ⟨_, ⟨_, hok, rfl⟩, ?_⟩
        have H1 := owX H (p := p) (v := v) (bx := bx) xA
        have H2 := owMkNode (H1.sb (M := [pts b (ndC q has vo (ptr k0) (ptr k1)) 131, trP k0, trP k1]) xZ)
        exact (owMkNode (k0 := .node bx p true v .nil .nil) (k1 := .node b q has vo k0 k1) (p := (p.1 - p.1 % pw m, m)) (has := false) (v := zV) (H2.sb (M := [pts bf (ndC (p.1 - p.1 % pw m, m) false zV (some ⟨bx, 0, none⟩) (some ⟨b, 0, none⟩)) 131, trP (.node bx p true v .nil .nil), trP (.node b q has vo k0 k1)]) xZ)).sel xZ
      · have e2 : bt q.1 m = 0 := by have := bt_cases q.1 m; omega
        rw [btB_eq _ _ _ e1] at hok
        (repeat' (first | ((with_reducible apply gL); (first | refine yL0 ?_ | ((with_reducible apply gL_load); (first | refine JL_p rfl xR xR (pe_ldH xR xC (fun w hr => hole_see hr xA)) ?_ | fail)) | ((with_reducible apply gL_store); (first | refine JL_stH (A := ctxP tb n C _) (B := ctxP tb n C _) xR xR xC xR xA (fun W K' w H => hole_st H) xR ?_ | fail)) | refine yL ?_ | (refine yM ?_; intro _) | fail)) | ((with_reducible apply gD); (first | (refine JD_nil ?_; try simp only [List.cons_append, List.nil_append]) | (refine JD_bar ?_; try simp only [List.cons_append, List.nil_append]) | ((with_reducible apply gD_load); (first | refine JL_p rfl xR xR (pe_ldH xR xC (fun w hr => hole_see hr xA)) ?_ | fail)) | ((with_reducible apply gD_store); (first | refine JL_stH (A := ctxP tb n C _) (B := ctxP tb n C _) xR xR xC xR xA (fun W K' w H => hole_st H) xR ?_ | fail)) | refine yD ?_ | ((with_reducible apply gD_go); (first | (refine JD_goq (bit_b p.1 m 1 e1 hp.1 h0 (by omega)) (hφ := xF) (h := ?_); rintro _ _ ⟨rfl, rfl⟩; try simp only [List.cons_append, List.nil_append]) | (refine JD_goq (bit_b q.1 m 0 e2 hw.1.1 h0 (by omega)) (hφ := xF) (h := ?_); rintro _ _ ⟨rfl, rfl⟩; try simp only [List.cons_append, List.nil_append]) | fail)) | (refine yE ?_; intro _) | fail)) | refine yJ ?_ | ((with_reducible apply gJ_if); (first | (refine J_if xR ?_ ?_ <;> intro _ <;> (try (exfalso; first | contradiction | omega))) | (refine J_ifb xR ?_ ?_ <;> (intro hgb; subst hgb)) | (refine J_ifb xR ?_ ?_ <;> intro _) | fail)) | refine J_draw (id := 3) [0, 1, 2, 3, 4, 5, 6, 7, 8, 9] [10] mixed xC xD xD ?_ | refine J_draw (id := 4) [0, 1, 2, 3, 4] [5] mixed xC xD xD ?_ | refine J_draw (id := 6) [0, 1, 2, 3, 4, 5, 6, 7, 9, 10, 11, 8] [12, 13] mixed xC xD xD ?_ | refine J_draw (id := 8) [0, 1, 2, 3, 4, 5, 6, 7, 8, 9, 10, 12, 13, 14, 11] [15, 16] mixed xC xD xD ?_ | fail))
        refine J_end0 rfl fun w H => ⟨_, ⟨_, hok, rfl⟩, ?_⟩
        have H1 := owX H (p := p) (v := v) (bx := bx) xA
        have H2 := owMkNode (H1.sb (M := [pts b (ndC q has vo (ptr k0) (ptr k1)) 131, trP k0, trP k1]) xZ)
        exact (owMkNode (k1 := .node bx p true v .nil .nil) (k0 := .node b q has vo k0 k1) (p := (p.1 - p.1 % pw m, m)) (has := false) (v := zV) (H2.sb (M := [pts bf (ndC (p.1 - p.1 % pw m, m) false zV (some ⟨b, 0, none⟩) (some ⟨bx, 0, none⟩)) 131, trP (.node b q has vo k0 k1), trP (.node bx p true v .nil .nil)]) xZ)).sel xZ
    · rename_i g5 hc
      obtain ⟨hc1, hc2⟩ := Decidable.not_not.1 hc
      have wq : Wi p q := by
        have h5 := com_sym h3
        have h6 : (p.1 - p.1 % pw m, m) = p := Prod.ext hc1 hc2
        rw [← h6, h5]
        exact (com_wi rq h0 h2).2
      have hok := ins_kid (bx := bx) hp hv hr hw hq hf wq
      have hl := wq.lt (Ne.symm hq)
      have h32 := rt_hi rq
      rcases bt_cases q.1 p.2 with e1 | e1
      · rw [btB_eq _ _ _ e1] at hok
        (repeat' (first | ((with_reducible apply gL); (first | refine yL0 ?_ | ((with_reducible apply gL_load); (first | refine JL_p rfl xR xR (pe_ldH xR xC (fun w hr => hole_see hr xA)) ?_ | fail)) | ((with_reducible apply gL_store); (first | refine JL_stH (A := ctxP tb n C _) (B := ctxP tb n C _) xR xR xC xR xA (fun W K' w H => hole_st H) xR ?_ | fail)) | refine yL ?_ | (refine yM ?_; intro _) | fail)) | ((with_reducible apply gD); (first | (refine JD_nil ?_; try simp only [List.cons_append, List.nil_append]) | (refine JD_bar ?_; try simp only [List.cons_append, List.nil_append]) | ((with_reducible apply gD_load); (first | refine JL_p rfl xR xR (pe_ldH xR xC (fun w hr => hole_see hr xA)) ?_ | fail)) | ((with_reducible apply gD_store); (first | refine JL_stH (A := ctxP tb n C _) (B := ctxP tb n C _) xR xR xC xR xA (fun W K' w H => hole_st H) xR ?_ | fail)) | refine yD ?_ | ((with_reducible apply gD_go); (first | (refine JD_goq (bit_b q.1 p.2 0 e1 hw.1.1 (rt_lo rp) (by omega)) (hφ := xF) (h := ?_); rintro _ _ ⟨rfl, rfl⟩; try simp only [List.cons_append, List.nil_append]) | fail)) | (refine yE ?_; intro _) | fail)) | refine yJ ?_ | ((with_reducible apply gJ_if); (first | (refine J_if xR ?_ ?_ <;> intro _ <;> (try (exfalso; first | contradiction | omega))) | (refine J_ifb xR ?_ ?_ <;> (intro hgb; subst hgb)) | (refine J_ifb xR ?_ ?_ <;> intro _) | fail)) | refine J_draw (id := 3) [0, 1, 2, 3, 4, 5, 6, 7, 8, 9] [10] mixed xC xD xD ?_ | refine J_draw (id := 4) [0, 1, 2, 3, 4] [5] mixed xC xD xD ?_ | refine J_draw (id := 6) [0, 1, 2, 3, 4, 5, 6, 7, 9, 10, 11, 8] [12, 13] mixed xC xD xD ?_ | refine J_draw (id := 8) [0, 1, 2, 3, 4, 5, 6, 7, 8, 9, 10, 12, 13, 14, 11] [15, 16] mixed xC xD xD ?_ | fail))
        refine J_end0 rfl fun w H => ⟨_, ⟨_, hok, rfl⟩, ?_⟩
        have H2 := owMkNode (H.sb (M := [pts b (ndC q has vo (ptr k0) (ptr k1)) 131, trP k0, trP k1]) xZ)
        exact (owMkNode (k0 := .node b q has vo k0 k1) (k1 := .nil) (p := p) (has := true) (v := v) ((owMkNil H2).sb (M := [pts bx (ndC p true v (some ⟨b, 0, none⟩) none) 131, trP (.node b q has vo k0 k1), trP .nil]) xZ)).sel xZ
      · rw [btB_eq _ _ _ e1] at hok
        (repeat' (first | ((with_reducible apply gL); (first | refine yL0 ?_ | ((with_reducible apply gL_load); (first | refine JL_p rfl xR xR (pe_ldH xR xC (fun w hr => hole_see hr xA)) ?_ | fail)) | ((with_reducible apply gL_store); (first | refine JL_stH (A := ctxP tb n C _) (B := ctxP tb n C _) xR xR xC xR xA (fun W K' w H => hole_st H) xR ?_ | fail)) | refine yL ?_ | (refine yM ?_; intro _) | fail)) | ((with_reducible apply gD); (first | (refine JD_nil ?_; try simp only [List.cons_append, List.nil_append]) | (refine JD_bar ?_; try simp only [List.cons_append, List.nil_append]) | ((with_reducible apply gD_load); (first | refine JL_p rfl xR xR (pe_ldH xR xC (fun w hr => hole_see hr xA)) ?_ | fail)) | ((with_reducible apply gD_store); (first | refine JL_stH (A := ctxP tb n C _) (B := ctxP tb n C _) xR xR xC xR xA (fun W K' w H => hole_st H) xR ?_ | fail)) | refine yD ?_ | ((with_reducible apply gD_go); (first | (refine JD_goq (bit_b q.1 p.2 1 e1 hw.1.1 (rt_lo rp) (by omega)) (hφ := xF) (h := ?_); rintro _ _ ⟨rfl, rfl⟩; try simp only [List.cons_append, List.nil_append]) | fail)) | (refine yE ?_; intro _) | fail)) | refine yJ ?_ | ((with_reducible apply gJ_if); (first | (refine J_if xR ?_ ?_ <;> intro _ <;> (try (exfalso; first | contradiction | omega))) | (refine J_ifb xR ?_ ?_ <;> (intro hgb; subst hgb)) | (refine J_ifb xR ?_ ?_ <;> intro _) | fail)) | refine J_draw (id := 3) [0, 1, 2, 3, 4, 5, 6, 7, 8, 9] [10] mixed xC xD xD ?_ | refine J_draw (id := 4) [0, 1, 2, 3, 4] [5] mixed xC xD xD ?_ | refine J_draw (id := 6) [0, 1, 2, 3, 4, 5, 6, 7, 9, 10, 11, 8] [12, 13] mixed xC xD xD ?_ | refine J_draw (id := 8) [0, 1, 2, 3, 4, 5, 6, 7, 8, 9, 10, 12, 13, 14, 11] [15, 16] mixed xC xD xD ?_ | fail))
        refine J_end0 rfl fun w H => ⟨_, ⟨_, hok, rfl⟩, ?_⟩
        have H2 := owMkNode (H.sb (M := [pts b (ndC q has vo (ptr k0) (ptr k1)) 131, trP k0, trP k1]) xZ)
        exact (owMkNode (k1 := .node b q has vo k0 k1) (k0 := .nil) (p := p) (has := true) (v := v) ((owMkNil H2).sb (M := [pts bx (ndC p true v none (some ⟨b, 0, none⟩)) 131, trP .nil, trP (.node b q has vo k0 k1)]) xZ)).sel xZ
end Go.Proofs.YtnhabkipjmgaaaaGreat.T
