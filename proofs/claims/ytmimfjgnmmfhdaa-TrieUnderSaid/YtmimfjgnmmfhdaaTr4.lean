/-
  Plain facts on: a place in a tree; what is put, dropped, pruned there.
-/
import Derived.Test.YtmimfjgnmmfhdaaTr3
namespace Go.Proofs.Ytmimfjgnmmfhdaa
set_option linter.unusedSimpArgs false
set_option linter.unusedVariables false
open Go.RowKit Go.Pm


structure Fr where
  b : Nat
  p : Pf
  has : Bool
  v : Int
  side : Bool
  o : Tr
def fill (f : Fr) (s : Tr) : Tr := if f.side then .node f.b f.p f.has f.v f.o s else .node f.b f.p f.has f.v s f.o
def plug : List Fr → Tr → Tr
  | [], s => s
  | f :: C, s => plug C (fill f s)
def Path (p : Pf) (C : List Fr) : Prop := ∀ f ∈ C, Wi f.p p ∧ f.p ≠ p ∧ f.side = btB p.1 f.p.2
def hreg : List Fr → Pf
  | [] => (0, 0)
  | f :: _ => kid f.p f.side
def wfC : List Fr → Prop
  | [] => True
  | f :: C => PfN f.p ∧ I64 f.v ∧ Wi (hreg C) f.p ∧ wf (kid f.p (!f.side)) f.o ∧ wfC C
theorem wf_fill (f : Fr) (s : Tr) (r : Pf) : wf r (fill f s) ↔ (PfN f.p ∧ I64 f.v ∧ Wi r f.p ∧ wf (kid f.p (!f.side)) f.o) ∧ wf (kid f.p f.side) s := by
  unfold fill
  cases h : f.side
  · simp only [Bool.false_eq_true, if_false, wf, Bool.not_false]
    constructor
    · rintro ⟨a, b, c, d, e⟩; exact ⟨⟨a, b, c, e⟩, d⟩
    · rintro ⟨⟨a, b, c, e⟩, d⟩; exact ⟨a, b, c, d, e⟩
  · simp only [if_true, wf, Bool.not_true]
    constructor
    · rintro ⟨a, b, c, d, e⟩; exact ⟨⟨a, b, c, d⟩, e⟩
    · rintro ⟨⟨a, b, c, d⟩, e⟩; exact ⟨a, b, c, d, e⟩
theorem wf_plug : ∀ (C : List Fr) (s : Tr), wf (0, 0) (plug C s) ↔ wfC C ∧ wf (hreg C) s
  | [], s => by simp [plug, wfC, hreg]
  | f :: C, s => by
    rw [plug, wf_plug C, wf_fill]
    simp only [wfC, hreg]
    constructor
    · rintro ⟨a, ⟨b, c, d, e⟩, g⟩; exact ⟨⟨b, c, d, e, a⟩, g⟩
    · rintro ⟨⟨b, c, d, e, a⟩, g⟩; exact ⟨a, ⟨b, c, d, e⟩, g⟩
def own (f : Fr) : List Ent := if f.has then [(f.p, f.v)] else []
def pre : List Fr → List Ent
  | [] => []
  | f :: C => pre C ++ own f ++ (if f.side then ents f.o else [])
def post : List Fr → List Ent
  | [] => []
  | f :: C => (if f.side then [] else ents f.o) ++ post C
theorem ents_plug : ∀ (C : List Fr) (s : Tr), ents (plug C s) = pre C ++ ents s ++ post C
  | [], s => by simp [plug, pre, post]
  | f :: C, s => by
    rw [plug, ents_plug C]
    unfold fill
    cases h : f.side <;> simp [ents, pre, post, own, h, List.append_assoc]
theorem r0_wi {p : Pf} (h : Rt p) (hn : PfN p) : Wi (0, 0) p := by
  have := hn.1
  unfold U32 at this
  refine ⟨⟨by decide, by decide, rfl⟩, h, h.1, ?_⟩
  show p.1 / pw 0 = 0 / pw 0
  rw [pw_0]
  omega
theorem path_reg {C : List Fr} {p : Pf} (hc : wfC C) (hp : Path p C) (h : Rt p) (hn : PfN p) : Wi (hreg C) p := by
  cases C with
  | nil => exact r0_wi h hn
  | cons f C =>
    obtain ⟨a, b, c⟩ := hp f (by simp)
    have := (wi_kid a b).2
    rw [← c] at this
    exact this
/-- What lies outside is not within. -/
theorem out_wi : ∀ {C : List Fr} {p : Pf} {e : Ent}, wfC C → Path p C → (e ∈ pre C ∨ e ∈ post C) → ¬ Wi p e.1
  | [], _, _, _, _, h => by simp [pre, post] at h
  | f :: C, p, e, hc, hp, h => by
    obtain ⟨a, b, c⟩ := hp f (by simp)
    obtain ⟨h1, h2, h3, h4, h5⟩ := hc
    have ho : e ∈ ents f.o → ¬ Wi p e.1 := fun he hw => by
      have k1 := (kid_wi (wf_wi h4 he).1 a.rt1).2.2
      have k2 := (wi_kid a b).2
      rw [← c] at k2
      have k3 := (kid_wi (k2.trans hw) a.rt1).2.2
      rw [k1] at k3
      revert k3
      cases f.side <;> simp
    have hw : e ∈ own f → ¬ Wi p e.1 := fun he hw => by
      unfold own at he
      cases hh : f.has <;> simp [hh] at he
      subst he
      exact b (a.anti hw.le)
    have ih := fun h => out_wi (e := e) h5 (fun g hg => hp g (List.mem_cons_of_mem _ hg)) h
    rcases h with h | h
    · simp only [pre, List.mem_append] at h
      rcases h with (h | h) | h
      · exact ih (.inl h)
      · exact hw h
      · cases hs : f.side <;> simp [hs] at h
        exact ho h
    · simp only [post, List.mem_append] at h
      rcases h with h | h
      · cases hs : f.side <;> simp [hs] at h
        exact ho h
      · exact ih (.inr h)
theorem mem_plug {C : List Fr} {s : Tr} {e : Ent} : e ∈ ents (plug C s) ↔ e ∈ ents s ∨ (e ∈ pre C ∨ e ∈ post C) := by
  rw [ents_plug]
  simp only [List.mem_append]
  constructor
  · rintro ((h | h) | h)
    · exact .inr (.inl h)
    · exact .inl h
    · exact .inr (.inr h)
  · rintro (h | h | h)
    · exact .inl (.inr h)
    · exact .inl (.inl h)
    · exact .inr h

/-! What the document says, on lists. -/
def putL : List Ent → Pf → Int → List Ent
  | [], p, v => [(p, v)]
  | x :: r, p, v => if Ah x.1 p then x :: putL r p v else if x.1 = p then (p, v) :: r else (p, v) :: x :: r
theorem mem_putL : ∀ {l : List Ent} {p : Pf} {v : Int} {e : Ent}, Srt l → (e ∈ putL l p v ↔ e = (p, v) ∨ (e ∈ l ∧ e.1 ≠ p))
  | [], p, v, e, _ => by simp [putL]
  | x :: r, p, v, e, h => by
    obtain ⟨h1, h2⟩ := List.pairwise_cons.1 h
    unfold putL
    by_cases ha : Ah x.1 p
    · rw [if_pos ha, List.mem_cons, mem_putL h2, List.mem_cons]
      constructor
      · rintro (rfl | rfl | ⟨a, b⟩)
        · exact .inr ⟨.inl rfl, fun e => by rw [e] at ha; exact ha.irrefl⟩
        · exact .inl rfl
        · exact .inr ⟨.inr a, b⟩
      · rintro (rfl | ⟨rfl | a, b⟩)
        · exact .inr (.inl rfl)
        · exact .inl rfl
        · exact .inr (.inr ⟨a, b⟩)
    · rw [if_neg ha]
      by_cases hp : x.1 = p
      · rw [if_pos hp, List.mem_cons, List.mem_cons]
        constructor
        · rintro (rfl | a)
          · exact .inl rfl
          · exact .inr ⟨.inr a, fun e => by have := h1 _ a; rw [hp, e] at this; exact this.irrefl⟩
        · rintro (rfl | ⟨rfl | a, b⟩)
          · exact .inl rfl
          · exact absurd hp b
          · exact .inr a
      · rw [if_neg hp, List.mem_cons]
        constructor
        · rintro (rfl | a)
          · exact .inl rfl
          · refine .inr ⟨a, ?_⟩
            rcases List.mem_cons.1 a with rfl | b
            · exact hp
            · intro e
              have h3 := h1 _ b
              rw [e] at h3
              exact ha h3
        · rintro (rfl | ⟨a, b⟩)
          · exact .inl rfl
          · exact .inr a
theorem srt_putL : ∀ {l : List Ent} {p : Pf} {v : Int}, Srt l → Srt (putL l p v)
  | [], p, v, _ => by simp [putL, Srt]
  | x :: r, p, v, h => by
    obtain ⟨h1, h2⟩ := List.pairwise_cons.1 h
    unfold putL
    by_cases ha : Ah x.1 p
    · rw [if_pos ha]
      refine List.pairwise_cons.2 ⟨fun y hy => ?_, srt_putL h2⟩
      rcases (mem_putL h2).1 hy with rfl | ⟨a, _⟩
      · exact ha
      · exact h1 y a
    · rw [if_neg ha]
      by_cases hp : x.1 = p
      · rw [if_pos hp]
        exact List.pairwise_cons.2 ⟨fun y hy => by have := h1 y hy; rw [hp] at this; exact this, h2⟩
      · rw [if_neg hp]
        have hx := Ah.total ha hp
        refine List.pairwise_cons.2 ⟨fun y hy => ?_, h⟩
        rcases List.mem_cons.1 hy with rfl | b
        · exact hx
        · exact hx.trans (h1 y b)
def dropL (l : List Ent) (p : Pf) : List Ent := l.filter fun e => decide (e.1 ≠ p)
def getL (l : List Ent) (p : Pf) : Option Int := (l.find? fun e => decide (e.1 = p)).map (·.2)
def underL (l : List Ent) (p : Pf) : List Pf := (l.filter fun e => decide (Wi p e.1)).map (·.1)
theorem getL_mem {l : List Ent} {p : Pf} {v : Int} (h : Srt l) : getL l p = some v ↔ (p, v) ∈ l := by
  unfold getL
  constructor
  · intro hg
    cases hf : l.find? fun e => decide (e.1 = p) with
    | none => simp [hf] at hg
    | some x =>
      have h1 := List.mem_of_find?_eq_some hf
      have h2 := List.find?_some hf
      simp [hf] at hg
      simp at h2
      have : x = (p, v) := Prod.ext h2 hg
      rw [← this]; exact h1
  · intro hm
    cases hf : l.find? fun e => decide (e.1 = p) with
    | none => have := List.find?_eq_none.1 hf _ hm; simp at this
    | some x =>
      have h1 := List.mem_of_find?_eq_some hf
      have h2 := List.find?_some hf
      simp at h2
      have := srt_key h h1 hm h2
      simp [this]
theorem getL_none {l : List Ent} {p : Pf} : getL l p = none ↔ ∀ e ∈ l, e.1 ≠ p := by
  unfold getL
  simp [List.find?_eq_none]

/-- A new subtree at the place of p. -/
theorem plug_put {C : List Fr} {s s' : Tr} {p : Pf} {v : Int} (hw : wf (0, 0) (plug C s)) (hp : Path p C) (hr : Rt p) (hs : wf (hreg C) s') (hm : ∀ e, e ∈ ents s' ↔ e = (p, v) ∨ (e ∈ ents s ∧ e.1 ≠ p)) :
    wf (0, 0) (plug C s') ∧ ents (plug C s') = putL (ents (plug C s)) p v := by
  obtain ⟨hc, h0⟩ := (wf_plug C s).1 hw
  have hw' := (wf_plug C s').2 ⟨hc, hs⟩
  refine ⟨hw', srt_ext (wf_srt hw') (srt_putL (wf_srt hw)) fun e => ?_⟩
  rw [mem_putL (wf_srt hw), mem_plug, mem_plug, hm]
  have ho : (e ∈ pre C ∨ e ∈ post C) → e.1 ≠ p := fun h he => out_wi hc hp h (by rw [he]; exact .refl hr)
  constructor
  · rintro ((h | h) | h)
    · exact .inl h
    · exact .inr ⟨.inl h.1, h.2⟩
    · exact .inr ⟨.inr h, ho h⟩
  · rintro (h | ⟨h | h, h2⟩)
    · exact .inl (.inl h)
    · exact .inl (.inr ⟨h, h2⟩)
    · exact .inr h
theorem plug_drop {C : List Fr} {s s' : Tr} {p : Pf} (hw : wf (0, 0) (plug C s)) (hp : Path p C) (hr : Rt p) (hs : wf (hreg C) s') (hm : ∀ e, e ∈ ents s' ↔ e ∈ ents s ∧ e.1 ≠ p) :
    wf (0, 0) (plug C s') ∧ ents (plug C s') = dropL (ents (plug C s)) p := by
  obtain ⟨hc, h0⟩ := (wf_plug C s).1 hw
  have hw' := (wf_plug C s').2 ⟨hc, hs⟩
  refine ⟨hw', srt_ext (wf_srt hw') ((wf_srt hw).filter _) fun e => ?_⟩
  unfold dropL
  rw [List.mem_filter, mem_plug, mem_plug, hm]
  have ho : (e ∈ pre C ∨ e ∈ post C) → e.1 ≠ p := fun h he => out_wi hc hp h (by rw [he]; exact .refl hr)
  simp only [decide_eq_true_eq]
  constructor
  · rintro (h | h)
    · exact ⟨.inl h.1, h.2⟩
    · exact ⟨.inr h, ho h⟩
  · rintro ⟨h | h, h2⟩
    · exact .inl ⟨h, h2⟩
    · exact .inr h

/-! Where p is, or is to be put. -/
def top : Tr → Option Pf
  | .nil => none
  | .node _ q _ _ _ _ => some q
def Found (p : Pf) (s : Tr) : Prop := ∀ q, top s = some q → q = p ∨ ¬ Wi q p
theorem found_get {C : List Fr} {s : Tr} {p : Pf} (hw : wf (0, 0) (plug C s)) (hp : Path p C) (hr : Rt p) {e : Ent} (he : e ∈ ents (plug C s)) (hk : e.1 = p) : e ∈ ents s := by
  rcases mem_plug.1 he with h | h
  · exact h
  · exact absurd (by rw [hk]; exact .refl hr) (out_wi ((wf_plug C s).1 hw).1 hp h)
theorem found_none {b : Nat} {q p : Pf} {has : Bool} {v : Int} {k0 k1 : Tr} {r : Pf} (hw : wf r (.node b q has v k0 k1)) (hq : q ≠ p) (hf : ¬ Wi q p) : ∀ e ∈ ents (.node b q has v k0 k1), e.1 ≠ p := by
  intro e he hk
  have h1 : wf q (.node b q has v k0 k1) := ⟨hw.1, hw.2.1, .refl hw.2.2.1.rt2, hw.2.2.2⟩
  have := (wf_wi h1 he).1
  rw [hk] at this
  exact hf this

/-- What nobody needs is taken away. -/
def isNil : Tr → Bool
  | .nil => true
  | _ => false
def lift (b : Nat) (q : Pf) (has : Bool) (v : Int) (k0 k1 : Tr) : Tr :=
  if has then .node b q has v k0 k1 else if isNil k0 then k1 else if isNil k1 then k0 else .node b q has v k0 k1
def pruneT (p : Pf) : Tr → Tr
  | .nil => .nil
  | .node b q has v k0 k1 => if q ≠ p ∧ Wi q p then (if btB p.1 q.2 then lift b q has v k0 (pruneT p k1) else lift b q has v (pruneT p k0) k1) else lift b q has v k0 k1
theorem nil_of {t : Tr} (h : isNil t = true) : t = .nil := by cases t <;> simp [isNil] at h; rfl
theorem lift_ok {r : Pf} {b : Nat} {q : Pf} {has : Bool} {v : Int} {k0 k1 : Tr} (h : wf r (.node b q has v k0 k1)) : wf r (lift b q has v k0 k1) ∧ ents (lift b q has v k0 k1) = ents (.node b q has v k0 k1) := by
  have up : ∀ (i : Bool) (k : Tr), wf (kid q i) k → wf r k := fun i k hk => by
    cases k with
    | nil => trivial
    | node b2 q2 h2 v2 a2 c2 => exact ⟨hk.1, hk.2.1, h.2.2.1.trans (kid_wi hk.2.2.1 h.2.2.1.rt2).1, hk.2.2.2⟩
  unfold lift
  cases has
  · simp only [Bool.false_eq_true, if_false]
    cases h0 : isNil k0
    · simp only [Bool.false_eq_true, if_false]
      cases h1 : isNil k1
      · simp only [Bool.false_eq_true, if_false]
        exact ⟨h, trivial⟩
      · obtain rfl := nil_of h1
        exact ⟨up _ _ h.2.2.2.1, by simp [ents]⟩
    · obtain rfl := nil_of h0
      exact ⟨up _ _ h.2.2.2.2, by simp [ents]⟩
  · exact ⟨h, rfl⟩
theorem prune_ok (p : Pf) : ∀ {t : Tr} {r : Pf}, wf r t → wf r (pruneT p t) ∧ ents (pruneT p t) = ents t
  | .nil, _, _ => ⟨trivial, rfl⟩
  | .node b q has v k0 k1, r, h => by
    unfold pruneT
    split
    · split
      · obtain ⟨a, c⟩ := prune_ok p h.2.2.2.2
        obtain ⟨d, e⟩ := lift_ok (r := r) (b := b) (q := q) (has := has) (v := v) (k0 := k0) (k1 := pruneT p k1) ⟨h.1, h.2.1, h.2.2.1, h.2.2.2.1, a⟩
        exact ⟨d, by rw [e]; simp [ents, c]⟩
      · obtain ⟨a, c⟩ := prune_ok p h.2.2.2.1
        obtain ⟨d, e⟩ := lift_ok (r := r) (b := b) (q := q) (has := has) (v := v) (k0 := pruneT p k0) (k1 := k1) ⟨h.1, h.2.1, h.2.2.1, a, h.2.2.2.2⟩
        exact ⟨d, by rw [e]; simp [ents, c]⟩
    · exact lift_ok h
end Go.Proofs.Ytmimfjgnmmfhdaa
