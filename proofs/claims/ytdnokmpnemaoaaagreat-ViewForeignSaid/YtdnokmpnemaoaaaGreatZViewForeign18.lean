/-
  Tq4, Tq5, Tq6: merged.
-/
import Derived.Test.YtdnokmpnemaoaaaGreatZViewForeign17
namespace Go.Proofs.YtdnokmpnemaoaaaGreat.T
set_option linter.unusedSimpArgs false
set_option linter.unusedVariables false
open Go.RowKit Go.Pm

structure Fr where
  b : Nat
  p : Pf
  has : Bool
  v : Vt
  side : Bool
  o : Tr
def fill (f : Fr) (s : Tr) : Tr := if f.side then .node f.b f.p f.has f.v f.o s else .node f.b f.p f.has f.v s f.o
def plug : List Fr → Tr → Tr
  | [], s => s
  | f :: C, s => plug C (fill f s)
def Path (p : Pf) (C : List Fr) : Prop := ∀ f ∈ C, Wi f.p p ∧ f.p ≠ p ∧ f.side = btB p.1 f.p.2
def hreg : List Fr → Pf
  | [] => (0, 0)
  | f :: _ => kid f.p f.side
def wfC : List Fr → Prop
  | [] => True
  | f :: C => PfN f.p ∧ VN f.v ∧ Wi (hreg C) f.p ∧ wf (kid f.p (!f.side)) f.o ∧ wfC C
theorem wf_fill (f : Fr) (s : Tr) (r : Pf) : wf r (fill f s) ↔ (PfN f.p ∧ VN f.v ∧ Wi r f.p ∧ wf (kid f.p (!f.side)) f.o) ∧ wf (kid f.p f.side) s := by
  unfold fill
  cases h : f.side
  · simp only [Bool.false_eq_true, if_false, wf, Bool.not_false]
    constructor
    · rintro ⟨a, b, c, d, e⟩; exact ⟨⟨a, b, c, e⟩, d⟩
    · rintro ⟨⟨a, b, c, e⟩, d⟩; exact ⟨a, b, c, d, e⟩
  · simp only [if_true, wf, Bool.not_true]
    constructor
    · rintro ⟨a, b, c, d, e⟩; exact ⟨⟨a, b, c, d⟩, e⟩
    · rintro ⟨⟨a, b, c, d⟩, e⟩; exact ⟨a, b, c, d, e⟩
theorem wf_plug : ∀ (C : List Fr) (s : Tr), wf (0, 0) (plug C s) ↔ wfC C ∧ wf (hreg C) s
  | [], s => by simp [plug, wfC, hreg]
  | f :: C, s => by
    rw [plug, wf_plug C, wf_fill]
    simp only [wfC, hreg]
    constructor
    · rintro ⟨a, ⟨b, c, d, e⟩, g⟩; exact ⟨⟨b, c, d, e, a⟩, g⟩
    · rintro ⟨⟨b, c, d, e, a⟩, g⟩; exact ⟨a, ⟨b, c, d, e⟩, g⟩
def own (f : Fr) : List Ent := if f.has then [(f.p, f.v)] else []
def pre : List Fr → List Ent
  | [] => []
  | f :: C => pre C ++ own f ++ (if f.side then ents f.o else [])
def post : List Fr → List Ent
  | [] => []
  | f :: C => (if f.side then [] else ents f.o) ++ post C
theorem ents_plug : ∀ (C : List Fr) (s : Tr), ents (plug C s) = pre C ++ ents s ++ post C
  | [], s => by simp [plug, pre, post]
  | f :: C, s => by
    rw [plug, ents_plug C]
    unfold fill
    cases h : f.side <;> simp [ents, pre, post, own, h, List.append_assoc]
theorem r0_wi {p : Pf} (h : Rt p) (hn : PfN p) : Wi (0, 0) p := by
  have := hn.1
  unfold U32 at this
  refine ⟨⟨by decide, by decide, rfl⟩, h, h.1, ?_⟩
  show p.1 / pw 0 = 0 / pw 0
  rw [pw_0]
  omega
theorem path_reg {C : List Fr} {p : Pf} (hc : wfC C) (hp : Path p C) (h : Rt p) (hn : PfN p) : Wi (hreg C) p := by
  cases C with
  | nil => exact r0_wi h hn
  | cons f C =>
    obtain ⟨a, b, c⟩ := hp f (by simp)
    have := (wi_kid a b).2
    rw [← c] at this
    exact this
theorem out_wi : ∀ {C : List Fr} {p : Pf} {e : Ent}, wfC C → Path p C → (e ∈ pre C ∨ e ∈ post C) → ¬ Wi p e.1
  | [], _, _, _, _, h => by simp [pre, post] at h
  | f :: C, p, e, hc, hp, h => by
    obtain ⟨a, b, c⟩ := hp f (by simp)
    obtain ⟨h1, h2, h3, h4, h5⟩ := hc
    have ho : e ∈ ents f.o → ¬ Wi p e.1 := fun he hw => by
      have k1 := (kid_wi (wf_wi h4 he).1 a.rt1).2.2
      have k2 := (wi_kid a b).2
      rw [← c] at k2
      have k3 := (kid_wi (k2.trans hw) a.rt1).2.2
      rw [k1] at k3
      revert k3
      cases f.side <;> simp
    have hw : e ∈ own f → ¬ Wi p e.1 := fun he hw => by
      unfold own at he
      cases hh : f.has <;> simp [hh] at he
      subst he
      exact b (a.anti hw.le)
    have ih := fun h => out_wi (e := e) h5 (fun g hg => hp g (List.mem_cons_of_mem _ hg)) h
    rcases h with h | h
    · simp only [pre, List.mem_append] at h
      rcases h with (h | h) | h
      · exact ih (.inl h)
      · exact hw h
      · cases hs : f.side <;> simp [hs] at h
        exact ho h
    · simp only [post, List.mem_append] at h
      rcases h with h | h
      · cases hs : f.side <;> simp [hs] at h
        exact ho h
      · exact ih (.inr h)
theorem mem_plug {C : List Fr} {s : Tr} {e : Ent} : e ∈ ents (plug C s) ↔ e ∈ ents s ∨ (e ∈ pre C ∨ e ∈ post C) := by
  rw [ents_plug]
  simp only [List.mem_append]
  constructor
  · rintro ((h | h) | h)
    · exact .inr (.inl h)
    · exact .inl h
    · exact .inr (.inr h)
  · rintro (h | h | h)
    · exact .inl (.inr h)
    · exact .inl (.inl h)
    · exact .inr h

/-! What the document says, on lists. -/
def putL : List Ent → Pf → Vt → List Ent
  | [], p, v => [(p, v)]
  | x :: r, p, v => if Ah x.1 p then x :: putL r p v else if x.1 = p then (p, v) :: r else (p, v) :: x :: r
theorem mem_putL : ∀ {l : List Ent} {p : Pf} {v : Vt} {e : Ent}, Srt l → (e ∈ putL l p v ↔ e = (p, v) ∨ (e ∈ l ∧ e.1 ≠ p))
  | [], p, v, e, _ => by simp [putL]
  | x :: r, p, v, e, h => by
    obtain ⟨h1, h2⟩ := List.pairwise_cons.1 h
    unfold putL
    by_cases ha : Ah x.1 p
    · rw [if_pos ha, List.mem_cons, mem_putL h2, List.mem_cons]
      constructor
      · rintro (rfl | rfl | ⟨a, b⟩)
        · exact .inr ⟨.inl rfl, fun e => by rw [e] at ha; exact ha.irrefl⟩
        · exact .inl rfl
        · exact .inr ⟨.inr a, b⟩
      · rintro (rfl | ⟨rfl | a, b⟩)
        · exact .inr (.inl rfl)
        · exact .inl rfl
        · exact .inr (.inr ⟨a, b⟩)
    · rw [if_neg ha]
      by_cases hp : x.1 = p
      · rw [if_pos hp, List.mem_cons, List.mem_cons]
        constructor
        · rintro (rfl | a)
          · exact .inl rfl
          · exact .inr ⟨.inr a, fun e => by have := h1 _ a; rw [hp, e] at this; exact this.irrefl⟩
        · rintro (rfl | ⟨rfl | a, b⟩)
          · exact .inl rfl
          · exact absurd hp b
          · exact .inr a
      · rw [if_neg hp, List.mem_cons]
        constructor
        · rintro (rfl | a)
          · exact .inl rfl
          · refine .inr ⟨a, ?_⟩
            rcases List.mem_cons.1 a with rfl | b
            · exact hp
            · intro e
              have h3 := h1 _ b
              rw [e] at h3
              exact ha h3
        · rintro (rfl | ⟨a, b⟩)
          · exact .inl rfl
          · exact .inr a
theorem srt_putL : ∀ {l : List Ent} {p : Pf} {v : Vt}, Srt l → Srt (putL l p v)
  | [], p, v, _ => by simp [putL, Srt]
  | x :: r, p, v, h => by
    obtain ⟨h1, h2⟩ := List.pairwise_cons.1 h
    unfold putL
    by_cases ha : Ah x.1 p
    · rw [if_pos ha]
      refine List.pairwise_cons.2 ⟨fun y hy => ?_, srt_putL h2⟩
      rcases (mem_putL h2).1 hy with rfl | ⟨a, _⟩
      · exact ha
      · exact h1 y a
    · rw [if_neg ha]
      by_cases hp : x.1 = p
      · rw [if_pos hp]
        exact List.pairwise_cons.2 ⟨fun y hy => by have := h1 y hy; rw [hp] at this; exact this, h2⟩
      · rw [if_neg hp]
        have hx := Ah.total ha hp
        refine List.pairwise_cons.2 ⟨fun y hy => ?_, h⟩
        rcases List.mem_cons.1 hy with rfl | b
        · exact hx
        · exact hx.trans (h1 y b)
def dropL (l : List Ent) (p : Pf) : List Ent := l.filter fun e => decide (e.1 ≠ p)
def getL (l : List Ent) (p : Pf) : Option Vt := (l.find? fun e => decide (e.1 = p)).map (·.2)
def underL (l : List Ent) (p : Pf) : List Pf := (l.filter fun e => decide (Wi p e.1)).map (·.1)
theorem getL_mem {l : List Ent} {p : Pf} {v : Vt} (h : Srt l) : getL l p = some v ↔ (p, v) ∈ l := by
  unfold getL
  constructor
  · intro hg
    cases hf : l.find? fun e => decide (e.1 = p) with
    | none => simp [hf] at hg
    | some x =>
      have h1 := List.mem_of_find?_eq_some hf
      have h2 := List.find?_some hf
      simp [hf] at hg
      simp at h2
      have : x = (p, v) := Prod.ext h2 hg
      rw [← this]; exact h1
  · intro hm
    cases hf : l.find? fun e => decide (e.1 = p) with
    | none => have := List.find?_eq_none.1 hf _ hm; simp at this
    | some x =>
      have h1 := List.mem_of_find?_eq_some hf
      have h2 := List.find?_some hf
      simp at h2
      have := srt_key h h1 hm h2
      simp [this]
theorem getL_none {l : List Ent} {p : Pf} : getL l p = none ↔ ∀ e ∈ l, e.1 ≠ p := by
  unfold getL
  simp [List.find?_eq_none]

theorem plug_put {C : List Fr} {s s' : Tr} {p : Pf} {v : Vt} (hw : wf (0, 0) (plug C s)) (hp : Path p C) (hr : Rt p) (hs : wf (hreg C) s') (hm : ∀ e, e ∈ ents s' ↔ e = (p, v) ∨ (e ∈ ents s ∧ e.1 ≠ p)) :
    wf (0, 0) (plug C s') ∧ ents (plug C s') = putL (ents (plug C s)) p v := by
  obtain ⟨hc, h0⟩ := (wf_plug C s).1 hw
  have hw' := (wf_plug C s').2 ⟨hc, hs⟩
  refine ⟨hw', srt_ext (wf_srt hw') (srt_putL (wf_srt hw)) fun e => ?_⟩
  rw [mem_putL (wf_srt hw), mem_plug, mem_plug, hm]
  have ho : (e ∈ pre C ∨ e ∈ post C) → e.1 ≠ p := fun h he => out_wi hc hp h (by rw [he]; exact .refl hr)
  constructor
  · rintro ((h | h) | h)
    · exact .inl h
    · exact .inr ⟨.inl h.1, h.2⟩
    · exact .inr ⟨.inr h, ho h⟩
  · rintro (h | ⟨h | h, h2⟩)
    · exact .inl (.inl h)
    · exact .inl (.inr ⟨h, h2⟩)
    · exact .inr h
theorem plug_drop {C : List Fr} {s s' : Tr} {p : Pf} (hw : wf (0, 0) (plug C s)) (hp : Path p C) (hr : Rt p) (hs : wf (hreg C) s') (hm : ∀ e, e ∈ ents s' ↔ e ∈ ents s ∧ e.1 ≠ p) :
    wf (0, 0) (plug C s') ∧ ents (plug C s') = dropL (ents (plug C s)) p := by
  obtain ⟨hc, h0⟩ := (wf_plug C s).1 hw
  have hw' := (wf_plug C s').2 ⟨hc, hs⟩
  refine ⟨hw', srt_ext (wf_srt hw') ((wf_srt hw).filter _) fun e => ?_⟩
  unfold dropL
  rw [List.mem_filter, mem_plug, mem_plug, hm]
  have ho : (e ∈ pre C ∨ e ∈ post C) → e.1 ≠ p := fun h he => out_wi hc hp h (by rw [he]; exact .refl hr)
  simp only [decide_eq_true_eq]
  constructor
  · rintro (h | h)
    · exact ⟨.inl h.1, h.2⟩
    · exact ⟨.inr h, ho h⟩
  · rintro ⟨h | h, h2⟩
    · exact .inl ⟨h, h2⟩
    · exact .inr h

/-! Where p is, or is to be put. -/
def top : Tr → Option Pf
  | .nil => none
  | .node _ q _ _ _ _ => some q
def Found (p : Pf) (s : Tr) : Prop := ∀ q, top s = some q → q = p ∨ ¬ Wi q p
theorem found_get {C : List Fr} {s : Tr} {p : Pf} (hw : wf (0, 0) (plug C s)) (hp : Path p C) (hr : Rt p) {e : Ent} (he : e ∈ ents (plug C s)) (hk : e.1 = p) : e ∈ ents s := by
  rcases mem_plug.1 he with h | h
  · exact h
  · exact absurd (by rw [hk]; exact .refl hr) (out_wi ((wf_plug C s).1 hw).1 hp h)
theorem found_none {b : Nat} {q p : Pf} {has : Bool} {v : Vt} {k0 k1 : Tr} {r : Pf} (hw : wf r (.node b q has v k0 k1)) (hq : q ≠ p) (hf : ¬ Wi q p) : ∀ e ∈ ents (.node b q has v k0 k1), e.1 ≠ p := by
  intro e he hk
  have h1 : wf q (.node b q has v k0 k1) := ⟨hw.1, hw.2.1, .refl hw.2.2.1.rt2, hw.2.2.2⟩
  have := (wf_wi h1 he).1
  rw [hk] at this
  exact hf this

def isNil : Tr → Bool
  | .nil => true
  | _ => false
def lift (b : Nat) (q : Pf) (has : Bool) (v : Vt) (k0 k1 : Tr) : Tr :=
  if has then .node b q has v k0 k1 else if isNil k0 then k1 else if isNil k1 then k0 else .node b q has v k0 k1
def pruneT (p : Pf) : Tr → Tr
  | .nil => .nil
  | .node b q has v k0 k1 => if q ≠ p ∧ Wi q p then (if btB p.1 q.2 then lift b q has v k0 (pruneT p k1) else lift b q has v (pruneT p k0) k1) else lift b q has v k0 k1
theorem nil_of {t : Tr} (h : isNil t = true) : t = .nil := by cases t <;> simp [isNil] at h; rfl
theorem lift_ok {r : Pf} {b : Nat} {q : Pf} {has : Bool} {v : Vt} {k0 k1 : Tr} (h : wf r (.node b q has v k0 k1)) : wf r (lift b q has v k0 k1) ∧ ents (lift b q has v k0 k1) = ents (.node b q has v k0 k1) := by
  have up : ∀ (i : Bool) (k : Tr), wf (kid q i) k → wf r k := fun i k hk => by
    cases k with
    | nil => trivial
    | node b2 q2 h2 v2 a2 c2 => exact ⟨hk.1, hk.2.1, h.2.2.1.trans (kid_wi hk.2.2.1 h.2.2.1.rt2).1, hk.2.2.2⟩
  unfold lift
  cases has
  · simp only [Bool.false_eq_true, if_false]
    cases h0 : isNil k0
    · simp only [Bool.false_eq_true, if_false]
      cases h1 : isNil k1
      · simp only [Bool.false_eq_true, if_false]
        exact ⟨h, trivial⟩
      · obtain rfl := nil_of h1
        exact ⟨up _ _ h.2.2.2.1, by simp [ents]⟩
    · obtain rfl := nil_of h0
      exact ⟨up _ _ h.2.2.2.2, by simp [ents]⟩
  · exact ⟨h, rfl⟩
theorem prune_ok (p : Pf) : ∀ {t : Tr} {r : Pf}, wf r t → wf r (pruneT p t) ∧ ents (pruneT p t) = ents t
  | .nil, _, _ => ⟨trivial, rfl⟩
  | .node b q has v k0 k1, r, h => by
    unfold pruneT
    split
    · split
      · obtain ⟨a, c⟩ := prune_ok p h.2.2.2.2
        obtain ⟨d, e⟩ := lift_ok (r := r) (b := b) (q := q) (has := has) (v := v) (k0 := k0) (k1 := pruneT p k1) ⟨h.1, h.2.1, h.2.2.1, h.2.2.2.1, a⟩
        exact ⟨d, by rw [e]; simp [ents, c]⟩
      · obtain ⟨a, c⟩ := prune_ok p h.2.2.2.1
        obtain ⟨d, e⟩ := lift_ok (r := r) (b := b) (q := q) (has := has) (v := v) (k0 := pruneT p k0) (k1 := k1) ⟨h.1, h.2.1, h.2.2.1, a, h.2.2.2.2⟩
        exact ⟨d, by rw [e]; simp [ents, c]⟩
    · exact lift_ok h
end Go.Proofs.YtdnokmpnemaoaaaGreat.T
namespace Go.Proofs.YtdnokmpnemaoaaaGreat.T
set_option linter.unusedSimpArgs false
set_option linter.unusedVariables false
set_option maxRecDepth 20000
set_option maxHeartbeats 4000000
open Go.RowKit Go.Pm

def ptr : Tr → Option Addr
  | .nil => none
  | .node b .. => some ⟨b, 0, none⟩
abbrev ndC (p : Pf) (has : Bool) (v : Vt) (a0 a1 : Option Addr) : List Value := [.int .u32 p.1, .int .i64 p.2, .bool has, .int .i64 v.1, .int .i64 v.2.1, .bool v.2.2, .pointer a0, .pointer a1]
def trP : Tr → HP
  | .nil => sats []
  | .node b p has v k0 k1 => sats [pts b (ndC p has v (ptr k0) (ptr k1)) 178, trP k0, trP k1]
abbrev trC (a : Option Addr) (n : Int) (m : Bool) : List Value := [.pointer a, .int .i64 n, .bool m]
def frC (f : Fr) (h : Option Addr) : List Value := if f.side then ndC f.p f.has f.v (ptr f.o) h else ndC f.p f.has f.v h (ptr f.o)
def ctxP (tb : Nat) (n : Int) : List Fr → Option Addr → HP
  | [], h => sats [pts tb (trC h n true) 143]
  | f :: C, h => sats [pts f.b (frC f h) 178, trP f.o, ctxP tb n C (some ⟨f.b, 0, none⟩)]
def sideN (b : Bool) : Nat := if b then 1 else 0
def holeA (tb : Nat) : List Fr → Addr
  | [] => ⟨tb, 0, none⟩
  | f :: _ => ⟨f.b, 6 + sideN f.side, none⟩

section
variable {W : World} {K : Hl} {L R : List HP} {w : World} {tb : Nat} {n : Int} {C : List Fr} {h h' : Option Addr}
theorem owCtxTop (H : Ow W K L w) (t : Tk L (ctxP tb n [] h) R) : Ow W K (pts tb (trC h n true) 143 :: R) w := H.flat t
theorem owCtxFr {f : Fr} (H : Ow W K L w) (t : Tk L (ctxP tb n (f :: C) h) R) : Ow W K (pts f.b (frC f h) 178 :: trP f.o :: ctxP tb n C (some ⟨f.b, 0, none⟩) :: R) w := H.flat t
theorem owMkTop (H : Ow W K L w) (t : Tk L (pts tb (trC h n true) 143) R) : Ow W K (ctxP tb n [] h :: R) w := H.shut (M := [pts tb (trC h n true) 143]) (.cons t .nil) (fun _ h => h)
theorem owMkFr {f : Fr} (H : Ow W K (pts f.b (frC f h) 178 :: trP f.o :: ctxP tb n C (some ⟨f.b, 0, none⟩) :: R) w) : Ow W K (ctxP tb n (f :: C) h :: R) w := H.shut (M := [pts f.b (frC f h) 178, trP f.o, ctxP tb n C (some ⟨f.b, 0, none⟩)]) (R := R) (.cons .here (.cons .here (.cons .here .nil))) (fun _ h => h)
theorem owNodeO {b : Nat} {p : Pf} {has : Bool} {v : Vt} {k0 k1 : Tr} (H : Ow W K L w) (t : Tk L (trP (.node b p has v k0 k1)) R) : Ow W K (pts b (ndC p has v (ptr k0) (ptr k1)) 178 :: trP k0 :: trP k1 :: R) w := H.flat t
theorem owMkNode {b : Nat} {p : Pf} {has : Bool} {v : Vt} {k0 k1 : Tr} (H : Ow W K (pts b (ndC p has v (ptr k0) (ptr k1)) 178 :: trP k0 :: trP k1 :: R) w) : Ow W K (trP (.node b p has v k0 k1) :: R) w := H.shut (M := [pts b (ndC p has v (ptr k0) (ptr k1)) 178, trP k0, trP k1]) (R := R) (.cons .here (.cons .here (.cons .here .nil))) (fun _ h => h)
theorem owMkNil (H : Ow W K L w) : Ow W K (trP .nil :: L) w := H.satsNil
theorem owFill {f : Fr} {s : Tr} (H : Ow W K (pts f.b (frC f (ptr s)) 178 :: trP f.o :: trP s :: R) w) : Ow W K (trP (fill f s) :: R) w := by
  unfold frC at H
  unfold Proofs.YtdnokmpnemaoaaaGreat.T.fill
  cases hs : f.side
  · simp only [hs, Bool.false_eq_true, if_false] at H ⊢
    exact owMkNode (H.perm (.cons _ (.swap ..)))
  · simp only [hs, if_true] at H ⊢
    exact owMkNode H
theorem ptr_fill (f : Fr) (s : Tr) : ptr (fill f s) = some ⟨f.b, 0, none⟩ := by
  unfold fill
  cases f.side <;> rfl
theorem owPlug : ∀ {C : List Fr} {s : Tr} {R : List HP}, Ow W K (ctxP tb n C (ptr s) :: trP s :: R) w → Ow W K (pts tb (trC (ptr (plug C s)) n true) 143 :: trP (plug C s) :: R) w
  | [], _, _, H => owCtxTop H .here
  | f :: C, s, R, H => by
    have H1 := (owCtxFr H .here).perm (L := pts f.b (frC f (ptr s)) 178 :: trP f.o :: ctxP tb n C (some ⟨f.b, 0, none⟩) :: trP s :: R) (M := pts f.b (frC f (ptr s)) 178 :: trP f.o :: trP s :: ctxP tb n C (some ⟨f.b, 0, none⟩) :: R) (.cons _ (.cons _ (.swap ..)))
    have H2 := owFill H1
    have H3 : Ow W K (ctxP tb n C (ptr (Proofs.YtdnokmpnemaoaaaGreat.T.fill f s)) :: trP (Proofs.YtdnokmpnemaoaaaGreat.T.fill f s) :: R) w := by
      rw [ptr_fill]
      exact H2.perm (.swap ..)
    exact owPlug (C := C) (s := Proofs.YtdnokmpnemaoaaaGreat.T.fill f s) (R := R) H3
theorem hole_cell : ∀ {C : List Fr}, Ow W K (ctxP tb n C h :: R) w → w.cell? (holeA tb C) = some (.pointer h) ∧ w.frozen? (holeA tb C) = false ∧ ∀ h', Ow W K (ctxP tb n C h' :: R) (w.setCell (holeA tb C) (.pointer h'))
  | [], H => by
    have H1 := owCtxTop H .here
    have hb := H1.blk .here
    exact ⟨by rw [holeA, hb.cell]; rfl, hb.free 0, fun h' => owMkTop (h := h') (H1.set .here .z) .here⟩
  | f :: C, H => by
    have H1 := owCtxFr H .here
    have hb := H1.blk .here
    refine ⟨?_, hb.free _, fun h' => owMkFr ?_⟩
    · rw [holeA, hb.cell]
      unfold frC sideN
      cases f.side <;> rfl
    · have : SetAt (frC f h) (6 + sideN f.side) (.pointer h') (frC f h') := by
        unfold frC sideN ndC
        cases f.side
        all_goals (show SetAt _ _ _ _; repeat (first | exact SetAt.z | apply SetAt.s))
      exact H1.set .here this
end

theorem is_s (tb : Nat) (a : Option Addr) (n : Int) (m : Bool) : Pact Tryz.prog 103 #[.pointer (some ⟨tb, 0, none⟩)] (fun _ => True) [pts tb (trC a n m) 143] (fun v L' => v = .bool m ∧ L' = [pts tb (trC a n m) 143]) := by
  refine pact Tryz.func103 rfl Tryz.ntmps103 rfl ?_
  intro W K _
  (repeat' (first | ((with_reducible apply gL); (first | refine yL0 ?_ | refine yL ?_ | ((with_reducible apply gL_gd); (first | (refine JL_guard xR xR ?_ ?_ <;> intro _ <;> (try (exfalso; first | contradiction | omega))) | (refine JL_guardb xR xR ?_ ?_ <;> (intro hgb; subst hgb)) | (refine JL_guardb xR xR ?_ ?_ <;> (intro hgb; fail_if_success (have : type_of% hgb := rfl))) | fail)) | fail)) | refine yJ ?_ | fail))
  exact J_ret1 rfl (by rfl) fun w H => ⟨_, ⟨rfl, rfl⟩, H.sel xZ⟩
theorem new_s : Pact Tryz.prog 33 #[] (fun _ => True) [] (fun v L' => ∃ tb, v = .pointer (some ⟨tb, 0, none⟩) ∧ L' = [pts tb (trC none 0 true) 143, trP .nil]) := by
  refine pact Tryz.func33 rfl Tryz.ntmps33 rfl ?_
  intro W K _
  (repeat' (first | ((with_reducible apply gL); (first | refine yL0 ?_ | refine yL ?_ | (refine yM ?_; intro _) | fail)) | refine yJ ?_ | fail))
  exact J_ret1 rfl (by rfl) fun w H => ⟨_, ⟨_, rfl, rfl⟩, (owMkNil H).sel xZ⟩
theorem len_s (tb : Nat) (a : Option Addr) (n : Int) (m : Bool) : Pact Tryz.prog 68 #[.pointer (some ⟨tb, 0, none⟩)] (fun _ => True) [pts tb (trC a n m) 143] (fun v L' => v = .int .i64 (if m then n else 0) ∧ L' = [pts tb (trC a n m) 143]) := by
  refine pact Tryz.func68 rfl Tryz.ntmps68 rfl ?_
  intro W K _
  cases m
  · (repeat' (first | ((with_reducible apply gL); (first | refine yL0 ?_ | refine yL ?_ | ((with_reducible apply gL_go); (first | (refine JL_goq (is_s tb a n false) (hφ := xF) (h := ?_); rintro _ _ ⟨rfl, rfl⟩; try simp only [List.cons_append, List.nil_append]) | fail)) | fail)) | refine yJ ?_ | ((with_reducible apply gJ_if); (first | (refine J_if xR ?_ ?_ <;> intro _ <;> (try (exfalso; first | contradiction | omega))) | (refine J_ifb xR ?_ ?_ <;> (intro hgb; subst hgb)) | (refine J_ifb xR ?_ ?_ <;> intro _) | fail)) | fail))
    exact J_ret1 rfl (by rfl) fun w H => ⟨_, ⟨rfl, rfl⟩, H.sel xZ⟩
  · (repeat' (first | ((with_reducible apply gL); (first | refine yL0 ?_ | refine yL ?_ | ((with_reducible apply gL_go); (first | (refine JL_goq (is_s tb a n true) (hφ := xF) (h := ?_); rintro _ _ ⟨rfl, rfl⟩; try simp only [List.cons_append, List.nil_append]) | fail)) | fail)) | refine yJ ?_ | ((with_reducible apply gJ_if); (first | (refine J_if xR ?_ ?_ <;> intro _ <;> (try (exfalso; first | contradiction | omega))) | (refine J_ifb xR ?_ ?_ <;> (intro hgb; subst hgb)) | (refine J_ifb xR ?_ ?_ <;> intro _) | fail)) | fail))
    exact J_ret1 rfl (by rfl) fun w H => ⟨_, ⟨rfl, rfl⟩, H.sel xZ⟩
end Go.Proofs.YtdnokmpnemaoaaaGreat.T
namespace Go.Proofs.YtdnokmpnemaoaaaGreat.T
set_option linter.unusedSimpArgs false
set_option linter.unusedVariables false
set_option maxRecDepth 20000
set_option maxHeartbeats 4000000
open Go.RowKit Go.Pm

theorem hole_see {K : Hl} {L R : List HP} {w : World} {tb : Nat} {n : Int} {C : List Fr} {h : Option Addr} (hr : Rdw K L w) (t : Tk L (ctxP tb n C h) R) : w.cell? (holeA tb C) = some (.pointer h) := by
  obtain ⟨k, hk, i⟩ := hr.tk t
  cases C with
  | nil =>
    obtain ⟨h1, h2, a, _, d, rfl⟩ := hk
    obtain rfl : h1 = Hl.one tb (.cells (trC h n true).toArray 143 (0, 0)) := a
    have hb : Blk w tb (trC h n true).toArray 143 := ((Hl.inn_add d).1 i).1 tb _ (by simp [Hl.one])
    rw [holeA, hb.cell]
    rfl
  | cons f C =>
    obtain ⟨h1, h2, a, _, d, rfl⟩ := hk
    obtain rfl : h1 = Hl.one f.b (.cells (frC f h).toArray 178 (0, 0)) := a
    have hb : Blk w f.b (frC f h).toArray 178 := ((Hl.inn_add d).1 i).1 f.b _ (by simp [Hl.one])
    rw [holeA, hb.cell]
    unfold frC sideN
    cases f.side <;> rfl
def szT : Tr → Nat
  | .nil => 0
  | .node _ _ _ _ k0 k1 => szT k0 + szT k1 + 1
structure Pl where
  C : List Fr
  s : Tr
theorem bit_b (a l : Int) (i : Int) (hi : bt a l = i) (ha : U32 a) (h0 : 0 ≤ l) (h1 : l ≤ 31) : Pact Tryz.prog 140 #[.int .u32 a, .int .i64 l] (fun _ => True) [] (ret0 (.int .i64 i)) := hi ▸ bit_s a l ha h0 h1
theorem within_b (p q : Pf) (hp : PfN p) (hq : PfN q) (b : Bool) (hb : decide (Wi p q) = b) : Pact Tryz.prog 139 #[.agg (pfC p).toArray, .agg (pfC q).toArray] (fun _ => True) [] (ret0 (.bool b)) := hb ▸ within_s p q hp hq
theorem right_b (p : Pf) (hp : PfN p) (b : Bool) (hb : decide (Rt p) = b) : Pact Tryz.prog 65 #[.agg (pfC p).toArray] (fun _ => True) [] (ret0 (.bool b)) := hb ▸ right_s p hp
def FindR (t : Tr) (p : Pf) (tb : Nat) (n : Int) (v : Value) (L' : List HP) : Prop := ∃ C s, plug C s = t ∧ Path p C ∧ Found p s ∧ v = .pointer (some (holeA tb C)) ∧ L' = [ctxP tb n C (ptr s), trP s]
theorem find_s (tb : Nat) (n : Int) (t : Tr) (p : Pf) (hp : PfN p) (hw : wf (0, 0) t) : Pact Tryz.prog 104 #[.pointer (some ⟨tb, 0, none⟩), .agg (pfC p).toArray] (fun _ => True) [pts tb (trC (ptr t) n true) 143, trP t] (FindR t p tb n) := by
  refine pact Tryz.func104 rfl Tryz.ntmps104 rfl ?_
  intro W K _
  (repeat' (first | ((with_reducible apply gL); (first | refine yL0 ?_ | refine yL ?_ | (refine yM ?_; intro _) | fail)) | ((with_reducible apply gD); (first | (refine JD_nil ?_; try simp only [List.cons_append, List.nil_append]) | (refine JD_bar ?_; try simp only [List.cons_append, List.nil_append]) | refine yD0 ?_ | refine yD ?_ | ((with_reducible apply gD_gd); (first | (refine JD_guard xR xR ?_ ?_ <;> intro _ <;> (try (exfalso; first | contradiction | omega))) | (refine JD_guardb xR xR ?_ ?_ <;> (intro hgb; subst hgb)) | (refine JD_guardb xR xR ?_ ?_ <;> (intro hgb; fail_if_success (have : type_of% hgb := rfl))) | fail)) | fail)) | refine yJ ?_ | ((with_reducible apply gJ_if); (first | (refine J_if xR ?_ ?_ <;> intro _ <;> (try (exfalso; first | contradiction | omega))) | (refine J_ifb xR ?_ ?_ <;> (intro hgb; subst hgb)) | (refine J_ifb xR ?_ ?_ <;> intro _) | fail)) | refine J_draw (id := 3) [0, 1, 2, 3, 4, 5, 6, 7, 8, 9, 10, 11, 12, 13, 14, 15] [16, 17, 18] mixed xC xD xD ?_ | refine J_draw (id := 5) [0, 1, 2, 3, 4, 5, 6, 7, 9, 10, 8] [11, 12] mixed xC xD xD ?_ | fail))
  rename_i g
  refine J_scope (α := Pl) 0 (fun x => szT x.s) (fun x => plug x.C x.s = t ∧ Path p x.C) (fun x => [(0, .pointer (some ⟨tb, 0, none⟩)), (3, .pointer (some ⟨g, 0, none⟩)), (5, .pointer (some (holeA tb x.C)))])
    (fun x => [ctxP tb n x.C (ptr x.s), trP x.s, pts g (pfC p) 28]) rfl rfl ?_ ?_
  · simp only [List.map_cons, List.map_nil, List.cons_append, List.nil_append]
    (repeat' (first | ((with_reducible apply gL); (first | refine yL0 ?_ | refine yL ?_ | (refine yM ?_; intro _) | fail)) | ((with_reducible apply gD); (first | (refine JD_nil ?_; try simp only [List.cons_append, List.nil_append]) | (refine JD_bar ?_; try simp only [List.cons_append, List.nil_append]) | refine yD0 ?_ | refine yD ?_ | ((with_reducible apply gD_gd); (first | (refine JD_guard xR xR ?_ ?_ <;> intro _ <;> (try (exfalso; first | contradiction | omega))) | (refine JD_guardb xR xR ?_ ?_ <;> (intro hgb; subst hgb)) | (refine JD_guardb xR xR ?_ ?_ <;> (intro hgb; fail_if_success (have : type_of% hgb := rfl))) | fail)) | fail)) | refine yJ ?_ | ((with_reducible apply gJ_if); (first | (refine J_if xR ?_ ?_ <;> intro _ <;> (try (exfalso; first | contradiction | omega))) | (refine J_ifb xR ?_ ?_ <;> (intro hgb; subst hgb)) | (refine J_ifb xR ?_ ?_ <;> intro _) | fail)) | refine J_draw (id := 3) [0, 1, 2, 3, 4, 5, 6, 7, 8, 9, 10, 11, 12, 13, 14, 15] [16, 17, 18] mixed xC xD xD ?_ | refine J_draw (id := 5) [0, 1, 2, 3, 4, 5, 6, 7, 9, 10, 8] [11, 12] mixed xC xD xD ?_ | fail))
    exact J_meet ⟨[], t⟩ ⟨rfl, by intro f h; simp at h⟩ ⟨rfl, rfl, rfl, trivial⟩ (fun w H => (owMkTop H xA).sel xZ)
  rintro ⟨C, s⟩ ⟨ht, hC⟩
  dsimp only at ht hC ⊢
  simp only [List.map_cons, List.map_nil, List.cons_append, List.nil_append]
  have hws := ((wf_plug C s).1 (ht ▸ hw)).2
  cases s with
  | nil =>
    (repeat' (first | ((with_reducible apply gL); (first | refine yL0 ?_ | ((with_reducible apply gL_load); (first | refine JL_p rfl xR xR (pe_ldH xR xC (fun w hr => hole_see hr xA)) ?_ | fail)) | refine yL ?_ | (refine yM ?_; intro _) | fail)) | ((with_reducible apply gD); (first | (refine JD_nil ?_; try simp only [List.cons_append, List.nil_append]) | (refine JD_bar ?_; try simp only [List.cons_append, List.nil_append]) | refine yD0 ?_ | ((with_reducible apply gD_load); (first | refine JL_p rfl xR xR (pe_ldH xR xC (fun w hr => hole_see hr xA)) ?_ | fail)) | refine yD ?_ | ((with_reducible apply gD_gd); (first | (refine JD_guard xR xR ?_ ?_ <;> intro _ <;> (try (exfalso; first | contradiction | omega))) | (refine JD_guardb xR xR ?_ ?_ <;> (intro hgb; subst hgb)) | (refine JD_guardb xR xR ?_ ?_ <;> (intro hgb; fail_if_success (have : type_of% hgb := rfl))) | fail)) | fail)) | refine yJ ?_ | ((with_reducible apply gJ_if); (first | (refine J_if xR ?_ ?_ <;> intro _ <;> (try (exfalso; first | contradiction | omega))) | (refine J_ifb xR ?_ ?_ <;> (intro hgb; subst hgb)) | (refine J_ifb xR ?_ ?_ <;> intro _) | fail)) | refine J_draw (id := 3) [0, 1, 2, 3, 4, 5, 6, 7, 8, 9, 10, 11, 12, 13, 14, 15] [16, 17, 18] mixed xC xD xD ?_ | refine J_draw (id := 5) [0, 1, 2, 3, 4, 5, 6, 7, 9, 10, 8] [11, 12] mixed xC xD xD ?_ | fail))
    exact J_ret1 rfl (by rfl) fun w H => ⟨_, ⟨C, .nil, ht, hC, by intro q hq; simp [top] at hq, rfl, rfl⟩, H.sel xZ⟩
  | node b q has v k0 k1 =>
    refine J_heap (fun w H => owNodeO H xA) ?_
    by_cases hq : q.1 = p.1 ∧ q.2 = p.2
    · (repeat' (first | ((with_reducible apply gL); (first | refine yL0 ?_ | ((with_reducible apply gL_load); (first | refine JL_p rfl xR xR (pe_ldH xR xC (fun w hr => hole_see hr xA)) ?_ | fail)) | refine yL ?_ | (refine yM ?_; intro _) | fail)) | ((with_reducible apply gD); (first | (refine JD_nil ?_; try simp only [List.cons_append, List.nil_append]) | (refine JD_bar ?_; try simp only [List.cons_append, List.nil_append]) | refine yD0 ?_ | ((with_reducible apply gD_load); (first | refine JL_p rfl xR xR (pe_ldH xR xC (fun w hr => hole_see hr xA)) ?_ | fail)) | refine yD ?_ | ((with_reducible apply gD_gd); (first | (refine JD_guard xR xR ?_ ?_ <;> intro _ <;> (try (exfalso; first | contradiction | omega))) | (refine JD_guardb xR xR ?_ ?_ <;> (intro hgb; subst hgb)) | (refine JD_guardb xR xR ?_ ?_ <;> (intro hgb; fail_if_success (have : type_of% hgb := rfl))) | fail)) | fail)) | refine yJ ?_ | ((with_reducible apply gJ_if); (first | (refine J_if xR ?_ ?_ <;> intro _ <;> (try (exfalso; first | contradiction | omega))) | (refine J_ifb xR ?_ ?_ <;> (intro hgb; subst hgb)) | (refine J_ifb xR ?_ ?_ <;> intro _) | fail)) | refine J_draw (id := 3) [0, 1, 2, 3, 4, 5, 6, 7, 8, 9, 10, 11, 12, 13, 14, 15] [16, 17, 18] mixed xC xD xD ?_ | refine J_draw (id := 5) [0, 1, 2, 3, 4, 5, 6, 7, 9, 10, 8] [11, 12] mixed xC xD xD ?_ | fail))
      exact J_ret1 rfl (by rfl) fun w H => ⟨_, ⟨C, .node b q has v k0 k1, ht, hC, by intro x hx; cases hx; exact .inl (Prod.ext hq.1 hq.2), rfl, rfl⟩, (owMkNode (H.sb (M := [pts b (ndC q has v (ptr k0) (ptr k1)) 178, trP k0, trP k1]) xZ)).sel xZ⟩
    · have hne : q ≠ p := fun e => hq ⟨by rw [e], by rw [e]⟩
      by_cases hwi : Wi q p
      · have hl := hwi.lt hne
        have h32 := rt_hi hwi.rt2
        rcases bt_cases p.1 q.2 with hb | hb
        · (repeat' (first | ((with_reducible apply gL); (first | refine yL0 ?_ | ((with_reducible apply gL_load); (first | refine JL_p rfl xR xR (pe_ldH xR xC (fun w hr => hole_see hr xA)) ?_ | fail)) | refine yL ?_ | (refine yM ?_; intro _) | fail)) | ((with_reducible apply gD); (first | (refine JD_nil ?_; try simp only [List.cons_append, List.nil_append]) | (refine JD_bar ?_; try simp only [List.cons_append, List.nil_append]) | refine yD0 ?_ | ((with_reducible apply gD_load); (first | refine JL_p rfl xR xR (pe_ldH xR xC (fun w hr => hole_see hr xA)) ?_ | fail)) | refine yD ?_ | ((with_reducible apply gD_go); (first | (refine JD_goq (within_b q p hws.1 hp true (decide_eq_true hwi)) (hφ := xF) (h := ?_); rintro _ _ ⟨rfl, rfl⟩; try simp only [List.cons_append, List.nil_append]) | (refine JD_goq (bit_b p.1 q.2 0 hb hp.1 (rt_lo hwi.rt1) (by omega)) (hφ := xF) (h := ?_); rintro _ _ ⟨rfl, rfl⟩; try simp only [List.cons_append, List.nil_append]) | fail)) | ((with_reducible apply gD_gd); (first | (refine JD_guard xR xR ?_ ?_ <;> intro _ <;> (try (exfalso; first | contradiction | omega))) | (refine JD_guardb xR xR ?_ ?_ <;> (intro hgb; subst hgb)) | (refine JD_guardb xR xR ?_ ?_ <;> (intro hgb; fail_if_success (have : type_of% hgb := rfl))) | fail)) | fail)) | refine yJ ?_ | ((with_reducible apply gJ_if); (first | (refine J_if xR ?_ ?_ <;> intro _ <;> (try (exfalso; first | contradiction | omega))) | (refine J_ifb xR ?_ ?_ <;> (intro hgb; subst hgb)) | (refine J_ifb xR ?_ ?_ <;> intro _) | fail)) | refine J_draw (id := 3) [0, 1, 2, 3, 4, 5, 6, 7, 8, 9, 10, 11, 12, 13, 14, 15] [16, 17, 18] mixed xC xD xD ?_ | refine J_draw (id := 5) [0, 1, 2, 3, 4, 5, 6, 7, 9, 10, 8] [11, 12] mixed xC xD xD ?_ | fail))
          refine J_again ⟨⟨b, q, has, v, false, k1⟩ :: C, k0⟩ (by simp only [szT]; omega) ⟨ht, ?_⟩ ⟨rfl, rfl, rfl, trivial⟩ (fun w H => (owMkFr (f := ⟨b, q, has, v, false, k1⟩) (H.sb (M := [pts b (ndC q has v (ptr k0) (ptr k1)) 178, trP k1, ctxP tb n C (some ⟨b, 0, none⟩)]) xZ)).sel xZ)
          intro f hf
          rcases List.mem_cons.1 hf with rfl | hf
          · exact ⟨hwi, hne, by simp [btB, hb]⟩
          · exact hC f hf
        · (repeat' (first | ((with_reducible apply gL); (first | refine yL0 ?_ | ((with_reducible apply gL_load); (first | refine JL_p rfl xR xR (pe_ldH xR xC (fun w hr => hole_see hr xA)) ?_ | fail)) | refine yL ?_ | (refine yM ?_; intro _) | fail)) | ((with_reducible apply gD); (first | (refine JD_nil ?_; try simp only [List.cons_append, List.nil_append]) | (refine JD_bar ?_; try simp only [List.cons_append, List.nil_append]) | refine yD0 ?_ | ((with_reducible apply gD_load); (first | refine JL_p rfl xR xR (pe_ldH xR xC (fun w hr => hole_see hr xA)) ?_ | fail)) | refine yD ?_ | ((with_reducible apply gD_go); (first | (refine JD_goq (within_b q p hws.1 hp true (decide_eq_true hwi)) (hφ := xF) (h := ?_); rintro _ _ ⟨rfl, rfl⟩; try simp only [List.cons_append, List.nil_append]) | (refine JD_goq (bit_b p.1 q.2 1 hb hp.1 (rt_lo hwi.rt1) (by omega)) (hφ := xF) (h := ?_); rintro _ _ ⟨rfl, rfl⟩; try simp only [List.cons_append, List.nil_append]) | fail)) | ((with_reducible apply gD_gd); (first | (refine JD_guard xR xR ?_ ?_ <;> intro _ <;> (try (exfalso; first | contradiction | omega))) | (refine JD_guardb xR xR ?_ ?_ <;> (intro hgb; subst hgb)) | (refine JD_guardb xR xR ?_ ?_ <;> (intro hgb; fail_if_success (have : type_of% hgb := rfl))) | fail)) | fail)) | refine yJ ?_ | ((with_reducible apply gJ_if); (first | (refine J_if xR ?_ ?_ <;> intro _ <;> (try (exfalso; first | contradiction | omega))) | (refine J_ifb xR ?_ ?_ <;> (intro hgb; subst hgb)) | (refine J_ifb xR ?_ ?_ <;> intro _) | fail)) | refine J_draw (id := 3) [0, 1, 2, 3, 4, 5, 6, 7, 8, 9, 10, 11, 12, 13, 14, 15] [16, 17, 18] mixed xC xD xD ?_ | refine J_draw (id := 5) [0, 1, 2, 3, 4, 5, 6, 7, 9, 10, 8] [11, 12] mixed xC xD xD ?_ | fail))
          refine J_again ⟨⟨b, q, has, v, true, k0⟩ :: C, k1⟩ (by simp only [szT]; omega) ⟨ht, ?_⟩ ⟨rfl, rfl, rfl, trivial⟩ (fun w H => (owMkFr (f := ⟨b, q, has, v, true, k0⟩) (H.sb (M := [pts b (ndC q has v (ptr k0) (ptr k1)) 178, trP k0, ctxP tb n C (some ⟨b, 0, none⟩)]) xZ)).sel xZ)
          intro f hf
          rcases List.mem_cons.1 hf with rfl | hf
          · exact ⟨hwi, hne, by simp [btB, hb]⟩
          · exact hC f hf
      · (repeat' (first | ((with_reducible apply gL); (first | refine yL0 ?_ | ((with_reducible apply gL_load); (first | refine JL_p rfl xR xR (pe_ldH xR xC (fun w hr => hole_see hr xA)) ?_ | fail)) | refine yL ?_ | (refine yM ?_; intro _) | fail)) | ((with_reducible apply gD); (first | (refine JD_nil ?_; try simp only [List.cons_append, List.nil_append]) | (refine JD_bar ?_; try simp only [List.cons_append, List.nil_append]) | refine yD0 ?_ | ((with_reducible apply gD_load); (first | refine JL_p rfl xR xR (pe_ldH xR xC (fun w hr => hole_see hr xA)) ?_ | fail)) | refine yD ?_ | ((with_reducible apply gD_go); (first | (refine JD_goq (within_b q p hws.1 hp false (decide_eq_false hwi)) (hφ := xF) (h := ?_); rintro _ _ ⟨rfl, rfl⟩; try simp only [List.cons_append, List.nil_append]) | fail)) | ((with_reducible apply gD_gd); (first | (refine JD_guard xR xR ?_ ?_ <;> intro _ <;> (try (exfalso; first | contradiction | omega))) | (refine JD_guardb xR xR ?_ ?_ <;> (intro hgb; subst hgb)) | (refine JD_guardb xR xR ?_ ?_ <;> (intro hgb; fail_if_success (have : type_of% hgb := rfl))) | fail)) | fail)) | refine yJ ?_ | ((with_reducible apply gJ_if); (first | (refine J_if xR ?_ ?_ <;> intro _ <;> (try (exfalso; first | contradiction | omega))) | (refine J_ifb xR ?_ ?_ <;> (intro hgb; subst hgb)) | (refine J_ifb xR ?_ ?_ <;> intro _) | fail)) | refine J_draw (id := 3) [0, 1, 2, 3, 4, 5, 6, 7, 8, 9, 10, 11, 12, 13, 14, 15] [16, 17, 18] mixed xC xD xD ?_ | refine J_draw (id := 5) [0, 1, 2, 3, 4, 5, 6, 7, 9, 10, 8] [11, 12] mixed xC xD xD ?_ | fail))
        exact J_ret1 rfl (by rfl) fun w H => ⟨_, ⟨C, .node b q has v k0 k1, ht, hC, by intro x hx; cases hx; exact .inr hwi, rfl, rfl⟩, (owMkNode (H.sb (M := [pts b (ndC q has v (ptr k0) (ptr k1)) 178, trP k0, trP k1]) xZ)).sel xZ⟩
end Go.Proofs.YtdnokmpnemaoaaaGreat.T
