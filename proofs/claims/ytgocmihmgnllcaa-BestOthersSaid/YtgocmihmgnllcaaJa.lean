/-
  The walk in our own words, first part: what slots hold (a partial function), operations as triples, and regions whose order is drawn: one order stands for all.
-/
import Derived.Test.YtgocmihmgnllcaaRow
import Derived.Orders
namespace Go.Pm
set_option linter.unusedSimpArgs false
set_option linter.unusedVariables false
open Go.RowKit

/-! Slots. -/
abbrev TF := Nat → Option Value
abbrev TM := List (Nat × Value)
def tget : TM → TF
  | [], _ => none
  | (k, v) :: r, t => bif Nat.beq k t then some v else tget r t
def evF (f : TF) : Operand → Option Value
  | .tmp t => f t
  | .const v => some v
  | .global g => some (.pointer (some ⟨g, 0, none⟩))
  | .func g => some (.func (.func g) #[] #[])
abbrev evT (tm : TM) : Operand → Option Value := evF (tget tm)

structure Fit (n : Nat) (f : TF) (a : Act) : Prop where
  d : a.defers = []
  sz : a.tmps.size = n
  v : ∀ t v, f t = some v → a.tmps[t]? = some v

theorem Fit.eval {n : Nat} {f : TF} {a : Act} (h : Fit n f a) {x : Operand} {v : Value} (e : evF f x = some v) : a.eval x = v := by
  cases x with
  | tmp t => have := h.v t v e; simp [Act.eval, Array.getD_eq_getD_getElem?, this]
  | const u => simp only [evF, Option.some.injEq] at e; exact e
  | global g => simp only [evF, Option.some.injEq] at e; exact e
  | func g => simp only [evF, Option.some.injEq] at e; exact e

def upd (f : TF) (d : Option Tmp) (v : Value) : TF := match d with
  | none => f
  | some d => fun t => if t = d then some v else f t
theorem upd_cons (tm : TM) (d : Tmp) (v : Value) : upd (tget tm) (some d) v = tget ((d, v) :: tm) := by
  funext t
  by_cases h : t = d
  · subst h; simp [upd, tget]
  · have : Nat.beq d t = false := by rw [Bool.eq_false_iff]; intro hb; exact h (Nat.eq_of_beq_eq_true hb).symm
    simp [upd, tget, h, this]
theorem upd_comm {f : TF} {d e : Option Tmp} {u v : Value} (h : ∀ t, d = some t → e ≠ some t) : upd (upd f d u) e v = upd (upd f e v) d u := by
  cases d with
  | none => rfl
  | some d =>
    cases e with
    | none => rfl
    | some e =>
      have hne : e ≠ d := fun he => h d rfl (by rw [he])
      funext t
      simp only [upd]
      by_cases h1 : t = d
      · subst h1; simp [Ne.symm hne]
      · simp [h1]

def inB (n : Nat) (d : Option Tmp) : Bool := match d with
  | none => true
  | some t => Nat.blt t n
theorem Fit.put {n : Nat} {f : TF} {a : Act} (h : Fit n f a) {d : Option Tmp} (hd : inB n d = true) (v : Value) : Fit n (upd f d v) (a.put d v) := by
  cases d with
  | none => exact h
  | some t =>
    have ht : t < n := by simpa [inB] using hd
    refine ⟨h.d, by simpa [Act.put] using h.sz, fun u x hu => ?_⟩
    simp only [upd] at hu
    split at hu
    · rename_i e; subst e; cases hu
      simp [Act.put, Array.getElem?_setIfInBounds, h.sz, ht]
    · rename_i e
      simp only [Act.put, Array.getElem?_setIfInBounds]
      rw [if_neg (fun e2 => e e2.symm)]
      exact h.v u x hu

/-- A frame that fits but for one slot may be set right there. -/
theorem Fit.unput {n : Nat} {f : TF} {a : Act} {d : Option Tmp} {v : Value} (h : Fit n (upd f d v) a) (hd : inB n d = true) : ∃ u, Fit n f (a.put d u) := by
  cases d with
  | none => exact ⟨undef, h⟩
  | some t =>
    have ht : t < n := by simpa [inB] using hd
    refine ⟨(f t).getD undef, h.d, by simpa [Act.put] using h.sz, fun u x hu => ?_⟩
    simp only [Act.put, Array.getElem?_setIfInBounds]
    by_cases e : t = u
    · subst e
      rw [if_pos rfl, h.sz, if_pos ht, hu]
      rfl
    · rw [if_neg e]
      refine h.v u x ?_
      simp only [upd]
      rw [if_neg (fun e2 => e e2.symm)]
      exact hu

/-! Operations. -/
def Agree (o : Oper) (f : TF) (ρ : Operand → Value) : Prop := ∀ x ∈ o.op.operands.toList, ∀ v, evF f x = some v → ρ x = v
theorem Fit.agree {n : Nat} {f : TF} {a : Act} (h : Fit n f a) (o : Oper) : Agree o f a.eval := fun _ _ _ e => h.eval e

/-- The world has the known memory K, and the parts S. -/
def Rdw (K : Hl) (S : List HP) (w : World) : Prop := K.inn w ∧ ∃ h, sats S h ∧ h.disj K ∧ h.inn w
def Hl.le (K K' : Hl) : Prop := ∀ b x, K b = some x → K' b = some x
theorem Hl.le.refl (K : Hl) : K.le K := fun _ _ h => h
theorem Hl.le.trans {A B C : Hl} (h : A.le B) (k : B.le C) : A.le C := fun b x e => k b x (h b x e)
theorem Hl.le_add (K h : Hl) : K.le (K.add h) := fun b x e => by simp [Hl.add, e]
theorem Hl.le.inn {K K' : Hl} (h : K.le K') {w : World} (i : K'.inn w) : K.inn w := fun b x e => i b x (h b x e)
theorem Hl.le.disj {K K' h : Hl} (l : K.le K') (d : h.disj K') : h.disj K := fun b => by
  rcases d b with e | e
  · exact .inl e
  · right
    cases hk : K b with
    | none => rfl
    | some x => rw [l b x hk] at e; cases e
theorem Ow.rdw {W : World} {K : Hl} {L M : List HP} {w : World} (H : Ow W K (M ++ L) w) : Rdw K L w := by
  obtain ⟨h, s, d, i⟩ := H.mem
  obtain ⟨h1, h2, s1, s2, d', rfl⟩ := (sats_append _ _ _).1 s
  exact ⟨H.kn, h2, s2, (Hl.add_disj.1 d).2, ((Hl.inn_add d').1 i).2⟩
theorem Rdw.le {K K' : Hl} {S : List HP} {w : World} (h : Rdw K' S w) (l : K.le K') : Rdw K S w := ⟨l.inn h.1, by obtain ⟨x, s, d, i⟩ := h.2; exact ⟨x, s, l.disj d, i⟩⟩
theorem Rdw.perm {K : Hl} {S S' : List HP} {w : World} (h : Rdw K S w) (p : S.Perm S') : Rdw K S' w := ⟨h.1, by obtain ⟨x, s, d, i⟩ := h.2; exact ⟨x, sats_perm p x s, d, i⟩⟩
theorem Rdw.right {K : Hl} {S R : List HP} {w : World} (h : Rdw K (R ++ S) w) : Rdw K S w := ⟨h.1, by
  obtain ⟨x, s, d, i⟩ := h.2
  obtain ⟨h1, h2, s1, s2, d', rfl⟩ := (sats_append _ _ _).1 s
  exact ⟨h2, s2, (Hl.add_disj.1 d).2, ((Hl.inn_add d').1 i).2⟩⟩

/-- o reads only, and answers v. -/
def PE (P : Program) (K : Hl) (S : List HP) (o : Oper) (f : TF) (v : Value) : Prop := ∀ ρ w, Agree o f ρ → Rdw K S w → (execOp ρ o).run P w = .ok (.value v) w
/-- o makes one block. -/
def AL (P : Program) (o : Oper) (f : TF) (x : Obj) (g : Nat → Value) : Prop := ∀ ρ w, Agree o f ρ → (execOp ρ o).run P w = .ok (.value (g w.heap.size)) (w.alloc x)
/-- o acts: with the parts C for its own, reading R besides. -/
def AE (P : Program) (n : Nat) (K : Hl) (R C : List HP) (o : Oper) (f : TF) (Φ : Value → List HP → Prop) : Prop :=
  ∀ W K' w a next, K.le K' → Fit n f a → Ow W K' (C ++ R) w → (∀ v L' w', Φ v L' → Ow W K' (L' ++ R) w' → next (a.put o.dst v) w') → o.wp P a w next (fun _ _ _ => False)

def wantF (ops : Array Oper) (o : Oper) (f : TF) : Option Bool := match o.guard with
  | none => some true
  | some (j, b) => match (ops[j]?).bind (·.dst) with
    | none => none
    | some t => match f t with
      | some (.bool c) => some (c == b)
      | _ => none
theorem wantF_eq {ops : Array Oper} {o : Oper} {f : TF} {c : Bool} (h : wantF ops o f = some c) {n : Nat} {a : Act} (hf : Fit n f a) : Region.wanted o (yielded ops a.tmps) = c := by
  unfold wantF at h
  unfold Region.wanted yielded
  split at h
  · rename_i hg; rw [hg]; simpa using h
  · rename_i j b hg
    rw [hg]
    split at h
    · cases h
    · rename_i t ht
      split at h
      · rename_i c' hc
        have := hf.v t _ hc
        simp only [ht, Option.bind_some, this]
        simp only [Option.some.injEq] at h
        rw [← h]
        cases c' <;> cases b <;> rfl
      · cases h

theorem Oper.wp_monoQ {P : Program} {o : Oper} {a : Act} {w : World} {K : Act → World → Prop} {Q : Exit → Act → World → Prop} (h : o.wp P a w K (fun _ _ _ => False)) : o.wp P a w K Q := by
  unfold Oper.wp at *
  generalize (execOp a.eval o).run P w = r at *
  cases r with
  | ok n w' =>
    cases n <;> simp only [Oper.upon] at h ⊢ <;>
      first
        | exact h
        | exact Calls.mono h (fun e w'' he => by
            cases e with
            | returned v => exact he
            | panicked c => exact he.elim
            | outgrown => obtain ⟨_, _, h⟩ := he; exact h.elim)
  | halt x w' => cases x <;> simp only [Oper.upon] at h ⊢ <;> exact h.elim

/-- What a step that runs to its end leaves is there. -/
theorem Oper.wp_some {P : Program} {o : Oper} {a : Act} {w : World} {X : Prop} (h : o.wp P a w (fun _ _ => X) (fun _ _ _ => False)) : X := by
  unfold Oper.wp at *
  generalize (execOp a.eval o).run P w = r at *
  cases r with
  | ok n w' =>
    cases n <;> simp only [Oper.upon] at h <;>
      first
        | exact h
        | exact h.elim
        | (obtain ⟨e, w'', fr, he, _⟩ := h []
           cases e with
           | returned v => exact he
           | panicked c => exact he.elim
           | outgrown => obtain ⟨_, _, h⟩ := he; exact h.elim)
        | (obtain ⟨v, w'', h, _⟩ := h default []; exact h)
  | halt x w' => cases x <;> simp only [Oper.upon] at h <;> exact h.elim

theorem Act.put_same {a a' : Act} {d : Option Tmp} {v v' : Value} (hs : a.tmps.size = a'.tmps.size) (h : a.put d v = a.put d v') : a'.put d v = a'.put d v' := by
  cases d with
  | none => rfl
  | some t =>
    have h1 : a.tmps.setIfInBounds t v = a.tmps.setIfInBounds t v' := congrArg Act.tmps h
    by_cases ht : t < a.tmps.size
    · have h2 := congrArg (fun x => x[t]?) h1
      simp [Array.getElem?_setIfInBounds, ht] at h2
      rw [h2]
    · have ht' : ¬ t < a'.tmps.size := by rw [← hs]; exact ht
      simp only [Act.put, Act.mk.injEq, and_true]
      apply Array.ext_getElem?
      intro j
      simp only [Array.getElem?_setIfInBounds, if_neg ht']
/-- The same step in two frames that look alike to it. -/
theorem Oper.wp_frame {P : Program} {o : Oper} {a a' : Act} {w : World} {N : Value → World → Prop} (he : execOp a'.eval o = execOp a.eval o) (hs : a.tmps.size = a'.tmps.size)
    (h : o.wp P a w (fun b w' => ∃ v, b = a.put o.dst v ∧ N v w') (fun _ _ _ => False)) : o.wp P a' w (fun b w' => ∃ v, b = a'.put o.dst v ∧ N v w') (fun _ _ _ => False) := by
  unfold Oper.wp at *
  rw [he]
  have key : ∀ v w', (∃ v', a.put o.dst v = a.put o.dst v' ∧ N v' w') → ∃ v', a'.put o.dst v = a'.put o.dst v' ∧ N v' w' := fun v w' ⟨v', h1, h2⟩ => ⟨v', Act.put_same hs h1, h2⟩
  cases hr : (execOp a.eval o).run P w with
  | ok n w' =>
    rw [hr] at h
    cases n <;> simp only [Oper.upon] at h ⊢ <;>
      first
        | exact key _ _ h
        | exact h.elim
        | (obtain ⟨v', h1, _⟩ := h
           have h2 := congrArg (fun x => x.defers.length) h1
           cases hd : o.dst <;> simp [hd, Act.put] at h2)
        | exact Calls.mono h (fun e w'' he => by
            cases e with
            | returned v => exact key _ _ he
            | panicked c => exact he.elim
            | outgrown => exact he)
        | exact Rows.mono h (fun _ _ he => key _ _ he)
  | halt x w' =>
    rw [hr] at h
    cases x <;> simp only [Oper.upon] at h <;> exact h.elim
end Go.Pm
