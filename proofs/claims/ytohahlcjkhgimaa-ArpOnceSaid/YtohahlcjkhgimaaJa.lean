/-
  The walk in our own words, first part: what slots hold (a partial function), operations as triples, and regions whose order is drawn: one order stands for all.
-/
import Derived.Test.YtohahlcjkhgimaaRow
import Derived.OrdersIn
import Derived.TacticsIn
import Derived.RangeFuncLeaves
import Derived.RangeFuncRecord
namespace Go.Pm
set_option linter.unusedSimpArgs false
set_option linter.unusedVariables false
open Go.RowKit

/-! Slots. -/
abbrev TF := Nat → Option Value
abbrev TM := List (Nat × Value)
def tget : TM → TF
  | [], _ => none
  | (k, v) :: r, t => bif Nat.beq k t then some v else tget r t
/-- The place where the marks stand that ranges over functions have left among the deferred calls. -/
def mkK : Nat := 1000000
def fget (f : TF) (t : Nat) : Option Value := bif Nat.beq t 1000000 then none else f t
theorem fget_some {f : TF} {t : Nat} {v : Value} (h : fget f t = some v) : t ≠ mkK ∧ f t = some v := by
  unfold fget at h
  by_cases ht : t = 1000000
  · subst ht; simp at h
  · have : Nat.beq t 1000000 = false := by rw [Bool.eq_false_iff]; intro hb; exact ht (Nat.eq_of_beq_eq_true hb)
    rw [this] at h
    exact ⟨ht, h⟩
def evF (f : TF) : Operand → Option Value
  | .tmp t => fget f t
  | .const v => some v
  | .global g => some (.pointer (some ⟨g, 0, none⟩))
  | .func g => some (.func (.func g) #[] #[])
abbrev evT (tm : TM) : Operand → Option Value := evF (tget tm)

def mark (D : Nat) : Deferred := { target := .collected D, args := #[] }
def decM : Option Value → List Nat
  | some (.tuple vs) => vs.toList.map fun | .int _ z => z.toNat | _ => 0
  | _ => []
def encM (Ds : List Nat) : Value := .tuple (Ds.map fun D => .int .u64 (D : Int)).toArray
theorem dec_enc (Ds : List Nat) : decM (some (encM Ds)) = Ds := by
  simp only [decM, encM, List.map_map]
  induction Ds with
  | nil => rfl
  | cons D Ds ih => simp only [List.map_cons, Function.comp, Int.toNat_natCast, ih]
structure Fit (n : Nat) (f : TF) (a : Act) : Prop where
  d : a.defers = (decM (f mkK)).map mark
  sz : a.tmps.size = n
  lt : n ≤ mkK
  v : ∀ t v, t ≠ mkK → f t = some v → a.tmps[t]? = some v

theorem Fit.eval {n : Nat} {f : TF} {a : Act} (h : Fit n f a) {x : Operand} {v : Value} (e : evF f x = some v) : a.eval x = v := by
  cases x with
  | tmp t => obtain ⟨h1, h2⟩ := fget_some e; have := h.v t v h1 h2; simp [Act.eval, Array.getD_eq_getD_getElem?, this]
  | const u => simp only [evF, Option.some.injEq] at e; exact e
  | global g => simp only [evF, Option.some.injEq] at e; exact e
  | func g => simp only [evF, Option.some.injEq] at e; exact e

def upd (f : TF) (d : Option Tmp) (v : Value) : TF := match d with
  | none => f
  | some d => fun t => if t = d then some v else f t
theorem upd_cons (tm : TM) (d : Tmp) (v : Value) : upd (tget tm) (some d) v = tget ((d, v) :: tm) := by
  funext t
  by_cases h : t = d
  · subst h; simp [upd, tget]
  · have : Nat.beq d t = false := by rw [Bool.eq_false_iff]; intro hb; exact h (Nat.eq_of_beq_eq_true hb).symm
    simp [upd, tget, h, this]
theorem upd_comm {f : TF} {d e : Option Tmp} {u v : Value} (h : ∀ t, d = some t → e ≠ some t) : upd (upd f d u) e v = upd (upd f e v) d u := by
  cases d with
  | none => rfl
  | some d =>
    cases e with
    | none => rfl
    | some e =>
      have hne : e ≠ d := fun he => h d rfl (by rw [he])
      funext t
      simp only [upd]
      by_cases h1 : t = d
      · subst h1; simp [Ne.symm hne]
      · simp [h1]

def inB (n : Nat) (d : Option Tmp) : Bool := match d with
  | none => true
  | some t => Nat.blt t n
theorem Fit.put {n : Nat} {f : TF} {a : Act} (h : Fit n f a) {d : Option Tmp} (hd : inB n d = true) (v : Value) : Fit n (upd f d v) (a.put d v) := by
  cases d with
  | none => exact h
  | some t =>
    have ht : t < n := by simpa [inB] using hd
    have hm : mkK ≠ t := fun e => by subst e; exact absurd ht (Nat.not_lt.2 h.lt)
    refine ⟨by simp only [upd, if_neg hm]; exact h.d, by simpa [Act.put] using h.sz, h.lt, fun u x hn hu => ?_⟩
    simp only [upd] at hu
    split at hu
    · rename_i e; subst e; cases hu
      simp [Act.put, Array.getElem?_setIfInBounds, h.sz, ht]
    · rename_i e
      simp only [Act.put, Array.getElem?_setIfInBounds]
      rw [if_neg (fun e2 => e e2.symm)]
      exact h.v u x hn hu

/-- A frame that fits but for one slot may be set right there. -/
theorem Fit.unput {n : Nat} {f : TF} {a : Act} {d : Option Tmp} {v : Value} (h : Fit n (upd f d v) a) (hd : inB n d = true) : ∃ u, Fit n f (a.put d u) := by
  cases d with
  | none => exact ⟨undef, h⟩
  | some t =>
    have ht : t < n := by simpa [inB] using hd
    have hm : mkK ≠ t := fun e => by subst e; exact absurd ht (Nat.not_lt.2 h.lt)
    refine ⟨(f t).getD undef, by have := h.d; simp only [upd, if_neg hm] at this; exact this, by simpa [Act.put] using h.sz, h.lt, fun u x hn hu => ?_⟩
    simp only [Act.put, Array.getElem?_setIfInBounds]
    by_cases e : t = u
    · subst e
      rw [if_pos rfl, h.sz, if_pos ht, hu]
      rfl
    · rw [if_neg e]
      refine h.v u x hn ?_
      simp only [upd]
      rw [if_neg (fun e2 => e e2.symm)]
      exact hu

/-! Operations. -/
def Agree (o : Oper) (f : TF) (ρ : Operand → Value) : Prop := ∀ x ∈ o.op.operands.toList, ∀ v, evF f x = some v → ρ x = v
theorem Fit.agree {n : Nat} {f : TF} {a : Act} (h : Fit n f a) (o : Oper) : Agree o f a.eval := fun _ _ _ e => h.eval e

/-- The world has the known memory K, and the parts S. -/
def Rdw (K : Hl) (S : List HP) (w : World) : Prop := K.inn w ∧ ∃ h, sats S h ∧ h.disj K ∧ h.inn w
def Hl.le (K K' : Hl) : Prop := ∀ b x, K b = some x → K' b = some x
theorem Hl.le.refl (K : Hl) : K.le K := fun _ _ h => h
theorem Hl.le.trans {A B C : Hl} (h : A.le B) (k : B.le C) : A.le C := fun b x e => k b x (h b x e)
theorem Hl.le_add (K h : Hl) : K.le (K.add h) := fun b x e => by simp [Hl.add, e]
theorem Hl.le.inn {K K' : Hl} (h : K.le K') {w : World} (i : K'.inn w) : K.inn w := fun b x e => i b x (h b x e)
theorem Hl.le.disj {K K' h : Hl} (l : K.le K') (d : h.disj K') : h.disj K := fun b => by
  rcases d b with e | e
  · exact .inl e
  · right
    cases hk : K b with
    | none => rfl
    | some x => rw [l b x hk] at e; cases e
theorem Ow.rdw {W : World} {K : Hl} {L M : List HP} {w : World} (H : Ow W K (M ++ L) w) : Rdw K L w := by
  obtain ⟨h, s, d, i⟩ := H.mem
  obtain ⟨h1, h2, s1, s2, d', rfl⟩ := (sats_append _ _ _).1 s
  exact ⟨H.kn, h2, s2, (Hl.add_disj.1 d).2, ((Hl.inn_add d').1 i).2⟩
theorem Rdw.le {K K' : Hl} {S : List HP} {w : World} (h : Rdw K' S w) (l : K.le K') : Rdw K S w := ⟨l.inn h.1, by obtain ⟨x, s, d, i⟩ := h.2; exact ⟨x, s, l.disj d, i⟩⟩
theorem Rdw.perm {K : Hl} {S S' : List HP} {w : World} (h : Rdw K S w) (p : S.Perm S') : Rdw K S' w := ⟨h.1, by obtain ⟨x, s, d, i⟩ := h.2; exact ⟨x, sats_perm p x s, d, i⟩⟩
theorem Rdw.right {K : Hl} {S R : List HP} {w : World} (h : Rdw K (R ++ S) w) : Rdw K S w := ⟨h.1, by
  obtain ⟨x, s, d, i⟩ := h.2
  obtain ⟨h1, h2, s1, s2, d', rfl⟩ := (sats_append _ _ _).1 s
  exact ⟨h2, s2, (Hl.add_disj.1 d).2, ((Hl.inn_add d').1 i).2⟩⟩

/-- o reads only, and answers v. -/
def PE (P : Program) (K : Hl) (S : List HP) (o : Oper) (f : TF) (v : Value) : Prop := ∀ ρ w, Agree o f ρ → Rdw K S w → (execOp ρ o).run P w = .ok (.value v) w
/-- o makes one block. -/
def AL (P : Program) (o : Oper) (f : TF) (x : Obj) (g : Nat → Value) : Prop := ∀ ρ w, Agree o f ρ → (execOp ρ o).run P w = .ok (.value (g w.heap.size)) (w.alloc x)
/-- A step that ends well, rounds of a range over a function among them. -/
def wpI (P : Program) (o : Oper) (a : Act) (w : World) (next : Act → World → Prop) : Prop := o.wpIn Fence.wide 0 P a w next (fun _ _ _ => False)
/-- o acts: with the parts C for its own, reading R besides. -/
def AE (P : Program) (n : Nat) (K : Hl) (R C : List HP) (o : Oper) (f : TF) (Φ : Value → List HP → Prop) : Prop :=
  ∀ W K' w a next, K.le K' → Fit n f a → Ow W K' (C ++ R) w → (∀ v L' w', Φ v L' → Ow W K' (L' ++ R) w' → next (a.put o.dst v) w') → wpI P o a w next

def wantF (ops : Array Oper) (o : Oper) (f : TF) : Option Bool := match o.guard with
  | none => some true
  | some (j, b) => match (ops[j]?).bind (·.dst) with
    | none => none
    | some t => match fget f t with
      | some (.bool c) => some (c == b)
      | some (.tuple _) => some false
      | _ => none
theorem wantF_eq {ops : Array Oper} {o : Oper} {f : TF} {c : Bool} (h : wantF ops o f = some c) {n : Nat} {a : Act} (hf : Fit n f a) : Region.wanted o (yielded ops a.tmps) = c := by
  unfold wantF at h
  unfold Region.wanted yielded
  split at h
  · rename_i hg; rw [hg]; simpa using h
  · rename_i j b hg
    rw [hg]
    split at h
    · cases h
    · rename_i t ht
      split at h
      · rename_i c' hc
        obtain ⟨hc1, hc2⟩ := fget_some hc
        have := hf.v t _ hc1 hc2
        simp only [ht, Option.bind_some, this]
        simp only [Option.some.injEq] at h
        rw [← h]
        cases c' <;> cases b <;> rfl
      · rename_i vs hc
        obtain ⟨hc1, hc2⟩ := fget_some hc
        have := hf.v t _ hc1 hc2
        simp only [ht, Option.bind_some, this]
        simp only [Option.some.injEq] at h
        rw [← h]
        rfl
      · cases h

theorem wpI_of_wp {P : Program} {o : Oper} {a : Act} {w : World} {K : Act → World → Prop} (h : o.wp P a w K (fun _ _ _ => False)) : wpI P o a w K := by
  unfold Oper.wp at h
  refine ⟨fun f _ => trivial, ?_⟩
  show o.uponIn Fence.wide 0 P a K _ ((execOp a.eval o).run P w)
  generalize (execOp a.eval o).run P w = r at *
  cases r with
  | ok n w' =>
    cases n <;> simp only [Oper.upon, Oper.uponIn] at h ⊢ <;>
      first
        | exact h
        | exact ⟨fun h => by simp [Fence.wide] at h, callsIn_wide.2 h⟩
        | exact ⟨fun h => by simp [Fence.wide] at h, fun c cs _ => let ⟨v, w', r, s⟩ := h c cs; ⟨v, w', r, stepsIn_wide.2 s⟩⟩
  | halt x w' => cases x <;> simp only [Oper.upon, Oper.uponIn] at h ⊢ <;> exact h
theorem wpI_mono {P : Program} {o : Oper} {a : Act} {w : World} {K K' : Act → World → Prop} (h : ∀ a w, K a w → K' a w) (hh : wpI P o a w K) : wpI P o a w K' := Oper.wpIn_mono h hh

/-- What a step that runs to its end leaves is there. -/
theorem wpI_some {P : Program} {o : Oper} {a : Act} {w : World} {X : Prop} (h : wpI P o a w (fun _ _ => X)) : X := by
  replace h := h.2
  generalize (o.semAt Fence.wide.round a.eval).run P w = r at *
  cases r with
  | ok n w' =>
    cases n <;> simp only [Oper.uponIn] at h <;>
      first
        | exact h
        | exact h.elim
        | (obtain ⟨_, _, h⟩ := h
           obtain ⟨e, w'', fr, he, _⟩ := h [] (room_wide _)
           cases e with
           | returned v => exact he
           | panicked c => exact he.elim
           | outgrown => obtain ⟨_, _, h⟩ := he; exact h.elim)
        | (obtain ⟨_, _, h⟩ := h
           obtain ⟨e, w'', he, _⟩ := h default [] (room_wide _)
           cases e with
           | returned v => exact he
           | panicked c => exact he.elim
           | outgrown => obtain ⟨_, _, h⟩ := he; exact h.elim)
        | (obtain ⟨v, w'', h, _⟩ := h.2 default [] (room_wide _); exact h)
  | halt x w' => cases x <;> simp only [Oper.uponIn] at h <;> exact h.elim

theorem Act.put_same {a a' : Act} {d : Option Tmp} {v v' : Value} (hs : a.tmps.size = a'.tmps.size) (h : a.put d v = a.put d v') : a'.put d v = a'.put d v' := by
  cases d with
  | none => rfl
  | some t =>
    have h1 : a.tmps.setIfInBounds t v = a.tmps.setIfInBounds t v' := congrArg Act.tmps h
    by_cases ht : t < a.tmps.size
    · have h2 := congrArg (fun x => x[t]?) h1
      simp [Array.getElem?_setIfInBounds, ht] at h2
      rw [h2]
    · have ht' : ¬ t < a'.tmps.size := by rw [← hs]; exact ht
      simp only [Act.put, Act.mk.injEq, and_true]
      apply Array.ext_getElem?
      intro j
      simp only [Array.getElem?_setIfInBounds, if_neg ht']
/-- The same step in two frames that look alike to it. -/
theorem wpI_frame {P : Program} {o : Oper} {a a' : Act} {w : World} {N : Value → World → Prop} (he : execOp a'.eval o = execOp a.eval o) (hs : a.tmps.size = a'.tmps.size)
    (h : wpI P o a w (fun b w' => ∃ v, b = a.put o.dst v ∧ N v w')) : wpI P o a' w (fun b w' => ∃ v, b = a'.put o.dst v ∧ N v w') := by
  refine ⟨fun f _ => trivial, ?_⟩
  replace h := h.2
  replace h : o.uponIn Fence.wide 0 P a _ _ ((execOp a.eval o).run P w) := h
  show o.uponIn Fence.wide 0 P a' _ _ ((execOp a'.eval o).run P w)
  rw [he]
  have key : ∀ v w', (∃ v', a.put o.dst v = a.put o.dst v' ∧ N v' w') → ∃ v', a'.put o.dst v = a'.put o.dst v' ∧ N v' w' := fun v w' ⟨v', h1, h2⟩ => ⟨v', Act.put_same hs h1, h2⟩
  cases hr : (execOp a.eval o).run P w with
  | ok n w' =>
    rw [hr] at h
    cases n <;> simp only [Oper.uponIn] at h ⊢ <;>
      first
        | exact key _ _ h
        | exact h.elim
        | (obtain ⟨v', h1, _⟩ := h
           have h2 := congrArg (fun x => x.defers.length) h1
           cases hd : o.dst <;> simp [hd, Act.put] at h2)
        | exact ⟨h.1, CallsIn.mono h.2 (fun e w'' he => by
            cases e with
            | returned v => exact key _ _ he
            | panicked c => exact he.elim
            | outgrown => exact he)⟩
        | exact ⟨h.1, RoundIn.mono h.2 (fun e w'' he => by
            cases e with
            | returned v => exact key _ _ he
            | panicked c => exact he.elim
            | outgrown => exact he)⟩
        | exact ⟨h.1, RowsIn.mono h.2 (fun _ _ he => key _ _ he)⟩
  | halt x w' =>
    rw [hr] at h
    cases x <;> simp only [Oper.uponIn] at h <;> exact h.elim

/-- The wide fence, in a round or in none. -/
abbrev wideR (ro : Option Nat) : Fence := { Fence.wide with round := ro }
/-- The step in whatever frame. -/
theorem wpI_in {P : Program} {o : Oper} {a : Act} {w : World} {ro : Option Nat} {N : Value → World → Prop} {Q : Exit → Act → World → Prop} (h : wpI P o a w (fun b w' => ∃ v, b = a.put o.dst v ∧ N v w')) : o.wpIn (wideR ro) 0 P a w (fun b w' => ∃ v, b = a.put o.dst v ∧ N v w') Q := by
  refine ⟨fun f _ => trivial, ?_⟩
  replace h := h.2
  replace h : o.uponIn Fence.wide 0 P a _ _ ((execOp a.eval o).run P w) := h
  have hsem : (o.semAt ro a.eval).run P w = (execOp a.eval o).run P w := by
    by_cases hd : ∃ c, o.op = .defer c
    · exfalso
      obtain ⟨c, hc⟩ := hd
      have he : execOp a.eval o = (do let d ← resolve a.eval c o.type; pure (.defer d)) := by
        unfold execOp; rw [hc]
      rw [he] at h
      cases hr : (resolve a.eval c o.type).run P w with
      | ok d w' =>
        simp only [Sem.run_bind, hr, Result.andThen, Sem.run_pure, Oper.uponIn] at h
        obtain ⟨v', h1, _⟩ := h
        have h2 := congrArg (fun x => x.defers.length) h1
        cases hd : o.dst <;> simp [hd, Act.put] at h2
      | halt x w' =>
        simp only [Sem.run_bind, hr, Result.andThen] at h
        cases x <;> simp only [Oper.uponIn] at h <;> exact h.elim
    · rw [Oper.semAt_eq ro a.eval o (fun c hc => hd ⟨c, hc⟩)]
  show o.uponIn (wideR ro) 0 P a _ _ ((o.semAt ro a.eval).run P w)
  rw [hsem]
  generalize (execOp a.eval o).run P w = r at *
  cases r with
  | ok n w' =>
    cases n <;> simp only [Oper.uponIn] at h ⊢ <;>
      first
        | exact h
        | exact ⟨fun h => by simp [Fence.wide] at h, CallsIn.mono (F := wideR ro) h.2 (fun e w'' he => by
            cases e with
            | returned v => exact he
            | panicked c => exact he.elim
            | outgrown => obtain ⟨_, _, h⟩ := he; exact h.elim)⟩
        | exact ⟨fun h => by simp [Fence.wide] at h, RoundIn.mono (F := wideR ro) h.2 (fun e w'' he => by
            cases e with
            | returned v => exact he
            | panicked c => exact he.elim
            | outgrown => obtain ⟨_, _, h⟩ := he; exact h.elim)⟩
        | exact ⟨fun h => by simp [Fence.wide] at h, h.2⟩
  | halt x w' => cases x <;> simp only [Oper.uponIn] at h <;> exact h.elim
theorem wpI_val {P : Program} {o : Oper} {a : Act} {w w' : World} {ro : Option Nat} {N : Act → World → Prop} {Q : Exit → Act → World → Prop} {v : Value} (h : (execOp a.eval o).run P w = .ok (.value v) w') (hn : N (a.put o.dst v) w') : o.wpIn (wideR ro) 0 P a w N Q :=
  Oper.wpIn_mono (K := fun b x => ∃ u, b = a.put o.dst u ∧ u = v ∧ x = w') (fun b x ⟨u, e1, e2, e3⟩ => by subst e1 e2 e3; exact hn)
    (wpI_in (N := fun u x => u = v ∧ x = w') (wpI_of_wp (by unfold Oper.wp; rw [h]; exact ⟨v, rfl, rfl, rfl⟩)))
end Go.Pm
