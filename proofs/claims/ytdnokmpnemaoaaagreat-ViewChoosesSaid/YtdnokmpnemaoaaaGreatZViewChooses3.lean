/-
  Ja, Jb: merged.
-/
import Derived.Test.YtdnokmpnemaoaaaGreatZViewChooses2
import Derived.OrdersIn
import Derived.TacticsIn
import Derived.RangeFuncLeaves
import Derived.RangeFuncRecord
namespace Go.Pm
set_option linter.unusedSimpArgs false
set_option linter.unusedVariables false
open Go.RowKit

/-! Slots. -/
abbrev TF := Nat → Option Value
abbrev TM := List (Nat × Value)
def tget : TM → TF
  | [], _ => none
  | (k, v) :: r, t => bif Nat.beq k t then some v else tget r t
def mkK : Nat := 1000000
def fget (f : TF) (t : Nat) : Option Value := bif Nat.beq t 1000000 then none else f t
theorem fget_some {f : TF} {t : Nat} {v : Value} (h : fget f t = some v) : t ≠ mkK ∧ f t = some v := by
  unfold fget at h
  by_cases ht : t = 1000000
  · subst ht; simp at h
  · have : Nat.beq t 1000000 = false := by rw [Bool.eq_false_iff]; intro hb; exact ht (Nat.eq_of_beq_eq_true hb)
    rw [this] at h
    exact ⟨ht, h⟩
def evF (f : TF) : Operand → Option Value
  | .tmp t => fget f t
  | .const v => some v
  | .global g => some (.pointer (some ⟨g, 0, none⟩))
  | .func g => some (.func (.func g) #[] #[])
abbrev evT (tm : TM) : Operand → Option Value := evF (tget tm)

def mark (D : Nat) : Deferred := { target := .collected D, args := #[] }
def decM : Option Value → List Nat
  | some (.tuple vs) => vs.toList.map fun | .int _ z => z.toNat | _ => 0
  | _ => []
def encM (Ds : List Nat) : Value := .tuple (Ds.map fun D => .int .u64 (D : Int)).toArray
theorem dec_enc (Ds : List Nat) : decM (some (encM Ds)) = Ds := by
  simp only [decM, encM, List.map_map]
  induction Ds with
  | nil => rfl
  | cons D Ds ih => simp only [List.map_cons, Function.comp, Int.toNat_natCast, ih]
structure Fit (n : Nat) (f : TF) (a : Act) : Prop where
  d : a.defers = (decM (f mkK)).map mark
  sz : a.tmps.size = n
  lt : n ≤ mkK
  v : ∀ t v, t ≠ mkK → f t = some v → a.tmps[t]? = some v

theorem Fit.eval {n : Nat} {f : TF} {a : Act} (h : Fit n f a) {x : Operand} {v : Value} (e : evF f x = some v) : a.eval x = v := by
  cases x with
  | tmp t => obtain ⟨h1, h2⟩ := fget_some e; have := h.v t v h1 h2; simp [Act.eval, Array.getD_eq_getD_getElem?, this]
  | const u => simp only [evF, Option.some.injEq] at e; exact e
  | global g => simp only [evF, Option.some.injEq] at e; exact e
  | func g => simp only [evF, Option.some.injEq] at e; exact e

def upd (f : TF) (d : Option Tmp) (v : Value) : TF := match d with
  | none => f
  | some d => fun t => if t = d then some v else f t
theorem upd_cons (tm : TM) (d : Tmp) (v : Value) : upd (tget tm) (some d) v = tget ((d, v) :: tm) := by
  funext t
  by_cases h : t = d
  · subst h; simp [upd, tget]
  · have : Nat.beq d t = false := by rw [Bool.eq_false_iff]; intro hb; exact h (Nat.eq_of_beq_eq_true hb).symm
    simp [upd, tget, h, this]
theorem upd_comm {f : TF} {d e : Option Tmp} {u v : Value} (h : ∀ t, d = some t → e ≠ some t) : upd (upd f d u) e v = upd (upd f e v) d u := by
  cases d with
  | none => rfl
  | some d =>
    cases e with
    | none => rfl
    | some e =>
      have hne : e ≠ d := fun he => h d rfl (by rw [he])
      funext t
      simp only [upd]
      by_cases h1 : t = d
      · subst h1; simp [Ne.symm hne]
      · simp [h1]

def inB (n : Nat) (d : Option Tmp) : Bool := match d with
  | none => true
  | some t => Nat.blt t n
theorem Fit.put {n : Nat} {f : TF} {a : Act} (h : Fit n f a) {d : Option Tmp} (hd : inB n d = true) (v : Value) : Fit n (upd f d v) (a.put d v) := by
  cases d with
  | none => exact h
  | some t =>
    have ht : t < n := by simpa [inB] using hd
    have hm : mkK ≠ t := fun e => by subst e; exact absurd ht (Nat.not_lt.2 h.lt)
    refine ⟨by simp only [upd, if_neg hm]; exact h.d, by simpa [Act.put] using h.sz, h.lt, fun u x hn hu => ?_⟩
    simp only [upd] at hu
    split at hu
    · rename_i e; subst e; cases hu
      simp [Act.put, Array.getElem?_setIfInBounds, h.sz, ht]
    · rename_i e
      simp only [Act.put, Array.getElem?_setIfInBounds]
      rw [if_neg (fun e2 => e e2.symm)]
      exact h.v u x hn hu

theorem Fit.unput {n : Nat} {f : TF} {a : Act} {d : Option Tmp} {v : Value} (h : Fit n (upd f d v) a) (hd : inB n d = true) : ∃ u, Fit n f (a.put d u) := by
  cases d with
  | none => exact ⟨undef, h⟩
  | some t =>
    have ht : t < n := by simpa [inB] using hd
    have hm : mkK ≠ t := fun e => by subst e; exact absurd ht (Nat.not_lt.2 h.lt)
    refine ⟨(f t).getD undef, by have := h.d; simp only [upd, if_neg hm] at this; exact this, by simpa [Act.put] using h.sz, h.lt, fun u x hn hu => ?_⟩
    simp only [Act.put, Array.getElem?_setIfInBounds]
    by_cases e : t = u
    · subst e
      rw [if_pos rfl, h.sz, if_pos ht, hu]
      rfl
    · rw [if_neg e]
      refine h.v u x hn ?_
      simp only [upd]
      rw [if_neg (fun e2 => e e2.symm)]
      exact hu

/-! Operations. -/
def Agree (o : Oper) (f : TF) (ρ : Operand → Value) : Prop := ∀ x ∈ o.op.operands.toList, ∀ v, evF f x = some v → ρ x = v
theorem Fit.agree {n : Nat} {f : TF} {a : Act} (h : Fit n f a) (o : Oper) : Agree o f a.eval := fun _ _ _ e => h.eval e

def Rdw (K : Hl) (S : List HP) (w : World) : Prop := K.inn w ∧ ∃ h, sats S h ∧ h.disj K ∧ h.inn w
def Hl.le (K K' : Hl) : Prop := ∀ b x, K b = some x → K' b = some x
theorem Hl.le.refl (K : Hl) : K.le K := fun _ _ h => h
theorem Hl.le.trans {A B C : Hl} (h : A.le B) (k : B.le C) : A.le C := fun b x e => k b x (h b x e)
theorem Hl.le_add (K h : Hl) : K.le (K.add h) := fun b x e => by simp [Hl.add, e]
theorem Hl.le.inn {K K' : Hl} (h : K.le K') {w : World} (i : K'.inn w) : K.inn w := fun b x e => i b x (h b x e)
theorem Hl.le.disj {K K' h : Hl} (l : K.le K') (d : h.disj K') : h.disj K := fun b => by
  rcases d b with e | e
  · exact .inl e
  · right
    cases hk : K b with
    | none => rfl
    | some x => rw [l b x hk] at e; cases e
theorem Ow.rdw {W : World} {K : Hl} {L M : List HP} {w : World} (H : Ow W K (M ++ L) w) : Rdw K L w := by
  obtain ⟨h, s, d, i⟩ := H.mem
  obtain ⟨h1, h2, s1, s2, d', rfl⟩ := (sats_append _ _ _).1 s
  exact ⟨H.kn, h2, s2, (Hl.add_disj.1 d).2, ((Hl.inn_add d').1 i).2⟩
theorem Rdw.le {K K' : Hl} {S : List HP} {w : World} (h : Rdw K' S w) (l : K.le K') : Rdw K S w := ⟨l.inn h.1, by obtain ⟨x, s, d, i⟩ := h.2; exact ⟨x, s, l.disj d, i⟩⟩
theorem Rdw.perm {K : Hl} {S S' : List HP} {w : World} (h : Rdw K S w) (p : S.Perm S') : Rdw K S' w := ⟨h.1, by obtain ⟨x, s, d, i⟩ := h.2; exact ⟨x, sats_perm p x s, d, i⟩⟩
theorem Rdw.right {K : Hl} {S R : List HP} {w : World} (h : Rdw K (R ++ S) w) : Rdw K S w := ⟨h.1, by
  obtain ⟨x, s, d, i⟩ := h.2
  obtain ⟨h1, h2, s1, s2, d', rfl⟩ := (sats_append _ _ _).1 s
  exact ⟨h2, s2, (Hl.add_disj.1 d).2, ((Hl.inn_add d').1 i).2⟩⟩

def PE (P : Program) (K : Hl) (S : List HP) (o : Oper) (f : TF) (v : Value) : Prop := ∀ ρ w, Agree o f ρ → Rdw K S w → (execOp ρ o).run P w = .ok (.value v) w
def AL (P : Program) (o : Oper) (f : TF) (x : Obj) (g : Nat → Value) : Prop := ∀ ρ w, Agree o f ρ → (execOp ρ o).run P w = .ok (.value (g w.heap.size)) (w.alloc x)
def wpI (P : Program) (o : Oper) (a : Act) (w : World) (next : Act → World → Prop) : Prop := o.wpIn Fence.wide 0 P a w next (fun _ _ _ => False)
def AE (P : Program) (n : Nat) (K : Hl) (R C : List HP) (o : Oper) (f : TF) (Φ : Value → List HP → Prop) : Prop :=
  ∀ W K' w a next, K.le K' → Fit n f a → Ow W K' (C ++ R) w → (∀ v L' w', Φ v L' → Ow W K' (L' ++ R) w' → next (a.put o.dst v) w') → wpI P o a w next

def wantF (ops : Array Oper) (o : Oper) (f : TF) : Option Bool := match o.guard with
  | none => some true
  | some (j, b) => match (ops[j]?).bind (·.dst) with
    | none => none
    | some t => match fget f t with
      | some (.bool c) => some (c == b)
      | some (.tuple _) => some false
      | _ => none
theorem wantF_eq {ops : Array Oper} {o : Oper} {f : TF} {c : Bool} (h : wantF ops o f = some c) {n : Nat} {a : Act} (hf : Fit n f a) : Region.wanted o (yielded ops a.tmps) = c := by
  unfold wantF at h
  unfold Region.wanted yielded
  split at h
  · rename_i hg; rw [hg]; simpa using h
  · rename_i j b hg
    rw [hg]
    split at h
    · cases h
    · rename_i t ht
      split at h
      · rename_i c' hc
        obtain ⟨hc1, hc2⟩ := fget_some hc
        have := hf.v t _ hc1 hc2
        simp only [ht, Option.bind_some, this]
        simp only [Option.some.injEq] at h
        rw [← h]
        cases c' <;> cases b <;> rfl
      · rename_i vs hc
        obtain ⟨hc1, hc2⟩ := fget_some hc
        have := hf.v t _ hc1 hc2
        simp only [ht, Option.bind_some, this]
        simp only [Option.some.injEq] at h
        rw [← h]
        rfl
      · cases h

theorem wpI_of_wp {P : Program} {o : Oper} {a : Act} {w : World} {K : Act → World → Prop} (h : o.wp P a w K (fun _ _ _ => False)) : wpI P o a w K := by
  unfold Oper.wp at h
  refine ⟨fun f _ => trivial, ?_⟩
  show o.uponIn Fence.wide 0 P a K _ ((execOp a.eval o).run P w)
  generalize (execOp a.eval o).run P w = r at *
  cases r with
  | ok n w' =>
    cases n <;> simp only [Oper.upon, Oper.uponIn] at h ⊢ <;>
      first
        | exact h
        | exact ⟨fun h => by simp [Fence.wide] at h, callsIn_wide.2 h⟩
        | exact ⟨fun h => by simp [Fence.wide] at h, fun c cs _ => let ⟨v, w', r, s⟩ := h c cs; ⟨v, w', r, stepsIn_wide.2 s⟩⟩
  | halt x w' => cases x <;> simp only [Oper.upon, Oper.uponIn] at h ⊢ <;> exact h
theorem wpI_mono {P : Program} {o : Oper} {a : Act} {w : World} {K K' : Act → World → Prop} (h : ∀ a w, K a w → K' a w) (hh : wpI P o a w K) : wpI P o a w K' := Oper.wpIn_mono h hh

theorem wpI_some {P : Program} {o : Oper} {a : Act} {w : World} {X : Prop} (h : wpI P o a w (fun _ _ => X)) : X := by
  replace h := h.2
  generalize (o.semAt Fence.wide.round a.eval).run P w = r at *
  cases r with
  | ok n w' =>
    cases n <;> simp only [Oper.uponIn] at h <;>
      first
        | exact h
        | exact h.elim
        | (obtain ⟨_, _, h⟩ := h
           obtain ⟨e, w'', fr, he, _⟩ := h [] (room_wide _)
           cases e with
           | returned v => exact he
           | panicked c => exact he.elim
           | outgrown => obtain ⟨_, _, h⟩ := he; exact h.elim)
        | (obtain ⟨_, _, h⟩ := h
           obtain ⟨e, w'', he, _⟩ := h default [] (room_wide _)
           cases e with
           | returned v => exact he
           | panicked c => exact he.elim
           | outgrown => obtain ⟨_, _, h⟩ := he; exact h.elim)
        | (obtain ⟨v, w'', h, _⟩ := h.2 default [] (room_wide _); exact h)
  | halt x w' => cases x <;> simp only [Oper.uponIn] at h <;> exact h.elim

theorem Act.put_same {a a' : Act} {d : Option Tmp} {v v' : Value} (hs : a.tmps.size = a'.tmps.size) (h : a.put d v = a.put d v') : a'.put d v = a'.put d v' := by
  cases d with
  | none => rfl
  | some t =>
    have h1 : a.tmps.setIfInBounds t v = a.tmps.setIfInBounds t v' := congrArg Act.tmps h
    by_cases ht : t < a.tmps.size
    · have h2 := congrArg (fun x => x[t]?) h1
      simp [Array.getElem?_setIfInBounds, ht] at h2
      rw [h2]
    · have ht' : ¬ t < a'.tmps.size := by rw [← hs]; exact ht
      simp only [Act.put, Act.mk.injEq, and_true]
      apply Array.ext_getElem?
      intro j
      simp only [Array.getElem?_setIfInBounds, if_neg ht']
theorem wpI_frame {P : Program} {o : Oper} {a a' : Act} {w : World} {N : Value → World → Prop} (he : execOp a'.eval o = execOp a.eval o) (hs : a.tmps.size = a'.tmps.size)
    (h : wpI P o a w (fun b w' => ∃ v, b = a.put o.dst v ∧ N v w')) : wpI P o a' w (fun b w' => ∃ v, b = a'.put o.dst v ∧ N v w') := by
  refine ⟨fun f _ => trivial, ?_⟩
  replace h := h.2
  replace h : o.uponIn Fence.wide 0 P a _ _ ((execOp a.eval o).run P w) := h
  show o.uponIn Fence.wide 0 P a' _ _ ((execOp a'.eval o).run P w)
  rw [he]
  have key : ∀ v w', (∃ v', a.put o.dst v = a.put o.dst v' ∧ N v' w') → ∃ v', a'.put o.dst v = a'.put o.dst v' ∧ N v' w' := fun v w' ⟨v', h1, h2⟩ => ⟨v', Act.put_same hs h1, h2⟩
  cases hr : (execOp a.eval o).run P w with
  | ok n w' =>
    rw [hr] at h
    cases n <;> simp only [Oper.uponIn] at h ⊢ <;>
      first
        | exact key _ _ h
        | exact h.elim
        | (obtain ⟨v', h1, _⟩ := h
           have h2 := congrArg (fun x => x.defers.length) h1
           cases hd : o.dst <;> simp [hd, Act.put] at h2)
        | exact ⟨h.1, CallsIn.mono h.2 (fun e w'' he => by
            cases e with
            | returned v => exact key _ _ he
            | panicked c => exact he.elim
            | outgrown => exact he)⟩
        | exact ⟨h.1, RoundIn.mono h.2 (fun e w'' he => by
            cases e with
            | returned v => exact key _ _ he
            | panicked c => exact he.elim
            | outgrown => exact he)⟩
        | exact ⟨h.1, RowsIn.mono h.2 (fun _ _ he => key _ _ he)⟩
  | halt x w' =>
    rw [hr] at h
    cases x <;> simp only [Oper.uponIn] at h <;> exact h.elim

abbrev wideR (ro : Option Nat) : Fence := { Fence.wide with round := ro }
theorem wpI_in {P : Program} {o : Oper} {a : Act} {w : World} {ro : Option Nat} {N : Value → World → Prop} {Q : Exit → Act → World → Prop} (h : wpI P o a w (fun b w' => ∃ v, b = a.put o.dst v ∧ N v w')) : o.wpIn (wideR ro) 0 P a w (fun b w' => ∃ v, b = a.put o.dst v ∧ N v w') Q := by
  refine ⟨fun f _ => trivial, ?_⟩
  replace h := h.2
  replace h : o.uponIn Fence.wide 0 P a _ _ ((execOp a.eval o).run P w) := h
  have hsem : (o.semAt ro a.eval).run P w = (execOp a.eval o).run P w := by
    by_cases hd : ∃ c, o.op = .defer c
    · exfalso
      obtain ⟨c, hc⟩ := hd
      have he : execOp a.eval o = (do let d ← resolve a.eval c o.type; pure (.defer d)) := by
        unfold execOp; rw [hc]
      rw [he] at h
      cases hr : (resolve a.eval c o.type).run P w with
      | ok d w' =>
        simp only [Sem.run_bind, hr, Result.andThen, Sem.run_pure, Oper.uponIn] at h
        obtain ⟨v', h1, _⟩ := h
        have h2 := congrArg (fun x => x.defers.length) h1
        cases hd : o.dst <;> simp [hd, Act.put] at h2
      | halt x w' =>
        simp only [Sem.run_bind, hr, Result.andThen] at h
        cases x <;> simp only [Oper.uponIn] at h <;> exact h.elim
    · rw [Oper.semAt_eq ro a.eval o (fun c hc => hd ⟨c, hc⟩)]
  show o.uponIn (wideR ro) 0 P a _ _ ((o.semAt ro a.eval).run P w)
  rw [hsem]
  generalize (execOp a.eval o).run P w = r at *
  cases r with
  | ok n w' =>
    cases n <;> simp only [Oper.uponIn] at h ⊢ <;>
      first
        | exact h
        | exact ⟨fun h => by simp [Fence.wide] at h, CallsIn.mono (F := wideR ro) h.2 (fun e w'' he => by
            cases e with
            | returned v => exact he
            | panicked c => exact he.elim
            | outgrown => obtain ⟨_, _, h⟩ := he; exact h.elim)⟩
        | exact ⟨fun h => by simp [Fence.wide] at h, RoundIn.mono (F := wideR ro) h.2 (fun e w'' he => by
            cases e with
            | returned v => exact he
            | panicked c => exact he.elim
            | outgrown => obtain ⟨_, _, h⟩ := he; exact h.elim)⟩
        | exact ⟨fun h => by simp [Fence.wide] at h, h.2⟩
  | halt x w' => cases x <;> simp only [Oper.uponIn] at h <;> exact h.elim
theorem wpI_val {P : Program} {o : Oper} {a : Act} {w w' : World} {ro : Option Nat} {N : Act → World → Prop} {Q : Exit → Act → World → Prop} {v : Value} (h : (execOp a.eval o).run P w = .ok (.value v) w') (hn : N (a.put o.dst v) w') : o.wpIn (wideR ro) 0 P a w N Q :=
  Oper.wpIn_mono (K := fun b x => ∃ u, b = a.put o.dst u ∧ u = v ∧ x = w') (fun b x ⟨u, e1, e2, e3⟩ => by subst e1 e2 e3; exact hn)
    (wpI_in (N := fun u x => u = v ∧ x = w') (wpI_of_wp (by unfold Oper.wp; rw [h]; exact ⟨v, rfl, rfl, rfl⟩)))
end Go.Pm
namespace Go.Pm
set_option linter.unusedSimpArgs false
set_option linter.unusedVariables false
open Go.RowKit

def kindOp : Op → Nat
  | .move _ | .assign _ | .pick _ _ _ | .nilCheck _ | .binOp _ _ _ _ _ | .unOp _ _ _ | .convert _ _ _ | .fieldAddr _ _ _ | .field _ _ _ | .indexAddr _ _ _ | .index _ _ _ | .extract _ _ | .slice _ _ _ _ _ | .build _ _ | .makeFunc _ _ _
  | .makeInterface _ _ | .load _ _ | .lookup _ _ _ _ | .typeAssert _ _ _ _ | .sliceToArrayPointer _ _ => 0
  | .call c => match c.callee with
    | .builtin .len | .builtin .cap | .builtin .min | .builtin .max => 0
    | _ => 2
  | .alloc _ | .box _ _ | .buildSlice _ _ _ | .makeMap _ _ => 1
  | _ => 2
def selOp : Op → Bool
  | .select _ _ => true
  | _ => false
theorem selOp_no {x : Op} (h : selOp x = false) : ∀ cs b, x ≠ .select cs b := by rintro cs b rfl; cases h

def Lv (n : Nat) (K : Hl) (f : TF) (L : List HP) : Prop := ∃ W K' w a, K.le K' ∧ Fit n f a ∧ Ow W K' L w

section
variable (P : Program) (n : Nat) (K : Hl) (ops : Array Oper) (fin : TF → List HP → Prop)
def DW : List Oper → TF → List HP → List HP → Prop
  | [], f, S, M => Lv n K f (M ++ S) → fin f (M ++ S)
  | o :: r, f, S, M => ∀ W K' w a, K.le K' → Fit n f a → Ow W K' (M ++ S) w →
    ((wantF ops o f = some false ∧ DW r (upd f o.dst undef) S M) ∨
     (wantF ops o f = some true ∧
      ((kindOp o.op = 0 ∧ ∃ As M' v, M.Perm (As ++ M') ∧ PE P K (As ++ S) o f v ∧ DW r (upd f o.dst v) (As ++ S) M') ∨
       (kindOp o.op = 1 ∧ ∃ x g, AL P o f x g ∧ ∀ b, DW r (upd f o.dst (g b)) S (ob b x :: M)) ∨
       (kindOp o.op = 2 ∧ wpI P o a w (fun a' w' => ∃ v, a' = a.put o.dst v ∧ ∃ M', Ow W K' (M' ++ S) w' ∧ DW r (upd f o.dst v) S M')))))
end

def mov (ops : Array Oper) (q i : Oper) : Bool := q.apart ops i && !selOp q.op && !selOp i.op && (kindOp q.op == 0 || (kindOp i.op == 1 && i.guard.isNone))

section
variable {P : Program} {n : Nat} {K : Hl} {ops : Array Oper} {fin : TF → List HP → Prop}

theorem evF_upd {o : Oper} {f : TF} {d : Option Tmp} {v : Value} (h : ∀ t, d = some t → t ∉ o.looksAt ops) {x : Operand} (hx : x ∈ o.op.operands.toList) : evF (upd f d v) x = evF f x := by
  cases d with
  | none => rfl
  | some t =>
    cases x with
    | tmp u =>
      have : u ≠ t := fun e => h t rfl (by
        subst e
        exact List.mem_append_left _ (List.mem_filterMap.2 ⟨.tmp u, hx, rfl⟩))
      simp [evF, upd, fget, this]
    | _ => rfl
theorem agree_upd {o : Oper} {f : TF} {d : Option Tmp} {v : Value} (h : ∀ t, d = some t → t ∉ o.looksAt ops) {ρ : Operand → Value} : Agree o (upd f d v) ρ ↔ Agree o f ρ := by
  constructor
  · intro g x hx u hu; exact g x hx u (by rw [evF_upd h hx]; exact hu)
  · intro g x hx u hu; exact g x hx u (by rw [evF_upd h hx] at hu; exact hu)
theorem wantF_upd {o : Oper} {f : TF} {d : Option Tmp} {v : Value} (h : ∀ t, d = some t → t ∉ o.looksAt ops) : wantF ops o (upd f d v) = wantF ops o f := by
  cases d with
  | none => rfl
  | some t =>
    unfold wantF
    cases hg : o.guard with
    | none => rfl
    | some p =>
      obtain ⟨j, b⟩ := p
      dsimp only
      cases hj : (ops[j]?).bind (·.dst) with
      | none => rfl
      | some u =>
        have : u ≠ t := fun e => h t rfl (by
          subst e
          exact List.mem_append_right _ (by simp [hg, hj]))
        simp [upd, fget, this]
theorem PE.upd {o : Oper} {f : TF} {d : Option Tmp} {v u : Value} {S : List HP} (h : ∀ t, d = some t → t ∉ o.looksAt ops) : PE P K S o (upd f d v) u ↔ PE P K S o f u :=
  ⟨fun g ρ w ha hr => g ρ w ((agree_upd h).2 ha) hr, fun g ρ w ha hr => g ρ w ((agree_upd h).1 ha) hr⟩
theorem AL.upd {o : Oper} {f : TF} {d : Option Tmp} {v : Value} {x : Obj} {g : Nat → Value} (h : ∀ t, d = some t → t ∉ o.looksAt ops) : AL P o (upd f d v) x g ↔ AL P o f x g :=
  ⟨fun k ρ w ha => k ρ w ((agree_upd h).2 ha), fun k ρ w ha => k ρ w ((agree_upd h).1 ha)⟩
theorem PE.more {o : Oper} {f : TF} {u : Value} {S R : List HP} (h : PE P K S o f u) : PE P K (R ++ S) o f u := fun ρ w ha hr => h ρ w ha hr.right
theorem PE.perm {o : Oper} {f : TF} {u : Value} {S S' : List HP} (h : PE P K S o f u) (p : S.Perm S') : PE P K S' o f u := fun ρ w ha hr => h ρ w ha (hr.perm p.symm)

theorem AL.det {o : Oper} {f : TF} {x x' : Obj} {g g' : Nat → Value} (h : AL P o f x g) (h' : AL P o f x' g') {ρ : Operand → Value} (ha : Agree o f ρ) : x = x' ∧ g = g' := by
  have key : ∀ w : World, g w.heap.size = g' w.heap.size ∧ w.alloc x = w.alloc x' := fun w => by
    have := (h ρ w ha).symm.trans (h' ρ w ha)
    simpa using this
  constructor
  · have := congrArg (fun w => w.heap[0]?) (key default).2
    have e1 : ∀ y, ((default : World).alloc y).heap[0]? = some y := fun y => rfl
    rw [e1, e1] at this
    exact Option.some.inj this
  · funext b
    have := (key { (default : World) with heap := Array.replicate b x }).1
    simpa using this

theorem DW_lv {r : List Oper} {f : TF} {S M : List HP} (h : Lv n K f (M ++ S) → DW P n K ops fin r f S M) : DW P n K ops fin r f S M := by
  cases r with
  | nil => exact fun l => h l l
  | cons o r => exact fun W K' w a h1 h2 h3 => h ⟨W, K', w, a, h1, h2, h3⟩ W K' w a h1 h2 h3

theorem DW_mono {X Y : List Oper} (h : ∀ f S M, DW P n K ops fin X f S M → DW P n K ops fin Y f S M) : ∀ A f S M, DW P n K ops fin (A ++ X) f S M → DW P n K ops fin (A ++ Y) f S M := by
  intro A
  induction A with
  | nil => exact h
  | cons o r ih =>
    intro f S M hd W K' w a hK hf hO
    rcases hd W K' w a hK hf hO with ⟨h1, h2⟩ | ⟨h1, h2⟩
    · exact .inl ⟨h1, ih _ _ _ h2⟩
    · refine .inr ⟨h1, ?_⟩
      rcases h2 with ⟨k, As, M', v, p, e, d⟩ | ⟨k, x, g, e, d⟩ | ⟨k, e⟩
      · exact .inl ⟨k, As, M', v, p, e, ih _ _ _ d⟩
      · exact .inr (.inl ⟨k, x, g, e, fun b => ih _ _ _ (d b)⟩)
      · exact .inr (.inr ⟨k, wpI_mono (fun a' w' ⟨v, e1, M', e2, e3⟩ => ⟨v, e1, M', e2, ih _ _ _ e3⟩) e⟩)

theorem DW_finMono {fin' : TF → List HP → Prop} (hf : ∀ f L, fin f L → fin' f L) : ∀ (r : List Oper) (f : TF) (S M : List HP), DW P n K ops fin r f S M → DW P n K ops fin' r f S M := by
  intro r
  induction r with
  | nil => exact fun f S M h l => hf _ _ (h l)
  | cons o r ih =>
    intro f S M hd W K' w a hK hf' hO
    rcases hd W K' w a hK hf' hO with ⟨h1, h2⟩ | ⟨h1, h2⟩
    · exact .inl ⟨h1, ih _ _ _ h2⟩
    · refine .inr ⟨h1, ?_⟩
      rcases h2 with ⟨k, As, M', v, p, e, d⟩ | ⟨k, x, g, e, d⟩ | ⟨k, e⟩
      · exact .inl ⟨k, As, M', v, p, e, ih _ _ _ d⟩
      · exact .inr (.inl ⟨k, x, g, e, fun b => ih _ _ _ (d b)⟩)
      · exact .inr (.inr ⟨k, wpI_mono (fun a' w' ⟨v, e1, M', e2, e3⟩ => ⟨v, e1, M', e2, ih _ _ _ e3⟩) e⟩)

theorem DW_perm (hfin : ∀ f L L', L.Perm L' → fin f L → fin f L') : ∀ (r : List Oper) (f : TF) (S M M' : List HP), M.Perm M' → DW P n K ops fin r f S M → DW P n K ops fin r f S M' := by
  intro r
  induction r with
  | nil =>
    intro f S M M' p h l
    refine hfin _ _ _ (p.append_right S) (h ?_)
    obtain ⟨W, K', w, a, h1, h2, h3⟩ := l
    exact ⟨W, K', w, a, h1, h2, h3.perm (p.symm.append_right S)⟩
  | cons o r ih =>
    intro f S M M' p hd W K' w a hK hf hO
    rcases hd W K' w a hK hf (hO.perm (p.symm.append_right S)) with ⟨h1, h2⟩ | ⟨h1, h2⟩
    · exact .inl ⟨h1, ih _ _ _ _ p h2⟩
    · refine .inr ⟨h1, ?_⟩
      rcases h2 with ⟨k, As, M2, v, p2, e, d⟩ | ⟨k, x, g, e, d⟩ | ⟨k, e⟩
      · exact .inl ⟨k, As, M2, v, p.symm.trans p2, e, d⟩
      · exact .inr (.inl ⟨k, x, g, e, fun b => ih _ _ _ _ (p.cons _) (d b)⟩)
      · exact .inr (.inr ⟨k, e⟩)

theorem Ow.aside {W : World} {L : List HP} {w : World} {K : Hl} {A : HP} (H : Ow W K (A :: L) w) : ∃ K', K.le K' ∧ Ow W K' L w ∧ ∀ M w', Ow W K' M w' → Ow W K (A :: M) w' := by
  obtain ⟨hR, _, _, H2, back⟩ := Ow.frame (L := L) (R := [A]) (H.perm (List.perm_append_comm (l₁ := [A]) (l₂ := L)))
  exact ⟨K.add hR, Hl.le_add _ _, H2, fun M w' H' => (back M w' H').perm (List.perm_append_comm (l₁ := M) (l₂ := [A]))⟩

theorem Ow.al {W : World} {L : List HP} {w : World} {K : Hl} (H : Ow W K L w) (x : Obj) : Ow W K (ob w.heap.size x :: L) (w.alloc x) := H.alloc x

theorem put_size (a : Act) (d : Option Tmp) (v : Value) : (a.put d v).tmps.size = a.tmps.size := by
  cases d <;> simp [Act.put]

theorem DW_swap (hfin : ∀ f L L', L.Perm L' → fin f L → fin f L') {q i : Oper} {r : List Oper} (hm : mov ops q i = true) (hq : inB n q.dst = true) (hi : inB n i.dst = true) (f : TF) (S M : List HP) (h : DW P n K ops fin (q :: i :: r) f S M) : DW P n K ops fin (i :: q :: r) f S M := by
  simp only [mov, Bool.and_eq_true, Bool.or_eq_true, Bool.not_eq_true', beq_iff_eq] at hm
  obtain ⟨⟨⟨hap, sq⟩, si⟩, hk⟩ := hm
  obtain ⟨a1, a2, a3⟩ := Oper.apart_spec hap
  have ucomm : ∀ u v, upd (upd f q.dst u) i.dst v = upd (upd f i.dst v) q.dst u := fun u v => upd_comm a2
  intro W K' w a hK hf hO
  -- q is passed over
  rcases h W K' w a hK hf hO with ⟨wq, h1⟩ | ⟨wq, h1⟩
  · have back : ∀ v S M, DW P n K ops fin r (upd (upd f q.dst undef) i.dst v) S M → DW P n K ops fin (q :: r) (upd f i.dst v) S M := fun v S M h _ _ _ _ _ _ _ => .inl ⟨by rw [wantF_upd a3]; exact wq, by rw [← ucomm]; exact h⟩
    rcases h1 W K' w (a.put q.dst undef) hK (hf.put hq _) hO with ⟨wi, h2⟩ | ⟨wi, h2⟩
    · exact .inl ⟨by rwa [wantF_upd a1] at wi, back _ _ _ h2⟩
    · refine .inr ⟨by rwa [wantF_upd a1] at wi, ?_⟩
      rcases h2 with ⟨k, As, M', v, p, e, d⟩ | ⟨k, x, g, e, d⟩ | ⟨k, e⟩
      · exact .inl ⟨k, As, M', v, p, (PE.upd a1).1 e, back _ _ _ d⟩
      · exact .inr (.inl ⟨k, x, g, (AL.upd a1).1 e, fun b => back _ _ _ (d b)⟩)
      · refine .inr (.inr ⟨k, ?_⟩)
        have he := execOp_put i (selOp_no si) a q.dst undef a1
        exact wpI_mono (fun a' w' ⟨v, e1, M', e2, e3⟩ => ⟨v, e1, M', e2, back _ _ _ e3⟩) (wpI_frame (N := fun v w' => ∃ M', Ow W K' (M' ++ S) w' ∧ DW P n K ops fin r (upd (upd f q.dst undef) i.dst v) S M') he.symm (put_size _ _ _) e)
  · rcases hk with kq | ⟨ki, gi⟩
    · -- q only reads
      rcases h1 with ⟨_, As, M', v, p, e, d⟩ | ⟨k, _⟩ | ⟨k, _⟩
      · have back : ∀ u S2 M2, DW P n K ops fin r (upd (upd f q.dst v) i.dst u) (As ++ S2) M2 → PE P K (As ++ S2) q f v → DW P n K ops fin (q :: r) (upd f i.dst u) S2 (As ++ M2) := fun u S2 M2 h e _ _ _ _ _ _ _ => .inr ⟨by rw [wantF_upd a3]; exact wq, .inl ⟨kq, As, M2, v, .refl _, (PE.upd a3).2 e, by rw [← ucomm]; exact h⟩⟩
        have hO2 : Ow W K' (M' ++ (As ++ S)) w := hO.perm ((p.append_right S).trans (by rw [← List.append_assoc]; exact (List.perm_append_comm).append_right S))
        rcases d W K' w (a.put q.dst v) hK (hf.put hq _) hO2 with ⟨wi, d⟩ | ⟨wi, d⟩
        · exact .inl ⟨by rwa [wantF_upd a1] at wi, DW_perm hfin _ _ _ _ _ p.symm (back _ _ _ d e)⟩
        · refine .inr ⟨by rwa [wantF_upd a1] at wi, ?_⟩
          rcases d with ⟨k, Bs, M2, u, p2, e2, d2⟩ | ⟨k, x, g, e2, d2⟩ | ⟨k, e2⟩
          · refine .inl ⟨k, Bs ++ As, M2, u, p.trans ((List.Perm.append_left As p2).trans (by rw [← List.append_assoc]; exact (List.perm_append_comm).append_right M2)), (PE.upd a1).1 (by simpa using e2), ?_⟩
            refine fun _ _ _ _ _ _ _ => .inr ⟨by rw [wantF_upd a3]; exact wq, .inl ⟨kq, [], M2, v, .refl _, ?_, ?_⟩⟩
            · have := e.more (R := Bs)
              exact (PE.upd a3).2 (by simpa using this)
            · rw [← ucomm]; simpa using d2
          · exact .inr (.inl ⟨k, x, g, (AL.upd a1).1 e2, fun b => DW_perm hfin _ _ _ _ _ (List.perm_middle.trans (p.symm.cons _)) (back _ _ _ (d2 b) e)⟩)
          · refine .inr (.inr ⟨k, ?_⟩)
            have he := execOp_put i (selOp_no si) a q.dst v a1
            refine wpI_mono ?_ (wpI_frame (N := fun u w' => ∃ M2, Ow W K' (M2 ++ (As ++ S)) w' ∧ DW P n K ops fin r (upd (upd f q.dst v) i.dst u) (As ++ S) M2) he.symm (put_size _ _ _) e2)
            rintro a' w' ⟨u, e1, M2, o2, d3⟩
            exact ⟨u, e1, As ++ M2, o2.perm (by rw [← List.append_assoc]; exact (List.perm_append_comm).append_right S), back _ _ _ d3 e⟩
      · rw [kq] at k; cases k
      · rw [kq] at k; cases k
    · -- i makes a block
      have wi : ∀ g, wantF ops i g = some true := fun g => by
        unfold wantF
        cases hg : i.guard with
        | none => rfl
        | some x => rw [hg] at gi; cases gi
      have hi1 : ∀ u S2 M2, DW P n K ops fin (i :: r) u S2 M2 → ∀ W K' w a, K.le K' → Fit n u a → Ow W K' (M2 ++ S2) w → ∃ x g, AL P i u x g ∧ ∀ b, DW P n K ops fin r (upd u i.dst (g b)) S2 (ob b x :: M2) := fun u S2 M2 h W K' w a x1 x2 x3 => by
        rcases h W K' w a x1 x2 x3 with ⟨wi', _⟩ | ⟨_, h⟩
        · rw [wi] at wi'; cases wi'
        · rcases h with ⟨k, _⟩ | ⟨_, h⟩ | ⟨k, _⟩
          · rw [ki] at k; cases k
          · exact h
          · rw [ki] at k; cases k
      refine .inr ⟨wi _, .inr (.inl ⟨ki, ?_⟩)⟩
      rcases h1 with ⟨kq, As, M', v, p, e, d⟩ | ⟨kq, x, g, e, d⟩ | ⟨kq, e⟩
      · -- q only reads
        have hO2 : Ow W K' (M' ++ (As ++ S)) w := hO.perm ((p.append_right S).trans (by rw [← List.append_assoc]; exact (List.perm_append_comm).append_right S))
        obtain ⟨y, gy, ay, dy⟩ := hi1 _ _ _ d W K' w (a.put q.dst v) hK (hf.put hq _) hO2
        refine ⟨y, gy, (AL.upd a1).1 ay, fun b _ _ _ _ _ _ _ => .inr ⟨by rw [wantF_upd a3]; exact wq, .inl ⟨kq, As, ob b y :: M', v, (p.cons _).trans List.perm_middle.symm, (PE.upd a3).2 e, by rw [← ucomm]; exact dy b⟩⟩⟩
      · -- q makes a block too
        have hO2 := hO.al x
        obtain ⟨y, gy, ay, _⟩ := hi1 _ _ _ (d w.heap.size) W K' (w.alloc x) (a.put q.dst (g w.heap.size)) hK (hf.put hq _) hO2
        have ay' := (AL.upd a1).1 ay
        refine ⟨y, gy, ay', fun b => ?_⟩
        intro W2 K2 w2 b2 hK2 hf2 hO3
        refine .inr ⟨by rw [wantF_upd a3]; exact wq, .inr (.inl ⟨kq, x, g, (AL.upd a3).2 e, fun c => DW_lv fun l => ?_⟩)⟩
        obtain ⟨W3, K3, w3, a3', hK3, hf3, hO4⟩ := l
        rw [← ucomm] at hf3
        obtain ⟨u, hf4⟩ := hf3.unput hi
        obtain ⟨K4, le4, hO5, _⟩ := Ow.aside (A := ob b y) (L := (ob c x :: M) ++ S) (hO4.perm (by simpa using List.Perm.swap (ob b y) (ob c x) (M ++ S)))
        obtain ⟨y2, gy2, ay2, dy2⟩ := hi1 _ _ _ (d c) W3 K4 w3 _ (hK3.trans le4) hf4 hO5
        obtain ⟨rfl, rfl⟩ := ay'.det ((AL.upd a1).1 ay2) (hf.agree i)
        rw [← ucomm]
        exact DW_perm hfin _ _ _ _ _ (List.Perm.swap ..) (dy2 b)
      · -- q acts
        have hy : ∃ y gy, AL P i f y gy := wpI_some (wpI_mono (fun a' w' hh => by
          obtain ⟨v, rfl, M', o2, d⟩ := hh
          obtain ⟨y, gy, ay, _⟩ := hi1 _ _ _ d W K' w' _ hK (hf.put hq _) o2
          exact ⟨y, gy, (AL.upd a1).1 ay⟩) e)
        obtain ⟨y, gy, ay⟩ := hy
        refine ⟨y, gy, ay, fun b => ?_⟩
        intro W2 K2 w2 b2 hK2 hf2 hO3
        obtain ⟨u, hf4⟩ := hf2.unput hi
        obtain ⟨K4, le4, hO5, back⟩ := Ow.aside (A := ob b y) (L := M ++ S) hO3
        refine .inr ⟨by rw [wantF_upd a3]; exact wq, .inr (.inr ⟨kq, ?_⟩)⟩
        rcases h W2 K4 w2 _ (hK2.trans le4) hf4 hO5 with ⟨wq', _⟩ | ⟨_, h1⟩
        · rw [wq] at wq'; cases wq'
        rcases h1 with ⟨k, _⟩ | ⟨k, _⟩ | ⟨_, e2⟩
        · rw [kq] at k; cases k
        · rw [kq] at k; cases k
        have he := execOp_put q (selOp_no sq) b2 i.dst u a3
        refine wpI_mono ?_ (wpI_frame (N := fun v w' => ∃ M', Ow W2 K4 (M' ++ S) w' ∧ DW P n K ops fin (i :: r) (upd f q.dst v) S M') he.symm (put_size _ _ _) e2)
        rintro a' w' ⟨v, rfl, M', o2, d⟩
        refine ⟨v, rfl, ob b y :: M', back _ _ o2, ?_⟩
        obtain ⟨y2, gy2, ay2, dy2⟩ := hi1 _ _ _ d W2 K4 w' _ (hK2.trans le4) (hf4.put hq v) o2
        obtain ⟨rfl, rfl⟩ := ay.det ((AL.upd a1).1 ay2) (hf.agree i)
        rw [← ucomm]
        exact dy2 b
end
end Go.Pm
