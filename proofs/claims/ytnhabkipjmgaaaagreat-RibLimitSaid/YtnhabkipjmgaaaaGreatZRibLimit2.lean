/-
  Jb, Jc, Js, Jd: merged.
-/
import Derived.Test.YtnhabkipjmgaaaaGreatZRibLimit1
import Derived.ScopeJumps
namespace Go.Pm
set_option linter.unusedSimpArgs false
set_option linter.unusedVariables false
open Go.RowKit

/-- 0: only reads; 1: makes one block; 2: acts. -/
def kindOp : Op → Nat
  | .move _ | .assign _ | .pick _ _ _ | .nilCheck _ | .binOp _ _ _ _ _ | .unOp _ _ _ | .convert _ _ _ | .fieldAddr _ _ _ | .field _ _ _ | .indexAddr _ _ _ | .index _ _ _ | .extract _ _ | .slice _ _ _ _ _ | .build _ _ | .makeFunc _ _ _
  | .makeInterface _ _ | .load _ _ | .lookup _ _ _ _ | .typeAssert _ _ _ _ | .sliceToArrayPointer _ _ => 0
  | .call c => match c.callee with
    | .builtin .len | .builtin .cap | .builtin .min | .builtin .max => 0
    | _ => 2
  | .alloc _ | .box _ _ | .buildSlice _ _ _ | .makeMap _ _ => 1
  | _ => 2
def selOp : Op → Bool
  | .select _ _ => true
  | _ => false
theorem selOp_no {x : Op} (h : selOp x = false) : ∀ cs b, x ≠ .select cs b := by rintro cs b rfl; cases h

/-- Some state is like this. -/
def Lv (n : Nat) (K : Hl) (f : TF) (L : List HP) : Prop := ∃ W K' w a, K.le K' ∧ Fit n f a ∧ Ow W K' L w

section
variable (P : Program) (n : Nat) (K : Hl) (ops : Array Oper) (fin : TF → List HP → Prop)
def DW : List Oper → TF → List HP → List HP → Prop
  | [], f, S, M => Lv n K f (M ++ S) → fin f (M ++ S)
  | o :: r, f, S, M => ∀ W K' w a, K.le K' → Fit n f a → Ow W K' (M ++ S) w →
    ((wantF ops o f = some false ∧ DW r (upd f o.dst undef) S M) ∨
     (wantF ops o f = some true ∧
      ((kindOp o.op = 0 ∧ ∃ As M' v, M.Perm (As ++ M') ∧ PE P K (As ++ S) o f v ∧ DW r (upd f o.dst v) (As ++ S) M') ∨
       (kindOp o.op = 1 ∧ ∃ x g, AL P o f x g ∧ ∀ b, DW r (upd f o.dst (g b)) S (ob b x :: M)) ∨
       (kindOp o.op = 2 ∧ wpI P o a w (fun a' w' => ∃ v, a' = a.put o.dst v ∧ ∃ M', Ow W K' (M' ++ S) w' ∧ DW r (upd f o.dst v) S M')))))
end

def mov (ops : Array Oper) (q i : Oper) : Bool := q.apart ops i && !selOp q.op && !selOp i.op && (kindOp q.op == 0 || (kindOp i.op == 1 && i.guard.isNone))

section
variable {P : Program} {n : Nat} {K : Hl} {ops : Array Oper} {fin : TF → List HP → Prop}

theorem evF_upd {o : Oper} {f : TF} {d : Option Tmp} {v : Value} (h : ∀ t, d = some t → t ∉ o.looksAt ops) {x : Operand} (hx : x ∈ o.op.operands.toList) : evF (upd f d v) x = evF f x := by
  cases d with
  | none => rfl
  | some t =>
    cases x with
    | tmp u =>
      have : u ≠ t := fun e => h t rfl (by
        subst e
        exact List.mem_append_left _ (List.mem_filterMap.2 ⟨.tmp u, hx, rfl⟩))
      simp [evF, upd, fget, this]
    | _ => rfl
theorem agree_upd {o : Oper} {f : TF} {d : Option Tmp} {v : Value} (h : ∀ t, d = some t → t ∉ o.looksAt ops) {ρ : Operand → Value} : Agree o (upd f d v) ρ ↔ Agree o f ρ := by
  constructor
  · intro g x hx u hu; exact g x hx u (by rw [evF_upd h hx]; exact hu)
  · intro g x hx u hu; exact g x hx u (by rw [evF_upd h hx] at hu; exact hu)
theorem wantF_upd {o : Oper} {f : TF} {d : Option Tmp} {v : Value} (h : ∀ t, d = some t → t ∉ o.looksAt ops) : wantF ops o (upd f d v) = wantF ops o f := by
  cases d with
  | none => rfl
  | some t =>
    unfold wantF
    cases hg : o.guard with
    | none => rfl
    | some p =>
      obtain ⟨j, b⟩ := p
      dsimp only
      cases hj : (ops[j]?).bind (·.dst) with
      | none => rfl
      | some u =>
        have : u ≠ t := fun e => h t rfl (by
          subst e
          exact List.mem_append_right _ (by simp [hg, hj]))
        simp [upd, fget, this]
theorem PE.upd {o : Oper} {f : TF} {d : Option Tmp} {v u : Value} {S : List HP} (h : ∀ t, d = some t → t ∉ o.looksAt ops) : PE P K S o (upd f d v) u ↔ PE P K S o f u :=
  ⟨fun g ρ w ha hr => g ρ w ((agree_upd h).2 ha) hr, fun g ρ w ha hr => g ρ w ((agree_upd h).1 ha) hr⟩
theorem AL.upd {o : Oper} {f : TF} {d : Option Tmp} {v : Value} {x : Obj} {g : Nat → Value} (h : ∀ t, d = some t → t ∉ o.looksAt ops) : AL P o (upd f d v) x g ↔ AL P o f x g :=
  ⟨fun k ρ w ha => k ρ w ((agree_upd h).2 ha), fun k ρ w ha => k ρ w ((agree_upd h).1 ha)⟩
theorem PE.more {o : Oper} {f : TF} {u : Value} {S R : List HP} (h : PE P K S o f u) : PE P K (R ++ S) o f u := fun ρ w ha hr => h ρ w ha hr.right
theorem PE.perm {o : Oper} {f : TF} {u : Value} {S S' : List HP} (h : PE P K S o f u) (p : S.Perm S') : PE P K S' o f u := fun ρ w ha hr => h ρ w ha (hr.perm p.symm)

/-- What a block was made to hold is one thing alone. -/
theorem AL.det {o : Oper} {f : TF} {x x' : Obj} {g g' : Nat → Value} (h : AL P o f x g) (h' : AL P o f x' g') {ρ : Operand → Value} (ha : Agree o f ρ) : x = x' ∧ g = g' := by
  have key : ∀ w : World, g w.heap.size = g' w.heap.size ∧ w.alloc x = w.alloc x' := fun w => by
    have := (h ρ w ha).symm.trans (h' ρ w ha)
    simpa using this
  constructor
  · have := congrArg (fun w => w.heap[0]?) (key default).2
    have e1 : ∀ y, ((default : World).alloc y).heap[0]? = some y := fun y => rfl
    rw [e1, e1] at this
    exact Option.some.inj this
  · funext b
    have := (key { (default : World) with heap := Array.replicate b x }).1
    simpa using this

theorem DW_lv {r : List Oper} {f : TF} {S M : List HP} (h : Lv n K f (M ++ S) → DW P n K ops fin r f S M) : DW P n K ops fin r f S M := by
  cases r with
  | nil => exact fun l => h l l
  | cons o r => exact fun W K' w a h1 h2 h3 => h ⟨W, K', w, a, h1, h2, h3⟩ W K' w a h1 h2 h3

theorem DW_mono {X Y : List Oper} (h : ∀ f S M, DW P n K ops fin X f S M → DW P n K ops fin Y f S M) : ∀ A f S M, DW P n K ops fin (A ++ X) f S M → DW P n K ops fin (A ++ Y) f S M := by
  intro A
  induction A with
  | nil => exact h
  | cons o r ih =>
    intro f S M hd W K' w a hK hf hO
    rcases hd W K' w a hK hf hO with ⟨h1, h2⟩ | ⟨h1, h2⟩
    · exact .inl ⟨h1, ih _ _ _ h2⟩
    · refine .inr ⟨h1, ?_⟩
      rcases h2 with ⟨k, As, M', v, p, e, d⟩ | ⟨k, x, g, e, d⟩ | ⟨k, e⟩
      · exact .inl ⟨k, As, M', v, p, e, ih _ _ _ d⟩
      · exact .inr (.inl ⟨k, x, g, e, fun b => ih _ _ _ (d b)⟩)
      · exact .inr (.inr ⟨k, wpI_mono (fun a' w' ⟨v, e1, M', e2, e3⟩ => ⟨v, e1, M', e2, ih _ _ _ e3⟩) e⟩)

theorem DW_finMono {fin' : TF → List HP → Prop} (hf : ∀ f L, fin f L → fin' f L) : ∀ (r : List Oper) (f : TF) (S M : List HP), DW P n K ops fin r f S M → DW P n K ops fin' r f S M := by
  intro r
  induction r with
  | nil => exact fun f S M h l => hf _ _ (h l)
  | cons o r ih =>
    intro f S M hd W K' w a hK hf' hO
    rcases hd W K' w a hK hf' hO with ⟨h1, h2⟩ | ⟨h1, h2⟩
    · exact .inl ⟨h1, ih _ _ _ h2⟩
    · refine .inr ⟨h1, ?_⟩
      rcases h2 with ⟨k, As, M', v, p, e, d⟩ | ⟨k, x, g, e, d⟩ | ⟨k, e⟩
      · exact .inl ⟨k, As, M', v, p, e, ih _ _ _ d⟩
      · exact .inr (.inl ⟨k, x, g, e, fun b => ih _ _ _ (d b)⟩)
      · exact .inr (.inr ⟨k, wpI_mono (fun a' w' ⟨v, e1, M', e2, e3⟩ => ⟨v, e1, M', e2, ih _ _ _ e3⟩) e⟩)

theorem DW_perm (hfin : ∀ f L L', L.Perm L' → fin f L → fin f L') : ∀ (r : List Oper) (f : TF) (S M M' : List HP), M.Perm M' → DW P n K ops fin r f S M → DW P n K ops fin r f S M' := by
  intro r
  induction r with
  | nil =>
    intro f S M M' p h l
    refine hfin _ _ _ (p.append_right S) (h ?_)
    obtain ⟨W, K', w, a, h1, h2, h3⟩ := l
    exact ⟨W, K', w, a, h1, h2, h3.perm (p.symm.append_right S)⟩
  | cons o r ih =>
    intro f S M M' p hd W K' w a hK hf hO
    rcases hd W K' w a hK hf (hO.perm (p.symm.append_right S)) with ⟨h1, h2⟩ | ⟨h1, h2⟩
    · exact .inl ⟨h1, ih _ _ _ _ p h2⟩
    · refine .inr ⟨h1, ?_⟩
      rcases h2 with ⟨k, As, M2, v, p2, e, d⟩ | ⟨k, x, g, e, d⟩ | ⟨k, e⟩
      · exact .inl ⟨k, As, M2, v, p.symm.trans p2, e, d⟩
      · exact .inr (.inl ⟨k, x, g, e, fun b => ih _ _ _ _ (p.cons _) (d b)⟩)
      · exact .inr (.inr ⟨k, e⟩)

theorem Ow.aside {W : World} {L : List HP} {w : World} {K : Hl} {A : HP} (H : Ow W K (A :: L) w) : ∃ K', K.le K' ∧ Ow W K' L w ∧ ∀ M w', Ow W K' M w' → Ow W K (A :: M) w' := by
  obtain ⟨hR, _, _, H2, back⟩ := Ow.frame (L := L) (R := [A]) (H.perm (List.perm_append_comm (l₁ := [A]) (l₂ := L)))
  exact ⟨K.add hR, Hl.le_add _ _, H2, fun M w' H' => (back M w' H').perm (List.perm_append_comm (l₁ := M) (l₂ := [A]))⟩

theorem Ow.al {W : World} {L : List HP} {w : World} {K : Hl} (H : Ow W K L w) (x : Obj) : Ow W K (ob w.heap.size x :: L) (w.alloc x) := H.alloc x

theorem put_size (a : Act) (d : Option Tmp) (v : Value) : (a.put d v).tmps.size = a.tmps.size := by
  cases d <;> simp [Act.put]

/-- The step that stands second is taken first. -/
theorem DW_swap (hfin : ∀ f L L', L.Perm L' → fin f L → fin f L') {q i : Oper} {r : List Oper} (hm : mov ops q i = true) (hq : inB n q.dst = true) (hi : inB n i.dst = true) (f : TF) (S M : List HP) (h : DW P n K ops fin (q :: i :: r) f S M) : DW P n K ops fin (i :: q :: r) f S M := by
  simp only [mov, Bool.and_eq_true, Bool.or_eq_true, Bool.not_eq_true', beq_iff_eq] at hm
  obtain ⟨⟨⟨hap, sq⟩, si⟩, hk⟩ := hm
  obtain ⟨a1, a2, a3⟩ := Oper.apart_spec hap
  have ucomm : ∀ u v, upd (upd f q.dst u) i.dst v = upd (upd f i.dst v) q.dst u := fun u v => upd_comm a2
  intro W K' w a hK hf hO
  -- q is passed over
  rcases h W K' w a hK hf hO with ⟨wq, h1⟩ | ⟨wq, h1⟩
  · have back : ∀ v S M, DW P n K ops fin r (upd (upd f q.dst undef) i.dst v) S M → DW P n K ops fin (q :: r) (upd f i.dst v) S M := fun v S M h _ _ _ _ _ _ _ => .inl ⟨by rw [wantF_upd a3]; exact wq, by rw [← ucomm]; exact h⟩
    rcases h1 W K' w (a.put q.dst undef) hK (hf.put hq _) hO with ⟨wi, h2⟩ | ⟨wi, h2⟩
    · exact .inl ⟨by rwa [wantF_upd a1] at wi, back _ _ _ h2⟩
    · refine .inr ⟨by rwa [wantF_upd a1] at wi, ?_⟩
      rcases h2 with ⟨k, As, M', v, p, e, d⟩ | ⟨k, x, g, e, d⟩ | ⟨k, e⟩
      · exact .inl ⟨k, As, M', v, p, (PE.upd a1).1 e, back _ _ _ d⟩
      · exact .inr (.inl ⟨k, x, g, (AL.upd a1).1 e, fun b => back _ _ _ (d b)⟩)
      · refine .inr (.inr ⟨k, ?_⟩)
        have he := execOp_put i (selOp_no si) a q.dst undef a1
        exact wpI_mono (fun a' w' ⟨v, e1, M', e2, e3⟩ => ⟨v, e1, M', e2, back _ _ _ e3⟩) (wpI_frame (N := fun v w' => ∃ M', Ow W K' (M' ++ S) w' ∧ DW P n K ops fin r (upd (upd f q.dst undef) i.dst v) S M') he.symm (put_size _ _ _) e)
  · rcases hk with kq | ⟨ki, gi⟩
    · -- q only reads
      rcases h1 with ⟨_, As, M', v, p, e, d⟩ | ⟨k, _⟩ | ⟨k, _⟩
      · have back : ∀ u S2 M2, DW P n K ops fin r (upd (upd f q.dst v) i.dst u) (As ++ S2) M2 → PE P K (As ++ S2) q f v → DW P n K ops fin (q :: r) (upd f i.dst u) S2 (As ++ M2) := fun u S2 M2 h e _ _ _ _ _ _ _ => .inr ⟨by rw [wantF_upd a3]; exact wq, .inl ⟨kq, As, M2, v, .refl _, (PE.upd a3).2 e, by rw [← ucomm]; exact h⟩⟩
        have hO2 : Ow W K' (M' ++ (As ++ S)) w := hO.perm ((p.append_right S).trans (by rw [← List.append_assoc]; exact (List.perm_append_comm).append_right S))
        rcases d W K' w (a.put q.dst v) hK (hf.put hq _) hO2 with ⟨wi, d⟩ | ⟨wi, d⟩
        · exact .inl ⟨by rwa [wantF_upd a1] at wi, DW_perm hfin _ _ _ _ _ p.symm (back _ _ _ d e)⟩
        · refine .inr ⟨by rwa [wantF_upd a1] at wi, ?_⟩
          rcases d with ⟨k, Bs, M2, u, p2, e2, d2⟩ | ⟨k, x, g, e2, d2⟩ | ⟨k, e2⟩
          · refine .inl ⟨k, Bs ++ As, M2, u, p.trans ((List.Perm.append_left As p2).trans (by rw [← List.append_assoc]; exact (List.perm_append_comm).append_right M2)), (PE.upd a1).1 (by simpa using e2), ?_⟩
            refine fun _ _ _ _ _ _ _ => .inr ⟨by rw [wantF_upd a3]; exact wq, .inl ⟨kq, [], M2, v, .refl _, ?_, ?_⟩⟩
            · have := e.more (R := Bs)
              exact (PE.upd a3).2 (by simpa using this)
            · rw [← ucomm]; simpa using d2
          · exact .inr (.inl ⟨k, x, g, (AL.upd a1).1 e2, fun b => DW_perm hfin _ _ _ _ _ (List.perm_middle.trans (p.symm.cons _)) (back _ _ _ (d2 b) e)⟩)
          · refine .inr (.inr ⟨k, ?_⟩)
            have he := execOp_put i (selOp_no si) a q.dst v a1
            refine wpI_mono ?_ (wpI_frame (N := fun u w' => ∃ M2, Ow W K' (M2 ++ (As ++ S)) w' ∧ DW P n K ops fin r (upd (upd f q.dst v) i.dst u) (As ++ S) M2) he.symm (put_size _ _ _) e2)
            rintro a' w' ⟨u, e1, M2, o2, d3⟩
            exact ⟨u, e1, As ++ M2, o2.perm (by rw [← List.append_assoc]; exact (List.perm_append_comm).append_right S), back _ _ _ d3 e⟩
      · rw [kq] at k; cases k
      · rw [kq] at k; cases k
    · -- i makes a block
      have wi : ∀ g, wantF ops i g = some true := fun g => by
        unfold wantF
        cases hg : i.guard with
        | none => rfl
        | some x => rw [hg] at gi; cases gi
      have hi1 : ∀ u S2 M2, DW P n K ops fin (i :: r) u S2 M2 → ∀ W K' w a, K.le K' → Fit n u a → Ow W K' (M2 ++ S2) w → ∃ x g, AL P i u x g ∧ ∀ b, DW P n K ops fin r (upd u i.dst (g b)) S2 (ob b x :: M2) := fun u S2 M2 h W K' w a x1 x2 x3 => by
        rcases h W K' w a x1 x2 x3 with ⟨wi', _⟩ | ⟨_, h⟩
        · rw [wi] at wi'; cases wi'
        · rcases h with ⟨k, _⟩ | ⟨_, h⟩ | ⟨k, _⟩
          · rw [ki] at k; cases k
          · exact h
          · rw [ki] at k; cases k
      refine .inr ⟨wi _, .inr (.inl ⟨ki, ?_⟩)⟩
      rcases h1 with ⟨kq, As, M', v, p, e, d⟩ | ⟨kq, x, g, e, d⟩ | ⟨kq, e⟩
      · -- q only reads
        have hO2 : Ow W K' (M' ++ (As ++ S)) w := hO.perm ((p.append_right S).trans (by rw [← List.append_assoc]; exact (List.perm_append_comm).append_right S))
        obtain ⟨y, gy, ay, dy⟩ := hi1 _ _ _ d W K' w (a.put q.dst v) hK (hf.put hq _) hO2
        refine ⟨y, gy, (AL.upd a1).1 ay, fun b _ _ _ _ _ _ _ => .inr ⟨by rw [wantF_upd a3]; exact wq, .inl ⟨kq, As, ob b y :: M', v, (p.cons _).trans List.perm_middle.symm, (PE.upd a3).2 e, by rw [← ucomm]; exact dy b⟩⟩⟩
      · -- q makes a block too
        have hO2 := hO.al x
        obtain ⟨y, gy, ay, _⟩ := hi1 _ _ _ (d w.heap.size) W K' (w.alloc x) (a.put q.dst (g w.heap.size)) hK (hf.put hq _) hO2
        have ay' := (AL.upd a1).1 ay
        refine ⟨y, gy, ay', fun b => ?_⟩
        intro W2 K2 w2 b2 hK2 hf2 hO3
        refine .inr ⟨by rw [wantF_upd a3]; exact wq, .inr (.inl ⟨kq, x, g, (AL.upd a3).2 e, fun c => DW_lv fun l => ?_⟩)⟩
        obtain ⟨W3, K3, w3, a3', hK3, hf3, hO4⟩ := l
        rw [← ucomm] at hf3
        obtain ⟨u, hf4⟩ := hf3.unput hi
        obtain ⟨K4, le4, hO5, _⟩ := Ow.aside (A := ob b y) (L := (ob c x :: M) ++ S) (hO4.perm (by simpa using List.Perm.swap (ob b y) (ob c x) (M ++ S)))
        obtain ⟨y2, gy2, ay2, dy2⟩ := hi1 _ _ _ (d c) W3 K4 w3 _ (hK3.trans le4) hf4 hO5
        obtain ⟨rfl, rfl⟩ := ay'.det ((AL.upd a1).1 ay2) (hf.agree i)
        rw [← ucomm]
        exact DW_perm hfin _ _ _ _ _ (List.Perm.swap ..) (dy2 b)
      · -- q acts
        have hy : ∃ y gy, AL P i f y gy := wpI_some (wpI_mono (fun a' w' hh => by
          obtain ⟨v, rfl, M', o2, d⟩ := hh
          obtain ⟨y, gy, ay, _⟩ := hi1 _ _ _ d W K' w' _ hK (hf.put hq _) o2
          exact ⟨y, gy, (AL.upd a1).1 ay⟩) e)
        obtain ⟨y, gy, ay⟩ := hy
        refine ⟨y, gy, ay, fun b => ?_⟩
        intro W2 K2 w2 b2 hK2 hf2 hO3
        obtain ⟨u, hf4⟩ := hf2.unput hi
        obtain ⟨K4, le4, hO5, back⟩ := Ow.aside (A := ob b y) (L := M ++ S) hO3
        refine .inr ⟨by rw [wantF_upd a3]; exact wq, .inr (.inr ⟨kq, ?_⟩)⟩
        rcases h W2 K4 w2 _ (hK2.trans le4) hf4 hO5 with ⟨wq', _⟩ | ⟨_, h1⟩
        · rw [wq] at wq'; cases wq'
        rcases h1 with ⟨k, _⟩ | ⟨k, _⟩ | ⟨_, e2⟩
        · rw [kq] at k; cases k
        · rw [kq] at k; cases k
        have he := execOp_put q (selOp_no sq) b2 i.dst u a3
        refine wpI_mono ?_ (wpI_frame (N := fun v w' => ∃ M', Ow W2 K4 (M' ++ S) w' ∧ DW P n K ops fin (i :: r) (upd f q.dst v) S M') he.symm (put_size _ _ _) e2)
        rintro a' w' ⟨v, rfl, M', o2, d⟩
        refine ⟨v, rfl, ob b y :: M', back _ _ o2, ?_⟩
        obtain ⟨y2, gy2, ay2, dy2⟩ := hi1 _ _ _ d W2 K4 w' _ (hK2.trans le4) (hf4.put hq v) o2
        obtain ⟨rfl, rfl⟩ := ay.det ((AL.upd a1).1 ay2) (hf.agree i)
        rw [← ucomm]
        exact dy2 b
end
end Go.Pm
namespace Go.Pm
set_option linter.unusedSimpArgs false
set_option linter.unusedVariables false
open Go.RowKit

/-- For each operation, as bits, all that must stand ahead of it. -/
def clo : List Nat → List Oper → List Nat
  | acc, [] => acc
  | acc, o :: r => clo (acc ++ [o.after.toList.foldr (fun e s => if Region.binds .any e then (2 ^ e.on ||| acc.getD e.on 0) ||| s else s) 0]) r

def CloAt (ops : List Oper) (m : List Nat) (i : Nat) : Prop := ∀ j, (m.getD i 0).testBit j = true → ∃ o, ops[i]? = some o ∧ ∃ e ∈ o.after, Region.binds .any e = true ∧ (e.on = j ∨ (e.on < i ∧ (m.getD e.on 0).testBit j = true))

theorem clo_bits (acc : List Nat) (j : Nat) : ∀ (es : List Edge), (es.foldr (fun e s => if Region.binds .any e then (2 ^ e.on ||| acc.getD e.on 0) ||| s else s) 0).testBit j = true → ∃ e ∈ es, Region.binds .any e = true ∧ (e.on = j ∨ (e.on < acc.length ∧ (acc.getD e.on 0).testBit j = true))
  | [], h => by simp at h
  | e :: es, h => by
    simp only [List.foldr_cons] at h
    split at h
    · rename_i hb
      rw [Nat.testBit_or, Nat.testBit_or, Bool.or_eq_true, Bool.or_eq_true, Nat.testBit_two_pow, decide_eq_true_eq] at h
      rcases h with (h | h) | h
      · exact ⟨e, by simp, hb, .inl h⟩
      · refine ⟨e, by simp, hb, .inr ⟨?_, h⟩⟩
        rcases Nat.lt_or_ge e.on acc.length with hl | hl
        · exact hl
        · rw [List.getD_eq_getElem?_getD, List.getElem?_eq_none hl] at h; simp at h
      · obtain ⟨e', h1, h2⟩ := clo_bits acc j es h
        exact ⟨e', by simp [h1], h2⟩
    · obtain ⟨e', h1, h2⟩ := clo_bits acc j es h
      exact ⟨e', by simp [h1], h2⟩

theorem clo_at : ∀ (r pre : List Oper) (acc : List Nat), acc.length = pre.length → (∀ i, i < acc.length → CloAt (pre ++ r) acc i) → ∀ i, CloAt (pre ++ r) (clo acc r) i
  | [], pre, acc, hl, h, i => by
    rcases Nat.lt_or_ge i acc.length with hi | hi
    · exact h i hi
    · intro j hj
      simp only [clo] at hj
      rw [List.getD_eq_getElem?_getD, List.getElem?_eq_none hi] at hj
      simp at hj
  | o :: r, pre, acc, hl, h, i => by
    have key := clo_at r (pre ++ [o]) (acc ++ [o.after.toList.foldr (fun e s => if Region.binds .any e then (2 ^ e.on ||| acc.getD e.on 0) ||| s else s) 0]) (by simp [hl]) (fun i hi => ?_) i
    · simpa [clo] using key
    · simp only [List.append_assoc, List.singleton_append]
      rw [List.length_append, List.length_singleton] at hi
      intro j hj
      by_cases hi2 : i < acc.length
      · rw [List.getD_eq_getElem?_getD, List.getElem?_append_left hi2, ← List.getD_eq_getElem?_getD] at hj
        obtain ⟨o', h1, e, h2, h3, h4⟩ := h i hi2 j hj
        refine ⟨o', h1, e, h2, h3, h4.imp id fun ⟨h5, h6⟩ => ⟨h5, ?_⟩⟩
        rw [List.getD_eq_getElem?_getD, List.getElem?_append_left (by omega), ← List.getD_eq_getElem?_getD]
        exact h6
      · obtain rfl : i = acc.length := by omega
        rw [List.getD_eq_getElem?_getD, List.getElem?_append_right (Nat.le_refl _)] at hj
        simp only [Nat.sub_self, List.getElem?_cons_zero, Option.getD_some] at hj
        obtain ⟨e, h1, h2, h3⟩ := clo_bits acc j _ hj
        refine ⟨o, by rw [hl]; simp, e, by simpa using h1, h2, h3.imp id fun ⟨h5, h6⟩ => ⟨h5, ?_⟩⟩
        rw [List.getD_eq_getElem?_getD, List.getElem?_append_left h5, ← List.getD_eq_getElem?_getD]
        exact h6

def okEdge (ops : Array Oper) (i : Nat) : Bool := match ops[i]? with
  | none => false
  | some o => o.after.toList.all fun e => !Region.binds .any e || (e.on != i && Nat.blt e.on ops.size)
def noEdge (ops : Array Oper) (i j : Nat) : Bool := match ops[i]? with
  | none => false
  | some o => o.after.toList.all fun e => !Region.binds .any e || e.on != j
def movI (ops : Array Oper) (i j : Nat) : Bool := match ops[i]?, ops[j]? with
  | some o, some o' => mov ops o o'
  | _, _ => false
def inI (n : Nat) (ops : Array Oper) (i : Nat) : Bool := match ops[i]? with
  | some o => inB n o.dst
  | none => false
def okGo (n : Nat) (ops : Array Oper) (m : List Nat) : List Nat → Bool
  | [] => true
  | i :: r => inI n ops i && okEdge ops i && (r.all fun j => j != i && noEdge ops i j && ((m.getD j 0).testBit i || movI ops i j)) && okGo n ops m r
/-- The order l and then l2: all of l must stand ahead of all of l2. -/
def okOrder (n : Nat) (ops : Array Oper) (l l2 : List Nat) : Bool := let m := clo [] ops.toList
  okGo n ops m (l ++ l2) && (l ++ l2).length == ops.size && (List.range ops.size).all ((l ++ l2).contains ·) && l2.all fun j => l.all fun i => (m.getD j 0).testBit i

theorem okGo_pair {n : Nat} {ops : Array Oper} {m : List Nat} : ∀ {l : List Nat}, okGo n ops m l = true → l.Pairwise (fun i j => j ≠ i ∧ noEdge ops i j = true ∧ ((m.getD j 0).testBit i = true ∨ movI ops i j = true)) ∧ ∀ i ∈ l, inI n ops i = true ∧ okEdge ops i = true
  | [], _ => ⟨.nil, by simp⟩
  | i :: r, h => by
    simp only [okGo, Bool.and_eq_true, List.all_eq_true, Bool.or_eq_true, bne_iff_ne, ne_eq] at h
    obtain ⟨⟨⟨h1, h2⟩, h3⟩, h4⟩ := h
    obtain ⟨k1, k2⟩ := okGo_pair h4
    refine ⟨.cons (fun j hj => ⟨(h3 j hj).1.1, (h3 j hj).1.2, (h3 j hj).2⟩) k1, fun j hj => ?_⟩
    rcases List.mem_cons.1 hj with rfl | hj
    · exact ⟨h1, h2⟩
    · exact k2 j hj

section
variable {P : Program} {n : Nat} {K : Hl} {ops : Array Oper} {fin : TF → List HP → Prop} {Q : Exit → Act → World → Prop} {ro : Option Nat}

def opAt (ops : Array Oper) (i : Nat) : Oper := (ops[i]?).getD default

theorem DW_front (hfin : ∀ f L L', L.Perm L' → fin f L → fin f L') {i : Nat} {B : List Nat} (hi : inI n ops i = true) : ∀ (A : List Nat), (∀ j ∈ A, movI ops j i = true ∧ inI n ops j = true) → ∀ f S M,
    DW P n K ops fin ((A ++ i :: B).map (opAt ops)) f S M → DW P n K ops fin ((i :: A ++ B).map (opAt ops)) f S M := by
  intro A
  induction A with
  | nil => exact fun _ f S M h => h
  | cons j A ih =>
    intro hA f S M h
    have h2 := DW_mono (X := (A ++ i :: B).map (opAt ops)) (Y := (i :: A ++ B).map (opAt ops)) (fun f S M => ih (fun k hk => hA k (List.mem_cons_of_mem _ hk)) f S M) [opAt ops j] f S M (by simpa using h)
    obtain ⟨hm, hj⟩ := hA j (by simp)
    have : mov ops (opAt ops j) (opAt ops i) = true ∧ inB n (opAt ops j).dst = true ∧ inB n (opAt ops i).dst = true := by
      unfold movI at hm
      unfold inI at hi hj
      unfold opAt
      cases h1 : ops[j]? with
      | none => simp [h1] at hm
      | some o =>
        cases h3 : ops[i]? with
        | none => simp [h1, h3] at hm
        | some o' => simp only [h1, h3] at hm hi hj; exact ⟨hm, hj, hi⟩
    have h3 := DW_swap hfin (r := (A ++ B).map (opAt ops)) this.1 this.2.1 this.2.2 f S M (by simpa using h2)
    simpa using h3

/-- Ready: all that must stand ahead is done. -/
theorem clo_done {listed : Array Bool} (hd : ∀ i o, ops[i]? = some o → listed.getD i false = true → ∀ e ∈ o.after, Region.binds .any e = true → listed.getD e.on false = true)
    {i : Nat} : ∀ {o : Oper}, ops[i]? = some o → (∀ e ∈ o.after, Region.binds .any e = true → listed.getD e.on false = true) → ∀ j, ((clo [] ops.toList).getD i 0).testBit j = true → listed.getD j false = true := by
  induction i using Nat.strongRecOn with
  | _ i ih =>
    intro o ho hr j hj
    obtain ⟨o', h1, e, h2, h3, h4⟩ := clo_at ops.toList [] [] rfl (by simp) i j hj
    simp only [List.nil_append, Array.getElem?_toList] at h1
    rw [ho] at h1
    cases h1
    have hl := hr e h2 h3
    rcases h4 with rfl | ⟨h5, h6⟩
    · exact hl
    · cases ho' : ops[e.on]? with
      | none =>
        exfalso
        obtain ⟨o2, h7, _⟩ := clo_at ops.toList [] [] rfl (by simp) e.on j h6
        simp [ho'] at h7
      | some o2 => exact ih e.on h5 ho' (hd e.on o2 ho' hl) j h6

theorem DW_any (hfin : ∀ f L L', L.Perm L' → fin f L → fin f L') {W : World} {K' : Hl} (hK : K.le K') (l2 : List Nat) (fuel2 : Nat) (hQ : ∀ f L a w (listed : Array Bool), listed.size = ops.size → (∀ i, i < ops.size → (listed.getD i false = false ↔ i ∈ l2)) → (∀ i o, ops[i]? = some o → listed.getD i false = true → ∀ e ∈ o.after, Region.binds .any e = true → listed.getD e.on false = true) →
    fin f L → Fit n f a → Ow W K' L w → wpAnyIn (wideR ro) 0 P .any ops Q fuel2 listed a w) : ∀ (fuel : Nat) (l : List Nat) (listed : Array Bool) (a : Act) (w : World) (f : TF) (S M : List HP),
    l.length = fuel → listed.size = ops.size → (∀ i, i < ops.size → (listed.getD i false = false ↔ i ∈ l ++ l2)) →
    (∀ i o, ops[i]? = some o → listed.getD i false = true → ∀ e ∈ o.after, Region.binds .any e = true → listed.getD e.on false = true) →
    (∀ i ∈ l, ∀ j ∈ l2, j ≠ i ∧ noEdge ops i j = true ∧ ((clo [] ops.toList).getD j 0).testBit i = true) → l.Pairwise (fun i j => j ≠ i ∧ noEdge ops i j = true ∧ (((clo [] ops.toList).getD j 0).testBit i = true ∨ movI ops i j = true)) → (∀ i ∈ l, inI n ops i = true ∧ okEdge ops i = true) →
    DW P n K ops fin (l.map (opAt ops)) f S M → Fit n f a → Ow W K' (M ++ S) w → wpAnyIn (wideR ro) 0 P .any ops Q (fuel + fuel2) listed a w := by
  intro fuel
  induction fuel with
  | zero =>
    intro l listed a w f S M hl hs hli hd hx hp hg h hf hO
    obtain rfl : l = [] := List.eq_nil_of_length_eq_zero hl
    rw [Nat.zero_add]
    exact hQ _ _ _ _ _ hs (by simpa using hli) hd (h ⟨W, K', w, a, hK, hf, hO⟩) hf hO
  | succ fuel ih =>
    intro l listed a w f S M hl hs hli hd hx hp hg h hf hO
    rw [show fuel + 1 + fuel2 = (fuel + fuel2) + 1 by omega]
    have unl : ∀ i, i < ops.size → listed.getD i true = listed.getD i false := fun i hi => by
      rw [Array.getD_eq_getD_getElem?, Array.getD_eq_getD_getElem?, Array.getElem?_eq_getElem (by omega)]; rfl
    refine ⟨fun hr => ?_, fun i hi => ?_⟩
    · exfalso
      cases l with
      | nil => simp at hl
      | cons i r =>
        obtain ⟨g1, g2⟩ := hg i (by simp)
        cases ho : ops[i]? with
        | none => simp [inI, ho] at g1
        | some o =>
          have hlt := (Array.getElem?_eq_some_iff.1 ho).1
          have : i ∈ Region.ready .any ops listed := mem_ready.2 ⟨by rw [unl i hlt]; exact (hli i hlt).2 (by simp), o, ho, fun e he hb => by
            unfold okEdge at g2
            simp only [ho, List.all_eq_true, Bool.or_eq_true, Bool.not_eq_true', Bool.and_eq_true, bne_iff_ne, ne_eq] at g2
            have g3 := (g2 e (by simpa using he)).resolve_left (by simp [hb])
            have hen : e.on < ops.size := by simpa using g3.2
            cases hc : listed.getD e.on false with
            | true => rfl
            | false =>
              exfalso
              have hm := (hli e.on hen).1 hc
              have h5 : e.on = i ∨ noEdge ops i e.on = true := by
                rcases List.mem_cons.1 hm with h1 | h1
                · exact .inl h1
                · rcases List.mem_append.1 h1 with h1 | h1
                  · exact .inr ((List.pairwise_cons.1 hp).1 e.on h1).2.1
                  · exact .inr (hx i (by simp) e.on h1).2.1
              rcases h5 with h1 | h2
              · exact g3.1 h1
              · unfold noEdge at h2
                simp only [ho, List.all_eq_true, Bool.or_eq_true, Bool.not_eq_true', bne_iff_ne, ne_eq] at h2
                have := (h2 e (by simpa using he)).resolve_left (by simp [hb])
                exact this rfl⟩
          rw [hr] at this
          cases this
    · obtain ⟨h1, o, ho, hedge⟩ := mem_ready.1 hi
      have hlt := (Array.getElem?_eq_some_iff.1 ho).1
      have hil : i ∈ l := by
        rcases List.mem_append.1 ((hli i hlt).1 (by rw [← unl i hlt]; exact h1)) with h2 | h2
        · exact h2
        · exfalso
          cases l with
          | nil => simp at hl
          | cons j r =>
            have h3 := clo_done hd ho hedge j (hx j (by simp) i h2).2.2
            have hj2 := (hg j (by simp)).1
            have hjl : j < ops.size := by
              unfold inI at hj2
              cases hoj : ops[j]? with
              | none => simp [hoj] at hj2
              | some _ => exact (Array.getElem?_eq_some_iff.1 hoj).1
            have h4 := (hli j hjl).2 (by simp)
            rw [h3] at h4
            cases h4
      obtain ⟨A, B, rfl⟩ := List.append_of_mem hil
      have hA : ∀ j ∈ A, movI ops j i = true ∧ inI n ops j = true := fun j hj => by
        refine ⟨?_, (hg j (by simp [hj])).1⟩
        have h2 := (List.pairwise_append.1 hp).2.2 j hj i (by simp)
        refine h2.2.2.resolve_left fun hb => ?_
        have h3 := clo_done hd ho hedge j hb
        have hj2 := (hg j (by simp [hj])).1
        have hjl : j < ops.size := by
          unfold inI at hj2
          cases hoj : ops[j]? with
          | none => simp [hoj] at hj2
          | some _ => exact (Array.getElem?_eq_some_iff.1 hoj).1
        have h4 := (hli j hjl).2 (by simp [hj])
        rw [h3] at h4
        cases h4
      have hin := (hg i (by simp)).1
      have h2 := DW_front hfin hin A hA f S M h
      have hop : opAt ops i = o := by simp [opAt, ho]
      have hdst : inB n o.dst = true := by simpa [inI, ho] using hin
      rw [List.cons_append, List.map_cons, hop] at h2
      have sub : (A ++ B).Sublist (A ++ i :: B) := List.Sublist.append_left (List.sublist_cons_self ..) A
      have nd : i ∉ A ∧ i ∉ B := by
        have h3 := List.pairwise_append.1 hp
        refine ⟨fun hm => (h3.2.2 i hm i (by simp)).1 rfl, fun hm => ((List.pairwise_cons.1 h3.2.1).1 i hm).1 rfl⟩
      have nd2 : i ∉ l2 := fun hm => (hx i (by simp) i hm).1 rfl
      have go : ∀ a' w' f' S' M', DW P n K ops fin ((A ++ B).map (opAt ops)) f' S' M' → Fit n f' a' → Ow W K' (M' ++ S') w' → wpAnyIn (wideR ro) 0 P .any ops Q (fuel + fuel2) (listed.setIfInBounds i true) a' w' := fun a' w' f' S' M' x1 x2 x3 => by
        refine ih (A ++ B) _ a' w' f' S' M' (by simp at hl ⊢; omega) (by simpa using hs) (fun j hj => ?_) (fun j o' hj' hl' e he hb => ?_) (fun j hj => hx j (sub.subset hj)) (hp.sublist sub) (fun j hj => hg j (sub.subset hj)) x1 x2 x3
        · by_cases hji : i = j
          · subst hji
            have : (listed.setIfInBounds i true).getD i false = true := by rw [Array.getD_eq_getD_getElem?, Array.getElem?_setIfInBounds]; simp [hs, hj]
            rw [this]
            simp [nd, nd2]
          · rw [getD_set_ne false hji, hli j hj]
            simp [Ne.symm hji]
        · by_cases hji : i = j
          · subst hji
            rw [ho] at hj'
            cases hj'
            exact getD_set_true (hedge e he hb)
          · rw [getD_set_ne false hji] at hl'
            exact getD_set_true (hd j o' hj' hl' e he hb)
      unfold wpOpIn
      rw [ho]
      dsimp only
      rcases h2 W K' w a hK hf hO with ⟨wi, d⟩ | ⟨wi, h3⟩
      · rw [wantF_eq wi hf, if_neg (by simp)]
        exact ⟨fun _ _ => trivial, go _ _ _ _ _ d (hf.put hdst _) hO⟩
      · rw [wantF_eq wi hf, if_pos rfl]
        rcases h3 with ⟨_, As, M', v, p, e, d⟩ | ⟨_, x, g, e, d⟩ | ⟨_, e⟩
        · have hO2 : Ow W K' (M' ++ (As ++ S)) w := hO.perm ((p.append_right S).trans (by rw [← List.append_assoc]; exact (List.perm_append_comm).append_right S))
          exact wpI_val (e a.eval w (hf.agree o) (hO2.rdw.le hK)) (go _ _ _ _ _ d (hf.put hdst _) hO2)
        · exact wpI_val (e a.eval w (hf.agree o)) (go _ _ _ _ _ (d _) (hf.put hdst _) (hO.al x))
        · refine Oper.wpIn_mono ?_ (wpI_in (N := fun v w' => ∃ M', Ow W K' (M' ++ S) w' ∧ DW P n K ops fin ((A ++ B).map (opAt ops)) (upd f o.dst v) S M') e)
          rintro a' w' ⟨v, rfl, M', o2, d⟩
          exact go _ _ _ _ _ d (hf.put hdst _) o2

/-- A region that draws its order, walked in the order l, and then l2. -/
theorem DW_region (hfin : ∀ f L L', L.Perm L' → fin f L → fin f L') {W : World} (hm : P.follows .mixedOrders = true) {id : Nat} {l l2 : List Nat} (hl : okOrder n ops l l2 = true) {f : TF} {L : List HP} {a : Act} {w : World}
    (hQ : ∀ f L a w, fin f L → Fit n f a → Ow W K L w → Q .normal a w) (h : DW P n K ops (fun f L => DW P n K ops fin (l2.map (opAt ops)) f [] L) (l.map (opAt ops)) f [] L) (hf : Fit n f a) (hO : Ow W K L w) : (Code.region id ops true).wpIn (wideR ro) 0 P Q a w := by
  simp only [okOrder, Bool.and_eq_true, beq_iff_eq] at hl
  obtain ⟨⟨⟨h1, h2⟩, h3⟩, h4⟩ := hl
  obtain ⟨k1, k2⟩ := okGo_pair h1
  have k3 := List.pairwise_append.1 k1
  have hlen : ops.size = l.length + l2.length := by rw [← h2]; simp
  have hends : ∀ f L a w (listed : Array Bool), listed.size = ops.size → (∀ i, i < ops.size → (listed.getD i false = false ↔ i ∈ ([] : List Nat))) → (∀ i o, ops[i]? = some o → listed.getD i false = true → ∀ e ∈ o.after, Region.binds .any e = true → listed.getD e.on false = true) →
      fin f L → Fit n f a → Ow W K L w → wpAnyIn (wideR ro) 0 P .any ops Q 0 listed a w := fun f L a w listed hs hli _ hfn hf hO => by
    refine ⟨?_, hQ _ _ _ _ hfn hf hO⟩
    apply List.eq_nil_iff_forall_not_mem.2
    intro i hi
    obtain ⟨h1, o, h2, _⟩ := mem_ready.1 hi
    have hlt := (Array.getElem?_eq_some_iff.1 h2).1
    have : listed.getD i false = false := by
      rw [Array.getD_eq_getD_getElem?, Array.getElem?_eq_getElem (by omega)] at h1 ⊢
      exact h1
    exact absurd ((hli i hlt).1 this) (by simp)
  refine wpIn_region_any hm ?_
  rw [hlen]
  refine DW_any (W := W) (fin := fun f L => DW P n K ops fin (l2.map (opAt ops)) f [] L) (fun f L L' p h => DW_perm hfin _ _ _ _ _ p h) (Hl.le.refl K) l2 l2.length (fun f L a w listed hs hli hd hfn hf hO => ?_) l.length l _ a _ f [] L rfl (by simp [hlen]) (fun i hi => ?_) (fun i o hi hl => ?_) (fun i hi j hj => ?_) k3.1 (fun i hi => k2 i (by simp [hi])) h hf ?_
  · have := DW_any (W := W) hfin (Hl.le.refl K) [] 0 hends l2.length l2 listed a w f [] L rfl hs (by simpa using hli) hd (by simp) k3.2.1 (fun i hi => k2 i (by simp [hi])) hfn hf (by simpa using hO)
    simpa using this
  · rw [← hlen] at *
    have : (Array.replicate ops.size false).getD i false = false := by rw [Array.getD_eq_getD_getElem?]; simp [hi]
    rw [this]
    simp only [true_iff]
    have := List.all_eq_true.1 h3 i (by simpa using hi)
    simpa using this
  · exfalso
    have hlt := (Array.getElem?_eq_some_iff.1 hi).1
    rw [← hlen] at hl
    have : (Array.replicate ops.size false).getD i false = false := by rw [Array.getD_eq_getD_getElem?]; simp [hlt]
    rw [this] at hl
    cases hl
  · have h5 := k3.2.2 i hi j hj
    exact ⟨h5.1, h5.2.1, List.all_eq_true.1 (List.all_eq_true.1 h4 j hj) i hi⟩
  · simpa using hO.drew
end
end Go.Pm
namespace Go.Pm
set_option linter.unusedSimpArgs false
set_option linter.unusedVariables false
open Go.RowKit

section
variable {P : Program} {b : Frame} {a : Act} {k : List Item} {cs : List Frame} {w : World}
theorem stepR_scope {c : Code} : step P (lone (b.atR a (.code (.scope c) :: k)) cs w) = .next (lone (b.atR a (.code c :: .inScope c :: k)) cs w) :=
  step_lone_go (by simp [stepG, stepG.exec, Frame.atR])
theorem stepR_inScope {c : Code} : step P (lone (b.atR a (.inScope c :: k)) cs w) = .next (lone (b.atR a k) cs w) :=
  step_lone_go (by simp [stepG, stepG.exec, Frame.atR])
end
theorem wpIn_scope_jumps {F : Fence} {n : Nat} {P : Program} {a : Act} {w : World} {Q : Exit → Act → World → Prop} {c rest : Code} (l : Nat) (J : Act → World → Prop) (μ : Act → World → Nat) (hf : findLabel c l = some rest)
    (first : c.wpIn F n P (Exit.jump l J Q) a w)
    (pass : ∀ a w, J a w → rest.wpIn F n P (Exit.jump l (fun a' w' => J a' w' ∧ μ a' w' < μ a w) Q) a w) : (Code.scope c).wpIn F n P Q a w := by
  intro b k cs hro hb hr
  have hg : gotoIn l (.inScope c :: k) = some (.code rest :: .inScope c :: k) := by simp [gotoIn, hf]
  have hx : ∀ id, exitTo id (.inScope c :: k) = exitTo id k := fun id => by simp [exitTo]
  have key : ∀ m a w, μ a w = m → J a w → ∃ e a' w', Q e a' w' ∧ ArrivesIn (Machine.fenced P F) P (lone (b.atR a (.code rest :: .inScope c :: k)) cs w) b k cs e a' w' := by
    intro m
    induction m using Nat.strongRecOn with
    | _ m ih =>
      intro a w hn hJ
      obtain ⟨e, a₁, w₁, hq, harr⟩ := pass a w hJ b (.inScope c :: k) cs hro hb hr
      cases e with
      | normal => exact ⟨.normal, a₁, w₁, hq, StepsIn.trans harr (.one (fenced_calm hb hr rfl) stepR_inScope)⟩
      | exit id => exact ⟨.exit id, a₁, w₁, hq, fun k' hk => harr.1 k' (by rw [hx]; exact hk), fun hr' hk => harr.2 hr' (by rw [hx]; exact hk)⟩
      | goto l' =>
        obtain ⟨rfl, hJ', hlt⟩ := hq
        obtain ⟨e₂, a₂, w₂, hq₂, harr₂⟩ := ih _ (by omega) a₁ w₁ rfl hJ'
        exact ⟨e₂, a₂, w₂, hq₂, .of_steps (harr.1 _ hg) harr₂⟩
      | ret => exact ⟨_, a₁, w₁, hq, harr⟩
      | panic ch => exact ⟨_, a₁, w₁, hq, harr⟩
      | outgrown => exact ⟨_, a₁, w₁, hq, harr⟩
  have h0 : (lone (b.atR a (.code (.scope c) :: k)) cs w).fenced P F := fenced_calm hb hr rfl
  obtain ⟨e, a₁, w₁, hq, harr⟩ := first b (.inScope c :: k) cs hro hb hr
  cases e with
  | normal => exact ⟨.normal, a₁, w₁, hq, .head h0 stepR_scope (StepsIn.trans harr (.one (fenced_calm hb hr rfl) stepR_inScope))⟩
  | exit id => exact ⟨.exit id, a₁, w₁, hq, fun k' hk => .head h0 stepR_scope (harr.1 k' (by rw [hx]; exact hk)), fun hr' hk => let ⟨k₁, h1, h2⟩ := harr.2 hr' (by rw [hx]; exact hk); ⟨k₁, h1, .head h0 stepR_scope h2⟩⟩
  | goto l' =>
    obtain ⟨rfl, hJ'⟩ := hq
    obtain ⟨e₂, a₂, w₂, hq₂, harr₂⟩ := key _ a₁ w₁ rfl hJ'
    exact ⟨e₂, a₂, w₂, hq₂, .of_steps (.head h0 stepR_scope (harr.1 _ hg)) harr₂⟩
  | ret => exact ⟨_, a₁, w₁, hq, .of_steps (.one h0 stepR_scope) harr⟩
  | panic ch => exact ⟨_, a₁, w₁, hq, .of_steps (.one h0 stepR_scope) harr⟩
  | outgrown => exact ⟨_, a₁, w₁, hq, .of_steps (.one h0 stepR_scope) harr⟩

/-- Codes one behind the other, then K. -/
def wpKI (F : Fence) (n : Nat) (P : Program) : List Code → (Act → World → Prop) → (Exit → Act → World → Prop) → Act → World → Prop
  | [], K, _ => K
  | c :: cs, K, Q => c.wpIn F n P (Exit.then (wpKI F n P cs K Q) Q)

theorem wpKI_mono {F : Fence} {n : Nat} {P : Program} {Q Q' : Exit → Act → World → Prop} (hq : ∀ e a w, e ≠ .normal → Q e a w → Q' e a w) : ∀ (l : List Code) {K K' : Act → World → Prop} (_ : ∀ a w, K a w → K' a w) (a : Act) (w : World),
    wpKI F n P l K Q a w → wpKI F n P l K' Q' a w
  | [], _, _, hk, a, w, h => hk a w h
  | c :: cs, K, K', hk, a, w, h => by
    refine wpIn_mono (c := c) h ?_
    intro e a w he
    cases e <;> first | exact wpKI_mono hq cs hk _ _ he | exact hq _ _ _ (by simp) he

theorem wpKI_append {F : Fence} {n : Nat} {P : Program} {Q : Exit → Act → World → Prop} {K : Act → World → Prop} (y : List Code) : ∀ (l : List Code), wpKI F n P (l ++ y) K Q = wpKI F n P l (wpKI F n P y K Q) Q
  | [] => rfl
  | c :: cs => by simp only [List.cons_append, wpKI, wpKI_append y cs]

theorem wpI_upto {F : Fence} {n : Nat} {P : Program} : ∀ (c : Code) (l : Nat) (bs rs : List Code) (Q : Exit → Act → World → Prop) (a : Act) (w : World), upto c l = some (bs, rs) →
    wpKI F n P bs (wpKI F n P rs (Q .normal) Q) Q a w → c.wpIn F n P Q a w := by
  intro c l
  induction c with
  | seq x y ihx ihy =>
    intro bs rs Q a w hu h
    simp only [upto] at hu
    cases hx : upto x l with
    | some p =>
      obtain ⟨b1, r1⟩ := p
      simp only [hx, Option.some.injEq, Prod.mk.injEq] at hu
      obtain ⟨rfl, rfl⟩ := hu
      refine wpIn_seq (ihx b1 r1 _ a w hx ?_)
      refine wpKI_mono (fun e a w hne he => ?_) b1 (fun a w hk => ?_) a w h
      · cases e <;> first | exact (hne rfl).elim | exact he
      · rw [wpKI_append] at hk
        refine wpKI_mono (fun e a w hne he => ?_) r1 (fun a w hk => ?_) a w hk
        · cases e <;> first | exact (hne rfl).elim | exact he
        · refine wpIn_mono (c := y) hk ?_
          intro e a w he
          cases e <;> exact he
    | none =>
      simp only [hx] at hu
      cases hy : upto y l with
      | none => simp [hy] at hu
      | some p =>
        obtain ⟨b1, r1⟩ := p
        simp only [hy, Option.some.injEq, Prod.mk.injEq] at hu
        obtain ⟨rfl, rfl⟩ := hu
        refine wpIn_seq (wpIn_mono (c := x) h ?_)
        intro e a w he
        cases e <;> first | exact ihy b1 r1 Q a w hy he | exact he
  | label l' =>
    intro bs rs Q a w hu h
    simp only [upto] at hu
    split at hu
    · simp only [Option.some.injEq, Prod.mk.injEq] at hu
      obtain ⟨rfl, rfl⟩ := hu
      refine wpIn_mono (c := .label l') h ?_
      intro e a w he
      cases e <;> exact he
    · simp at hu
  | _ => intro _ _ _ _ _ hu; simp [upto] at hu

theorem wpI_rest {F : Fence} {n : Nat} {P : Program} : ∀ (c : Code) (l : Nat) (bs rs : List Code) (rest : Code) (Q : Exit → Act → World → Prop) (a : Act) (w : World), upto c l = some (bs, rs) → findLabel c l = some rest →
    wpKI F n P rs (Q .normal) Q a w → rest.wpIn F n P Q a w := by
  intro c l
  induction c with
  | seq x y ihx ihy =>
    intro bs rs rest Q a w hu hf h
    simp only [upto] at hu
    simp only [findLabel] at hf
    cases hx : upto x l with
    | some p =>
      obtain ⟨b1, r1⟩ := p
      simp only [hx, Option.some.injEq, Prod.mk.injEq] at hu
      obtain ⟨rfl, rfl⟩ := hu
      cases hfx : findLabel x l with
      | none => exact (no_label x l b1 r1 hx hfx).elim
      | some r =>
        simp only [hfx, Option.some.injEq] at hf
        subst hf
        refine wpIn_seq (ihx b1 r1 r _ a w hx hfx ?_)
        rw [wpKI_append] at h
        refine wpKI_mono (fun e a w hne he => ?_) r1 (fun a w hk => ?_) a w h
        · cases e <;> first | exact (hne rfl).elim | exact he
        · refine wpIn_mono (c := y) hk ?_
          intro e a w he
          cases e <;> exact he
    | none =>
      simp only [hx] at hu
      cases hy : upto y l with
      | none => simp [hy] at hu
      | some p =>
        obtain ⟨b1, r1⟩ := p
        simp only [hy, Option.some.injEq, Prod.mk.injEq] at hu
        obtain ⟨rfl, rfl⟩ := hu
        have hfx := no_upto x l hx
        simp only [hfx] at hf
        exact ihy b1 r1 rest Q a w hy hf h
  | label l' =>
    intro bs rs rest Q a w hu hf h
    simp only [upto] at hu
    simp only [findLabel] at hf
    split at hu
    · rename_i hl
      simp only [Option.some.injEq, Prod.mk.injEq] at hu
      obtain ⟨rfl, rfl⟩ := hu
      simp only [hl, if_true, Option.some.injEq] at hf
      subst hf
      exact wpIn_skip h
    · simp at hu
  | _ => intro _ _ _ _ _ _ hu; simp [upto] at hu

end Go.Pm
namespace Go.Pm
set_option linter.unusedSimpArgs false
set_option linter.unusedVariables false
open Go.RowKit

inductive It where
  | code (c : Code)
  | blk (id : Nat)
  | hole (H : Act → World → Prop)
  | jmp (l : Nat) (H : Act → World → Prop)

/-- In which frame, and what is asked at the end. -/
structure Fp where
  ro : Option Nat
  post : Exit → Act → World → Prop
def runK (P : Program) (F : Fp) : List It → Exit → Act → World → Prop
  | [] => F.post
  | .code c :: k => Exit.then (c.wpIn (wideR F.ro) 0 P (runK P F k)) (runK P F k)
  | .blk id :: k => Exit.inBlock id (runK P F k)
  | .hole H :: k => Exit.then H (runK P F k)
  | .jmp l H :: k => Exit.jump l H (runK P F k)

structure J (P : Program) (n : Nat) (W : World) (K : Hl) (F : Fp) (k : List It) (tm : TM) (L : List HP) : Prop where
  mk ::
  h : ∀ a w, Fit n (tget tm) a → Ow W K L w → runK P F k .normal a w
instance {P : Program} {n : Nat} {W : World} {K : Hl} {F : Fp} {k : List It} {tm : TM} {L : List HP} : CoeFun (J P n W K F k tm L) (fun _ => ∀ a w, Fit n (tget tm) a → Ow W K L w → runK P F k .normal a w) := ⟨J.h⟩
/-- Within a region: the operations that are left. -/
structure JL (P : Program) (n : Nat) (W : World) (K : Hl) (F : Fp) (ops : Array Oper) (k : List It) (rest : List Oper) (tm : TM) (L : List HP) : Prop where
  mk ::
  h : ∀ a w, Fit n (tget tm) a → Ow W K L w → wpListIn (wideR F.ro) 0 P ops (runK P F k) rest a w
instance {P : Program} {n : Nat} {W : World} {K : Hl} {F : Fp} {ops : Array Oper} {k : List It} {rest : List Oper} {tm : TM} {L : List HP} : CoeFun (JL P n W K F ops k rest tm L) (fun _ => ∀ a w, Fit n (tget tm) a → Ow W K L w → wpListIn (wideR F.ro) 0 P ops (runK P F k) rest a w) := ⟨JL.h⟩
/-- Behind a region. -/
def fin0 (P : Program) (n : Nat) (W : World) (K : Hl) (F : Fp) (k : List It) (f : TF) (L : List HP) : Prop :=
  ∀ a w, Fit n f a → Ow W K L w → runK P F k .normal a w
/-- Within a region that draws: S stands still, M may be changed. -/
structure JD (P : Program) (n : Nat) (W : World) (K : Hl) (F : Fp) (ops : Array Oper) (k : List It) (nx rest : List Oper) (tm : TM) (S M : List HP) : Prop where
  mk ::
  h : DW P n K ops (fun f L => DW P n K ops (fin0 P n W K F k) nx f [] L) rest (tget tm) S M

section
variable {P : Program} {n : Nat} {W : World} {K : Hl} {F : Fp} {k k' : List It} {tm tm' : TM} {L L' R : List HP}

/-! Code. -/
theorem J_seq {x y : Code} (h : J P n W K F (.code x :: .code y :: k) tm L) : J P n W K F (.code (.seq x y) :: k) tm L := .mk <| fun a w hf hO => wpIn_seq (h a w hf hO)
theorem J_skip (h : J P n W K F k tm L) : J P n W K F (.code .skip :: k) tm L := .mk <| fun a w hf hO => wpIn_skip (h a w hf hO)
theorem J_label {l : Nat} (h : J P n W K F k tm L) : J P n W K F (.code (.label l) :: k) tm L := .mk <| fun a w hf hO => wpIn_label (h a w hf hO)
theorem J_block {id : Nat} {c : Code} (h : J P n W K F (.code c :: .blk id :: k) tm L) : J P n W K F (.code (.block id c) :: k) tm L := .mk <| fun a w hf hO => wpIn_block (h a w hf hO)
theorem J_blk {id : Nat} (h : J P n W K F k tm L) : J P n W K F (.blk id :: k) tm L := ⟨h.h⟩
def popK (id : Nat) : List It → Option (List It)
  | [] => none
  | .blk i :: k => bif Nat.beq id i then some k else popK id k
  | .code _ :: k => popK id k
  | .hole _ :: k => popK id k
  | .jmp _ _ :: k => popK id k
theorem runK_pop {id : Nat} : ∀ {k k' : List It}, popK id k = some k' → ∀ a w, runK P F k' .normal a w → runK P F k (.exit id) a w
  | [], _, h, _, _, _ => by cases h
  | .blk i :: k, k', h, a, w, h2 => by
    simp only [popK] at h
    by_cases hi : id = i
    · subst hi
      simp at h
      subst h
      simp only [runK, Exit.inBlock, if_pos]
      exact h2
    · have : Nat.beq id i = false := by rw [Bool.eq_false_iff]; intro hb; exact hi (Nat.eq_of_beq_eq_true hb)
      rw [this] at h
      simp only [runK, Exit.inBlock, if_neg hi]
      exact runK_pop h a w h2
  | .code _ :: k, k', h, a, w, h2 => by simpa only [runK, Exit.then] using runK_pop (k := k) h a w h2
  | .hole _ :: k, k', h, a, w, h2 => by simpa only [runK, Exit.then] using runK_pop (k := k) h a w h2
  | .jmp _ _ :: k, k', h, a, w, h2 => by simpa only [runK, Exit.jump] using runK_pop (k := k) h a w h2
theorem J_exit {id : Nat} (hp : popK id k = some k') (h : J P n W K F k' tm L) : J P n W K F (.code (.exit id) :: k) tm L := .mk <| fun a w hf hO => wpIn_exit (runK_pop hp a w (h a w hf hO))
theorem runK_ret : ∀ {k : List It} {a : Act} {w : World}, F.post .ret a w → runK P F k .ret a w
  | [], _, _, h => h
  | .code _ :: k, _, _, h => runK_ret (k := k) h
  | .blk _ :: k, _, _, h => runK_ret (k := k) h
  | .hole _ :: k, _, _, h => runK_ret (k := k) h
  | .jmp _ _ :: k, _, _, h => runK_ret (k := k) h
theorem J_if {c : Operand} {x y : Code} {p : Prop} [Decidable p] (hc : evT tm c = some (.bool (decide p))) (ht : p → J P n W K F (.code x :: k) tm L) (hf : ¬ p → J P n W K F (.code y :: k) tm L) : J P n W K F (.code (.cond c x y) :: k) tm L := .mk <| fun a w hfit hO => by
  by_cases hp : p
  · exact wpIn_cond_true (by rw [hfit.eval hc]; simp [hp]) (ht hp a w hfit hO)
  · exact wpIn_cond_false (by rw [hfit.eval hc]; simp [hp]) (hf hp a w hfit hO)
theorem J_ifb {c : Operand} {x y : Code} {b : Bool} (hc : evT tm c = some (.bool b)) (ht : b = true → J P n W K F (.code x :: k) tm L) (hf : b = false → J P n W K F (.code y :: k) tm L) : J P n W K F (.code (.cond c x y) :: k) tm L := .mk <| fun a w hfit hO => by
  cases b with
  | true => exact wpIn_cond_true (hfit.eval hc) (ht rfl a w hfit hO)
  | false => exact wpIn_cond_false (hfit.eval hc) (hf rfl a w hfit hO)
theorem J_ift {c : Operand} {x y : Code} (hc : evT tm c = some (.bool true)) (ht : J P n W K F (.code x :: k) tm L) : J P n W K F (.code (.cond c x y) :: k) tm L := .mk <| fun a w hfit hO => wpIn_cond_true (hfit.eval hc) (ht a w hfit hO)
theorem J_iff {c : Operand} {x y : Code} (hc : evT tm c = some (.bool false)) (ht : J P n W K F (.code y :: k) tm L) : J P n W K F (.code (.cond c x y) :: k) tm L := .mk <| fun a w hfit hO => wpIn_cond_false (hfit.eval hc) (ht a w hfit hO)

/-! What is known is used, forgotten, said otherwise. -/
def subTM : TM → TM → Prop
  | [], _ => True
  | (t, v) :: r, tm => tget tm t = some v ∧ subTM r tm
theorem subTM.get : ∀ {s tm : TM}, subTM s tm → ∀ t v, tget s t = some v → tget tm t = some v
  | [], _, _, _, _, h => by cases h
  | (u, x) :: r, tm, h, t, v, hg => by
    simp only [tget] at hg
    by_cases hu : u = t
    · subst hu; simp at hg; subst hg; exact h.1
    · have : Nat.beq u t = false := by rw [Bool.eq_false_iff]; intro hb; exact hu (Nat.eq_of_beq_eq_true hb)
      rw [this] at hg
      exact subTM.get h.2 t v hg
theorem Fit.sub {a : Act} (h : Fit n (tget tm) a) (hs : subTM tm' tm) (hm : decM (tget tm' mkK) = decM (tget tm mkK)) : Fit n (tget tm') a := ⟨by rw [hm]; exact h.d, h.sz, h.lt, fun t v hn e => h.v t v hn (hs.get t v e)⟩
theorem J_heap (hh : ∀ w, Ow W K L w → Ow W K L' w) (h : J P n W K F k tm L') : J P n W K F k tm L := .mk <| fun a w hf hO => h a w hf (hh w hO)
theorem J_open {α : Type} {Lx : α → List HP} (hh : ∀ w, Ow W K L w → ∃ x, Ow W K (Lx x) w) (h : ∀ x, J P n W K F k tm (Lx x)) : J P n W K F k tm L := .mk <| fun a w hf hO => by
  obtain ⟨x, hx⟩ := hh w hO
  exact h x a w hf hx
theorem J_fact {φ : Prop} (hh : ∀ w, Ow W K L w → φ) (h : φ → J P n W K F k tm L) : J P n W K F k tm L := .mk <| fun a w hf hO => h (hh w hO) a w hf hO
theorem Ow.putOb {D : Nat} {o : Obj} {w : World} (H : Ow W K (ob D o :: L) w) (o' : Obj) : Ow W K (ob D o' :: L) (w.putObj D o') := by
  refine H.change rfl ((Tp.refl _).same rfl rfl) rfl (by simp) fun h hA i => ?_
  obtain rfl : h = Hl.one D o := hA
  have hlt : D < w.heap.size := i.lt (b := D) (o := o) (by simp [Hl.one])
  refine ⟨⟨Hl.one D o', rfl, fun c x e => ?_, fun c hc => ?_⟩, fun c hl hc => World.putObj_heap_other (fun e => ?_)⟩
  · unfold Hl.one at e
    split at e
    · rename_i h; subst h; cases e; exact World.putObj_heap_same hlt
    · cases e
  · left
    unfold Hl.one at hc ⊢
    split at hc <;> simp_all
  · subst e; simp [Hl.one] at hc

/-! Returns. -/
def retR (W : World) (K : Hl) (Rr : Value → List HP → Prop) : Ending → World → Prop := fun e w' => ∃ v L', Rr v L' ∧ e = .returned v ∧ Ow W K L' w'
section
variable {fn : Func} {Rr : Value → List HP → Prop}
def dfr (D : Nat) : HP := ob D (.deferred (some []))
theorem leavesM {tmps : Array Value} {R : Ending → World → Prop} : ∀ (Ds : List Nat) (w : World), Ow W K (Ds.map dfr ++ L) w → (∀ w', Ow W K L w' → ∃ v, (results fn tmps).run P w' = .ok v w' ∧ R (.returned v) w') → LeavesInM Fence.wide 0 P fn tmps R (Ds.map mark) .returning w
  | [], w, H, h => by obtain ⟨v, h1, h2⟩ := h w H; exact ⟨v, h1, h2⟩
  | D :: Ds, w, H, h => by
    obtain ⟨hx, hA, i⟩ := Ow.part H
    obtain rfl : hx = Hl.one D (.deferred (some [])) := hA
    have hD : w.heap[D]? = some (.deferred (some [])) := i D _ (by simp [Hl.one])
    refine ⟨by simp, .inl ⟨D, w.putObj D (.deferred none), rfl, run_takeDeferred hD, leavesM Ds _ ?_ h⟩⟩
    have H2 : Ow W K (ob D (.deferred none) :: (Ds.map dfr ++ L)) (w.putObj D (.deferred none)) := H.putOb _
    exact H2.drop
def fpost (P : Program) (fn : Func) (W : World) (K : Hl) (Rr : Value → List HP → Prop) : Fp := ⟨none, bodyPostM Fence.wide 0 P fn (retR W K Rr)⟩
theorem J_out {Ds : List Nat} (hm : decM (tget tm mkK) = Ds) (h : ∀ a w, Fit n (tget tm) a → Ow W K L w → ∃ L', Ow W K (Ds.map dfr ++ L') w ∧ ∀ w', Ow W K L' w' → ∃ v, (results fn a.tmps).run P w' = .ok v w' ∧ ∃ L'', Rr v L'' ∧ Ow W K L'' w') : ∀ a w, Fit n (tget tm) a → Ow W K L w → LeavesInM Fence.wide 0 P fn a.tmps (retR W K Rr) a.defers .returning w := fun a w hf hO => by
  obtain ⟨L', H, h2⟩ := h a w hf hO
  rw [hf.d, hm]
  refine leavesM Ds w H fun w' H' => ?_
  obtain ⟨v, h3, L'', h4, h5⟩ := h2 w' H'
  exact ⟨v, h3, v, L'', h4, rfl, h5⟩
theorem J_outR {Ds : List Nat} (hm : decM (tget tm mkK) = Ds) (h : ∀ a w, Fit n (tget tm) a → Ow W K L w → ∃ L', Ow W K (Ds.map dfr ++ L') w ∧ ∀ w', Ow W K L' w' → ∃ v, (results fn a.tmps).run P w' = .ok v w' ∧ ∃ L'', Rr v L'' ∧ Ow W K L'' w') : J P n W K (fpost P fn W K Rr) (.code .ret :: k) tm L := .mk <| fun a w hf hO => wpIn_ret (runK_ret (J_out hm h a w hf hO))
theorem J_outE {Ds : List Nat} (hm : decM (tget tm mkK) = Ds) (h : ∀ a w, Fit n (tget tm) a → Ow W K L w → ∃ L', Ow W K (Ds.map dfr ++ L') w ∧ ∀ w', Ow W K L' w' → ∃ v, (results fn a.tmps).run P w' = .ok v w' ∧ ∃ L'', Rr v L'' ∧ Ow W K L'' w') : J P n W K (fpost P fn W K Rr) [] tm L := .mk <| fun a w hf hO => J_out hm h a w hf hO
theorem J_ret0M {Ds : List Nat} (hm : decM (tget tm mkK) = Ds) (hr : fn.results = #[]) (hk : ∀ w, Ow W K L w → ∃ L', Rr (.tuple #[]) L' ∧ Ow W K (Ds.map dfr ++ L') w) : J P n W K (fpost P fn W K Rr) (.code .ret :: k) tm L := J_outR hm fun a w hf hO => by
  obtain ⟨L', h1, h2⟩ := hk w hO
  exact ⟨L', h2, fun w' H => ⟨_, results_none hr _ _ _, L', h1, H⟩⟩
theorem J_end0M {Ds : List Nat} (hm : decM (tget tm mkK) = Ds) (hr : fn.results = #[]) (hk : ∀ w, Ow W K L w → ∃ L', Rr (.tuple #[]) L' ∧ Ow W K (Ds.map dfr ++ L') w) : J P n W K (fpost P fn W K Rr) [] tm L := J_outE hm fun a w hf hO => by
  obtain ⟨L', h1, h2⟩ := hk w hO
  exact ⟨L', h2, fun w' H => ⟨_, results_none hr _ _ _, L', h1, H⟩⟩
theorem J_ret0 (hr : fn.results = #[]) (hk : ∀ w, Ow W K L w → ∃ L', Rr (.tuple #[]) L' ∧ Ow W K L' w) (hm : decM (tget tm mkK) = [] := by rfl) : J P n W K (fpost P fn W K Rr) (.code .ret :: k) tm L := J_ret0M hm hr hk
theorem J_end0 (hr : fn.results = #[]) (hk : ∀ w, Ow W K L w → ∃ L', Rr (.tuple #[]) L' ∧ Ow W K L' w) (hm : decM (tget tm mkK) = [] := by rfl) : J P n W K (fpost P fn W K Rr) [] tm L := J_end0M hm hr hk
theorem Fit.getD {a : Act} (h : Fit n (tget tm) a) {t : Nat} {v : Value} (e : evT tm (.tmp t) = some v) : a.tmps.getD t undef = v := h.eval e
theorem Fit.get? {a : Act} (h : Fit n (tget tm) a) {t : Nat} {v : Value} (e : evT tm (.tmp t) = some v) : a.tmps[t]? = some v := by
  obtain ⟨h1, h2⟩ := fget_some e
  exact h.v t v h1 h2
theorem J_ret1M {t : Tmp} {v : Value} {Ds : List Nat} (hm : decM (tget tm mkK) = Ds) (hr : fn.results = #[.tmp t]) (hv : evT tm (.tmp t) = some v) (hk : ∀ w, Ow W K L w → ∃ L', Rr v L' ∧ Ow W K (Ds.map dfr ++ L') w) : J P n W K (fpost P fn W K Rr) (.code .ret :: k) tm L := J_outR hm fun a w hf hO => by
  obtain ⟨L', h1, h2⟩ := hk w hO
  exact ⟨L', h2, fun w' H => ⟨v, by rw [← hf.getD hv]; exact results_tmp hr _ _ _, L', h1, H⟩⟩
theorem J_ret1 {t : Tmp} {v : Value} (hr : fn.results = #[.tmp t]) (hv : evT tm (.tmp t) = some v) (hk : ∀ w, Ow W K L w → ∃ L', Rr v L' ∧ Ow W K L' w) (hm : decM (tget tm mkK) = [] := by rfl) : J P n W K (fpost P fn W K Rr) (.code .ret :: k) tm L := J_ret1M hm hr hv hk
theorem J_ret2M {t u : Tmp} {v x : Value} {Ds : List Nat} (hm : decM (tget tm mkK) = Ds) (hr : fn.results = #[.tmp t, .tmp u]) (hv : evT tm (.tmp t) = some v) (hx : evT tm (.tmp u) = some x) (hk : ∀ w, Ow W K L w → ∃ L', Rr (.tuple #[v, x]) L' ∧ Ow W K (Ds.map dfr ++ L') w) : J P n W K (fpost P fn W K Rr) (.code .ret :: k) tm L := J_outR hm fun a w hf hO => by
  obtain ⟨L', h1, h2⟩ := hk w hO
  exact ⟨L', h2, fun w' H => ⟨.tuple #[v, x], by rw [← hf.getD hv, ← hf.getD hx]; exact results_tmp2 hr _ _ _, L', h1, H⟩⟩
theorem J_ret2 {t u : Tmp} {v x : Value} (hr : fn.results = #[.tmp t, .tmp u]) (hv : evT tm (.tmp t) = some v) (hx : evT tm (.tmp u) = some x) (hk : ∀ w, Ow W K L w → ∃ L', Rr (.tuple #[v, x]) L' ∧ Ow W K L' w) (hm : decM (tget tm mkK) = [] := by rfl) : J P n W K (fpost P fn W K Rr) (.code .ret :: k) tm L := J_ret2M hm hr hv hx hk
/-- Results that lie in variables of several cells. -/
theorem run_cellR {ty T : TypeId} {b : Nat} {cs : List Value} {w : World} (H : Ow W K L w) (hm : Tk L (pts b cs T) R) (ht : rowTy P ty cs.length = true) : (loadVar ty ⟨b, 0, none⟩).run P w = .ok (.agg cs.toArray) w := run_load_row (P := P) (w := w) (t := ty) (b := b) (o := 0) ht (by simpa using (H.blk hm).range)
theorem J_retC {t : Tmp} {ty T : TypeId} {b : Nat} {cs : List Value} (hr : fn.results = #[.cell t ty]) (hv : evT tm (.tmp t) = some (.pointer (some ⟨b, 0, none⟩))) (hm : Tk L (pts b cs T) R) (ht : rowTy P ty cs.length = true) (hk : ∀ w, Ow W K L w → ∃ L', Rr (.agg cs.toArray) L' ∧ Ow W K L' w) (hd : decM (tget tm mkK) = [] := by rfl) : J P n W K (fpost P fn W K Rr) (.code .ret :: k) tm L := J_outR hd fun a w hf hO => by
  refine ⟨L, hO, fun w' H => ?_⟩
  obtain ⟨L', h1, h2⟩ := hk w' H
  exact ⟨_, by simp [results, hr, hf.get? hv, run_cellR H hm ht, Array.getD_eq_getD_getElem?, asAddr], L', h1, h2⟩
theorem J_retC1 {t u : Tmp} {v : Value} {ty T : TypeId} {b : Nat} {cs : List Value} (hr : fn.results = #[.cell t ty, .tmp u]) (hv : evT tm (.tmp t) = some (.pointer (some ⟨b, 0, none⟩))) (hu : evT tm (.tmp u) = some v) (hm : Tk L (pts b cs T) R) (ht : rowTy P ty cs.length = true) (hk : ∀ w, Ow W K L w → ∃ L', Rr (.tuple #[.agg cs.toArray, v]) L' ∧ Ow W K L' w) (hd : decM (tget tm mkK) = [] := by rfl) : J P n W K (fpost P fn W K Rr) (.code .ret :: k) tm L := J_outR hd fun a w hf hO => by
  refine ⟨L, hO, fun w' H => ?_⟩
  obtain ⟨L', h1, h2⟩ := hk w' H
  exact ⟨_, by simp [results, hr, hf.get? hv, hf.get? hu, run_cellR H hm ht, Array.getD_eq_getD_getElem?, asAddr], L', h1, h2⟩
end

/-- A call begins. -/
theorem J_start {f : FuncId} {fn : Func} {c : Code} {args : Array Value} {w : World} {Rr : Value → List HP → Prop} (hf : P.funcs[f]? = some fn) (hb : fn.body = some c) {nt : Nat} (hn : fn.ntmps = nt) (ha : args.size ≤ nt) (hlt : nt ≤ mkK) (H : Ow W K L w) {tm : TM} (ht : ∀ t v, tget tm t = some v → args[t]? = some v)
    (h : J P nt W K (fpost P fn W K Rr) [.code c] tm L) : Calls P f args w (retR W K Rr) := by
  subst hn
  refine callsIn_wide.1 (callsIn_of_wp_marks (n := 0) (F := Fence.wide) hf hb trivial (h _ w ⟨?_, by simp; omega, hlt, fun t v _ e => ?_⟩ H))
  · cases hq : tget tm mkK with
    | none => rfl
    | some v =>
      exfalso
      have := (Array.getElem?_eq_some_iff.1 (ht _ _ hq)).1
      omega
  have h1 := ht t v e
  have hlt := (Array.getElem?_eq_some_iff.1 h1).1
  rw [Array.getElem?_append_left hlt]
  exact h1
def argTM : Nat → List Value → TM
  | _, [] => []
  | i, v :: r => (i, v) :: argTM (i + 1) r
theorem argTM_get : ∀ (l : List Value) (i t : Nat) (v : Value), tget (argTM i l) t = some v → i ≤ t ∧ l[t - i]? = some v
  | [], _, _, _, h => by cases h
  | x :: r, i, t, v, h => by
    simp only [argTM, tget] at h
    by_cases hu : i = t
    · subst hu; simp at h; subst h; simp
    · have : Nat.beq i t = false := by rw [Bool.eq_false_iff]; intro hb; exact hu (Nat.eq_of_beq_eq_true hb)
      rw [this] at h
      obtain ⟨h1, h2⟩ := argTM_get r (i + 1) t v h
      refine ⟨by omega, ?_⟩
      rw [show t - i = (t - (i + 1)) + 1 by omega]
      simpa using h2
theorem pact {f : FuncId} {fn : Func} {c : Code} {args : List Value} {φ : World → Prop} {pre : List HP} {Rr : Value → List HP → Prop} (hf : P.funcs[f]? = some fn) (hb : fn.body = some c) {nt : Nat} (hn : fn.ntmps = nt) (ha : (Nat.ble args.length nt && Nat.ble nt 1000000) = true)
    (h : ∀ W K, Kn K φ → J P nt W K (fpost P fn W K Rr) [.code c] (argTM 0 args) pre) : Pact P f args.toArray φ pre Rr := fun W K w hK H =>
  J_start hf hb hn (by simp at ha ⊢; omega) (by simp at ha; show nt ≤ 1000000; omega) H (fun t v e => by have := argTM_get args 0 t v e; simpa using this.2) (h W K hK)

/-- The marks, said out. -/
theorem J_mark0 (h : J P n W K F k ((mkK, encM []) :: tm) L) (hm : decM (tget tm mkK) = [] := by rfl) : J P n W K F k tm L := .mk <| fun a w hf hO => h a w ⟨by show _ = (decM (some (encM []))).map mark; rw [dec_enc, hf.d, hm], hf.sz, hf.lt, fun t v ht hv => hf.v t v ht (by
  have : Nat.beq mkK t = false := by rw [Bool.eq_false_iff]; intro hb; exact ht (Nat.eq_of_beq_eq_true hb).symm
  simpa [tget, this] using hv)⟩ hO

/-! Loops. -/
def Inv {α : Type} (n : Nat) (W : World) (K : Hl) (m : α → Nat) (I : α → Prop) (tmI : α → TM) (LI : α → List HP) (b : Nat) : Act → World → Prop := fun a w => ∃ x, m x < b ∧ I x ∧ Fit n (tget (tmI x)) a ∧ Ow W K (LI x) w
theorem J_loop {α : Type} (x0 : α) (m : α → Nat) (I : α → Prop) (tmI : α → TM) (LI : α → List HP) {c : Code} (h0 : I x0) (ht : subTM (tmI x0) tm) (hL : ∀ w, Ow W K L w → Ow W K (LI x0) w)
    (hr : ∀ x, I x → J P n W K F (.code c :: .hole (Inv n W K m I tmI LI (m x)) :: k) (tmI x) (LI x)) (hm : decM (tget (tmI x0) mkK) = decM (tget tm mkK) := by rfl) : J P n W K F (.code (.loop c) :: k) tm L := .mk <| fun a w hf hO => by
  classical
  have key : ∀ b a w, (∃ x, m x < b ∧ I x ∧ Fit n (tget (tmI x)) a ∧ Ow W K (LI x) w) → ∃ b', (∃ x, m x = b' ∧ I x ∧ Fit n (tget (tmI x)) a ∧ Ow W K (LI x) w) ∧ b' < b ∧ ∀ c, (∃ x, m x = c ∧ I x ∧ Fit n (tget (tmI x)) a ∧ Ow W K (LI x) w) → b' ≤ c := by
    intro b a w
    induction b using Nat.strongRecOn with
    | _ b ih =>
      rintro ⟨x, hx, h1, h2, h3⟩
      by_cases hy : ∃ y, m y < m x ∧ I y ∧ Fit n (tget (tmI y)) a ∧ Ow W K (LI y) w
      · obtain ⟨b', h4, h5, h6⟩ := ih (m x) hx hy
        exact ⟨b', h4, by omega, h6⟩
      · refine ⟨m x, ⟨x, rfl, h1, h2, h3⟩, hx, fun c ⟨y, h4, h5⟩ => ?_⟩
        rcases Nat.lt_or_ge (m y) (m x) with h6 | h6
        · exact (hy ⟨y, h6, h5⟩).elim
        · omega
  let Iv : Act → World → Prop := fun a w => ∃ x, I x ∧ Fit n (tget (tmI x)) a ∧ Ow W K (LI x) w
  let μ : Act → World → Nat := fun a w => if h : ∃ b, (∃ x, m x = b ∧ I x ∧ Fit n (tget (tmI x)) a ∧ Ow W K (LI x) w) ∧ ∀ c, (∃ x, m x = c ∧ I x ∧ Fit n (tget (tmI x)) a ∧ Ow W K (LI x) w) → b ≤ c then h.choose else 0
  have hμ : ∀ a w, Iv a w → (∃ x, m x = μ a w ∧ I x ∧ Fit n (tget (tmI x)) a ∧ Ow W K (LI x) w) ∧ ∀ c, (∃ x, m x = c ∧ I x ∧ Fit n (tget (tmI x)) a ∧ Ow W K (LI x) w) → μ a w ≤ c := by
    rintro a w ⟨x, h1, h2, h3⟩
    obtain ⟨b', h4, _, h5⟩ := key (m x + 1) a w ⟨x, by omega, h1, h2, h3⟩
    have hex : ∃ b, (∃ x, m x = b ∧ I x ∧ Fit n (tget (tmI x)) a ∧ Ow W K (LI x) w) ∧ ∀ c, (∃ x, m x = c ∧ I x ∧ Fit n (tget (tmI x)) a ∧ Ow W K (LI x) w) → b ≤ c := ⟨b', h4, h5⟩
    have : μ a w = hex.choose := by simp only [μ]; rw [dif_pos hex]
    rw [this]
    exact hex.choose_spec
  refine wpIn_loop Iv μ ⟨x0, h0, hf.sub ht hm, hL w hO⟩ fun a w hI => ?_
  obtain ⟨⟨x, h1, h2, h3, h4⟩, _⟩ := hμ a w hI
  refine wpIn_mono (hr x h2 a w h3 h4) ?_
  intro e a' w' he
  cases e with
  | normal =>
    obtain ⟨y, h5, h6, h7, h8⟩ := he
    have hI' : Iv a' w' := ⟨y, h6, h7, h8⟩
    refine ⟨hI', ?_⟩
    have := (hμ a' w' hI').2 (m y) ⟨y, rfl, h6, h7, h8⟩
    omega
  | _ => exact he
theorem J_again {α : Type} {m : α → Nat} {I : α → Prop} {tmI : α → TM} {LI : α → List HP} {b : Nat} (x : α) (hm : m x < b) (hI : I x) (ht : subTM (tmI x) tm) (hL : ∀ w, Ow W K L w → Ow W K (LI x) w) (hmk : decM (tget (tmI x) mkK) = decM (tget tm mkK) := by rfl) : J P n W K F (.hole (Inv n W K m I tmI LI b) :: k) tm L := .mk <|
  fun _ w hf hO => ⟨x, hm, hI, hf.sub ht hmk, hL w hO⟩
/-- Ways that meet again. -/
def Meet {α : Type} (n : Nat) (W : World) (K : Hl) (I : α → Prop) (tmI : α → TM) (LI : α → List HP) : Act → World → Prop := fun a w => ∃ x, I x ∧ Fit n (tget (tmI x)) a ∧ Ow W K (LI x) w
theorem J_cut {α : Type} (I : α → Prop) (tmI : α → TM) (LI : α → List HP) {c : Code} (h1 : J P n W K F (.code c :: .hole (Meet n W K I tmI LI) :: k) tm L) (h2 : ∀ x, I x → J P n W K F k (tmI x) (LI x)) : J P n W K F (.code c :: k) tm L := .mk <| fun a w hf hO => by
  refine wpIn_mono (h1 a w hf hO) ?_
  intro e a' w' he
  cases e with
  | normal => obtain ⟨x, h3, h4, h5⟩ := he; exact h2 x h3 a' w' h4 h5
  | _ => exact he
theorem J_meet {α : Type} {I : α → Prop} {tmI : α → TM} {LI : α → List HP} (x : α) (hI : I x) (ht : subTM (tmI x) tm) (hL : ∀ w, Ow W K L w → Ow W K (LI x) w) (hmk : decM (tget (tmI x) mkK) = decM (tget tm mkK) := by rfl) : J P n W K F (.hole (Meet n W K I tmI LI) :: k) tm L := .mk <|
  fun _ w hf hO => ⟨x, hI, hf.sub ht hmk, hL w hO⟩

/-! A scope with one label. -/
def jmpK (l : Nat) : List It → Option (Act → World → Prop)
  | [] => none
  | .jmp l' H :: _ => bif Nat.beq l l' then some H else none
  | .code _ :: k => jmpK l k
  | .blk _ :: k => jmpK l k
  | .hole _ :: k => jmpK l k
theorem runK_goto {l : Nat} {H : Act → World → Prop} : ∀ {k : List It}, jmpK l k = some H → ∀ a w, H a w → runK P F k (.goto l) a w
  | [], h, _, _, _ => by cases h
  | .jmp l' H' :: k, h, a, w, h2 => by
    simp only [jmpK] at h
    by_cases hl : l = l'
    · subst hl
      simp at h
      subst h
      exact ⟨rfl, h2⟩
    · have : Nat.beq l l' = false := by rw [Bool.eq_false_iff]; intro hb; exact hl (Nat.eq_of_beq_eq_true hb)
      rw [this] at h
      cases h
  | .code _ :: k, h, a, w, h2 => by simpa only [runK, Exit.then] using runK_goto (k := k) h a w h2
  | .blk _ :: k, h, a, w, h2 => by simpa only [runK, Exit.inBlock] using runK_goto (k := k) h a w h2
  | .hole _ :: k, h, a, w, h2 => by simpa only [runK, Exit.then] using runK_goto (k := k) h a w h2
theorem J_goto {l : Nat} {H : Act → World → Prop} (hj : jmpK l k = some H) (h : J P n W K F [.hole H] tm L) : J P n W K F (.code (.goto l) :: k) tm L := .mk <| fun a w hf hO => wpIn_goto (runK_goto hj a w (h a w hf hO))
theorem runK_codes_ne {l : Nat} {H : Act → World → Prop} {e : Exit} (he : e ≠ .normal) : ∀ (cs : List Code) (a : Act) (w : World), runK P F (cs.map It.code ++ .jmp l H :: k) e a w → Exit.jump l H (runK P F k) e a w
  | [], _, _, h => h
  | c :: cs, a, w, h => by
    refine runK_codes_ne he cs a w ?_
    simp only [List.map_cons, List.cons_append, runK] at h
    cases e <;> first | exact (he rfl).elim | exact h
theorem runK_codes {l : Nat} {H : Act → World → Prop} : ∀ (cs : List Code) (a : Act) (w : World), runK P F (cs.map It.code ++ .jmp l H :: k) .normal a w → wpKI (wideR F.ro) 0 P cs (Exit.jump l H (runK P F k) .normal) (Exit.jump l H (runK P F k)) a w
  | [], _, _, h => h
  | c :: cs, a, w, h => by
    simp only [List.map_cons, List.cons_append, runK, Exit.then] at h
    refine wpIn_mono (c := c) h ?_
    intro e a' w' he
    cases e with
    | normal => exact runK_codes cs a' w' he
    | _ => exact runK_codes_ne (by simp) cs a' w' he
theorem runK_hole {H H' : Act → World → Prop} (hh : ∀ a w, H a w → H' a w) {l : Nat} : ∀ (cs : List Code) (a : Act) (w : World), runK P F (cs.map It.code ++ .hole H :: .jmp l H' :: k) .normal a w → wpKI (wideR F.ro) 0 P cs H' (Exit.jump l H' (runK P F k)) a w
  | [], a, w, h => hh a w h
  | c :: cs, a, w, h => by
    simp only [List.map_cons, List.cons_append, runK, Exit.then] at h
    refine wpIn_mono (c := c) h ?_
    have ne : ∀ (cs : List Code) (e : Exit) (_ : e ≠ .normal) (a : Act) (w : World), runK P F (cs.map It.code ++ .hole H :: .jmp l H' :: k) e a w → Exit.jump l H' (runK P F k) e a w := by
      intro cs
      induction cs with
      | nil => intro e he a w h; cases e <;> first | exact (he rfl).elim | exact h
      | cons c cs ih =>
        intro e he a w h
        refine ih e he a w ?_
        simp only [List.map_cons, List.cons_append, runK] at h
        cases e <;> first | exact (he rfl).elim | exact h
    intro e a' w' he
    cases e with
    | normal => exact runK_hole hh cs a' w' he
    | _ => exact ne cs _ (by simp) a' w' he
theorem least_of {S : Type} (p : S → Nat → Prop) : ∃ μ : S → Nat, ∀ s, (∃ b, p s b) → p s (μ s) ∧ ∀ c, p s c → μ s ≤ c := by
  classical
  have key : ∀ (s : S) (b : Nat), p s b → ∃ b', p s b' ∧ ∀ c, p s c → b' ≤ c := by
    intro s b
    induction b using Nat.strongRecOn with
    | _ b ih =>
      intro hb
      by_cases hy : ∃ c, c < b ∧ p s c
      · obtain ⟨c, hc, hp⟩ := hy
        exact ih c hc hp
      · exact ⟨b, hb, fun c hc => by
          rcases Nat.lt_or_ge c b with h | h
          · exact (hy ⟨c, h, hc⟩).elim
          · exact h⟩
  refine ⟨fun s => if h : ∃ b', p s b' ∧ ∀ c, p s c → b' ≤ c then h.choose else 0, fun s ⟨b, hb⟩ => ?_⟩
  have h := key s b hb
  simp only [h, dite_true]
  exact h.choose_spec
theorem J_scope {α : Type} (l : Nat) (m : α → Nat) (I : α → Prop) (tmI : α → TM) (LI : α → List HP) {c rest : Code} {bs rs : List Code} (hf : findLabel c l = some rest) (hu : upto c l = some (bs, rs))
    (h1 : J P n W K F (bs.map It.code ++ .hole (Meet n W K I tmI LI) :: .jmp l (Meet n W K I tmI LI) :: k) tm L)
    (hr : ∀ x, I x → J P n W K F (rs.map It.code ++ .jmp l (Inv n W K m I tmI LI (m x)) :: k) (tmI x) (LI x)) : J P n W K F (.code (.scope c) :: k) tm L := .mk <| fun a w hfit hO => by
  obtain ⟨μ, hμ⟩ := least_of (S := Act × World) (fun s b => ∃ x, m x = b ∧ I x ∧ Fit n (tget (tmI x)) s.1 ∧ Ow W K (LI x) s.2)
  refine wpIn_scope_jumps l (Meet n W K I tmI LI) (fun a w => μ (a, w)) hf (wpI_upto c l bs rs _ a w hu ?_) fun a w hJ => ?_
  · refine wpKI_mono (fun e a w _ he => he) bs (fun a w hM => ?_) a w (runK_hole (fun _ _ h => h) bs a w (h1 a w hfit hO))
    obtain ⟨x, h2, h3, h4⟩ := hM
    refine wpKI_mono (Q := Exit.jump l (Inv n W K m I tmI LI (m x)) (runK P F k)) (fun e a w hne he => ?_) rs (fun a w hk => hk) a w (runK_codes (H := Inv n W K m I tmI LI (m x)) rs a w (hr x h2 a w h3 h4))
    cases e <;> first | exact he | (obtain ⟨rfl, y, _, h5⟩ := he; exact ⟨rfl, y, h5⟩)
  · obtain ⟨x0, h20, h30, h40⟩ := hJ
    obtain ⟨⟨x, hx, h2, h3, h4⟩, _⟩ := hμ (a, w) ⟨m x0, x0, rfl, h20, h30, h40⟩
    refine wpI_rest c l bs rs rest _ a w hu hf ?_
    refine wpKI_mono (Q := Exit.jump l (Inv n W K m I tmI LI (m x)) (runK P F k)) (fun e a w hne he => ?_) rs (fun a w hk => hk) a w (runK_codes (H := Inv n W K m I tmI LI (m x)) rs a w (hr x h2 a w h3 h4))
    cases e <;> first | exact he | (obtain ⟨rfl, y, hy, h5⟩ := he; refine ⟨rfl, ⟨y, h5⟩, ?_⟩; have := (hμ (_, _) ⟨m y, y, rfl, h5⟩).2 (m y) ⟨y, rfl, h5⟩; omega)

/-! Regions. -/
theorem J_reg {id : Nat} {l : List Oper} (h : JL P n W K F l.toArray k l tm L) : J P n W K F (.code (.region id l.toArray false) :: k) tm L := .mk <| fun a w hf hO => wpIn_region_lit (h a w hf hO)
/-- Operations by their places. -/
inductive Pick (lo : List Oper) : List Nat → List Oper → Prop
  | nil : Pick lo [] []
  | cons {i : Nat} {o : Oper} {l : List Nat} {r : List Oper} : lo[i]? = some o → Pick lo l r → Pick lo (i :: l) (o :: r)
theorem Pick.eq {lo : List Oper} {l : List Nat} {r : List Oper} (h : Pick lo l r) : l.map (opAt lo.toArray) = r := by
  induction h with
  | nil => rfl
  | cons h _ ih => simp [opAt, h, ih]
theorem J_draw {id : Nat} {lo : List Oper} (l l2 : List Nat) {r r2 : List Oper} (hm : P.follows .mixedOrders = true) (hl : okOrder n lo.toArray l l2 = true) (h1 : Pick lo l r) (h2 : Pick lo l2 r2) (h : JD P n W K F lo.toArray k r2 r tm [] L) : J P n W K F (.code (.region id lo.toArray true) :: k) tm L := .mk <| fun _ _ hf hO => by
  rw [← h1.eq, ← h2.eq] at h
  exact DW_region (fun _ _ _ p h a w h1 h2 => h a w h1 (h2.perm p.symm)) hm hl (fun _ _ a w h h1 h2 => h a w h1 h2) h.h hf hO

section
variable {ops : Array Oper} {o : Oper} {rest : List Oper} {S M M' : List HP} {nx : List Oper} {d : Tmp} {v : Value} {Φ : Value → List HP → Prop} {C : List HP}
theorem JL_nil (h : J P n W K F k tm L) : JL P n W K F ops k [] tm L := ⟨h.h⟩
theorem JL_heap (hh : ∀ w, Ow W K L w → Ow W K L' w) (h : JL P n W K F ops k rest tm L') : JL P n W K F ops k rest tm L := .mk <| fun a w hf hO => h a w hf (hh w hO)
theorem JL_no (hg : wantF ops o (tget tm) = some false) (hd : inB n o.dst = true) (hv : ∀ a, o.dst = some a → a = d) (h : JL P n W K F ops k rest ((d, undef) :: tm) L) (h0 : o.dst = none → JL P n W K F ops k rest tm L) : JL P n W K F ops k (o :: rest) tm L := .mk <| fun a w hf hO => by
  show if Region.wanted o (yielded ops a.tmps) = true then _ else _
  rw [wantF_eq hg hf, if_neg (by simp)]
  refine ⟨fun _ _ => trivial, ?_⟩
  cases hdst : o.dst with
  | none => exact h0 hdst a w hf hO
  | some t =>
    obtain rfl := hv t hdst
    refine h _ w ?_ hO
    rw [← upd_cons]
    rw [hdst] at hd
    exact hf.put hd _
theorem JL_step (hg : wantF ops o (tget tm) = some true) (h : ∀ a w, Fit n (tget tm) a → Ow W K L w → wpI P o a w (fun b w' => ∃ v, b = a.put o.dst v ∧ wpListIn (wideR F.ro) 0 P ops (runK P F k) rest (a.put o.dst v) w')) : JL P n W K F ops k (o :: rest) tm L := .mk <| fun a w hf hO => by
  show if Region.wanted o (yielded ops a.tmps) = true then _ else _
  rw [wantF_eq hg hf, if_pos rfl]
  exact Oper.wpIn_mono (fun b w' ⟨v, e, h⟩ => by subst e; exact h) (wpI_in (N := fun v w' => wpListIn (wideR F.ro) 0 P ops (runK P F k) rest (a.put o.dst v) w') (h a w hf hO))
theorem wpI_v {a : Act} {w w' : World} {v : Value} {N : Value → World → Prop} (h : (execOp a.eval o).run P w = .ok (.value v) w') (hn : N v w') : wpI P o a w (fun b w' => ∃ v, b = a.put o.dst v ∧ N v w') :=
  wpI_of_wp (by unfold Oper.wp; rw [h]; exact ⟨v, rfl, hn⟩)
theorem JL_p (hd : o.dst = some d) (hn : Nat.blt d n = true) (hg : wantF ops o (tget tm) = some true) (hp : PE P K L o (tget tm) v) (h : JL P n W K F ops k rest ((d, v) :: tm) L) : JL P n W K F ops k (o :: rest) tm L := JL_step hg fun a w hf hO =>
  wpI_v (N := fun v w' => wpListIn (wideR F.ro) 0 P ops (runK P F k) rest (a.put o.dst v) w') (hp a.eval w (hf.agree o) (Ow.rdw (M := []) hO)) (by
    rw [hd]
    refine h _ w ?_ hO
    rw [← upd_cons]
    exact hf.put (by simpa [inB] using hn) _)
theorem JL_m {x : Obj} {g : Nat → Value} (hd : o.dst = some d) (hn : Nat.blt d n = true) (hg : wantF ops o (tget tm) = some true) (hp : AL P o (tget tm) x g) (h : ∀ b, JL P n W K F ops k rest ((d, g b) :: tm) (ob b x :: L)) : JL P n W K F ops k (o :: rest) tm L := JL_step hg fun a w hf hO =>
  wpI_v (N := fun v w' => wpListIn (wideR F.ro) 0 P ops (runK P F k) rest (a.put o.dst v) w') (hp a.eval w (hf.agree o)) (by
    rw [hd]
    refine h _ _ _ ?_ (hO.al x)
    rw [← upd_cons]
    exact hf.put (by simpa [inB] using hn) _)
theorem JL_a (hd : o.dst = some d) (hn : Nat.blt d n = true) (hg : wantF ops o (tget tm) = some true) (hs : Sb L C R) (hp : AE P n K R C o (tget tm) Φ) (h : ∀ v L', Φ v L' → JL P n W K F ops k rest ((d, v) :: tm) (L' ++ R)) : JL P n W K F ops k (o :: rest) tm L := JL_step hg fun a w hf hO =>
  hp W K w a _ (Hl.le.refl K) hf (hO.sb hs) fun v L' w' hv hO' => by
    refine ⟨v, rfl, ?_⟩
    rw [hd]
    refine h v L' hv _ w' ?_ hO'
    rw [← upd_cons]
    exact hf.put (by simpa [inB] using hn) _
theorem JL_a0 (hd : o.dst = none) (hg : wantF ops o (tget tm) = some true) (hs : Sb L C R) (hp : AE P n K R C o (tget tm) Φ) (h : ∀ v L', Φ v L' → JL P n W K F ops k rest tm (L' ++ R)) : JL P n W K F ops k (o :: rest) tm L := JL_step hg fun a w hf hO =>
  hp W K w a _ (Hl.le.refl K) hf (hO.sb hs) fun v L' w' hv hO' => by
    refine ⟨v, rfl, ?_⟩
    rw [hd]
    exact h v L' hv _ w' hf hO'
theorem tget_over {t : Tmp} {c : Bool} {b : Bool} (hc : tget tm t = some (.bool c)) (hb : c = b) : tget ((t, .bool b) :: tm) = tget tm := by
  subst hb
  rw [← upd_cons]
  funext u
  simp only [upd]
  split
  · rename_i h; subst h; exact hc.symm
  · rfl
/-- A guard's test is decided. -/
theorem JL_split {t : Tmp} {p : Prop} [Decidable p] (hc : tget tm t = some (.bool (decide p))) (h1 : p → JL P n W K F ops k rest ((t, .bool true) :: tm) L) (h2 : ¬ p → JL P n W K F ops k rest ((t, .bool false) :: tm) L) : JL P n W K F ops k rest tm L := .mk <| fun a w hf hO => by
  by_cases hp : p
  · exact h1 hp a w (by rw [tget_over hc (by simp [hp])]; exact hf) hO
  · exact h2 hp a w (by rw [tget_over hc (by simp [hp])]; exact hf) hO
theorem JL_splitb {t : Tmp} {b : Bool} (hc : tget tm t = some (.bool b)) (h1 : b = true → JL P n W K F ops k rest ((t, .bool true) :: tm) L) (h2 : b = false → JL P n W K F ops k rest ((t, .bool false) :: tm) L) : JL P n W K F ops k rest tm L := .mk <| fun a w hf hO => by
  cases b with
  | true => exact h1 rfl a w (by rw [tget_over hc rfl]; exact hf) hO
  | false => exact h2 rfl a w (by rw [tget_over hc rfl]; exact hf) hO

/-! The same where the order is drawn. -/
theorem JD_nil (h : J P n W K F k tm (M ++ S)) : JD P n W K F ops k [] [] tm S M := .mk <| fun _ _ a w h1 h2 => h.h a w h1 (by simpa using h2)
/-- Behind all that may change its order. -/
theorem JD_bar (h : JD P n W K F ops k [] (o :: nx) tm [] (M ++ S)) : JD P n W K F ops k (o :: nx) [] tm S M := .mk <| fun _ => by
  refine DW_finMono ?_ _ _ _ _ h.h
  intro f L hh
  exact fun a w h1 h2 => hh ⟨W, K, w, a, Hl.le.refl K, h1, by simpa using h2⟩ a w h1 (by simpa using h2)
theorem JD_split {t : Tmp} {p : Prop} [Decidable p] (hc : tget tm t = some (.bool (decide p))) (h1 : p → JD P n W K F ops k nx rest ((t, .bool true) :: tm) S M) (h2 : ¬ p → JD P n W K F ops k nx rest ((t, .bool false) :: tm) S M) : JD P n W K F ops k nx rest tm S M := by
  by_cases hp : p
  · have := h1 hp
    refine ⟨?_⟩
    have h3 := this.h
    rwa [tget_over hc (by simp [hp])] at h3
  · have := h2 hp
    refine ⟨?_⟩
    have h3 := this.h
    rwa [tget_over hc (by simp [hp])] at h3
theorem JD_splitb {t : Tmp} {b : Bool} (hc : tget tm t = some (.bool b)) (h1 : b = true → JD P n W K F ops k nx rest ((t, .bool true) :: tm) S M) (h2 : b = false → JD P n W K F ops k nx rest ((t, .bool false) :: tm) S M) : JD P n W K F ops k nx rest tm S M := by
  cases b with
  | true => have h3 := (h1 rfl).h; refine ⟨?_⟩; rwa [tget_over hc rfl] at h3
  | false => have h3 := (h2 rfl).h; refine ⟨?_⟩; rwa [tget_over hc rfl] at h3
theorem JD_no (hg : wantF ops o (tget tm) = some false) (hd : o.dst = some d) (h : JD P n W K F ops k nx rest ((d, undef) :: tm) S M) : JD P n W K F ops k nx (o :: rest) tm S M := .mk <| fun _ _ _ _ _ _ _ => .inl ⟨hg, by rw [hd, upd_cons]; exact h.h⟩
theorem JD_p (hd : o.dst = some d) (hg : wantF ops o (tget tm) = some true) (hk : kindOp o.op = 0) (hp : PE P K S o (tget tm) v) (h : JD P n W K F ops k nx rest ((d, v) :: tm) S M) : JD P n W K F ops k nx (o :: rest) tm S M := .mk <| fun _ _ _ _ _ _ _ => .inr ⟨hg, .inl ⟨hk, [], M, v, .refl _, hp, by rw [hd, upd_cons]; exact h.h⟩⟩
/-- What is read stands still from here on. -/
theorem JD_pM {A : HP} (hd : o.dst = some d) (hg : wantF ops o (tget tm) = some true) (hk : kindOp o.op = 0) (ht : Tk M A M') (hp : PE P K (A :: S) o (tget tm) v) (h : JD P n W K F ops k nx rest ((d, v) :: tm) (A :: S) M') : JD P n W K F ops k nx (o :: rest) tm S M := .mk <| fun _ _ _ _ _ _ _ => .inr ⟨hg, .inl ⟨hk, [A], M', v, ht.perm, hp, by rw [hd, upd_cons]; exact h.h⟩⟩
theorem JD_m {x : Obj} {g : Nat → Value} (hd : o.dst = some d) (hg : wantF ops o (tget tm) = some true) (hk : kindOp o.op = 1) (hp : AL P o (tget tm) x g) (h : ∀ b, JD P n W K F ops k nx rest ((d, g b) :: tm) S (ob b x :: M)) : JD P n W K F ops k nx (o :: rest) tm S M := .mk <| fun _ _ _ _ _ _ _ => .inr ⟨hg, .inr (.inl ⟨hk, x, g, hp, fun b => by rw [hd, upd_cons]; exact (h b).h⟩)⟩
theorem JD_a (hd : o.dst = some d) (hg : wantF ops o (tget tm) = some true) (hk : kindOp o.op = 2) (hs : Sb M C R) (hp : AE P n K (R ++ S) C o (tget tm) Φ) (h : ∀ v L', Φ v L' → JD P n W K F ops k nx rest ((d, v) :: tm) S (L' ++ R)) : JD P n W K F ops k nx (o :: rest) tm S M := .mk <| fun W2 K' w a hK hf hO => .inr ⟨hg, .inr (.inr ⟨hk, by
  refine hp W2 K' w a _ hK hf (by rw [← List.append_assoc]; exact hO.perm (hs.perm.append_right S)) fun v L' w' hv hO' => ⟨v, rfl, L' ++ R, by rw [List.append_assoc]; exact hO', ?_⟩
  rw [hd, upd_cons]
  exact (h v L' hv).h⟩)⟩
theorem JD_a0 (hd : o.dst = none) (hg : wantF ops o (tget tm) = some true) (hk : kindOp o.op = 2) (hs : Sb M C R) (hp : AE P n K (R ++ S) C o (tget tm) Φ) (h : ∀ v L', Φ v L' → JD P n W K F ops k nx rest tm S (L' ++ R)) : JD P n W K F ops k nx (o :: rest) tm S M := .mk <| fun W2 K' w a hK hf hO => .inr ⟨hg, .inr (.inr ⟨hk, by
  refine hp W2 K' w a _ hK hf (by rw [← List.append_assoc]; exact hO.perm (hs.perm.append_right S)) fun v L' w' hv hO' => ⟨v, rfl, L' ++ R, by rw [List.append_assoc]; exact hO', ?_⟩
  rw [hd]
  exact (h v L' hv).h⟩)⟩
end
end
end Go.Pm
