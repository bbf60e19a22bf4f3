/-
  The walk in our own words, second part: a region whose order is drawn is walked in one order of our choice.
-/
import Derived.Test.YtohahlcjkhgimaaJa
namespace Go.Pm
set_option linter.unusedSimpArgs false
set_option linter.unusedVariables false
open Go.RowKit

/-- 0: only reads; 1: makes one block; 2: acts. -/
def kindOp : Op → Nat
  | .move _ | .assign _ | .pick _ _ _ | .nilCheck _ | .binOp _ _ _ _ _ | .unOp _ _ _ | .convert _ _ _ | .fieldAddr _ _ _ | .field _ _ _ | .indexAddr _ _ _ | .index _ _ _ | .extract _ _ | .slice _ _ _ _ _ | .build _ _ | .makeFunc _ _ _
  | .makeInterface _ _ | .load _ _ | .lookup _ _ _ _ | .typeAssert _ _ _ _ | .sliceToArrayPointer _ _ => 0
  | .call c => match c.callee with
    | .builtin .len | .builtin .cap | .builtin .min | .builtin .max => 0
    | _ => 2
  | .alloc _ | .box _ _ | .buildSlice _ _ _ | .makeMap _ _ => 1
  | _ => 2
def selOp : Op → Bool
  | .select _ _ => true
  | _ => false
theorem selOp_no {x : Op} (h : selOp x = false) : ∀ cs b, x ≠ .select cs b := by rintro cs b rfl; cases h

/-- Some state is like this. -/
def Lv (n : Nat) (K : Hl) (f : TF) (L : List HP) : Prop := ∃ W K' w a, K.le K' ∧ Fit n f a ∧ Ow W K' L w

section
variable (P : Program) (n : Nat) (K : Hl) (ops : Array Oper) (fin : TF → List HP → Prop)
def DW : List Oper → TF → List HP → List HP → Prop
  | [], f, S, M => Lv n K f (M ++ S) → fin f (M ++ S)
  | o :: r, f, S, M => ∀ W K' w a, K.le K' → Fit n f a → Ow W K' (M ++ S) w →
    ((wantF ops o f = some false ∧ DW r (upd f o.dst undef) S M) ∨
     (wantF ops o f = some true ∧
      ((kindOp o.op = 0 ∧ ∃ As M' v, M.Perm (As ++ M') ∧ PE P K (As ++ S) o f v ∧ DW r (upd f o.dst v) (As ++ S) M') ∨
       (kindOp o.op = 1 ∧ ∃ x g, AL P o f x g ∧ ∀ b, DW r (upd f o.dst (g b)) S (ob b x :: M)) ∨
       (kindOp o.op = 2 ∧ wpI P o a w (fun a' w' => ∃ v, a' = a.put o.dst v ∧ ∃ M', Ow W K' (M' ++ S) w' ∧ DW r (upd f o.dst v) S M')))))
end

def mov (ops : Array Oper) (q i : Oper) : Bool := q.apart ops i && !selOp q.op && !selOp i.op && (kindOp q.op == 0 || (kindOp i.op == 1 && i.guard.isNone))

section
variable {P : Program} {n : Nat} {K : Hl} {ops : Array Oper} {fin : TF → List HP → Prop}

theorem evF_upd {o : Oper} {f : TF} {d : Option Tmp} {v : Value} (h : ∀ t, d = some t → t ∉ o.looksAt ops) {x : Operand} (hx : x ∈ o.op.operands.toList) : evF (upd f d v) x = evF f x := by
  cases d with
  | none => rfl
  | some t =>
    cases x with
    | tmp u =>
      have : u ≠ t := fun e => h t rfl (by
        subst e
        exact List.mem_append_left _ (List.mem_filterMap.2 ⟨.tmp u, hx, rfl⟩))
      simp [evF, upd, fget, this]
    | _ => rfl
theorem agree_upd {o : Oper} {f : TF} {d : Option Tmp} {v : Value} (h : ∀ t, d = some t → t ∉ o.looksAt ops) {ρ : Operand → Value} : Agree o (upd f d v) ρ ↔ Agree o f ρ := by
  constructor
  · intro g x hx u hu; exact g x hx u (by rw [evF_upd h hx]; exact hu)
  · intro g x hx u hu; exact g x hx u (by rw [evF_upd h hx] at hu; exact hu)
theorem wantF_upd {o : Oper} {f : TF} {d : Option Tmp} {v : Value} (h : ∀ t, d = some t → t ∉ o.looksAt ops) : wantF ops o (upd f d v) = wantF ops o f := by
  cases d with
  | none => rfl
  | some t =>
    unfold wantF
    cases hg : o.guard with
    | none => rfl
    | some p =>
      obtain ⟨j, b⟩ := p
      dsimp only
      cases hj : (ops[j]?).bind (·.dst) with
      | none => rfl
      | some u =>
        have : u ≠ t := fun e => h t rfl (by
          subst e
          exact List.mem_append_right _ (by simp [hg, hj]))
        simp [upd, fget, this]
theorem PE.upd {o : Oper} {f : TF} {d : Option Tmp} {v u : Value} {S : List HP} (h : ∀ t, d = some t → t ∉ o.looksAt ops) : PE P K S o (upd f d v) u ↔ PE P K S o f u :=
  ⟨fun g ρ w ha hr => g ρ w ((agree_upd h).2 ha) hr, fun g ρ w ha hr => g ρ w ((agree_upd h).1 ha) hr⟩
theorem AL.upd {o : Oper} {f : TF} {d : Option Tmp} {v : Value} {x : Obj} {g : Nat → Value} (h : ∀ t, d = some t → t ∉ o.looksAt ops) : AL P o (upd f d v) x g ↔ AL P o f x g :=
  ⟨fun k ρ w ha => k ρ w ((agree_upd h).2 ha), fun k ρ w ha => k ρ w ((agree_upd h).1 ha)⟩
theorem PE.more {o : Oper} {f : TF} {u : Value} {S R : List HP} (h : PE P K S o f u) : PE P K (R ++ S) o f u := fun ρ w ha hr => h ρ w ha hr.right
theorem PE.perm {o : Oper} {f : TF} {u : Value} {S S' : List HP} (h : PE P K S o f u) (p : S.Perm S') : PE P K S' o f u := fun ρ w ha hr => h ρ w ha (hr.perm p.symm)

/-- What a block was made to hold is one thing alone. -/
theorem AL.det {o : Oper} {f : TF} {x x' : Obj} {g g' : Nat → Value} (h : AL P o f x g) (h' : AL P o f x' g') {ρ : Operand → Value} (ha : Agree o f ρ) : x = x' ∧ g = g' := by
  have key : ∀ w : World, g w.heap.size = g' w.heap.size ∧ w.alloc x = w.alloc x' := fun w => by
    have := (h ρ w ha).symm.trans (h' ρ w ha)
    simpa using this
  constructor
  · have := congrArg (fun w => w.heap[0]?) (key default).2
    have e1 : ∀ y, ((default : World).alloc y).heap[0]? = some y := fun y => rfl
    rw [e1, e1] at this
    exact Option.some.inj this
  · funext b
    have := (key { (default : World) with heap := Array.replicate b x }).1
    simpa using this

theorem DW_lv {r : List Oper} {f : TF} {S M : List HP} (h : Lv n K f (M ++ S) → DW P n K ops fin r f S M) : DW P n K ops fin r f S M := by
  cases r with
  | nil => exact fun l => h l l
  | cons o r => exact fun W K' w a h1 h2 h3 => h ⟨W, K', w, a, h1, h2, h3⟩ W K' w a h1 h2 h3

theorem DW_mono {X Y : List Oper} (h : ∀ f S M, DW P n K ops fin X f S M → DW P n K ops fin Y f S M) : ∀ A f S M, DW P n K ops fin (A ++ X) f S M → DW P n K ops fin (A ++ Y) f S M := by
  intro A
  induction A with
  | nil => exact h
  | cons o r ih =>
    intro f S M hd W K' w a hK hf hO
    rcases hd W K' w a hK hf hO with ⟨h1, h2⟩ | ⟨h1, h2⟩
    · exact .inl ⟨h1, ih _ _ _ h2⟩
    · refine .inr ⟨h1, ?_⟩
      rcases h2 with ⟨k, As, M', v, p, e, d⟩ | ⟨k, x, g, e, d⟩ | ⟨k, e⟩
      · exact .inl ⟨k, As, M', v, p, e, ih _ _ _ d⟩
      · exact .inr (.inl ⟨k, x, g, e, fun b => ih _ _ _ (d b)⟩)
      · exact .inr (.inr ⟨k, wpI_mono (fun a' w' ⟨v, e1, M', e2, e3⟩ => ⟨v, e1, M', e2, ih _ _ _ e3⟩) e⟩)

theorem DW_finMono {fin' : TF → List HP → Prop} (hf : ∀ f L, fin f L → fin' f L) : ∀ (r : List Oper) (f : TF) (S M : List HP), DW P n K ops fin r f S M → DW P n K ops fin' r f S M := by
  intro r
  induction r with
  | nil => exact fun f S M h l => hf _ _ (h l)
  | cons o r ih =>
    intro f S M hd W K' w a hK hf' hO
    rcases hd W K' w a hK hf' hO with ⟨h1, h2⟩ | ⟨h1, h2⟩
    · exact .inl ⟨h1, ih _ _ _ h2⟩
    · refine .inr ⟨h1, ?_⟩
      rcases h2 with ⟨k, As, M', v, p, e, d⟩ | ⟨k, x, g, e, d⟩ | ⟨k, e⟩
      · exact .inl ⟨k, As, M', v, p, e, ih _ _ _ d⟩
      · exact .inr (.inl ⟨k, x, g, e, fun b => ih _ _ _ (d b)⟩)
      · exact .inr (.inr ⟨k, wpI_mono (fun a' w' ⟨v, e1, M', e2, e3⟩ => ⟨v, e1, M', e2, ih _ _ _ e3⟩) e⟩)

theorem DW_perm (hfin : ∀ f L L', L.Perm L' → fin f L → fin f L') : ∀ (r : List Oper) (f : TF) (S M M' : List HP), M.Perm M' → DW P n K ops fin r f S M → DW P n K ops fin r f S M' := by
  intro r
  induction r with
  | nil =>
    intro f S M M' p h l
    refine hfin _ _ _ (p.append_right S) (h ?_)
    obtain ⟨W, K', w, a, h1, h2, h3⟩ := l
    exact ⟨W, K', w, a, h1, h2, h3.perm (p.symm.append_right S)⟩
  | cons o r ih =>
    intro f S M M' p hd W K' w a hK hf hO
    rcases hd W K' w a hK hf (hO.perm (p.symm.append_right S)) with ⟨h1, h2⟩ | ⟨h1, h2⟩
    · exact .inl ⟨h1, ih _ _ _ _ p h2⟩
    · refine .inr ⟨h1, ?_⟩
      rcases h2 with ⟨k, As, M2, v, p2, e, d⟩ | ⟨k, x, g, e, d⟩ | ⟨k, e⟩
      · exact .inl ⟨k, As, M2, v, p.symm.trans p2, e, d⟩
      · exact .inr (.inl ⟨k, x, g, e, fun b => ih _ _ _ _ (p.cons _) (d b)⟩)
      · exact .inr (.inr ⟨k, e⟩)

theorem kind_cases (x : Op) : kindOp x = 0 ∨ kindOp x = 1 ∨ kindOp x = 2 := by
  unfold kindOp
  split <;> first | exact .inl rfl | exact .inr (.inl rfl) | exact .inr (.inr rfl) | (split <;> first | exact .inl rfl | exact .inr (.inr rfl))

theorem Ow.permR {W : World} {L M : List HP} {w : World} {K : Hl} (H : Ow W K L w) (p : L.Perm M) : Ow W K M w := H.perm p

theorem Ow.aside {W : World} {L : List HP} {w : World} {K : Hl} {A : HP} (H : Ow W K (A :: L) w) : ∃ K', K.le K' ∧ Ow W K' L w ∧ ∀ M w', Ow W K' M w' → Ow W K (A :: M) w' := by
  obtain ⟨hR, _, _, H2, back⟩ := Ow.frame (L := L) (R := [A]) (H.perm (List.perm_append_comm (l₁ := [A]) (l₂ := L)))
  exact ⟨K.add hR, Hl.le_add _ _, H2, fun M w' H' => (back M w' H').perm (List.perm_append_comm (l₁ := M) (l₂ := [A]))⟩

theorem Ow.al {W : World} {L : List HP} {w : World} {K : Hl} (H : Ow W K L w) (x : Obj) : Ow W K (ob w.heap.size x :: L) (w.alloc x) := H.alloc x

theorem put_size (a : Act) (d : Option Tmp) (v : Value) : (a.put d v).tmps.size = a.tmps.size := by
  cases d <;> simp [Act.put]

/-- The step that stands second is taken first. -/
theorem DW_swap (hfin : ∀ f L L', L.Perm L' → fin f L → fin f L') {q i : Oper} {r : List Oper} (hm : mov ops q i = true) (hq : inB n q.dst = true) (hi : inB n i.dst = true) (f : TF) (S M : List HP) (h : DW P n K ops fin (q :: i :: r) f S M) : DW P n K ops fin (i :: q :: r) f S M := by
  simp only [mov, Bool.and_eq_true, Bool.or_eq_true, Bool.not_eq_true', beq_iff_eq] at hm
  obtain ⟨⟨⟨hap, sq⟩, si⟩, hk⟩ := hm
  obtain ⟨a1, a2, a3⟩ := Oper.apart_spec hap
  have ucomm : ∀ u v, upd (upd f q.dst u) i.dst v = upd (upd f i.dst v) q.dst u := fun u v => upd_comm a2
  intro W K' w a hK hf hO
  -- q is passed over
  rcases h W K' w a hK hf hO with ⟨wq, h1⟩ | ⟨wq, h1⟩
  · have back : ∀ v S M, DW P n K ops fin r (upd (upd f q.dst undef) i.dst v) S M → DW P n K ops fin (q :: r) (upd f i.dst v) S M := fun v S M h _ _ _ _ _ _ _ => .inl ⟨by rw [wantF_upd a3]; exact wq, by rw [← ucomm]; exact h⟩
    rcases h1 W K' w (a.put q.dst undef) hK (hf.put hq _) hO with ⟨wi, h2⟩ | ⟨wi, h2⟩
    · exact .inl ⟨by rwa [wantF_upd a1] at wi, back _ _ _ h2⟩
    · refine .inr ⟨by rwa [wantF_upd a1] at wi, ?_⟩
      rcases h2 with ⟨k, As, M', v, p, e, d⟩ | ⟨k, x, g, e, d⟩ | ⟨k, e⟩
      · exact .inl ⟨k, As, M', v, p, (PE.upd a1).1 e, back _ _ _ d⟩
      · exact .inr (.inl ⟨k, x, g, (AL.upd a1).1 e, fun b => back _ _ _ (d b)⟩)
      · refine .inr (.inr ⟨k, ?_⟩)
        have he := execOp_put i (selOp_no si) a q.dst undef a1
        exact wpI_mono (fun a' w' ⟨v, e1, M', e2, e3⟩ => ⟨v, e1, M', e2, back _ _ _ e3⟩) (wpI_frame (N := fun v w' => ∃ M', Ow W K' (M' ++ S) w' ∧ DW P n K ops fin r (upd (upd f q.dst undef) i.dst v) S M') he.symm (put_size _ _ _) e)
  · rcases hk with kq | ⟨ki, gi⟩
    · -- q only reads
      rcases h1 with ⟨_, As, M', v, p, e, d⟩ | ⟨k, _⟩ | ⟨k, _⟩
      · have back : ∀ u S2 M2, DW P n K ops fin r (upd (upd f q.dst v) i.dst u) (As ++ S2) M2 → PE P K (As ++ S2) q f v → DW P n K ops fin (q :: r) (upd f i.dst u) S2 (As ++ M2) := fun u S2 M2 h e _ _ _ _ _ _ _ => .inr ⟨by rw [wantF_upd a3]; exact wq, .inl ⟨kq, As, M2, v, .refl _, (PE.upd a3).2 e, by rw [← ucomm]; exact h⟩⟩
        have hO2 : Ow W K' (M' ++ (As ++ S)) w := hO.perm ((p.append_right S).trans (by rw [← List.append_assoc]; exact (List.perm_append_comm).append_right S))
        rcases d W K' w (a.put q.dst v) hK (hf.put hq _) hO2 with ⟨wi, d⟩ | ⟨wi, d⟩
        · exact .inl ⟨by rwa [wantF_upd a1] at wi, DW_perm hfin _ _ _ _ _ p.symm (back _ _ _ d e)⟩
        · refine .inr ⟨by rwa [wantF_upd a1] at wi, ?_⟩
          rcases d with ⟨k, Bs, M2, u, p2, e2, d2⟩ | ⟨k, x, g, e2, d2⟩ | ⟨k, e2⟩
          · refine .inl ⟨k, Bs ++ As, M2, u, p.trans ((List.Perm.append_left As p2).trans (by rw [← List.append_assoc]; exact (List.perm_append_comm).append_right M2)), (PE.upd a1).1 (by simpa using e2), ?_⟩
            refine fun _ _ _ _ _ _ _ => .inr ⟨by rw [wantF_upd a3]; exact wq, .inl ⟨kq, [], M2, v, .refl _, ?_, ?_⟩⟩
            · have := e.more (R := Bs)
              exact (PE.upd a3).2 (by simpa using this)
            · rw [← ucomm]; simpa using d2
          · exact .inr (.inl ⟨k, x, g, (AL.upd a1).1 e2, fun b => DW_perm hfin _ _ _ _ _ (List.perm_middle.trans (p.symm.cons _)) (back _ _ _ (d2 b) e)⟩)
          · refine .inr (.inr ⟨k, ?_⟩)
            have he := execOp_put i (selOp_no si) a q.dst v a1
            refine wpI_mono ?_ (wpI_frame (N := fun u w' => ∃ M2, Ow W K' (M2 ++ (As ++ S)) w' ∧ DW P n K ops fin r (upd (upd f q.dst v) i.dst u) (As ++ S) M2) he.symm (put_size _ _ _) e2)
            rintro a' w' ⟨u, e1, M2, o2, d3⟩
            exact ⟨u, e1, As ++ M2, o2.perm (by rw [← List.append_assoc]; exact (List.perm_append_comm).append_right S), back _ _ _ d3 e⟩
      · rw [kq] at k; cases k
      · rw [kq] at k; cases k
    · -- i makes a block
      have wi : ∀ g, wantF ops i g = some true := fun g => by
        unfold wantF
        cases hg : i.guard with
        | none => rfl
        | some x => rw [hg] at gi; cases gi
      have hi1 : ∀ u S2 M2, DW P n K ops fin (i :: r) u S2 M2 → ∀ W K' w a, K.le K' → Fit n u a → Ow W K' (M2 ++ S2) w → ∃ x g, AL P i u x g ∧ ∀ b, DW P n K ops fin r (upd u i.dst (g b)) S2 (ob b x :: M2) := fun u S2 M2 h W K' w a x1 x2 x3 => by
        rcases h W K' w a x1 x2 x3 with ⟨wi', _⟩ | ⟨_, h⟩
        · rw [wi] at wi'; cases wi'
        · rcases h with ⟨k, _⟩ | ⟨_, h⟩ | ⟨k, _⟩
          · rw [ki] at k; cases k
          · exact h
          · rw [ki] at k; cases k
      refine .inr ⟨wi _, .inr (.inl ⟨ki, ?_⟩)⟩
      rcases h1 with ⟨kq, As, M', v, p, e, d⟩ | ⟨kq, x, g, e, d⟩ | ⟨kq, e⟩
      · -- q only reads
        have hO2 : Ow W K' (M' ++ (As ++ S)) w := hO.perm ((p.append_right S).trans (by rw [← List.append_assoc]; exact (List.perm_append_comm).append_right S))
        obtain ⟨y, gy, ay, dy⟩ := hi1 _ _ _ d W K' w (a.put q.dst v) hK (hf.put hq _) hO2
        refine ⟨y, gy, (AL.upd a1).1 ay, fun b _ _ _ _ _ _ _ => .inr ⟨by rw [wantF_upd a3]; exact wq, .inl ⟨kq, As, ob b y :: M', v, (p.cons _).trans List.perm_middle.symm, (PE.upd a3).2 e, by rw [← ucomm]; exact dy b⟩⟩⟩
      · -- q makes a block too
        have hO2 := hO.al x
        obtain ⟨y, gy, ay, _⟩ := hi1 _ _ _ (d w.heap.size) W K' (w.alloc x) (a.put q.dst (g w.heap.size)) hK (hf.put hq _) hO2
        have ay' := (AL.upd a1).1 ay
        refine ⟨y, gy, ay', fun b => ?_⟩
        intro W2 K2 w2 b2 hK2 hf2 hO3
        refine .inr ⟨by rw [wantF_upd a3]; exact wq, .inr (.inl ⟨kq, x, g, (AL.upd a3).2 e, fun c => DW_lv fun l => ?_⟩)⟩
        obtain ⟨W3, K3, w3, a3', hK3, hf3, hO4⟩ := l
        rw [← ucomm] at hf3
        obtain ⟨u, hf4⟩ := hf3.unput hi
        obtain ⟨K4, le4, hO5, _⟩ := Ow.aside (A := ob b y) (L := (ob c x :: M) ++ S) (hO4.perm (by simpa using List.Perm.swap (ob b y) (ob c x) (M ++ S)))
        obtain ⟨y2, gy2, ay2, dy2⟩ := hi1 _ _ _ (d c) W3 K4 w3 _ (hK3.trans le4) hf4 hO5
        obtain ⟨rfl, rfl⟩ := ay'.det ((AL.upd a1).1 ay2) (hf.agree i)
        rw [← ucomm]
        exact DW_perm hfin _ _ _ _ _ (List.Perm.swap ..) (dy2 b)
      · -- q acts
        have hy : ∃ y gy, AL P i f y gy := wpI_some (wpI_mono (fun a' w' hh => by
          obtain ⟨v, rfl, M', o2, d⟩ := hh
          obtain ⟨y, gy, ay, _⟩ := hi1 _ _ _ d W K' w' _ hK (hf.put hq _) o2
          exact ⟨y, gy, (AL.upd a1).1 ay⟩) e)
        obtain ⟨y, gy, ay⟩ := hy
        refine ⟨y, gy, ay, fun b => ?_⟩
        intro W2 K2 w2 b2 hK2 hf2 hO3
        obtain ⟨u, hf4⟩ := hf2.unput hi
        obtain ⟨K4, le4, hO5, back⟩ := Ow.aside (A := ob b y) (L := M ++ S) hO3
        refine .inr ⟨by rw [wantF_upd a3]; exact wq, .inr (.inr ⟨kq, ?_⟩)⟩
        rcases h W2 K4 w2 _ (hK2.trans le4) hf4 hO5 with ⟨wq', _⟩ | ⟨_, h1⟩
        · rw [wq] at wq'; cases wq'
        rcases h1 with ⟨k, _⟩ | ⟨k, _⟩ | ⟨_, e2⟩
        · rw [kq] at k; cases k
        · rw [kq] at k; cases k
        have he := execOp_put q (selOp_no sq) b2 i.dst u a3
        refine wpI_mono ?_ (wpI_frame (N := fun v w' => ∃ M', Ow W2 K4 (M' ++ S) w' ∧ DW P n K ops fin (i :: r) (upd f q.dst v) S M') he.symm (put_size _ _ _) e2)
        rintro a' w' ⟨v, rfl, M', o2, d⟩
        refine ⟨v, rfl, ob b y :: M', back _ _ o2, ?_⟩
        obtain ⟨y2, gy2, ay2, dy2⟩ := hi1 _ _ _ d W2 K4 w' _ (hK2.trans le4) (hf4.put hq v) o2
        obtain ⟨rfl, rfl⟩ := ay.det ((AL.upd a1).1 ay2) (hf.agree i)
        rw [← ucomm]
        exact dy2 b
end
end Go.Pm
