/-
  General lemmas of our own, over any program: blocks of cells, and which blocks a step may change.
-/
import Derived.WalkKit
import Derived.Below
import Derived.Deep.Draws
import Derived.Lib.Hide
import Derived.Deep.MidRow
namespace Go.Pm
set_option linter.unusedSimpArgs false
set_option linter.unusedVariables false
open Go.RowKit

theorem ret_int {k : IntKind} {a b : Int} (h : a = b) : Ending.returned (.int k a) = .returned (.int k b) := by rw [h]
theorem ret_bool {a b : Bool} (h : a = b) : Ending.returned (.bool a) = .returned (.bool b) := by rw [h]

/-- A frame of which some slots are named and the others are whatever they are. -/
theorem ex_frame {a : Act} {F : (Nat → Value) → Act} (h : a = F (fun i => a.tmps.getD i undef)) : ∃ f, a = F f := ⟨_, h⟩

/-- Block b holds just these cells, of element type T, none frozen. -/
def Blk (w : World) (b : Nat) (cs : Array Value) (T : TypeId) : Prop := w.heap[b]? = some (.cells cs T (0, 0))

theorem Blk.lt {w : World} {b : Nat} {cs : Array Value} {T : TypeId} (h : Blk w b cs T) : b < w.heap.size := by
  rcases Nat.lt_or_ge b w.heap.size with h' | h'
  · exact h'
  · have : w.heap[b]? = none := Array.getElem?_eq_none h'
    rw [Blk, this] at h
    cases h

theorem Blk.cell {w : World} {b : Nat} {cs : Array Value} {T : TypeId} (h : Blk w b cs T) (i : Nat) : w.cell? ⟨b, i, none⟩ = cs[i]? := by
  unfold World.cell?
  rw [show w.heap[(⟨b, i, none⟩ : Addr).block]? = some (.cells cs T (0, 0)) from h]
  rfl

theorem Blk.free {w : World} {b : Nat} {cs : Array Value} {T : TypeId} (h : Blk w b cs T) (i : Nat) : w.frozen? ⟨b, i, none⟩ = false := by
  unfold World.frozen?
  rw [show w.heap[(⟨b, i, none⟩ : Addr).block]? = some (.cells cs T (0, 0)) from h]
  simp

theorem heap_setCell (w : World) (b i : Nat) (v : Value) (k : Nat) (h : k ≠ b) : (w.setCell ⟨b, i, none⟩ v).heap[k]? = w.heap[k]? :=
  Below.heap_setCell _ _ _ _ h

theorem Blk.set {w : World} {b : Nat} {cs : Array Value} {T : TypeId} (h : Blk w b cs T) (i : Nat) (v : Value) :
    Blk (w.setCell ⟨b, i, none⟩ v) b (cs.setIfInBounds i v) T := by
  unfold Blk at *
  simp [World.setCell, Array.getElem?_modify, h]

theorem Blk.setOther {w : World} {b : Nat} {cs : Array Value} {T : TypeId} (h : Blk w b cs T) {c : Nat} (i : Nat) (v : Value) (hc : b ≠ c) :
    Blk (w.setCell ⟨c, i, none⟩ v) b cs T := by
  unfold Blk at *
  rw [heap_setCell _ _ _ _ _ hc]
  exact h

theorem Blk.new (w : World) (cs : Array Value) (T : TypeId) : Blk (w.alloc (.cells cs T)) w.heap.size cs T := by
  show (w.heap.push (.cells cs T))[w.heap.size]? = _
  simp

theorem Blk.alloc {w : World} {b : Nat} {cs : Array Value} {T : TypeId} (h : Blk w b cs T) (o : Obj) : Blk (w.alloc o) b cs T := by
  have hl := h.lt
  unfold Blk at *
  rw [Below.heap_alloc _ _ _ hl]
  exact h

theorem blk_cast {w : World} {n : Nat} {cs cs' : Array Value} {T : TypeId} (h : Blk w n cs T) (e : cs = cs') : Blk w n cs' T := e ▸ h
theorem blk_newAt (w : World) (cs : Array Value) (T : TypeId) {n : Nat} (hn : n = w.heap.size) : Blk (w.alloc (.cells cs T)) n cs T := hn ▸ Blk.new w cs T

/-- The world is forgotten, but for what is asked of it. -/
theorem world_abs {Q : World → Prop} {W : World} (R : World → Prop) (h : R W) (k : ∀ w', R w' → Q w') : Q W := k W h

theorem calls_abs {P : Program} {f : FuncId} {args : Array Value} {Q : Ending → World → Prop} {W : World} (R : World → Prop) (h : R W) (k : ∀ w', R w' → Calls P f args w' Q) : Calls P f args W Q := k W h

theorem Blk.range {w : World} {b : Nat} {cs : Array Value} {T : TypeId} (h : Blk w b cs T) : w.rangeAt b 0 cs.toList := fun j v hv => by
  rw [Nat.zero_add, h.cell]
  simpa using hv
theorem loadVar_blk {P : Program} {w : World} {b : Nat} {cs : Array Value} {T : TypeId} (h : Blk w b cs T) (d : TypeDesc) (ty : TypeId) (hu : P.underlying ty = some d) (hd : d.isRow = true) (hi : (P.info? ty).map (·.size) = some cs.size) :
    (loadVar ty ⟨b, 0, none⟩).run P w = .ok (.agg cs) w := by
  have := run_loadVar_mid (P := P) w b 0 ty cs.toList d h.range hu hd (by simpa using hi)
  simpa using this

theorem Blk.drew {w : World} {b : Nat} {cs : Array Value} {T : TypeId} (h : Blk w b cs T) : Blk w.drew b cs T := h
theorem Blk.drewN {w : World} {b : Nat} {cs : Array Value} {T : TypeId} (h : Blk w b cs T) (n : Nat) : Blk (w.drewN n) b cs T := h

/-- The tape is the same one, and none of its answers was given back. -/
structure Tp (w w' : World) : Prop where
  tape : w'.tape = w.tape
  drawn : w.drawn ≤ w'.drawn
theorem Tp.refl (w : World) : Tp w w := ⟨rfl, Nat.le_refl _⟩
theorem Tp.trans {a b c : World} (h : Tp b c) (k : Tp a b) : Tp a c := ⟨h.tape.trans k.tape, Nat.le_trans k.drawn h.drawn⟩
theorem Tp.drew {a w : World} (h : Tp a w) : Tp a w.drew := ⟨h.tape, Nat.le_succ_of_le h.drawn⟩
theorem Tp.drewN {a w : World} (h : Tp a w) (n : Nat) : Tp a (w.drewN n) := ⟨h.tape, Nat.le_trans h.drawn (Nat.le_add_right _ _)⟩
theorem Tp.same {a w w' : World} (h : Tp a w) (ht : w'.tape = w.tape) (hd : w'.drawn = w.drawn) : Tp a w' := ⟨ht.trans h.tape, by rw [hd]; exact h.drawn⟩

/-- From w to w' blocks that were there have changed only if they are of bs; there may be new ones. -/
structure Only (bs : List Nat) (w w' : World) : Prop where
  os : w'.os = w.os
  tape : Tp w w'
  output : w'.output = w.output
  size : w.heap.size ≤ w'.heap.size
  block : ∀ k, k < w.heap.size → k ∉ bs → w'.heap[k]? = w.heap[k]?

theorem Only.refl (bs : List Nat) (w : World) : Only bs w w := ⟨rfl, Tp.refl _, rfl, Nat.le_refl _, fun _ _ _ => rfl⟩

theorem Only.trans {bs bs' : List Nat} {a b c : World} (h : Only bs a b) (k : Only bs' b c) (hb : ∀ x, x ∈ bs' → x ∈ bs ∨ a.heap.size ≤ x) : Only bs a c :=
  ⟨k.os.trans h.os, k.tape.trans h.tape, k.output.trans h.output, Nat.le_trans h.size k.size, fun i hi hn =>
    (k.block i (Nat.lt_of_lt_of_le hi h.size) (fun hm => by
      rcases hb i hm with h1 | h1
      · exact hn h1
      · omega)).trans (h.block i hi hn)⟩

theorem Only.then {bs : List Nat} {a b c : World} (h : Only bs a b) (k : Only bs b c) : Only bs a c := h.trans k (fun _ hx => .inl hx)

theorem Only.mono {bs bs' : List Nat} {w w' : World} (h : Only bs w w') (hb : ∀ x, x ∈ bs → x ∈ bs' ∨ w.heap.size ≤ x) : Only bs' w w' :=
  ⟨h.os, h.tape, h.output, h.size, fun k hk hn => h.block k hk (fun hm => by
    rcases hb k hm with h1 | h1
    · exact hn h1
    · omega)⟩

theorem Only.ofNil {bs : List Nat} {w w' : World} (h : Only [] w w') : Only bs w w' := h.mono (by simp)

theorem Only.drew {bs : List Nat} {a w : World} (h : Only bs a w) : Only bs a w.drew := ⟨h.os, h.tape.drew, h.output, h.size, h.block⟩
theorem Only.drewN {bs : List Nat} {a w : World} (h : Only bs a w) (n : Nat) : Only bs a (w.drewN n) := ⟨h.os, h.tape.drewN n, h.output, h.size, h.block⟩

theorem Only.alloc {bs : List Nat} {a w : World} (h : Only bs a w) (o : Obj) : Only bs a (w.alloc o) :=
  h.then ⟨rfl, (Tp.refl w).same rfl rfl, rfl, by simp, fun k hk _ => Below.heap_alloc _ _ _ hk⟩

theorem Only.setCell {bs : List Nat} {a w : World} (h : Only bs a w) {b : Nat} (hb : b ∈ bs ∨ a.heap.size ≤ b) (i : Nat) (v : Value) : Only bs a (w.setCell ⟨b, i, none⟩ v) :=
  h.trans (bs' := [b]) ⟨rfl, (Tp.refl w).same rfl rfl, rfl, by simp [World.setCell], fun k _ hn => heap_setCell _ _ _ _ _ (by simpa using hn)⟩ (by simpa using hb)

theorem Only.below {bs : List Nat} {w w' : World} {B : Nat} (h : Only bs w w') (hB : B ≤ w.heap.size) (hb : ∀ x, x ∈ bs → B ≤ x) : Below B w w' :=
  ⟨h.os, h.tape.tape, h.output, h.size, fun k hk => h.block k (by omega) (fun hm => by have := hb k hm; omega)⟩

theorem Only.belowNil {w w' : World} (h : Only [] w w') : Below w.heap.size w w' := h.below (Nat.le_refl _) (by simp)

theorem Blk.keep {bs : List Nat} {w w' : World} {b : Nat} {cs : Array Value} {T : TypeId} (h : Blk w b cs T) (ho : Only bs w w') (hb : b ∉ bs) : Blk w' b cs T := by
  have hl := h.lt
  unfold Blk at *
  rw [ho.block b hl hb]
  exact h

theorem Only.cell {bs : List Nat} {w w' : World} (ho : Only bs w w') {b : Nat} (hl : b < w.heap.size) (hb : b ∉ bs) (i : Nat) : w'.cell? ⟨b, i, none⟩ = w.cell? ⟨b, i, none⟩ :=
  World.cell?_of_block (w := w) (ho.block b hl hb)

theorem Only.frozen {bs : List Nat} {w w' : World} (ho : Only bs w w') {b : Nat} (hl : b < w.heap.size) (hb : b ∉ bs) (i : Nat) : w'.frozen? ⟨b, i, none⟩ = w.frozen? ⟨b, i, none⟩ :=
  World.frozen?_of_block (w := w) (ho.block b hl hb)

/-- Codes one behind the other, then K. -/
def wpK (P : Program) : List Code → (Act → World → Prop) → (Exit → Act → World → Prop) → Act → World → Prop
  | [], K, _ => K
  | c :: cs, K, Q => c.wp P (Exit.then (wpK P cs K Q) Q)

theorem wpK_mono {P : Program} {Q Q' : Exit → Act → World → Prop} (hq : ∀ e a w, e ≠ .normal → Q e a w → Q' e a w) : ∀ (l : List Code) {K K' : Act → World → Prop} (_ : ∀ a w, K a w → K' a w) (a : Act) (w : World),
    wpK P l K Q a w → wpK P l K' Q' a w
  | [], _, _, hk, a, w, h => hk a w h
  | c :: cs, K, K', hk, a, w, h => by
    refine wp_mono (c := c) h ?_
    intro e a w he
    cases e <;> first | exact wpK_mono hq cs hk _ _ he | exact hq _ _ _ (by simp) he

theorem wpK_append {P : Program} {Q : Exit → Act → World → Prop} {K : Act → World → Prop} (y : List Code) : ∀ (l : List Code), wpK P (l ++ y) K Q = wpK P l (wpK P y K Q) Q
  | [] => rfl
  | c :: cs => by simp only [List.cons_append, wpK, wpK_append y cs]

/-- What stands ahead of a label, and behind it. -/
def upto : Code → Nat → Option (List Code × List Code)
  | .seq a b, l => match upto a l with
    | some (bs, rs) => some (bs, rs ++ [b])
    | none => match upto b l with
      | some (bs, rs) => some (a :: bs, rs)
      | none => none
  | .label l', l => if l' == l then some ([.label l'], []) else none
  | _, _ => none

theorem no_upto : ∀ (c : Code) (l : Nat), upto c l = none → findLabel c l = none := by
  intro c l
  induction c with
  | seq x y ihx ihy =>
    intro h
    simp only [upto] at h
    simp only [findLabel]
    cases hx : upto x l with
    | some p => simp [hx] at h
    | none =>
      simp only [hx] at h
      rw [ihx hx]
      cases hy : upto y l with
      | some p => simp [hy] at h
      | none => exact ihy hy
  | label l' =>
    intro h
    simp only [upto] at h
    simp only [findLabel]
    split at h
    · simp at h
    · rename_i hl; simp [hl]
  | _ => intro _; rfl

theorem no_label : ∀ (c : Code) (l : Nat) (bs rs : List Code), upto c l = some (bs, rs) → findLabel c l = none → False := by
  intro c l
  induction c with
  | seq x y ihx ihy =>
    intro bs rs h hf
    simp only [upto] at h
    simp only [findLabel] at hf
    cases hx : upto x l with
    | some p =>
      obtain ⟨b1, r1⟩ := p
      cases hfx : findLabel x l with
      | some r => simp [hfx] at hf
      | none => exact ihx b1 r1 hx hfx
    | none =>
      simp only [hx] at h
      simp only [no_upto x l hx] at hf
      cases hy : upto y l with
      | some p =>
        obtain ⟨b1, r1⟩ := p
        exact ihy b1 r1 hy hf
      | none => simp [hy] at h
  | label l' =>
    intro bs rs h hf
    simp only [upto] at h
    simp only [findLabel] at hf
    split at h
    · rename_i hl; simp [hl] at hf
    · simp at h
  | _ => intro _ _ h; simp [upto] at h

theorem wp_upto {P : Program} : ∀ (c : Code) (l : Nat) (bs rs : List Code) (Q : Exit → Act → World → Prop) (a : Act) (w : World), upto c l = some (bs, rs) →
    wpK P bs (wpK P rs (Q .normal) Q) Q a w → c.wp P Q a w := by
  intro c l
  induction c with
  | seq x y ihx ihy =>
    intro bs rs Q a w hu h
    simp only [upto] at hu
    cases hx : upto x l with
    | some p =>
      obtain ⟨b1, r1⟩ := p
      simp only [hx, Option.some.injEq, Prod.mk.injEq] at hu
      obtain ⟨rfl, rfl⟩ := hu
      refine wp_seq (ihx b1 r1 _ a w hx ?_)
      refine wpK_mono (fun e a w hne he => ?_) b1 (fun a w hk => ?_) a w h
      · cases e <;> first | exact (hne rfl).elim | exact he
      · rw [wpK_append] at hk
        refine wpK_mono (fun e a w hne he => ?_) r1 (fun a w hk => ?_) a w hk
        · cases e <;> first | exact (hne rfl).elim | exact he
        · refine wp_mono (c := y) hk ?_
          intro e a w he
          cases e <;> exact he
    | none =>
      simp only [hx] at hu
      cases hy : upto y l with
      | none => simp [hy] at hu
      | some p =>
        obtain ⟨b1, r1⟩ := p
        simp only [hy, Option.some.injEq, Prod.mk.injEq] at hu
        obtain ⟨rfl, rfl⟩ := hu
        refine wp_seq (wp_mono (c := x) h ?_)
        intro e a w he
        cases e <;> first | exact ihy b1 r1 Q a w hy he | exact he
  | label l' =>
    intro bs rs Q a w hu h
    simp only [upto] at hu
    split at hu
    · simp only [Option.some.injEq, Prod.mk.injEq] at hu
      obtain ⟨rfl, rfl⟩ := hu
      refine wp_mono (c := .label l') h ?_
      intro e a w he
      cases e <;> exact he
    · simp at hu
  | _ => intro _ _ _ _ _ hu; simp [upto] at hu

theorem wp_rest {P : Program} : ∀ (c : Code) (l : Nat) (bs rs : List Code) (rest : Code) (Q : Exit → Act → World → Prop) (a : Act) (w : World), upto c l = some (bs, rs) → findLabel c l = some rest →
    wpK P rs (Q .normal) Q a w → rest.wp P Q a w := by
  intro c l
  induction c with
  | seq x y ihx ihy =>
    intro bs rs rest Q a w hu hf h
    simp only [upto] at hu
    simp only [findLabel] at hf
    cases hx : upto x l with
    | some p =>
      obtain ⟨b1, r1⟩ := p
      simp only [hx, Option.some.injEq, Prod.mk.injEq] at hu
      obtain ⟨rfl, rfl⟩ := hu
      cases hfx : findLabel x l with
      | none => exact (no_label x l b1 r1 hx hfx).elim
      | some r =>
        simp only [hfx, Option.some.injEq] at hf
        subst hf
        refine wp_seq (ihx b1 r1 r _ a w hx hfx ?_)
        rw [wpK_append] at h
        refine wpK_mono (fun e a w hne he => ?_) r1 (fun a w hk => ?_) a w h
        · cases e <;> first | exact (hne rfl).elim | exact he
        · refine wp_mono (c := y) hk ?_
          intro e a w he
          cases e <;> exact he
    | none =>
      simp only [hx] at hu
      cases hy : upto y l with
      | none => simp [hy] at hu
      | some p =>
        obtain ⟨b1, r1⟩ := p
        simp only [hy, Option.some.injEq, Prod.mk.injEq] at hu
        obtain ⟨rfl, rfl⟩ := hu
        have hfx := no_upto x l hx
        simp only [hfx] at hf
        exact ihy b1 r1 rest Q a w hy hf h
  | label l' =>
    intro bs rs rest Q a w hu hf h
    simp only [upto] at hu
    simp only [findLabel] at hf
    split at hu
    · rename_i hl
      simp only [Option.some.injEq, Prod.mk.injEq] at hu
      obtain ⟨rfl, rfl⟩ := hu
      simp only [hl, if_true, Option.some.injEq] at hf
      subst hf
      exact wp_skip h
    · simp at hu
  | _ => intro _ _ _ _ _ _ hu; simp [upto] at hu

theorem jump_goto {l : Nat} {J : Act → World → Prop} {Q : Exit → Act → World → Prop} {a : Act} {w : World} (h : J a w) : Exit.jump l J Q (.goto l) a w := ⟨rfl, h⟩

theorem then_goto {l : Nat} {J K : Act → World → Prop} {Q : Exit → Act → World → Prop} {a : Act} {w : World} (h : J a w) : Exit.then K (Exit.jump l J Q) (.goto l) a w := ⟨rfl, h⟩

/-- As wpK, each continuation under a name: the walk's own form. -/
def wpN (P : Program) : List Code → (Act → World → Prop) → (Exit → Act → World → Prop) → Act → World → Prop
  | [], K, _, a, w => K a w
  | c :: cs, K, Q, a, w => ∀ N : Act → World → Prop, (∀ a w, wpN P cs K Q a w → N a w) → c.wp P (Exit.then N Q) a w

theorem wpK_of_N {P : Program} {K : Act → World → Prop} {Q : Exit → Act → World → Prop} : ∀ (l : List Code) (a : Act) (w : World), wpN P l K Q a w → wpK P l K Q a w
  | [], _, _, h => h
  | _ :: cs, _, _, h => h _ (fun a w hn => wpK_of_N cs a w hn)

/-- A scope with one label to which the run jumps back: the code ahead of the label once, the code behind it once. -/
theorem wp_scope_label {P : Program} {a : Act} {w : World} {Q : Exit → Act → World → Prop} {c rest : Code} {bs rs : List Code} (l : Nat) (J : Act → World → Prop) (μ : Act → World → Nat) (hf : findLabel c l = some rest) (hu : upto c l = some (bs, rs))
    (first0 : wpN P bs J (Exit.jump l J Q) a w)
    (pass0 : ∀ a w, J a w → wpN P rs (Q .normal) (Exit.jump l (fun a' w' => J a' w' ∧ μ a' w' < μ a w) Q) a w) : (Code.scope c).wp P Q a w := by
  have first := wpK_of_N _ _ _ first0
  have pass := fun a w hJ => wpK_of_N _ _ _ (pass0 a w hJ)
  refine wp_scope_jumps l J μ hf (wp_upto c l bs rs _ a w hu ?_) (fun a w hJ => wp_rest c l bs rs rest _ a w hu hf (pass a w hJ))
  refine wpK_mono (fun e a w _ he => he) bs (fun a w hJ => ?_) a w first
  refine wpK_mono (fun e a w hne he => ?_) rs (fun a w hk => hk) a w (pass a w hJ)
  cases e <;> first | exact he | exact ⟨he.1, he.2.1⟩

end Go.Pm
