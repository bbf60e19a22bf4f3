/-
  Base, Args, Slice, Read, More, Sep, View, Row, Ja: merged.
-/
import Derived.WalkKit
import Derived.Below
import Derived.Deep.Draws
import Derived.Lib.Hide
import Derived.Deep.MidRow
import Derived.ProofKit
import Derived.OpenShut
import Derived.Deep.Slices
import Derived.ChangeOld
import Derived.Laws.AppendOwnNone
import Derived.Laws.BytesArg
import Derived.Deep.QuietTactic
import Derived.OrdersIn
import Derived.TacticsIn
import Derived.RangeFuncLeaves
import Derived.RangeFuncRecord
namespace Go.Pm
set_option linter.unusedSimpArgs false
set_option linter.unusedVariables false
open Go.RowKit

/-- Block b holds just these cells, of element type T, none frozen. -/
def Blk (w : World) (b : Nat) (cs : Array Value) (T : TypeId) : Prop := w.heap[b]? = some (.cells cs T (0, 0))

theorem Blk.lt {w : World} {b : Nat} {cs : Array Value} {T : TypeId} (h : Blk w b cs T) : b < w.heap.size := by
  rcases Nat.lt_or_ge b w.heap.size with h' | h'
  · exact h'
  · have : w.heap[b]? = none := Array.getElem?_eq_none h'
    rw [Blk, this] at h
    cases h

theorem Blk.cell {w : World} {b : Nat} {cs : Array Value} {T : TypeId} (h : Blk w b cs T) (i : Nat) : w.cell? ⟨b, i, none⟩ = cs[i]? := by
  unfold World.cell?
  rw [show w.heap[(⟨b, i, none⟩ : Addr).block]? = some (.cells cs T (0, 0)) from h]
  rfl

theorem Blk.free {w : World} {b : Nat} {cs : Array Value} {T : TypeId} (h : Blk w b cs T) (i : Nat) : w.frozen? ⟨b, i, none⟩ = false := by
  unfold World.frozen?
  rw [show w.heap[(⟨b, i, none⟩ : Addr).block]? = some (.cells cs T (0, 0)) from h]
  simp

theorem heap_setCell (w : World) (b i : Nat) (v : Value) (k : Nat) (h : k ≠ b) : (w.setCell ⟨b, i, none⟩ v).heap[k]? = w.heap[k]? :=
  Below.heap_setCell _ _ _ _ h

theorem Blk.set {w : World} {b : Nat} {cs : Array Value} {T : TypeId} (h : Blk w b cs T) (i : Nat) (v : Value) :
    Blk (w.setCell ⟨b, i, none⟩ v) b (cs.setIfInBounds i v) T := by
  unfold Blk at *
  simp [World.setCell, Array.getElem?_modify, h]

theorem Blk.new (w : World) (cs : Array Value) (T : TypeId) : Blk (w.alloc (.cells cs T)) w.heap.size cs T := by
  show (w.heap.push (.cells cs T))[w.heap.size]? = _
  simp

theorem Blk.alloc {w : World} {b : Nat} {cs : Array Value} {T : TypeId} (h : Blk w b cs T) (o : Obj) : Blk (w.alloc o) b cs T := by
  have hl := h.lt
  unfold Blk at *
  rw [Below.heap_alloc _ _ _ hl]
  exact h

theorem Blk.range {w : World} {b : Nat} {cs : Array Value} {T : TypeId} (h : Blk w b cs T) : w.rangeAt b 0 cs.toList := fun j v hv => by
  rw [Nat.zero_add, h.cell]
  simpa using hv
theorem Blk.drew {w : World} {b : Nat} {cs : Array Value} {T : TypeId} (h : Blk w b cs T) : Blk w.drew b cs T := h
theorem Blk.drewN {w : World} {b : Nat} {cs : Array Value} {T : TypeId} (h : Blk w b cs T) (n : Nat) : Blk (w.drewN n) b cs T := h

/-- The tape is the same one, and none of its answers was given back. -/
structure Tp (w w' : World) : Prop where
  tape : w'.tape = w.tape
  drawn : w.drawn ≤ w'.drawn
theorem Tp.refl (w : World) : Tp w w := ⟨rfl, Nat.le_refl _⟩
theorem Tp.trans {a b c : World} (h : Tp b c) (k : Tp a b) : Tp a c := ⟨h.tape.trans k.tape, Nat.le_trans k.drawn h.drawn⟩
theorem Tp.drew {a w : World} (h : Tp a w) : Tp a w.drew := ⟨h.tape, Nat.le_succ_of_le h.drawn⟩
theorem Tp.drewN {a w : World} (h : Tp a w) (n : Nat) : Tp a (w.drewN n) := ⟨h.tape, Nat.le_trans h.drawn (Nat.le_add_right _ _)⟩
theorem Tp.same {a w w' : World} (h : Tp a w) (ht : w'.tape = w.tape) (hd : w'.drawn = w.drawn) : Tp a w' := ⟨ht.trans h.tape, by rw [hd]; exact h.drawn⟩

/-- From w to w' blocks that were there have changed only if they are of bs; there may be new ones. -/
structure Only (bs : List Nat) (w w' : World) : Prop where
  os : w'.os = w.os
  tape : Tp w w'
  output : w'.output = w.output
  size : w.heap.size ≤ w'.heap.size
  block : ∀ k, k < w.heap.size → k ∉ bs → w'.heap[k]? = w.heap[k]?

theorem Only.refl (bs : List Nat) (w : World) : Only bs w w := ⟨rfl, Tp.refl _, rfl, Nat.le_refl _, fun _ _ _ => rfl⟩

theorem Only.trans {bs bs' : List Nat} {a b c : World} (h : Only bs a b) (k : Only bs' b c) (hb : ∀ x, x ∈ bs' → x ∈ bs ∨ a.heap.size ≤ x) : Only bs a c :=
  ⟨k.os.trans h.os, k.tape.trans h.tape, k.output.trans h.output, Nat.le_trans h.size k.size, fun i hi hn =>
    (k.block i (Nat.lt_of_lt_of_le hi h.size) (fun hm => by
      rcases hb i hm with h1 | h1
      · exact hn h1
      · omega)).trans (h.block i hi hn)⟩

theorem Only.then {bs : List Nat} {a b c : World} (h : Only bs a b) (k : Only bs b c) : Only bs a c := h.trans k (fun _ hx => .inl hx)

theorem Only.mono {bs bs' : List Nat} {w w' : World} (h : Only bs w w') (hb : ∀ x, x ∈ bs → x ∈ bs' ∨ w.heap.size ≤ x) : Only bs' w w' :=
  ⟨h.os, h.tape, h.output, h.size, fun k hk hn => h.block k hk (fun hm => by
    rcases hb k hm with h1 | h1
    · exact hn h1
    · omega)⟩

theorem Only.drew {bs : List Nat} {a w : World} (h : Only bs a w) : Only bs a w.drew := ⟨h.os, h.tape.drew, h.output, h.size, h.block⟩
theorem Only.drewN {bs : List Nat} {a w : World} (h : Only bs a w) (n : Nat) : Only bs a (w.drewN n) := ⟨h.os, h.tape.drewN n, h.output, h.size, h.block⟩

theorem Only.alloc {bs : List Nat} {a w : World} (h : Only bs a w) (o : Obj) : Only bs a (w.alloc o) :=
  h.then ⟨rfl, (Tp.refl w).same rfl rfl, rfl, by simp, fun k hk _ => Below.heap_alloc _ _ _ hk⟩

theorem Only.setCell {bs : List Nat} {a w : World} (h : Only bs a w) {b : Nat} (hb : b ∈ bs ∨ a.heap.size ≤ b) (i : Nat) (v : Value) : Only bs a (w.setCell ⟨b, i, none⟩ v) :=
  h.trans (bs' := [b]) ⟨rfl, (Tp.refl w).same rfl rfl, rfl, by simp [World.setCell], fun k _ hn => heap_setCell _ _ _ _ _ (by simpa using hn)⟩ (by simpa using hb)

theorem Only.below {bs : List Nat} {w w' : World} {B : Nat} (h : Only bs w w') (hB : B ≤ w.heap.size) (hb : ∀ x, x ∈ bs → B ≤ x) : Below B w w' :=
  ⟨h.os, h.tape.tape, h.output, h.size, fun k hk => h.block k (by omega) (fun hm => by have := hb k hm; omega)⟩

theorem Only.belowNil {w w' : World} (h : Only [] w w') : Below w.heap.size w w' := h.below (Nat.le_refl _) (by simp)

theorem Blk.keep {bs : List Nat} {w w' : World} {b : Nat} {cs : Array Value} {T : TypeId} (h : Blk w b cs T) (ho : Only bs w w') (hb : b ∉ bs) : Blk w' b cs T := by
  have hl := h.lt
  unfold Blk at *
  rw [ho.block b hl hb]
  exact h

theorem Only.cell {bs : List Nat} {w w' : World} (ho : Only bs w w') {b : Nat} (hl : b < w.heap.size) (hb : b ∉ bs) (i : Nat) : w'.cell? ⟨b, i, none⟩ = w.cell? ⟨b, i, none⟩ :=
  World.cell?_of_block (w := w) (ho.block b hl hb)

theorem Only.frozen {bs : List Nat} {w w' : World} (ho : Only bs w w') {b : Nat} (hl : b < w.heap.size) (hb : b ∉ bs) (i : Nat) : w'.frozen? ⟨b, i, none⟩ = w.frozen? ⟨b, i, none⟩ :=
  World.frozen?_of_block (w := w) (ho.block b hl hb)

/-- What stands ahead of a label, and behind it. -/
def upto : Code → Nat → Option (List Code × List Code)
  | .seq a b, l => match upto a l with
    | some (bs, rs) => some (bs, rs ++ [b])
    | none => match upto b l with
      | some (bs, rs) => some (a :: bs, rs)
      | none => none
  | .label l', l => if l' == l then some ([.label l'], []) else none
  | _, _ => none

theorem no_upto : ∀ (c : Code) (l : Nat), upto c l = none → findLabel c l = none := by
  intro c l
  induction c with
  | seq x y ihx ihy =>
    intro h
    simp only [upto] at h
    simp only [findLabel]
    cases hx : upto x l with
    | some p => simp [hx] at h
    | none =>
      simp only [hx] at h
      rw [ihx hx]
      cases hy : upto y l with
      | some p => simp [hy] at h
      | none => exact ihy hy
  | label l' =>
    intro h
    simp only [upto] at h
    simp only [findLabel]
    split at h
    · simp at h
    · rename_i hl; simp [hl]
  | _ => intro _; rfl

theorem no_label : ∀ (c : Code) (l : Nat) (bs rs : List Code), upto c l = some (bs, rs) → findLabel c l = none → False := by
  intro c l
  induction c with
  | seq x y ihx ihy =>
    intro bs rs h hf
    simp only [upto] at h
    simp only [findLabel] at hf
    cases hx : upto x l with
    | some p =>
      obtain ⟨b1, r1⟩ := p
      cases hfx : findLabel x l with
      | some r => simp [hfx] at hf
      | none => exact ihx b1 r1 hx hfx
    | none =>
      simp only [hx] at h
      simp only [no_upto x l hx] at hf
      cases hy : upto y l with
      | some p =>
        obtain ⟨b1, r1⟩ := p
        exact ihy b1 r1 hy hf
      | none => simp [hy] at h
  | label l' =>
    intro bs rs h hf
    simp only [upto] at h
    simp only [findLabel] at hf
    split at h
    · rename_i hl; simp [hl] at hf
    · simp at h
  | _ => intro _ _ h; simp [upto] at h

end Go.Pm
namespace Go.Pm
set_option linter.unusedSimpArgs false
set_option linter.unusedVariables false
open Go.RowKit

theorem addr_add_add (a : Addr) (m n : Nat) : (a.add m).add n = a.add (m + n) := by
  unfold Addr.add
  by_cases h1 : m = 0
  · subst h1; simp
  · by_cases h2 : n = 0
    · subst h2; simp
    · simp [h1, h2, Nat.add_assoc]

theorem addr_add_plain (b off n : Nat) : (⟨b, off, none⟩ : Addr).add n = ⟨b, off + n, none⟩ := by
  unfold Addr.add
  by_cases h : n = 0
  · subst h; rfl
  · simp [h]

/-- The cells cs are a value of type t (to depth n): numbers fit their kinds, slices lead to as many elements as their capacity says. -/
def Rd (P : Program) (w : World) : Nat → TypeId → List Value → Prop
  | 0, _, _ => False
  | n + 1, t, cs => match P.underlying t with
    | some .bool => ∃ b, cs = [.bool b]
    | some (.int k) => ∃ m, cs = [.int k m] ∧ (Lit.int k m).wf = true
    | some .string => ∃ s : ByteArray, cs = [.string s] ∧ s.size ≤ maxLen
    | some (.slice e) => cs = [.slice none 0 0] ∨ ∃ (a : Addr) (len cap : Nat), cs = [.slice (some a) len cap] ∧ len ≤ cap ∧ cap ≤ maxLen ∧
        ∀ i, i < cap → ∃ ds : List Value, ds.length = P.cellsOf e ∧ (∀ j, j < ds.length → w.cell? (a.add (i * P.cellsOf e + j)) = ds[j]?) ∧ Rd P w n e ds
    | some (.struct fs) => cs.length = P.cellsOf t ∧ ∀ f, f ∈ fs.toList → Rd P w n f.type ((cs.drop f.offset).take (P.cellsOf f.type))
    | some (.array m e) => cs.length = P.cellsOf t ∧ ∀ i, i < m → Rd P w n e ((cs.drop (i * P.cellsOf e)).take (P.cellsOf e))
    | _ => True

theorem Rd.ofTrod {H : Type} {enc : TypeId × Value → H} {P : Program} {w : World} {base : Nat} {held : Bool} : ∀ (n : Nat) (t : TypeId) (cs : List Value) (x : DataW H × List MemPlace),
    DataW.trod enc P w base (fun _ => true) held n t cs = some x → Rd P w n t cs := by
  intro n
  induction n with
  | zero => intro t cs x h; simp [DataW.trod] at h
  | succ n ih =>
    intro t cs x h
    unfold Rd
    split
    · rename_i hu
      obtain ⟨b, rfl, _⟩ := DataW.trod_bool hu h
      exact ⟨b, rfl⟩
    · rename_i k hu
      obtain ⟨m, rfl, _, hw⟩ := DataW.trod_int hu h
      exact ⟨m, rfl, hw⟩
    · rename_i hu
      obtain ⟨s, rfl, _, hw⟩ := DataW.trod_string hu h
      exact ⟨s, rfl, hw⟩
    · rename_i e hu
      rcases DataW.trod_slice hu h with ⟨h1, _⟩ | ⟨a, len, cap, elems, rest, m, hm, hcs, _, _, hl, hcm, hel, he, hr, _⟩
      · exact .inl h1
      · obtain rfl : m = n := by omega
        obtain ⟨hrl, hr⟩ := hr rfl
        refine .inr ⟨a, len, cap, hcs, hl, hcm, fun i hi => ?_⟩
        have key : ∃ y, (w.cells? base (a.add (i * P.cellsOf e)) (P.cellsOf e)).bind (DataW.trod enc P w base (fun _ => true) held m e) = some y := by
          by_cases hil : i < len
          · rw [he i hil, List.getElem?_eq_getElem (by omega)]
            exact ⟨_, rfl⟩
          · have h4 := hr (i - len) (by omega)
            rw [show len + (i - len) = i by omega, List.getElem?_eq_getElem (by omega)] at h4
            exact ⟨_, h4⟩
        obtain ⟨y, hy⟩ := key
        cases hc : w.cells? base (a.add (i * P.cellsOf e)) (P.cellsOf e) with
        | none => simp [hc] at hy
        | some ds =>
          simp only [hc, Option.bind_some] at hy
          obtain ⟨_, hlen, hcell⟩ := World.cells?_some hc
          refine ⟨ds, hlen, fun j hj => ?_, ih _ _ _ hy⟩
          rw [← hcell j (by omega), addr_add_add]
    · rename_i fs hu
      obtain ⟨xs, m, hm, _, hl, hxl, hf⟩ := DataW.trod_struct hu h
      obtain rfl : m = n := by omega
      refine ⟨hl, fun f hfm => ?_⟩
      obtain ⟨i, hi⟩ := List.getElem?_of_mem hfm
      have hi' : fs[i]? = some f := by simpa using hi
      have h3 := hf i f hi'
      have hil : i < xs.length := by
        have := (List.getElem?_eq_some_iff.1 hi).1
        simp at this
        omega
      rw [List.getElem?_eq_getElem hil] at h3
      exact ih _ _ _ h3
    · rename_i m e hu
      obtain ⟨xs, m', hm, _, hl, hxl, hf⟩ := DataW.trod_array hu h
      obtain rfl : m' = n := by omega
      refine ⟨hl, fun i hi => ?_⟩
      have h3 := hf i hi
      rw [List.getElem?_eq_getElem (by omega)] at h3
      exact ih _ _ _ h3
    · trivial

theorem Rd.ofTrod' {H : Type} {enc : TypeId × Value → H} {P : Program} {w : World} {base : Nat} {held : Bool} {t : TypeId} {v : Value} {d : DataW H} {ps : List MemPlace}
    (h : DataW.Trod enc P w base (fun _ => true) held t v d ps) : ∃ n, Rd P w n t v.cells.toList := by
  obtain ⟨n, h⟩ := h
  exact ⟨n, Rd.ofTrod n _ _ _ h⟩

/-- Old memory left alone: what was a value of type t still is. -/
theorem Rd.keep {P : Program} {w w' : World} (hb : ∀ k, k < w.heap.size → w'.heap[k]? = w.heap[k]?) : ∀ (n : Nat) (t : TypeId) (cs : List Value), Rd P w n t cs → Rd P w' n t cs := by
  intro n
  induction n with
  | zero => intro t cs h; exact h
  | succ n ih =>
    intro t cs h
    unfold Rd at h ⊢
    split
    · rename_i hu; simpa only [hu] using h
    · rename_i k hu; simpa only [hu] using h
    · rename_i hu; simpa only [hu] using h
    · rename_i e hu
      simp only [hu] at h
      rcases h with h | ⟨a, len, cap, hcs, hl, hm, he⟩
      · exact .inl h
      · refine .inr ⟨a, len, cap, hcs, hl, hm, fun i hi => ?_⟩
        obtain ⟨ds, h1, h2, h3⟩ := he i hi
        refine ⟨ds, h1, fun j hj => ?_, ih _ _ h3⟩
        have h4 := h2 j hj
        have hlt : (a.add (i * P.cellsOf e + j)).block < w.heap.size := by
          rw [List.getElem?_eq_getElem hj] at h4
          exact World.block_lt_of_cell? w _ h4
        rw [World.cell?_of_block (w := w) (hb _ hlt)]
        exact h4
    · rename_i fs hu
      simp only [hu] at h
      exact ⟨h.1, fun f hf => ih _ _ (h.2 f hf)⟩
    · rename_i m e hu
      simp only [hu] at h
      exact ⟨h.1, fun i hi => ih _ _ (h.2 i hi)⟩
    · trivial

theorem Rd.only {P : Program} {w w' : World} {n : Nat} {t : TypeId} {cs : List Value} (h : Rd P w n t cs) (ho : Only [] w w') : Rd P w' n t cs :=
  Rd.keep (fun k hk => ho.block k hk (by simp)) n t cs h

theorem Rd.int {P : Program} {w : World} {n : Nat} {t : TypeId} {cs : List Value} {k : IntKind} (h : Rd P w n t cs) (hu : P.underlying t = some (.int k)) : ∃ m, cs = [.int k m] ∧ (Lit.int k m).wf = true := by
  cases n with
  | zero => exact h.elim
  | succ n => unfold Rd at h; simpa only [hu] using h

theorem Rd.i64 {P : Program} {w : World} {n : Nat} {t : TypeId} {a : Int} (h : Rd P w n t [.int .i64 a]) (hu : P.underlying t = some (.int .i64)) : -9223372036854775808 ≤ a ∧ a ≤ 9223372036854775807 := by
  obtain ⟨m, h1, h2⟩ := h.int hu
  cases h1
  exact bounds_i64 h2

theorem Rd.bool {P : Program} {w : World} {n : Nat} {t : TypeId} {cs : List Value} (h : Rd P w n t cs) (hu : P.underlying t = some .bool) : ∃ b, cs = [.bool b] := by
  cases n with
  | zero => exact h.elim
  | succ n => unfold Rd at h; simpa only [hu] using h

theorem Rd.string {P : Program} {w : World} {n : Nat} {t : TypeId} {cs : List Value} (h : Rd P w n t cs) (hu : P.underlying t = some .string) : ∃ s : ByteArray, cs = [.string s] ∧ s.size ≤ maxLen := by
  cases n with
  | zero => exact h.elim
  | succ n => unfold Rd at h; simpa only [hu] using h

theorem Rd.struct {P : Program} {w : World} {n : Nat} {t : TypeId} {cs : List Value} {fs : Array Field} (h : Rd P w n t cs) (hu : P.underlying t = some (.struct fs)) :
    cs.length = P.cellsOf t ∧ ∀ f, f ∈ fs.toList → ∃ m, Rd P w m f.type ((cs.drop f.offset).take (P.cellsOf f.type)) := by
  cases n with
  | zero => exact h.elim
  | succ n => unfold Rd at h; simp only [hu] at h; exact ⟨h.1, fun f hf => ⟨n, h.2 f hf⟩⟩

/-- A field of a struct, by its place: its type, where its cells begin, how many there are. -/
theorem Rd.field {P : Program} {w : World} {n : Nat} {t : TypeId} {cs : List Value} {fs : Array Field} (h : Rd P w n t cs) (hu : P.underlying t = some (.struct fs)) (i : Nat) (t' : TypeId) (off sz : Nat)
    (h1 : (fs[i]?).map (fun f => (f.type, f.offset)) = some (t', off)) (h2 : P.cellsOf t' = sz) : ∃ m, Rd P w m t' ((cs.drop off).take sz) := by
  obtain ⟨_, hf⟩ := h.struct hu
  cases hi : fs[i]? with
  | none => simp [hi] at h1
  | some f =>
    simp only [hi, Option.map_some, Option.some.injEq, Prod.mk.injEq] at h1
    obtain ⟨rfl, rfl⟩ := h1
    subst h2
    exact hf f (List.mem_of_getElem? (i := i) (by simpa using hi))

theorem Rd.u32 {P : Program} {w : World} {n : Nat} {t : TypeId} {cs : List Value} (h : Rd P w n t cs) (hu : P.underlying t = some (.int .u32)) : ∃ m, cs = [.int .u32 m] ∧ 0 ≤ m ∧ m ≤ 4294967295 := by
  obtain ⟨m, h1, h2⟩ := h.int hu
  have := bounds_u32 h2
  exact ⟨m, h1, this⟩
/-- A slice: nil, or its elements lie at an address. -/
theorem Rd.slice {P : Program} {w : World} {n : Nat} {t e : TypeId} {cs : List Value} (h : Rd P w n t cs) (hu : P.underlying t = some (.slice e)) :
    cs = [.slice none 0 0] ∨ ∃ (a : Addr) (len cap m : Nat), cs = [.slice (some a) len cap] ∧ len ≤ cap ∧ cap ≤ maxLen ∧
        ∀ i, i < cap → ∃ ds : List Value, ds.length = P.cellsOf e ∧ (∀ j, j < ds.length → w.cell? (a.add (i * P.cellsOf e + j)) = ds[j]?) ∧ Rd P w m e ds := by
  cases n with
  | zero => exact h.elim
  | succ n =>
    unfold Rd at h
    simp only [hu] at h
    rcases h with h | ⟨a, len, cap, h1, h2, h3, h4⟩
    · exact .inl h
    · exact .inr ⟨a, len, cap, n, h1, h2, h3, h4⟩

theorem choose_lt {α : Type} [Inhabited α] {p : Nat → α → Prop} {n : Nat} (h : ∀ i, i < n → ∃ x, p i x) : ∃ f : Nat → α, ∀ i, i < n → p i (f i) := by
  classical
  refine ⟨fun i => if hi : i < n then (h i hi).choose else default, fun i hi => ?_⟩
  simp only [hi, dite_true]
  exact (h i hi).choose_spec

end Go.Pm
namespace Go.Pm
set_option linter.unusedSimpArgs false
set_option linter.unusedVariables false
open Go.RowKit

/-- The element type of a slice type: its number, how many cells and bytes an element has. -/
structure El (P : Program) (t e : TypeId) (size bytes : Nat) : Prop where
  sl : P.underlying t = some (.slice e)
  inf : ∃ i z, P.info? e = some i ∧ i.zero = some z ∧ i.size = size ∧ i.bytes = bytes ∧ z.cells.size = size
  pos : 0 < size
  bpos : 0 < bytes

theorem El.mk' {P : Program} {t e : TypeId} {size bytes : Nat} {z : Value} (sl : P.underlying t = some (.slice e)) (h : (P.info? e).map (fun i => (i.zero, i.size, i.bytes)) = some (some z, size, bytes)) (hz : z.cells.size = size) (pos : 0 < size) (bpos : 0 < bytes) : El P t e size bytes := by
  obtain ⟨i, h1, h2, h3, h4⟩ := info_parts h
  exact ⟨sl, ⟨i, z, h1, h2, h3, h4, hz⟩, pos, bpos⟩

/-- The slice v has n elements; their cells are xs. -/
def Vw (w : World) (v : Value) (sz n : Nat) (xs : List Value) : Prop :=
  ∃ a cap, v = .slice a n cap ∧ xs.length = n * sz ∧ n ≤ cap ∧ cap ≤ maxLen ∧ (a = none → n = 0 ∧ cap = 0) ∧ (xs ≠ [] → ∃ b off, a = some ⟨b, off, none⟩ ∧ ∀ j u, xs[j]? = some u → w.cell? ⟨b, off + j, none⟩ = some u)

theorem Vw.nil (w : World) (sz : Nat) : Vw w (.slice none 0 0) sz 0 [] := ⟨none, 0, rfl, by simp, Nat.le_refl _, by simp [maxLen], fun _ => ⟨rfl, rfl⟩, fun h => (h rfl).elim⟩

theorem Vw.keep {w w' : World} {v : Value} {sz n : Nat} {xs : List Value} {bs : List Nat} (h : Vw w v sz n xs) (ho : Only bs w w') (hb : ∀ b, v.ownBlock = some b → b ∉ bs) : Vw w' v sz n xs := by
  obtain ⟨a, cap, rfl, h1, h2, h3, h4, h5⟩ := h
  refine ⟨a, cap, rfl, h1, h2, h3, h4, fun hne => ?_⟩
  obtain ⟨b, off, rfl, hc⟩ := h5 hne
  refine ⟨b, off, rfl, fun j u hu => ?_⟩
  have := hc j u hu
  rw [ho.cell (World.block_lt_of_cell? w _ this) (hb b rfl)]
  exact this

theorem Vw.only {w w' : World} {v : Value} {sz n : Nat} {xs : List Value} (h : Vw w v sz n xs) (ho : Only [] w w') : Vw w' v sz n xs := h.keep ho (by simp)

theorem own_vw {w : World} {base : Nat} {e : TypeId} {sz : Nat} {v : Value} {n : Nat} {xs : List Value} (h : w.ownsRow base e sz v n xs) : Vw w v sz n xs := by
  obtain ⟨hl, h⟩ := h
  rcases h with ⟨rfl, rfl⟩ | ⟨g, cap, cur, rfl, hb, hg, hnc, hcm, hcs, ht⟩
  · exact ⟨none, 0, rfl, hl, Nat.le_refl _, by simp [maxLen], fun _ => ⟨rfl, rfl⟩, fun hne => (hne (by simpa using hl)).elim⟩
  · refine ⟨_, cap, rfl, hl, hnc, hcm, (fun h => by cases h), (fun _ => ⟨g, 0, rfl, fun j u hu => ?_⟩)⟩
    have hb2 : Blk w g cur e := hg
    rw [Nat.zero_add, hb2.cell]
    rw [← ht, List.getElem?_take] at hu
    split at hu
    · simpa using hu
    · cases hu

/-- What a literal (a buildSlice) just laid. -/
theorem Vw.lit (w : World) (cs : Array Value) (e : TypeId) (n : Nat) (hs : cs.size = n) (hm : n ≤ maxLen) : Vw (w.alloc (.cells cs e)) (.slice (some ⟨w.heap.size, 0, none⟩) n n) 1 n cs.toList := by
  refine ⟨_, n, rfl, by simpa using hs, Nat.le_refl _, hm, (fun h => by cases h), (fun _ => ⟨w.heap.size, 0, rfl, fun j u hu => ?_⟩)⟩
  rw [Nat.zero_add, (Blk.new w cs e).cell]
  simpa using hu

theorem own_keep {w w' : World} {bs : List Nat} {base : Nat} {e : TypeId} {sz : Nat} {v : Value} {n : Nat} {xs : List Value} (h : w.ownsRow base e sz v n xs) (ho : Only bs w w') (hb : ∀ b, v.ownBlock = some b → b ∉ bs) : w'.ownsRow base e sz v n xs := by
  refine ⟨h.1, ?_⟩
  rcases h.2 with hn | ⟨g, cap, cur, rfl, hbg, hg, rest⟩
  · exact .inl hn
  · refine .inr ⟨g, cap, cur, rfl, hbg, ?_, rest⟩
    rw [ho.block g (Array.getElem?_eq_some_iff.1 hg).1 (hb g rfl)]
    exact hg

/-- A new array that a literal or a make laid. -/
theorem own_lit {w : World} {base : Nat} {e : TypeId} {sz : Nat} (cs : Array Value) (n : Nat) (hb : base ≤ w.heap.size) (hm : n ≤ maxLen) (hs : cs.size = n * sz) :
    (w.alloc (.cells cs e)).ownsRow base e sz (.slice (some ⟨w.heap.size, 0, none⟩) n n) n cs.toList :=
  World.ownsRow_lit w cs n hb hm hs

/-- What appending leaves: the new slice, its cells; only the old one's block may have changed; the new one lies there or in a new block. -/
structure Bld (e : TypeId) (sz base : Nat) (w w' : World) (v v' : Value) (n : Nat) (xs : List Value) : Prop where
  own : w'.ownsRow base e sz v' n xs
  only : Only v.ownBlock.toList w w'
  lies : v'.ownBlock = v.ownBlock ∨ ∀ g, v'.ownBlock = some g → w.heap.size ≤ g

theorem Bld.refl {e : TypeId} {sz base : Nat} {w : World} {v : Value} {n : Nat} {xs : List Value} (h : w.ownsRow base e sz v n xs) : Bld e sz base w w v v n xs := ⟨h, Only.refl _ _, .inl rfl⟩

theorem Bld.trans {e : TypeId} {sz base : Nat} {a b c : World} {v v1 v2 : Value} {n n2 : Nat} {xs xs2 : List Value} (h : Bld e sz base a b v v1 n xs) (k : Bld e sz base b c v1 v2 n2 xs2) : Bld e sz base a c v v2 n2 xs2 := by
  refine ⟨k.own, h.only.trans k.only ?_, ?_⟩
  · intro x hx
    rcases h.lies with h1 | h1
    · rw [h1] at hx; exact .inl hx
    · exact .inr (h1 x (by simpa using hx))
  · rcases k.lies with h1 | h1
    · rw [h1]; exact h.lies
    · exact .inr (fun g hg => Nat.le_trans h.only.size (h1 g hg))

theorem own_lt {w : World} {base : Nat} {e : TypeId} {sz : Nat} {v : Value} {n : Nat} {xs : List Value} (h : w.ownsRow base e sz v n xs) : ∀ g, v.ownBlock = some g → g < w.heap.size := fun g hg => (h.lt g hg).2

/-- The run of an append onto a slice of the call's own, of what a slice with an address has. -/
theorem run_app {P : Program} {w : World} {t e : TypeId} {size bytes : Nat} (E : El P t e size bytes) (ty : TypeId) {base : Nat} {v : Value} {n : Nat} {xs : List Value} (hown : w.ownsRow base e size v n xs)
    (ad : Addr) (m c : Nat) (news : List Value) (hl : news.length = m * size) (hnews : ∀ j u, news[j]? = some u → w.cell? (ad.add j) = some u) (h1 : ∀ u ∈ news, u.oneCell' = true)
    (hbytes : (n + m) * bytes ≤ 140737488355328) (hbase : base ≤ w.heap.size) :
    ∃ v' w', (Builtin.append_ #[t, t] ty #[v, .slice (some ad) m c]).run P w = .ok v' w' ∧ Bld e size base w w' v v' (n + m) (xs ++ news) := by
  obtain ⟨i, z, hi, hz, hsize, hby, hzs⟩ := E.inf
  have hb := E.bpos
  have h63 : n + m ≤ maxLen := by
    have : n + m ≤ (n + m) * bytes := Nat.le_mul_of_pos_right _ hb
    unfold maxLen
    omega
  obtain ⟨v', w', hr, ho, hg, _⟩ := run_append_own (P := P) w base t ty e i z size bytes E.sl hi hz hsize hby hzs E.pos v n xs hown ad m c news hl hnews h1 h63 hbytes hbase
  suffices key : w.drawn ≤ w'.drawn ∧ (v'.ownBlock = v.ownBlock ∨ ∀ g, v'.ownBlock = some g → w.heap.size ≤ g) from ⟨v', w', hr, ho, ⟨hg.os, ⟨hg.tape, key.1⟩, hg.output, hg.size, fun k hk hn => hg.block k hk (fun he => hn (by simp [← he]))⟩, key.2⟩
  subst hsize
  rcases hown.2 with ⟨rfl, rfl⟩ | ⟨g, cap, cur, rfl, hbg, hgg, hnc, hcm, hcs, htake⟩
  · by_cases hm : m = 0
    · subst hm
      have hx : xs = [] := List.eq_nil_of_length_eq_zero (by simpa using hown.1)
      subst hx
      have hn : news = [] := List.eq_nil_of_length_eq_zero (by simpa using hl)
      subst hn
      simp [Builtin.append_, run_underlying E.sl, sizeOf, typeInfo, hi, Builtin.lenOf, Builtin.firstCells, loadCells, loadCellsFrom] at hr
      exact ⟨Nat.le_of_eq (congrArg World.drawn hr.2), .inl (by rw [← hr.1])⟩
    · have hr2 := run_append_nil (P := P) w t ty e i z E.sl hi hz ad m c news hl hnews (by omega) (by unfold maxLen at h63; omega) (by rw [hby]; have hq := hbytes; simp only [Nat.zero_add] at hq; omega)
      rw [hr] at hr2
      simp only [Result.ok.injEq] at hr2
      refine ⟨by rw [hr2.2]; exact Nat.le_succ _, .inr (fun g hg => ?_)⟩
      rw [hr2.1] at hg
      simp [Value.ownBlock] at hg
      omega
  · by_cases hroom : n + m ≤ cap
    · have hfit : n * i.size + news.length ≤ cur.size := by rw [hl, hcs, ← Nat.add_mul]; exact Nat.mul_le_mul_right _ hroom
      have hr2 := run_append_room (P := P) w t ty e i E.sl hi g n cap cur hgg ad m c news hl hnews h1 hroom hfit
      rw [hr] at hr2
      simp only [Result.ok.injEq] at hr2
      exact ⟨by rw [hr2.2]; exact Nat.le_refl _, .inl (by rw [hr2.1]; rfl)⟩
    · have holds : ∀ j u, xs[j]? = some u → w.cell? ((⟨g, 0, none⟩ : Addr).add j) = some u := hown.cells (g := g) rfl
      have hr2 := run_append_grow (P := P) w t ty e i z E.sl hi hz ⟨g, 0, none⟩ n cap xs hown.1 holds ad m c news hl hnews (by omega) (by unfold maxLen at h63; omega) (growslice_fits (by omega) (by rw [hby]; exact hbytes))
      rw [hr] at hr2
      simp only [Result.ok.injEq] at hr2
      refine ⟨by rw [hr2.2]; exact Nat.le_succ _, .inr (fun g' hg' => ?_)⟩
      rw [hr2.1] at hg'
      simp [Value.ownBlock] at hg'
      omega

/-! Bytes: numbers of kind u8. -/
def bys (l : List Int) : List Value := l.map (Value.int .u8)
theorem bys_length (l : List Int) : (bys l).length = l.length := List.length_map _
def Byte (l : List Int) : Prop := ∀ n ∈ l, 0 ≤ n ∧ n < 256

theorem Byte.append {l m : List Int} (hl : Byte l) (hm : Byte m) : Byte (l ++ m) := by
  intro n hn
  rcases List.mem_append.1 hn with h | h
  · exact hl n h
  · exact hm n h

/-- string(b) of a slice of bytes that can be read. -/
theorem run_string {P : Program} {w : World} {src e dst : TypeId} {v : Value} {n : Nat} {l : List Int} (hs : P.underlying src = some (.slice e)) (he : P.underlying e = some (.int .u8)) (hd : P.underlying dst = some .string)
    (h : Vw w v 1 n (bys l)) : (convert src dst v).run P w = .ok (.string (strOfNums l)) w := by
  obtain ⟨ad, cap, rfl, hl, _, _, hnn, hv⟩ := h
  rw [bys_length, Nat.mul_one] at hl
  by_cases hne : bys l = []
  · have hl0 : l = [] := by simpa [bys] using hne
    subst hl0
    cases ad with
    | none => exact run_convert_bytes_nil w src e hs he _ _ dst hd
    | some a =>
      have hn : n = 0 := by simpa using hl.symm
      subst hn
      rw [run_convert_bytes_string w src dst e _ 0 cap hs he hd, run_bytesToString w a 0 cap [] (by simp [loadCells, loadCellsFrom])]
      rfl
  · obtain ⟨b, off, rfl, hc⟩ := hv hne
    refine run_convert_bytes_arg w src e hs he b off n cap l hl (fun i hi => ?_) dst hd
    refine hc i _ ?_
    simp [bys, List.getD, List.getElem?_eq_getElem (show i < l.length by omega)]

/-- A slice of bytes that can be read. -/
def VwB (w : World) (v : Value) (l : List Int) : Prop := Vw w v 1 l.length (bys l)
/-- A slice of bytes of the call's own, of element type e, in blocks from base on. -/
def OwnB (e : TypeId) (w : World) (base : Nat) (v : Value) (l : List Int) : Prop := w.ownsRow base e 1 v l.length (bys l)
def BldB (e : TypeId) (base : Nat) (w w' : World) (v v' : Value) (l : List Int) : Prop := Bld e 1 base w w' v v' l.length (bys l)
theorem OwnB.vw {e : TypeId} {w : World} {base : Nat} {v : Value} {l : List Int} (h : OwnB e w base v l) : VwB w v l := own_vw h
theorem OwnB.lt {e : TypeId} {w : World} {base : Nat} {v : Value} {l : List Int} (h : OwnB e w base v l) : ∀ g, v.ownBlock = some g → g < w.heap.size := own_lt h
theorem OwnB.keep {e : TypeId} {w w' : World} {bs : List Nat} {base : Nat} {v : Value} {l : List Int} (h : OwnB e w base v l) (ho : Only bs w w') (hb : ∀ b, v.ownBlock = some b → b ∉ bs) : OwnB e w' base v l := own_keep h ho hb
theorem OwnB.alloc {e : TypeId} {w : World} {base : Nat} {v : Value} {l : List Int} (h : OwnB e w base v l) (o : Obj) : OwnB e (w.alloc o) base v l := World.ownsRow.alloc h o
theorem OwnB.only {e : TypeId} {w w' : World} {base : Nat} {v : Value} {l : List Int} (h : OwnB e w base v l) (ho : Only [] w w') : OwnB e w' base v l := own_keep h ho (by simp)
theorem OwnB.nil (e : TypeId) (w : World) (base : Nat) : OwnB e w base (.slice none 0 0) [] := World.ownsRow_nil w base e 1
theorem OwnB.lit {e : TypeId} {w : World} {base : Nat} (l : List Int) (cs : Array Value) (n : Nat) (hc : cs = (bys l).toArray) (hn : n = l.length) (hb : base ≤ w.heap.size) (hm : n ≤ maxLen) :
    OwnB e (w.alloc (.cells cs e)) base (.slice (some ⟨w.heap.size, 0, none⟩) n n) l := by
  subst hc hn
  have := own_lit (e := e) (base := base) (w := w) (sz := 1) (bys l).toArray l.length hb hm (by simp [bys_length])
  simpa [OwnB] using this
theorem VwB.lit {w : World} {e : TypeId} (l : List Int) (cs : Array Value) (n : Nat) (hc : cs = (bys l).toArray) (hn : n = l.length) (hm : n ≤ maxLen) :
    VwB (w.alloc (.cells cs e)) (.slice (some ⟨w.heap.size, 0, none⟩) n n) l := (OwnB.lit l cs n hc hn (Nat.zero_le _) hm).vw
theorem VwB.nil (w : World) : VwB w (.slice none 0 0) [] := Vw.nil w 1
theorem VwB.keep {w w' : World} {bs : List Nat} {v : Value} {l : List Int} (h : VwB w v l) (ho : Only bs w w') (hb : ∀ b, v.ownBlock = some b → b ∉ bs) : VwB w' v l := Vw.keep h ho hb
theorem VwB.only {w w' : World} {v : Value} {l : List Int} (h : VwB w v l) (ho : Only [] w w') : VwB w' v l := Vw.only h ho

theorem OwnB.drew {e : TypeId} {w : World} {base : Nat} {v : Value} {l : List Int} (h : OwnB e w base v l) : OwnB e w.drew base v l := h
theorem OwnB.drewN {e : TypeId} {w : World} {base : Nat} {v : Value} {l : List Int} (h : OwnB e w base v l) (n : Nat) : OwnB e (w.drewN n) base v l := h
theorem VwB.drew {w : World} {v : Value} {l : List Int} (h : VwB w v l) : VwB w.drew v l := h
theorem VwB.drewN {w : World} {v : Value} {l : List Int} (h : VwB w v l) (n : Nat) : VwB (w.drewN n) v l := h
theorem BldB.own {e : TypeId} {base : Nat} {w w' : World} {v v' : Value} {l : List Int} (h : BldB e base w w' v v' l) : OwnB e w' base v' l := Bld.own h
theorem BldB.only {e : TypeId} {base : Nat} {w w' : World} {v v' : Value} {l : List Int} (h : BldB e base w w' v v' l) : Only v.ownBlock.toList w w' := Bld.only h
theorem BldB.lies {e : TypeId} {base : Nat} {w w' : World} {v v' : Value} {l : List Int} (h : BldB e base w w' v v' l) : v'.ownBlock = v.ownBlock ∨ ∀ g, v'.ownBlock = some g → w.heap.size ≤ g := Bld.lies h
theorem BldB.refl {e : TypeId} {base : Nat} {w : World} {v : Value} {l : List Int} (h : OwnB e w base v l) : BldB e base w w v v l := Bld.refl h
theorem BldB.trans {e : TypeId} {base : Nat} {a b c : World} {v v1 v2 : Value} {l m : List Int} (h : BldB e base a b v v1 l) (k : BldB e base b c v1 v2 m) : BldB e base a c v v2 m := Bld.trans h k
/-- A function that hands back a new slice of bytes and leaves all else alone. -/
def FreshB (e : TypeId) (W : World) (l : List Int) (r : Ending) (w' : World) : Prop := ∃ v, r = .returned v ∧ OwnB e w' W.heap.size v l ∧ Only [] W w'

end Go.Pm
namespace Go.Pm
set_option linter.unusedSimpArgs false
set_option linter.unusedVariables false
open Go.RowKit

/-- A slice with elements: where they lie. -/
theorem VwB.open {w : World} {v : Value} {l : List Int} (h : VwB w v l) (hne : l ≠ []) : ∃ b off cap, v = .slice (some ⟨b, off, none⟩) l.length cap ∧ l.length ≤ cap ∧ cap ≤ maxLen ∧ b < w.heap.size ∧
    ∀ i (hi : i < l.length), w.cell? ⟨b, off + i, none⟩ = some (.int .u8 l[i]) := by
  obtain ⟨a, cap, rfl, h1, h2, h3, h4, h5⟩ := h
  obtain ⟨b, off, rfl, hc⟩ := h5 (by simpa [bys] using hne)
  have key : ∀ i (hi : i < l.length), w.cell? ⟨b, off + i, none⟩ = some (.int .u8 l[i]) := fun i hi => hc i _ (by simp [bys, List.getElem?_eq_getElem hi])
  exact ⟨b, off, cap, rfl, h2, h3, World.block_lt_of_cell? w _ (key 0 (List.length_pos_iff.2 hne)), key⟩

theorem VwB.mk {w : World} {b off n cap : Nat} {l : List Int} (hn : n = l.length) (h2 : n ≤ cap) (h3 : cap ≤ maxLen) (hc : ∀ i (hi : i < l.length), w.cell? ⟨b, off + i, none⟩ = some (.int .u8 l[i])) : VwB w (.slice (some ⟨b, off, none⟩) n cap) l := by
  subst hn
  refine ⟨_, cap, rfl, by simp [bys_length], h2, h3, (fun h => by cases h), fun _ => ⟨b, off, rfl, fun j u hu => ?_⟩⟩
  have hj : j < l.length := by
    have := (List.getElem?_eq_some_iff.1 hu).1
    simpa [bys_length] using this
  rw [hc j hj]
  simp only [bys, List.getElem?_map, List.getElem?_eq_getElem hj, Option.map_some] at hu
  exact hu

/-- An empty part. -/
theorem VwB.none {w : World} {a : Addr} {cap : Nat} (h3 : cap ≤ maxLen) : VwB w (.slice (some a) 0 cap) [] :=
  ⟨_, cap, rfl, by simp [bys], Nat.zero_le _, h3, (fun h => by cases h), fun h => (h rfl).elim⟩

/-- A part of a slice with an address, from i on, k elements. -/
theorem VwB.part {w : World} {b off n cap i k c : Nat} {l m : List Int} (h : VwB w (.slice (some ⟨b, off, Option.none⟩) n cap) l) (hm : m = (l.drop i).take k) (hk : i + k ≤ n) (hc : k ≤ c) (hcm : c ≤ maxLen) : VwB w (.slice (some ⟨b, off + i, Option.none⟩) k c) m := by
  have hl : l.length = n := by
    obtain ⟨a, cap', he, h1, _⟩ := h
    cases he
    rfl
  subst hm
  by_cases hne : l = []
  · subst hne
    have hk0 : k = 0 := by simp at hl; omega
    subst hk0
    simpa using VwB.none (w := w) (a := ⟨b, off + i, Option.none⟩) hcm
  · obtain ⟨b', off', cap', he, _, _, _, key⟩ := h.open hne
    cases he
    refine VwB.mk (by simp; omega) hc hcm (fun j hj => ?_)
    have hj2 : j < k ∧ i + j < l.length := by simp at hj; omega
    rw [Nat.add_assoc, key (i + j) hj2.2]
    simp [List.getElem_take, List.getElem_drop]

theorem VwB.size {w : World} {a : Option Addr} {n cap : Nat} {l : List Int} (h : VwB w (.slice a n cap) l) : l.length = n ∧ n ≤ cap ∧ cap ≤ maxLen := by
  obtain ⟨a, cap', he, h1, h2, h3, _⟩ := h
  cases he
  exact ⟨rfl, h2, h3⟩

theorem VwB.pre {w : World} {a : Option Addr} {n c k : Nat} {l : List Int} (h : VwB w (.slice a n c) l) (hk : k ≤ n) : VwB w (.slice a k c) (l.take k) := by
  obtain ⟨a', cap', he, h1, h2, h3, h4, h5⟩ := h
  cases he
  have hl : (l.take k).length = k := by rw [List.length_take]; simp [bys] at h1; omega
  refine ⟨a, c, by rw [hl], by simp [bys_length], by omega, h3, fun ha => by have := h4 ha; omega, fun hne => ?_⟩
  have hb : bys (l.take k) = (bys l).take k := by simp [bys]
  have hne' : bys l ≠ [] := fun h0 => hne (by rw [hb, h0]; simp)
  obtain ⟨b, off, he, hc⟩ := h5 hne'
  refine ⟨b, off, he, fun j u hu => hc j u ?_⟩
  rw [hb, List.getElem?_take] at hu
  split at hu
  · exact hu
  · cases hu

theorem VwB.shape {w : World} {v : Value} {l : List Int} (h : VwB w v l) : ∃ a cap, v = .slice a l.length cap ∧ l.length ≤ cap ∧ cap ≤ maxLen := by
  obtain ⟨a, cap, rfl, h1, h2, h3, _⟩ := h
  exact ⟨a, cap, rfl, h2, h3⟩

/-- An argument: a slice of bytes. -/
theorem Rd.bytes {P : Program} {w : World} {n : Nat} {t e : TypeId} {a : Option Addr} {len cap : Nat} (h : Rd P w n t [.slice a len cap]) (hu : P.underlying t = some (.slice e)) (he : P.underlying e = some (.int .u8)) (hc : P.cellsOf e = 1) :
    ∃ l : List Int, l.length = len ∧ VwB w (.slice a len cap) l ∧ Byte l := by
  rcases h.slice hu with h | ⟨x, l, c, m, h1, h2, h3, h4⟩
  · cases h
    exact ⟨[], rfl, VwB.nil w, by simp [Byte]⟩
  · cases h1
    by_cases hl : len = 0
    · subst hl
      exact ⟨[], rfl, VwB.none h3, by simp [Byte]⟩
    · obtain ⟨zs, hz⟩ := choose_lt (n := len) (p := fun i (z : Int) => w.cell? (x.add i) = some (.int .u8 z) ∧ 0 ≤ z ∧ z < 256) (by
        intro i hi
        obtain ⟨ds, hd1, hd2, hd3⟩ := h4 i (by omega)
        obtain ⟨z, rfl, hw⟩ := hd3.int he
        have h5 := hd2 0 (by simp)
        rw [hc] at h5
        have := bounds_u8 hw
        exact ⟨z, by simpa using h5, this.1, by omega⟩)
      have h0 := (hz 0 (by omega)).1
      obtain ⟨b, off, spot⟩ := x
      have hspot : spot = Option.none := by simpa [Addr.add] using World.cell?_spot h0
      subst hspot
      refine ⟨(List.range len).map zs, by simp, VwB.mk (by simp) h2 h3 (fun i hi => ?_), ?_⟩
      · have h6 := (hz i (by simpa using hi)).1
        rw [addr_add_plain] at h6
        simpa using h6
      · intro n hn
        obtain ⟨i, hi, rfl⟩ := List.mem_map.1 hn
        exact (hz i (by simpa using hi)).2

theorem Byte.at {l : List Int} (h : Byte l) (i : Nat) (hi : i < l.length) : 0 ≤ l[i] ∧ l[i] < 256 := h _ (List.getElem_mem hi)
theorem Byte.part {l : List Int} (h : Byte l) (i k : Nat) : Byte ((l.drop i).take k) := fun n hn => h n (List.drop_subset _ _ (List.take_subset _ _ hn))
end Go.Pm
namespace Go.Pm
set_option linter.unusedSimpArgs false
set_option linter.unusedVariables false
open Go.RowKit

/-- The cells vs, laid into cs from place o on. -/
def splice (cs : Array Value) : Nat → List Value → Array Value
  | _, [] => cs
  | o, v :: r => splice (cs.setIfInBounds o v) (o + 1) r

theorem splice_size : ∀ (vs : List Value) (o : Nat) (cs : Array Value), (splice cs o vs).size = cs.size
  | [], _, _ => rfl
  | v :: r, o, cs => by rw [splice, splice_size r, Array.size_setIfInBounds]

theorem splice_get : ∀ (vs : List Value) (o : Nat) (cs : Array Value) (i : Nat), o + vs.length ≤ cs.size → (splice cs o vs)[i]? = if o ≤ i ∧ i < o + vs.length then vs[i - o]? else cs[i]?
  | [], o, cs, i, _ => by
    rw [splice, if_neg (by simp)]
  | v :: r, o, cs, i, h => by
    simp only [List.length_cons] at h
    rw [splice, splice_get r (o + 1) _ i (by rw [Array.size_setIfInBounds]; omega)]
    by_cases h1 : i = o
    · subst h1
      rw [if_neg (by omega), if_pos (by simp)]
      simp [Array.getElem?_setIfInBounds]
      omega
    · by_cases h2 : o + 1 ≤ i ∧ i < o + 1 + r.length
      · rw [if_pos h2, if_pos (by simp; omega)]
        obtain ⟨k, hk⟩ : ∃ k, i = o + 1 + k := ⟨i - (o + 1), by omega⟩
        subst hk
        rw [show o + 1 + k - (o + 1) = k by omega, show o + 1 + k - o = k + 1 by omega]
        simp
      · rw [if_neg h2, if_neg (by simp; omega)]
        simp [Array.getElem?_setIfInBounds]
        omega

theorem splice_full (cs : Array Value) (vs : List Value) (h : vs.length = cs.size) : splice cs 0 vs = vs.toArray := by
  apply Array.ext_getElem?
  intro i
  rw [splice_get vs 0 cs i (by omega)]
  by_cases h1 : i < vs.length
  · rw [if_pos (by omega)]; simp
  · rw [if_neg (by omega), Array.getElem?_eq_none (by omega), Array.getElem?_eq_none (by simp; omega)]

theorem Blk.setCells : ∀ (vs : List Value) (o : Nat) {w : World} {b : Nat} {cs : Array Value} {T : TypeId}, Blk w b cs T → Blk (w.setCells b o vs) b (splice cs o vs) T
  | [], _, _, _, _, _, h => h
  | v :: r, o, _, _, _, _, h => Blk.setCells r (o + 1) (h.set o v)

theorem Only.setCells : ∀ (vs : List Value) (o : Nat) {bs : List Nat} {a w : World} {b : Nat}, Only bs a w → (b ∈ bs ∨ a.heap.size ≤ b) → Only bs a (w.setCells b o vs)
  | [], _, _, _, _, _, h, _ => h
  | v :: r, o, _, _, _, _, h, hb => Only.setCells r (o + 1) (h.setCell hb o v) hb

theorem Blk.there {w : World} {b : Nat} {cs : Array Value} {T : TypeId} (h : Blk w b cs T) (o n : Nat) (hn : o + n ≤ cs.size) : w.there b o n := fun j hj => by
  refine ⟨?_, h.free _⟩
  rw [h.cell, Array.getElem?_eq_getElem (by omega)]
  rfl

/-- A part of a block's cells. -/
theorem Blk.rangeAt {w : World} {b : Nat} {cs : Array Value} {T : TypeId} (h : Blk w b cs T) (o : Nat) (xs : List Value) (hx : ∀ j v, xs[j]? = some v → cs[o + j]? = some v) : w.rangeAt b o xs := fun j v hv => by
  rw [h.cell]
  exact hx j v hv

end Go.Pm
namespace Go.Pm
set_option linter.unusedSimpArgs false
set_option linter.unusedVariables false
open Go.RowKit

/-- A piece of memory: some blocks, with what they hold. -/
abbrev Hl := Nat → Option Obj
abbrev HP := Hl → Prop
def Hl.add (h k : Hl) : Hl := fun b => (h b).or (k b)
def Hl.disj (h k : Hl) : Prop := ∀ b, h b = none ∨ k b = none
def Hl.inn (h : Hl) (w : World) : Prop := ∀ b o, h b = some o → w.heap[b]? = some o
def Hl.one (b : Nat) (o : Obj) : Hl := fun c => if c = b then some o else none

theorem Hl.disj.symm {h k : Hl} (d : h.disj k) : k.disj h := fun b => (d b).symm
theorem Hl.add_comm {h k : Hl} (d : h.disj k) : h.add k = k.add h := by
  funext b
  unfold Hl.add
  rcases d b with e | e <;> simp [e]
theorem Hl.add_assoc (h k l : Hl) : (h.add k).add l = h.add (k.add l) := by
  funext b
  unfold Hl.add
  cases h b <;> simp
theorem Hl.disj_add {h k l : Hl} : h.disj (k.add l) ↔ h.disj k ∧ h.disj l := by
  unfold Hl.disj Hl.add
  constructor
  · intro d
    exact ⟨fun b => (d b).imp id (fun e => by cases hk : k b <;> simp_all), fun b => (d b).imp id (fun e => by cases hk : k b <;> simp_all)⟩
  · rintro ⟨d, e⟩ b
    rcases d b with x | x
    · exact .inl x
    · exact (e b).imp id (fun y => by simp [x, y])
theorem Hl.add_disj {h k l : Hl} : (h.add k).disj l ↔ h.disj l ∧ k.disj l :=
  ⟨fun d => ⟨(Hl.disj_add.1 d.symm).1.symm, (Hl.disj_add.1 d.symm).2.symm⟩, fun d => (Hl.disj_add.2 ⟨d.1.symm, d.2.symm⟩).symm⟩
theorem Hl.inn_add {h k : Hl} {w : World} (d : h.disj k) : (h.add k).inn w ↔ h.inn w ∧ k.inn w := by
  constructor
  · intro i
    refine ⟨fun b o e => i b o (by simp [Hl.add, e]), fun b o e => i b o ?_⟩
    rcases d b with x | x
    · simp [Hl.add, x, e]
    · rw [x] at e; cases e
  · rintro ⟨i, j⟩ b o e
    unfold Hl.add at e
    cases hb : h b with
    | none => rw [hb] at e; exact j b o e
    | some p => rw [hb] at e; exact i b o (by rw [hb]; exact e)
theorem Hl.inn.lt {h : Hl} {w : World} (i : h.inn w) {b : Nat} {o : Obj} (e : h b = some o) : b < w.heap.size := (Array.getElem?_eq_some_iff.1 (i b o e)).1

/-- The parts lie apart, and are all of it. -/
def sats : List HP → Hl → Prop
  | [], h => ∀ b, h b = none
  | A :: L, h => ∃ h1 h2, A h1 ∧ sats L h2 ∧ h1.disj h2 ∧ h = h1.add h2

theorem sats_perm {L M : List HP} (p : L.Perm M) : ∀ h, sats L h → sats M h := by
  induction p with
  | nil => exact fun _ h => h
  | cons A _ ih => rintro h ⟨h1, h2, a, s, d, e⟩; exact ⟨h1, h2, a, ih _ s, d, e⟩
  | swap A B L =>
    rintro h ⟨h1, h2, a, ⟨h3, h4, b, s, d', rfl⟩, d, rfl⟩
    have d1 := Hl.disj_add.1 d
    exact ⟨h3, h1.add h4, b, ⟨h1, h4, a, s, d1.2, rfl⟩, Hl.disj_add.2 ⟨d1.1.symm, d'⟩, by rw [← Hl.add_assoc, Hl.add_comm d1.1, Hl.add_assoc]⟩
  | trans _ _ ih1 ih2 => exact fun h s => ih2 _ (ih1 _ s)

theorem sats_append (L M : List HP) (h : Hl) : sats (L ++ M) h ↔ ∃ h1 h2, sats L h1 ∧ sats M h2 ∧ h1.disj h2 ∧ h = h1.add h2 := by
  induction L generalizing h with
  | nil =>
    constructor
    · intro s
      exact ⟨fun _ => none, h, fun _ => rfl, s, fun _ => .inl rfl, by funext b; simp [Hl.add]⟩
    · rintro ⟨h1, h2, e, s, d, rfl⟩
      have : h1.add h2 = h2 := by funext b; simp [Hl.add, e b]
      rw [this]
      exact s
  | cons A L ih =>
    constructor
    · rintro ⟨h1, h2, a, s, d, rfl⟩
      obtain ⟨h3, h4, s3, s4, d2, rfl⟩ := (ih h2).1 s
      have d1 := Hl.disj_add.1 d
      exact ⟨h1.add h3, h4, ⟨h1, h3, a, s3, d1.1, rfl⟩, s4, Hl.add_disj.2 ⟨d1.2, d2⟩, (Hl.add_assoc _ _ _).symm⟩
    · rintro ⟨h1, h2, ⟨h3, h4, a, s, d2, rfl⟩, s2, d, rfl⟩
      have d1 := Hl.add_disj.1 d
      exact ⟨h3, h4.add h2, a, (ih _).2 ⟨h4, h2, s, s2, d1.2, rfl⟩, Hl.disj_add.2 ⟨d2, d1.1⟩, Hl.add_assoc _ _ _⟩

/-- From W on: what the call owns are the parts L; the memory K besides is as it was. -/
structure Ow (W : World) (K : Hl) (L : List HP) (w : World) : Prop where
  os : w.os = W.os
  tape : Tp W w
  output : w.output = W.output
  size : W.heap.size ≤ w.heap.size
  kn : K.inn w
  mem : ∃ h, sats L h ∧ h.disj K ∧ h.inn w

/-- All memory that there is. -/
def World.all (W : World) : Hl := fun b => W.heap[b]?

theorem Ow.start (W : World) : Ow W (World.all W) [] W := ⟨rfl, Tp.refl _, rfl, Nat.le_refl _, fun _ _ h => h, fun _ => none, fun _ => rfl, fun _ => .inl rfl, fun _ _ h => by cases h⟩
theorem Ow.fin {W : World} {L : List HP} {w : World} (H : Ow W (World.all W) L w) : Only [] W w :=
  ⟨H.os, H.tape, H.output, H.size, fun k hk _ => by
    have : W.heap[k]? = some W.heap[k] := Array.getElem?_eq_getElem hk
    rw [this]
    exact H.kn k _ this⟩

section
variable {W : World} {K : Hl} {L M R : List HP} {w w' : World} {A B : HP}

theorem Ow.perm (H : Ow W K L w) (p : L.Perm M) : Ow W K M w := by
  obtain ⟨h, s, d, i⟩ := H.mem
  exact ⟨H.os, H.tape, H.output, H.size, H.kn, h, sats_perm p h s, d, i⟩
theorem Ow.drew (H : Ow W K L w) : Ow W K L w.drew := ⟨H.os, H.tape.drew, H.output, H.size, H.kn, H.mem⟩
theorem Ow.drewN (H : Ow W K L w) (n : Nat) : Ow W K L (w.drewN n) := ⟨H.os, H.tape.drewN n, H.output, H.size, H.kn, H.mem⟩

/-- What is asked of one part alone may be said otherwise. -/
theorem Ow.imp (H : Ow W K (A :: L) w) (hi : ∀ h, A h → B h) : Ow W K (B :: L) w := by
  obtain ⟨h, ⟨h1, h2, a, s, d', e⟩, d, i⟩ := H.mem
  exact ⟨H.os, H.tape, H.output, H.size, H.kn, h, ⟨h1, h2, hi _ a, s, d', e⟩, d, i⟩
theorem Ow.drop (H : Ow W K (A :: L) w) : Ow W K L w := by
  obtain ⟨h, ⟨h1, h2, a, s, d', rfl⟩, d, i⟩ := H.mem
  exact ⟨H.os, H.tape, H.output, H.size, H.kn, h2, s, (Hl.add_disj.1 d).2, ((Hl.inn_add d').1 i).2⟩
theorem Ow.dropAll (H : Ow W K (L ++ M) w) : Ow W K L w := by
  obtain ⟨h, s, d, i⟩ := H.mem
  obtain ⟨h1, h2, s1, s2, d', rfl⟩ := (sats_append _ _ _).1 s
  exact ⟨H.os, H.tape, H.output, H.size, H.kn, h1, s1, (Hl.add_disj.1 d).1, ((Hl.inn_add d').1 i).1⟩

/-- What stands aside is known memory meanwhile. -/
theorem Ow.frame (H : Ow W K (L ++ R) w) : ∃ hR, sats R hR ∧ hR.disj K ∧ Ow W (K.add hR) L w ∧ ∀ M w', Ow W (K.add hR) M w' → Ow W K (M ++ R) w' := by
  obtain ⟨h, s, d, i⟩ := H.mem
  obtain ⟨h1, h2, s1, s2, d', rfl⟩ := (sats_append _ _ _).1 s
  have dd := Hl.add_disj.1 d
  have ii := (Hl.inn_add d').1 i
  refine ⟨h2, s2, dd.2, ⟨H.os, H.tape, H.output, H.size, (Hl.inn_add dd.2.symm).2 ⟨H.kn, ii.2⟩, h1, s1, Hl.disj_add.2 ⟨dd.1, d'⟩, ii.1⟩, fun M w' H' => ?_⟩
  obtain ⟨h3, s3, d3, i3⟩ := H'.mem
  have d3' := Hl.disj_add.1 d3
  have k' := (Hl.inn_add dd.2.symm).1 H'.kn
  exact ⟨H'.os, H'.tape, H'.output, H'.size, k'.1, h3.add h2, (sats_append _ _ _).2 ⟨h3, h2, s3, s2, d3'.2, rfl⟩, Hl.add_disj.2 ⟨d3'.1, dd.2⟩, (Hl.inn_add d3'.2).2 ⟨i3, k'.2⟩⟩

/-- Just this block, holding this. -/
def ob (b : Nat) (o : Obj) : HP := fun h => h = Hl.one b o
/-- Just this block of cells. -/
def pts (b : Nat) (cs : List Value) (T : TypeId) : HP := ob b (.cells cs.toArray T (0, 0))

theorem Ow.alloc (H : Ow W K L w) (o : Obj) : Ow W K (ob w.heap.size o :: L) (w.alloc o) := by
  obtain ⟨h, s, d, i⟩ := H.mem
  have old : ∀ (k : Hl), k.inn w → k.inn (w.alloc o) := fun k ik b p e => by
    have := ik.lt e
    rw [Below.heap_alloc _ _ _ this]
    exact ik b p e
  have new : ∀ (k : Hl), k.inn w → (Hl.one w.heap.size o).disj k := fun k ik b => by
    by_cases hb : b = w.heap.size
    · right
      cases e : k b with
      | none => rfl
      | some p => have := ik.lt e; omega
    · left; simp [Hl.one, hb]
  refine ⟨H.os, H.tape.same rfl rfl, H.output, ?_, old K H.kn, (Hl.one w.heap.size o).add h, ⟨_, _, rfl, s, new h i, rfl⟩, Hl.add_disj.2 ⟨new K H.kn, d⟩, (Hl.inn_add (new h i)).2 ⟨fun b p e => ?_, old h i⟩⟩
  · have := H.size; simp; omega
  · unfold Hl.one at e
    split at e
    · rename_i hb; subst hb; cases e; show (w.heap.push o)[w.heap.size]? = _; simp
    · cases e

/-- Another world that differs from this one in the first part's blocks alone. -/
theorem Ow.change (H : Ow W K (A :: L) w) (ho : w'.os = w.os) (ht : Tp w w') (hu : w'.output = w.output) (hs : w.heap.size ≤ w'.heap.size)
    (hb : ∀ h, A h → h.inn w → (∃ h', B h' ∧ h'.inn w' ∧ (∀ b, h' b ≠ none → h b ≠ none ∨ w.heap.size ≤ b)) ∧ ∀ b, b < w.heap.size → h b = none → w'.heap[b]? = w.heap[b]?) : Ow W K (B :: L) w' := by
  obtain ⟨h, ⟨h1, h2, a, s, d', rfl⟩, d, i⟩ := H.mem
  have ii := (Hl.inn_add d').1 i
  have dd := Hl.add_disj.1 d
  obtain ⟨⟨h3, b3, i3, o3⟩, same⟩ := hb h1 a ii.1
  have apart : ∀ k : Hl, k.inn w → h1.disj k → h3.disj k := fun k ik dk b => by
    cases e3 : h3 b with
    | none => exact .inl rfl
    | some p =>
      right
      rcases o3 b (by rw [e3]; simp) with h | h
      · exact (dk b).resolve_left h
      · cases ek : k b with
        | none => rfl
        | some q => have := ik.lt ek; omega
  have stays : ∀ k : Hl, k.inn w → h1.disj k → k.inn w' := fun k ik dk b p e => by
    rcases dk b with h | h
    · rw [same b (ik.lt e) h]; exact ik b p e
    · rw [h] at e; cases e
  exact ⟨ho.trans H.os, ht.trans H.tape, hu.trans H.output, Nat.le_trans H.size hs, stays K H.kn dd.1, h3.add h2, ⟨h3, h2, b3, s, apart h2 ii.2 d', rfl⟩, Hl.add_disj.2 ⟨apart K H.kn dd.1, dd.2⟩,
    (Hl.inn_add (apart h2 ii.2 d')).2 ⟨i3, stays h2 ii.2 d'⟩⟩

theorem Ow.only (H : Ow W K L w) (ho : Only [] w w') : Ow W K L w' := by
  obtain ⟨h, s, d, i⟩ := H.mem
  have st : ∀ k : Hl, k.inn w → k.inn w' := fun k ik b p e => by rw [ho.block b (ik.lt e) (by simp)]; exact ik b p e
  exact ⟨ho.os.trans H.os, ho.tape.trans H.tape, ho.output.trans H.output, Nat.le_trans H.size ho.size, st K H.kn, h, s, d, st h i⟩

/-- New memory that a call handed out, all else being as it was. -/
theorem Ow.fresh (H : Ow W K L w) (ho : Only [] w w') {h' : Hl} (hA : A h') (hi : h'.inn w') (hn : ∀ b, h' b ≠ none → w.heap.size ≤ b) : Ow W K (A :: L) w' := by
  obtain ⟨h, s, d, i⟩ := H.mem
  have st : ∀ k : Hl, k.inn w → k.inn w' := fun k ik b p e => by rw [ho.block b (ik.lt e) (by simp)]; exact ik b p e
  have ap : ∀ k : Hl, k.inn w → h'.disj k := fun k ik b => by
    cases e : h' b with
    | none => exact .inl rfl
    | some p =>
      right
      cases ek : k b with
      | none => rfl
      | some q => have := ik.lt ek; have := hn b (by rw [e]; simp); omega
  exact ⟨ho.os.trans H.os, ho.tape.trans H.tape, ho.output.trans H.output, Nat.le_trans H.size ho.size, st K H.kn, h'.add h, ⟨h', h, hA, s, ap h i, rfl⟩, Hl.add_disj.2 ⟨ap K H.kn, d⟩, (Hl.inn_add (ap h i)).2 ⟨hi, st h i⟩⟩

/-! Taking a part out of the list. -/
inductive Tk : List HP → HP → List HP → Prop
  | here {A : HP} {L : List HP} : Tk (A :: L) A L
  | there {A B : HP} {L L' : List HP} : Tk L A L' → Tk (B :: L) A (B :: L')
inductive Sb : List HP → List HP → List HP → Prop
  | nil {R : List HP} : Sb R [] R
  | cons {A : HP} {As L L' R : List HP} : Tk L A L' → Sb L' As R → Sb L (A :: As) R

theorem Tk.perm (h : Tk L A M) : L.Perm (A :: M) := by
  induction h with
  | here => exact .refl _
  | there _ ih => exact (ih.cons _).trans (.swap ..)
theorem Sb.perm (h : Sb L M R) : L.Perm (M ++ R) := by
  induction h with
  | nil => exact .refl _
  | cons t _ ih => exact t.perm.trans (ih.cons _)
theorem Ow.tk (H : Ow W K L w) (h : Tk L A M) : Ow W K (A :: M) w := H.perm h.perm
theorem Ow.sb (H : Ow W K L w) (h : Sb L M R) : Ow W K (M ++ R) w := H.perm h.perm

theorem Ow.sel (H : Ow W K L w) (h : Sb L M R) : Ow W K M w := (H.sb h).dropAll

/-- What one part says of the world. -/
theorem Ow.part (H : Ow W K (A :: L) w) : ∃ h, A h ∧ h.inn w := by
  obtain ⟨h, ⟨h1, h2, a, s, d', rfl⟩, d, i⟩ := H.mem
  exact ⟨h1, a, ((Hl.inn_add d').1 i).1⟩

theorem Ow.blk (H : Ow W K L w) {b : Nat} {cs : List Value} {T : TypeId} (h : Tk L (pts b cs T) M) : Blk w b cs.toArray T := by
  obtain ⟨k, rfl, i⟩ := (H.tk h).part
  exact i b _ (by simp [Hl.one])

/-- A part is laid open. -/
theorem Ow.open (H : Ow W K L w) (h : Tk L A R) {α : Type} {Bs : α → List HP} (ho : ∀ k, A k → ∃ x, sats (Bs x) k) : ∃ x, Ow W K (Bs x ++ R) w := by
  obtain ⟨k, ⟨h1, h2, a, s, d', rfl⟩, d, i⟩ := (H.tk h).mem
  obtain ⟨x, sx⟩ := ho h1 a
  exact ⟨x, H.os, H.tape, H.output, H.size, H.kn, _, (sats_append _ _ _).2 ⟨h1, h2, sx, s, d', rfl⟩, d, i⟩
/-- Parts are shut into one. -/
theorem Ow.shut (H : Ow W K L w) (h : Sb L M R) (hc : ∀ k, sats M k → A k) : Ow W K (A :: R) w := by
  obtain ⟨k, s, d, i⟩ := (H.sb h).mem
  obtain ⟨h1, h2, s1, s2, d', rfl⟩ := (sats_append _ _ _).1 s
  exact ⟨H.os, H.tape, H.output, H.size, H.kn, _, ⟨h1, h2, hc _ s1, s2, d', rfl⟩, d, i⟩

/-- Two blocks are two. -/
theorem Ow.ne (H : Ow W K L w) {b c : Nat} {cs ds : List Value} {T U : TypeId} (h : Tk L (pts b cs T) M) (k : Tk M (pts c ds U) R) : b ≠ c := by
  obtain ⟨x, ⟨h1, h2, rfl, ⟨h3, h4, rfl, _, _, rfl⟩, d, rfl⟩, _, _⟩ := ((H.tk h).perm ((k.perm).cons _)).mem
  rintro rfl
  have := (Hl.disj_add.1 d).1 b
  simp [Hl.one] at this

/-- The first part's one block is written, and a new slice laid. -/
theorem Ow.step (H : Ow W K L w) {b : Nat} {cs cs' : List Value} {T : TypeId} (h : Tk L (pts b cs T) R) (ho : Only [b] w w') (hb : Blk w' b cs'.toArray T) : Ow W K (pts b cs' T :: R) w' :=
  (H.tk h).change ho.os ho.tape ho.output ho.size fun k hk ik => by
    have hk' : k = Hl.one b (.cells cs.toArray T (0, 0)) := hk
    subst hk'
    refine ⟨⟨Hl.one b (.cells cs'.toArray T (0, 0)), rfl, fun c o e => ?_, fun c hc => ?_⟩, fun c hl hc => ho.block c hl (fun hm => ?_)⟩
    · unfold Hl.one at e
      split at e
      · rename_i hcb; subst hcb; cases e; exact hb
      · cases e
    · left
      unfold Hl.one at hc ⊢
      split at hc <;> simp_all
    · obtain rfl : c = b := by simpa using hm
      simp [Hl.one] at hc

/-- A fact, as a part. -/
def pu (p : Prop) : HP := fun h => p ∧ ∀ b, h b = none
theorem Ow.pu {p : Prop} (H : Ow W K L w) (h : Tk L (pu p) R) : p := by
  obtain ⟨k, a, _⟩ := (H.tk h).part
  exact a.1
/-! Stores. -/
inductive SetAt : List Value → Nat → Value → List Value → Prop
  | z {x v : Value} {r : List Value} : SetAt (x :: r) 0 v (v :: r)
  | s {x v : Value} {r r' : List Value} {n : Nat} : SetAt r n v r' → SetAt (x :: r) (n + 1) v (x :: r')
theorem SetAt.eq {l l' : List Value} {n : Nat} {v : Value} (h : SetAt l n v l') : l' = l.set n v ∧ n < l.length := by
  induction h with
  | z => simp
  | s _ ih => obtain ⟨rfl, h⟩ := ih; simp; exact h

theorem Ow.set (H : Ow W K L w) {b i : Nat} {cs cs' : List Value} {T : TypeId} {v : Value} (h : Tk L (pts b cs T) R) (hs : SetAt cs i v cs') : Ow W K (pts b cs' T :: R) (w.setCell ⟨b, i, none⟩ v) := by
  refine (H.tk h).change rfl ((Tp.refl _).same rfl rfl) rfl (by simp) (fun k hk ik => ⟨⟨Hl.one b (.cells cs'.toArray T (0, 0)), rfl, fun c o e => ?_, fun c hc => ?_⟩, fun c hl hc => ?_⟩)
  · have hk' : k = Hl.one b (.cells cs.toArray T (0, 0)) := hk
    subst hk'
    unfold Hl.one at e
    split at e
    · rename_i hcb
      subst hcb
      cases e
      have hB : Blk w c cs.toArray T := ik c _ (by simp [Hl.one])
      have := hB.set i v
      unfold Blk at this
      rw [this, hs.eq.1]
      simp
    · cases e
  · have hk' : k = Hl.one b (.cells cs.toArray T (0, 0)) := hk
    subst hk'
    left
    unfold Hl.one at hc ⊢
    split at hc <;> simp_all
  · have hk' : k = Hl.one b (.cells cs.toArray T (0, 0)) := hk
    subst hk'
    refine heap_setCell _ _ _ _ _ (fun e => ?_)
    subst e
    simp [Hl.one] at hc

theorem Ow.setCells (vs : List Value) : ∀ (o : Nat) {L R : List HP} {w : World} (_ : Ow W K L w) {b : Nat} {cs : List Value} {T : TypeId} (_ : Tk L (pts b cs T) R) (_ : o + vs.length ≤ cs.length),
    Ow W K (pts b (splice cs.toArray o vs).toList T :: R) (w.setCells b o vs) := by
  induction vs with
  | nil => intro o L R w H b cs T h hl; simpa [splice, World.setCells] using H.tk h
  | cons v r ih =>
    intro o L R w H b cs T h hl
    simp only [List.length_cons] at hl
    have hs : SetAt cs o v (cs.set o v) := by
      have : ∀ (cs : List Value) (o : Nat), o < cs.length → SetAt cs o v (cs.set o v) := by
        intro cs
        induction cs with
        | nil => intro o h; simp at h
        | cons x cs ih =>
          intro o h
          cases o with
          | zero => exact .z
          | succ o => exact .s (ih o (by simpa using h))
      exact this cs o (by omega)
    have := ih (o + 1) (H.set h hs) .here (by simp; omega)
    simpa [splice, World.setCells] using this
end

/-! What may be read besides: what holds in each world that has the memory K. -/
def Kn (K : Hl) (φ : World → Prop) : Prop := ∀ w, K.inn w → φ w
/-- The same, of K and the parts R besides. -/
def Kr (K : Hl) (R : List HP) (φ : World → Prop) : Prop := ∀ h, sats R h → h.disj K → Kn (K.add h) φ
theorem Kn.of {K : Hl} {φ : World → Prop} (h : Kn K φ) {W : World} {L : List HP} {w : World} (H : Ow W K L w) : φ w := h w H.kn
theorem Kn.true {K : Hl} : Kn K (fun _ => True) := fun _ _ => trivial
theorem Kn.and {K : Hl} {φ ψ : World → Prop} (h : Kn K φ) (k : Kn K ψ) : Kn K (fun w => φ w ∧ ψ w) := fun w i => ⟨h w i, k w i⟩
theorem Kn.imp {K : Hl} {φ ψ : World → Prop} (h : Kn K φ) (k : ∀ w, φ w → ψ w) : Kn K ψ := fun w i => k w (h w i)
theorem Kn.left {K : Hl} {φ ψ : World → Prop} (h : Kn K (fun w => φ w ∧ ψ w)) : Kn K φ := fun w i => (h w i).1
theorem Kn.right {K : Hl} {φ ψ : World → Prop} (h : Kn K (fun w => φ w ∧ ψ w)) : Kn K ψ := fun w i => (h w i).2
theorem Kn.all {W : World} {φ : World → Prop} (h : ∀ w, Only [] W w → φ w) (h2 : ∀ w w', w'.heap = w.heap → φ w → φ w') : Kn (World.all W) φ := fun w i => by
  have hs : W.heap.size ≤ w.heap.size := by
    rcases Nat.lt_or_ge w.heap.size W.heap.size with hl | hl
    · have : W.heap[w.heap.size]? = some W.heap[w.heap.size] := Array.getElem?_eq_getElem hl
      have := (Array.getElem?_eq_some_iff.1 (i _ _ this)).1
      omega
    · exact hl
  refine h2 { W with heap := w.heap } w rfl (h _ ⟨rfl, (Tp.refl W).same rfl rfl, rfl, hs, fun k hk _ => ?_⟩)
  have : W.heap[k]? = some W.heap[k] := Array.getElem?_eq_getElem hk
  rw [this]
  exact i k _ this
theorem Kr.kn {K : Hl} {R : List HP} {φ : World → Prop} (h : Kn K φ) : Kr K R φ := fun k _ d w i => h w ((Hl.inn_add d.symm).1 i).1
theorem Kr.true {K : Hl} {R : List HP} : Kr K R (fun _ => True) := fun _ _ _ _ _ => trivial
theorem Kr.and {K : Hl} {R : List HP} {φ ψ : World → Prop} (h : Kr K R φ) (k : Kr K R ψ) : Kr K R (fun w => φ w ∧ ψ w) := fun x s d w i => ⟨h x s d w i, k x s d w i⟩
theorem Kr.tk {K : Hl} {R R' : List HP} {A : HP} {φ : World → Prop} (h : Tk R A R') (k : ∀ w h, A h → h.inn w → φ w) : Kr K R φ := fun x s d w i => by
  obtain ⟨h1, h2, a, _, d', rfl⟩ := sats_perm h.perm x s
  have i1 := ((Hl.inn_add d.symm).1 i).2
  exact k w h1 a ((Hl.inn_add d').1 i1).1

/-- A contract: with the parts 'pre' for its own, and reading what φ says besides. -/
def Pact (P : Program) (f : FuncId) (args : Array Value) (φ : World → Prop) (pre : List HP) (Rr : Value → List HP → Prop) : Prop :=
  ∀ W K w, Kn K φ → Ow W K pre w → Calls P f args w fun e w' => ∃ v L', Rr v L' ∧ e = .returned v ∧ Ow W K L' w'

theorem Pact.call {P : Program} {f : FuncId} {args : Array Value} {φ : World → Prop} {pre : List HP} {Rr : Value → List HP → Prop} (S : Pact P f args φ pre Rr)
    {W : World} {K : Hl} {L R : List HP} {w : World} {Q : Ending → World → Prop} (H : Ow W K L w) (hs : Sb L pre R) (hφ : Kr K R φ)
    (hk : ∀ v L', Rr v L' → ∀ w', Ow W K (L' ++ R) w' → Q (.returned v) w') : Calls P f args w Q := by
  obtain ⟨hR, sR, dR, H1, back⟩ := (H.sb hs).frame
  refine (S W (K.add hR) w (hφ hR sR dR) H1).mono ?_
  rintro e w' ⟨v, L', hr, rfl, H2⟩
  exact hk v L' hr w' (back L' w' H2)

/-! The steps of a walk. -/
/-- What an operand holds, to the letter. -/
inductive Nth : List Value → Nat → Value → Prop
  | z {v : Value} {r : List Value} : Nth (v :: r) 0 v
  | s {x v : Value} {r : List Value} {n : Nat} : Nth r n v → Nth (x :: r) (n + 1) v
inductive Ev : Act → Operand → Value → Prop
  | t {l : List Value} {d : List Deferred} {t : Nat} {v : Value} : Nth l t v → Ev ⟨l.toArray, d⟩ (.tmp t) v
  | c {a : Act} {v : Value} : Ev a (.const v) v
/-- A slot is written, to the letter. -/
inductive Pt : Act → Option Tmp → Value → Act → Prop
  | n {a : Act} {v : Value} : Pt a none v a
  | s {l l' : List Value} {d : List Deferred} {t : Nat} {v : Value} : SetAt l t v l' → Pt ⟨l.toArray, d⟩ (some t) v ⟨l'.toArray, d⟩
theorem Pt.eq {a a' : Act} {t : Option Tmp} {v : Value} (h : Pt a t v a') : a.put t v = a' := by
  cases h with
  | n => rfl
  | s h => simp [Act.put, h.eq.1]
theorem Nth.eq {l : List Value} {n : Nat} {v : Value} (h : Nth l n v) : l[n]? = some v := by
  induction h with
  | z => rfl
  | s _ ih => simpa using ih
theorem Ev.eq {a : Act} {x : Operand} {v : Value} (h : Ev a x v) : a.eval x = v := by
  cases h with
  | t h => simp [Act.eval, Array.getD_eq_getD_getElem?, h.eq]
  | c => rfl
/-- A type whose values are one cell; whose values are rows of n cells. -/
def cellTy (P : Program) (t : TypeId) : Bool := match P.underlying t, P.info? t with
  | some d, some i => !d.isRow && i.size == 1
  | _, _ => false
def rowTy (P : Program) (t : TypeId) (n : Nat) : Bool := match P.underlying t, P.info? t with
  | some d, some i => d.isRow && i.size == n
  | _, _ => false

/-- How long a list is, to the letter. -/
inductive Len : List Value → Nat → Prop
  | z : Len [] 0
  | s {x : Value} {r : List Value} {n : Nat} : Len r n → Len (x :: r) (n + 1)
theorem Len.eq {l : List Value} {n : Nat} (h : Len l n) : l.length = n := by
  induction h with
  | z => rfl
  | s _ ih => simp [ih]

theorem run_load_cell {P : Program} {w : World} {t : TypeId} {p : Addr} {v : Value} (ht : cellTy P t = true) (hc : w.cell? p = some v) : (loadVar t p).run P w = .ok v w := by
  unfold cellTy at ht
  cases hu : P.underlying t with
  | none => simp [hu] at ht
  | some d =>
    cases hi : P.info? t with
    | none => simp [hu, hi] at ht
    | some i =>
      simp only [hu, hi, Bool.and_eq_true, Bool.not_eq_true', beq_iff_eq] at ht
      have hagg : (isAgg t).run P w = .ok false w := by
        unfold isAgg
        rw [Sem.run_bind, run_underlying hu w]
        cases d <;> simp_all
      simp [loadVar, Sem.run_bind, hagg, load, Sem.run, hc]

theorem run_load_row {P : Program} {w : World} {t : TypeId} {b o : Nat} {cs : List Value} (ht : rowTy P t cs.length = true) (hc : w.rangeAt b o cs) : (loadVar t ⟨b, o, none⟩).run P w = .ok (.agg cs.toArray) w := by
  unfold rowTy at ht
  cases hu : P.underlying t with
  | none => simp [hu] at ht
  | some d =>
    cases hi : P.info? t with
    | none => simp [hu, hi] at ht
    | some i =>
      simp only [hu, hi, Bool.and_eq_true, beq_iff_eq] at ht
      exact run_loadVar_mid w b o t cs d hc hu ht.1 (by simp [hi, ht.2])

section
variable {P : Program} {ops : Array Oper} {rest : List Oper} {a : Act} {Q : Exit → Act → World → Prop} {W : World} {K : Hl} {L R : List HP} {w : World}

/-- A part of a block's row: n cells from i on. -/
inductive Seg : List Value → Nat → Nat → List Value → Prop
  | e {r : List Value} : Seg r 0 0 []
  | t {x : Value} {r vs : List Value} {n : Nat} : Seg r 0 n vs → Seg (x :: r) 0 (n + 1) (x :: vs)
  | s {x : Value} {r vs : List Value} {i n : Nat} : Seg r i n vs → Seg (x :: r) (i + 1) n vs
theorem Seg.get {r vs : List Value} {i n : Nat} (h : Seg r i n vs) : ∀ j v, vs[j]? = some v → r[i + j]? = some v := by
  induction h with
  | e => simp
  | t _ ih =>
    intro j v hv
    cases j with
    | zero => simpa using hv
    | succ j => rw [Nat.zero_add]; simpa using ih j v (by simpa using hv)
  | s _ ih => intro j v hv; rw [Nat.add_right_comm]; simpa using ih j v hv
theorem Seg.len {r vs : List Value} {i n : Nat} (h : Seg r i n vs) : vs.length = n := by
  induction h with
  | e => rfl
  | t _ ih => simp [ih]
  | s _ ih => exact ih
theorem run_store_cell {P : Program} {w : World} {t : TypeId} {p : Addr} {u v : Value} (ht : cellTy P t = true) (hc : w.cell? p = some u) (hf : w.frozen? p = false) (h1 : v.oneCell' = true) : (storeVar t p v).run P w = .ok () (w.setCell p v) := by
  unfold cellTy at ht
  cases hu : P.underlying t with
  | none => simp [hu] at ht
  | some d =>
    cases hi : P.info? t with
    | none => simp [hu, hi] at ht
    | some i =>
      simp only [hu, hi, Bool.and_eq_true, Bool.not_eq_true', beq_iff_eq] at ht
      have hv : v.cells = #[v] := by cases v <;> first | rfl | (simp [Value.oneCell'] at h1)
      have hz : (storeCells p [v]).run P w = .ok () (w.setCell p v) := by
        have h0 : p.add 0 = p := by simp [Addr.add]
        simp [storeCells, h0, Sem.run_bind, run_store P w p v _ h1, hc, hf]
      simp [storeVar, sizeOf, typeInfo, hi, hv, ht.2, hz]

end

/-! Slices of the call's own. -/
/-- The slice v of n elements of sz cells each, its cells xs; its row is owned whole. -/
def Sl (e : TypeId) (sz : Nat) (v : Value) (n : Nat) (xs : List Value) : HP := fun h =>
  xs.length = n * sz ∧ ((v = .slice none 0 0 ∧ n = 0 ∧ ∀ b, h b = none) ∨
    ∃ g cap cur, v = .slice (some ⟨g, 0, none⟩) n cap ∧ n ≤ cap ∧ cap ≤ maxLen ∧ cur.size = cap * sz ∧ cur.toList.take (n * sz) = xs ∧ h = Hl.one g (.cells cur e (0, 0)))

theorem Sl.owns {e : TypeId} {sz : Nat} {v : Value} {n : Nat} {xs : List Value} {w : World} {h : Hl} (hs : Sl e sz v n xs h) (i : h.inn w) (base : Nat) (hb : ∀ b, h b ≠ none → base ≤ b) : w.ownsRow base e sz v n xs := by
  refine ⟨hs.1, ?_⟩
  rcases hs.2 with ⟨h1, h2, _⟩ | ⟨g, cap, cur, h1, h2, h3, h4, h5, rfl⟩
  · exact .inl ⟨h1, h2⟩
  · exact .inr ⟨g, cap, cur, h1, hb g (by simp [Hl.one]), i g _ (by simp [Hl.one]), h2, h3, h4, h5⟩

theorem Sl.of {e : TypeId} {sz base : Nat} {v : Value} {n : Nat} {xs : List Value} {w : World} (h : w.ownsRow base e sz v n xs) : ∃ k : Hl, Sl e sz v n xs k ∧ k.inn w ∧ ∀ b, k b ≠ none → v.ownBlock = some b ∧ base ≤ b := by
  obtain ⟨h0, h⟩ := h
  rcases h with ⟨rfl, rfl⟩ | ⟨g, cap, cur, rfl, hb, hg, h2, h3, h4, h5⟩
  · exact ⟨fun _ => none, ⟨h0, .inl ⟨rfl, rfl, fun _ => rfl⟩⟩, fun _ _ h => (by cases h), fun _ h => (h rfl).elim⟩
  · refine ⟨Hl.one g (.cells cur e (0, 0)), ⟨h0, .inr ⟨g, cap, cur, rfl, h2, h3, h4, h5, rfl⟩⟩, fun b o e => ?_, fun b hb' => ?_⟩
    · unfold Hl.one at e
      split at e
      · rename_i hbg; subst hbg; cases e; exact hg
      · cases e
    · unfold Hl.one at hb'
      split at hb'
      · rename_i hbg; subst hbg; exact ⟨rfl, hb⟩
      · exact (hb' rfl).elim

section
variable {W : World} {K : Hl} {L R : List HP} {w w' : World} {e : TypeId} {sz : Nat} {v v' : Value} {n m : Nat} {xs ys : List Value}

theorem Ow.owns (H : Ow W K L w) (h : Tk L (Sl e sz v n xs) R) : w.ownsRow 0 e sz v n xs := by
  obtain ⟨k, hk, i⟩ := (H.tk h).part
  exact hk.owns i 0 (fun _ _ => Nat.zero_le _)
theorem Ow.vw (H : Ow W K L w) (h : Tk L (Sl e sz v n xs) R) : Vw w v sz n xs := own_vw (H.owns h)
theorem Kr.vw (h : Tk R (Sl e sz v n xs) L) : Kr K R (fun w => Vw w v sz n xs) := Kr.tk h fun w k hk i => own_vw (hk.owns i 0 (fun _ _ => Nat.zero_le _))

/-- A slice that a call handed out anew. -/
theorem Ow.freshSl (H : Ow W K L w) (ho : Only [] w w') (hs : w'.ownsRow w.heap.size e sz v n xs) : Ow W K (Sl e sz v n xs :: L) w' := by
  obtain ⟨k, hk, i, hb⟩ := Sl.of hs
  exact H.fresh ho hk i (fun b hb' => (hb b hb').2)

/-- Behind an append. -/
theorem Ow.bld (H : Ow W K (Sl e sz v n xs :: L) w) (hb : Bld e sz 0 w w' v v' m ys) : Ow W K (Sl e sz v' m ys :: L) w' := by
  refine H.change hb.only.os hb.only.tape hb.only.output hb.only.size (fun k hk ik => ?_)
  have hv : ∀ b, v.ownBlock = some b ↔ k b ≠ none := fun b => by
    rcases hk.2 with ⟨rfl, _, h3⟩ | ⟨g, cap, cur, rfl, _, _, _, _, rfl⟩
    · simp [Value.ownBlock, h3]
    · simp [Value.ownBlock, Hl.one, eq_comm]
  obtain ⟨k', hk', ik', hb'⟩ := Sl.of hb.own
  refine ⟨⟨k', hk', ik', fun b hbn => ?_⟩, fun b hl hbn => hb.only.block b hl (fun hm => ?_)⟩
  · have h1 := (hb' b hbn).1
    rcases hb.lies with h2 | h2
    · exact .inl ((hv b).1 (h2 ▸ h1))
    · exact .inr (h2 b h1)
  · exact (hv b).1 (by simpa using hm) hbn

theorem Ow.slNil (H : Ow W K L w) : Ow W K (Sl e sz (.slice none 0 0) 0 [] :: L) w := by
  obtain ⟨h, s, d, i⟩ := H.mem
  exact ⟨H.os, H.tape, H.output, H.size, H.kn, h, ⟨fun _ => none, h, ⟨by simp, .inl ⟨rfl, rfl, fun _ => rfl⟩⟩, s, fun _ => .inl rfl, by funext b; simp [Hl.add]⟩, d, i⟩

/-- What a literal or a make laid, as a slice. -/
theorem Ow.slLit (H : Ow W K L w) {g : Nat} {cs : List Value} (h : Tk L (pts g cs e) R) (hl : cs.length = n * sz) (hm : n ≤ maxLen) : Ow W K (Sl e sz (.slice (some ⟨g, 0, none⟩) n n) n cs :: R) w :=
  (H.tk h).imp fun k hk => ⟨hl, .inr ⟨g, n, cs.toArray, rfl, Nat.le_refl _, hm, by simpa using hl, by simp [← hl], hk⟩⟩
theorem Ow.slShape (H : Ow W K L w) (h : Tk L (Sl e sz v n xs) R) : xs.length = n * sz ∧ ∃ a cap, v = .slice a n cap ∧ n ≤ cap ∧ cap ≤ maxLen := by
  obtain ⟨a, cap, rfl, h1, h2, h3, _⟩ := H.vw h
  exact ⟨h1, a, cap, rfl, h2, h3⟩
end

/-- A slice of bytes of the call's own. -/
def SlB (e : TypeId) (v : Value) (l : List Int) : HP := Sl e 1 v l.length (bys l)
section
variable {W : World} {K : Hl} {L R : List HP} {w w' : World} {e : TypeId} {v v' : Value} {l m : List Int}
theorem Ow.ownB (H : Ow W K L w) (h : Tk L (SlB e v l) R) : OwnB e w 0 v l := H.owns h
theorem Ow.freshB (H : Ow W K L w) (ho : Only [] w w') (hs : OwnB e w' w.heap.size v l) : Ow W K (SlB e v l :: L) w' := H.freshSl ho hs
end

end Go.Pm
namespace Go.Pm
set_option linter.unusedSimpArgs false
set_option linter.unusedVariables false
open Go.RowKit

def hcell (h : Hl) (b i : Nat) : Option Value := match h b with
  | some (.cells c _ _) => c[i]?
  | _ => none
theorem hcell_in {h : Hl} {w : World} (i : h.inn w) {b k : Nat} {v : Value} (e : hcell h b k = some v) : w.cell? ⟨b, k, none⟩ = some v := by
  unfold hcell at e
  split at e
  · rename_i c T fr hb
    unfold World.cell?
    rw [show w.heap[(⟨b, k, none⟩ : Addr).block]? = _ from i b _ hb]
    simpa using e
  · cases e

/-- The memory h is enough to read v as n elements, of cells xs. -/
def V (sz : Nat) (v : Value) (n : Nat) (xs : List Value) : HP := fun h =>
  ∃ a cap, v = .slice a n cap ∧ xs.length = n * sz ∧ n ≤ cap ∧ cap ≤ maxLen ∧ (a = none → n = 0 ∧ cap = 0) ∧ (xs ≠ [] → ∃ b off, a = some ⟨b, off, none⟩ ∧ ∀ j u, xs[j]? = some u → hcell h b (off + j) = some u)
theorem V.vw {sz : Nat} {v : Value} {n : Nat} {xs : List Value} {h : Hl} (hv : V sz v n xs h) {w : World} (i : h.inn w) : Vw w v sz n xs := by
  obtain ⟨a, cap, rfl, h1, h2, h3, h4, h5⟩ := hv
  refine ⟨a, cap, rfl, h1, h2, h3, h4, fun hne => ?_⟩
  obtain ⟨b, off, rfl, hc⟩ := h5 hne
  exact ⟨b, off, rfl, fun j u hu => hcell_in i (hc j u hu)⟩

theorem Sl.v {e : TypeId} {sz : Nat} {v : Value} {n : Nat} {xs : List Value} {h : Hl} (hs : Sl e sz v n xs h) : V sz v n xs h := by
  obtain ⟨hl, h1⟩ := hs
  rcases h1 with ⟨rfl, rfl, _⟩ | ⟨g, cap, cur, rfl, h2, h3, h4, h5, rfl⟩
  · exact ⟨none, 0, rfl, hl, Nat.le_refl _, by simp [maxLen], fun _ => ⟨rfl, rfl⟩, fun hne => (hne (by simpa using hl)).elim⟩
  · refine ⟨_, cap, rfl, hl, h2, h3, (fun h => by cases h), fun _ => ⟨g, 0, rfl, fun j u hu => ?_⟩⟩
    simp only [hcell, Hl.one, if_true, Nat.zero_add]
    rw [← h5, List.getElem?_take] at hu
    split at hu
    · simpa using hu
    · cases hu

theorem V.nil (sz : Nat) (h : Hl) : V sz (.slice none 0 0) 0 [] h := ⟨none, 0, rfl, by simp, Nat.le_refl _, by simp [maxLen], fun _ => ⟨rfl, rfl⟩, fun h => (h rfl).elim⟩

section
variable {W : World} {K : Hl} {L R : List HP} {w w' : World} {sz : Nat} {v : Value} {n : Nat} {xs : List Value} {l : List Int}
end
/-- A part that is a list of parts. -/
theorem Ow.flat {W : World} {K : Hl} {L R : List HP} {w : World} {As : List HP} (H : Ow W K L w) (h : Tk L (sats As) R) : Ow W K (As ++ R) w := by
  obtain ⟨_, H2⟩ := H.open h (α := Unit) (Bs := fun _ => As) (fun _ h => ⟨(), h⟩)
  exact H2
theorem Ow.unflat {W : World} {K : Hl} {L R : List HP} {w : World} {As : List HP} (H : Ow W K L w) (h : Sb L As R) : Ow W K (sats As :: R) w := H.shut h (fun _ h => h)
theorem Ow.snoc {W : World} {K : Hl} {L R M : List HP} {w : World} {As : List HP} {B : HP} (H : Ow W K L w) (h : Tk L (sats As) M) (k : Tk M B R) : Ow W K (sats (As ++ [B]) :: R) w := by
  have H2 := (H.flat h).perm (List.Perm.append_left As k.perm)
  have H3 : Ow W K ((As ++ [B]) ++ R) w := by simpa using H2
  obtain ⟨x, s, d, i⟩ := H3.mem
  obtain ⟨h1, h2, s1, s2, d', e⟩ := (sats_append _ _ _).1 s
  exact ⟨H.os, H.tape, H.output, H.size, H.kn, x, ⟨h1, h2, s1, s2, d', e⟩, d, i⟩
theorem Ow.satsNil {W : World} {K : Hl} {L : List HP} {w : World} (H : Ow W K L w) : Ow W K (sats [] :: L) w := by
  obtain ⟨h, s, d, i⟩ := H.mem
  exact ⟨H.os, H.tape, H.output, H.size, H.kn, h, ⟨fun _ => none, h, fun _ => rfl, s, fun _ => .inl rfl, by funext b; simp [Hl.add]⟩, d, i⟩
end Go.Pm
namespace Go.Pm
set_option linter.unusedSimpArgs false
set_option linter.unusedVariables false
open Go.RowKit

/-- The cells of the elements es, one behind the other, sz cells each. -/
def flat {α : Type} (f : α → List Value) (es : List α) : List Value := es.flatMap f
theorem flat_length {α : Type} {f : α → List Value} {sz : Nat} (hf : ∀ x, (f x).length = sz) (es : List α) : (flat f es).length = es.length * sz := by
  induction es with
  | nil => simp [flat]
  | cons e es ih => simp [flat, hf, Nat.succ_mul] at ih ⊢; omega
theorem flat_append {α : Type} (f : α → List Value) (es fs : List α) : flat f (es ++ fs) = flat f es ++ flat f fs := by simp [flat]
theorem flat_get {α : Type} {f : α → List Value} {sz : Nat} (hf : ∀ x, (f x).length = sz) : ∀ (es : List α) (k j : Nat) (hk : k < es.length) (_ : j < sz), (flat f es)[k * sz + j]? = (f es[k])[j]?
  | [], _, _, hk, _ => by simp at hk
  | e :: es, 0, j, _, hj => by
    rw [Nat.zero_mul, Nat.zero_add]
    show (f e ++ flat f es)[j]? = _
    rw [List.getElem?_append_left (by rw [hf]; exact hj)]
    rfl
  | e :: es, k + 1, j, hk, hj => by
    show (f e ++ flat f es)[(k + 1) * sz + j]? = _
    rw [List.getElem?_append_right (by rw [hf, Nat.succ_mul]; omega), hf, show (k + 1) * sz + j - sz = k * sz + j by rw [Nat.succ_mul]; omega]
    exact flat_get hf es k j (by simpa using hk) hj

/-- One element of a slice that can be read: its row of cells. -/
theorem Vw.row {α : Type} {f : α → List Value} {sz : Nat} (hf : ∀ x, (f x).length = sz) {w : World} {b off n cap : Nat} {es : List α} (h : Vw w (.slice (some ⟨b, off, none⟩) n cap) sz n (flat f es)) (hn : es.length = n) (k : Nat) (hk : k < es.length) : w.rangeAt b (off + k * sz) (f es[k]) := by
  intro j u hu
  have hj : j < sz := by
    have := (List.getElem?_eq_some_iff.1 hu).1
    rwa [hf] at this
  obtain ⟨a, c, he, h1, h2, h3, h4, h5⟩ := h
  cases he
  have h6 := flat_get hf es k j hk hj
  rw [hu] at h6
  obtain ⟨b', off', he, hc⟩ := h5 (by intro h0; rw [h0] at h6; simp at h6)
  cases he
  rw [Nat.add_assoc]
  exact hc _ _ h6

theorem Vw.addr {w : World} {a : Option Addr} {n cap sz : Nat} {xs : List Value} (h : Vw w (.slice a n cap) sz n xs) (hne : xs ≠ []) : ∃ b off, a = some ⟨b, off, none⟩ := by
  obtain ⟨a', c, he, h1, h2, h3, h4, h5⟩ := h
  cases he
  obtain ⟨b, off, rfl, _⟩ := h5 hne
  exact ⟨b, off, rfl⟩

section
variable {W : World} {K : Hl} {L R : List HP} {w w' : World} {e : TypeId} {sz n cap : Nat} {xs : List Value}

/-- A slice of the call's own with elements, laid open: its block. -/
theorem Ow.slOpen {a : Option Addr} (H : Ow W K L w) (h : Tk L (Sl e sz (.slice a n cap) n xs) R) (hn : n ≠ 0) : ∃ g cur, a = some ⟨g, 0, none⟩ ∧ Ow W K (pts g cur e :: R) w ∧ cur.length = cap * sz ∧ cur.take (n * sz) = xs ∧ n ≤ cap ∧ cap ≤ maxLen := by
  obtain ⟨k, ⟨h1, h2, hs, s, d', rfl⟩, d, i⟩ := (H.tk h).mem
  obtain ⟨hl, hs⟩ := hs
  rcases hs with ⟨_, h0, _⟩ | ⟨g, cap', cur, he, h3, h4, h5, h6, rfl⟩
  · exact (hn h0).elim
  · cases he
    refine ⟨g, cur.toList, rfl, ⟨H.os, H.tape, H.output, H.size, H.kn, _, ⟨_, h2, rfl, s, ?_, rfl⟩, ?_, ?_⟩, by simpa using h5, h6, h3, h4⟩
    all_goals simpa using by assumption

theorem Ow.slShut {g : Nat} {cur : List Value} (H : Ow W K L w) (h : Tk L (pts g cur e) R) (hl : cur.length = cap * sz) (hx : cur.take (n * sz) = xs) (hn : n ≤ cap) (hc : cap ≤ maxLen) : Ow W K (Sl e sz (.slice (some ⟨g, 0, none⟩) n cap) n xs :: R) w :=
  (H.tk h).imp fun k hk => ⟨by
    subst hx
    rw [List.length_take, hl]
    exact Nat.min_eq_left (Nat.mul_le_mul_right _ hn), .inr ⟨g, cap, cur.toArray, rfl, hn, hc, by simpa using hl, by simpa using hx, hk⟩⟩
end

/-- The row of element k. -/
def rowOf (sz : Nat) (cur : List Value) (k : Nat) : List Value := (cur.drop (k * sz)).take sz
theorem rowOf_get {sz : Nat} {cur : List Value} {k j : Nat} (hj : j < sz) : (rowOf sz cur k)[j]? = cur[k * sz + j]? := by
  simp [rowOf, List.getElem?_take, hj, List.getElem?_drop]
theorem rowOf_splice_lt {sz : Nat} {cur vs : List Value} {i : Nat} (hi : i * sz + vs.length ≤ cur.length) (k : Nat) (hk : k < i) : rowOf sz (splice cur.toArray (i * sz) vs).toList k = rowOf sz cur k := by
  have e2 : (k + 1) * sz ≤ i * sz := Nat.mul_le_mul_right _ hk
  have e3 : (k + 1) * sz = k * sz + sz := Nat.succ_mul k sz
  apply List.ext_getElem?
  intro j
  by_cases hj : j < sz
  · rw [rowOf_get hj, rowOf_get hj, Array.getElem?_toList, splice_get vs (i * sz) cur.toArray (k * sz + j) (by simpa using hi), if_neg (by omega)]
    simp
  · have l1 : (rowOf sz (splice cur.toArray (i * sz) vs).toList k).length ≤ sz := by unfold rowOf; rw [List.length_take]; omega
    have l2 : (rowOf sz cur k).length ≤ sz := by unfold rowOf; rw [List.length_take]; omega
    rw [List.getElem?_eq_none (by omega), List.getElem?_eq_none (by omega)]
theorem rows_of {α : Type} {f : α → List Value} {sz : Nat} (hf : ∀ x, (f x).length = sz) {cur : List Value} {es : List α} (h : cur.take (es.length * sz) = flat f es) (k : Nat) (hk : k < es.length) : rowOf sz cur k = f es[k] := by
  have e2 : (k + 1) * sz ≤ es.length * sz := Nat.mul_le_mul_right _ hk
  have e3 : (k + 1) * sz = k * sz + sz := Nat.succ_mul k sz
  have hl : es.length * sz ≤ cur.length := by have := congrArg List.length h; rw [flat_length hf, List.length_take] at this; omega
  apply List.ext_getElem?
  intro j
  by_cases hj : j < sz
  · rw [rowOf_get hj, ← flat_get hf es k j hk hj, ← h, List.getElem?_take, if_pos (by omega)]
  · have l1 : (rowOf sz cur k).length ≤ sz := by unfold rowOf; rw [List.length_take]; omega
    rw [List.getElem?_eq_none (by omega), List.getElem?_eq_none (by rw [hf]; omega)]
/-- A prefix of the cells, by its rows. -/
theorem take_rows {α : Type} {f : α → List Value} {sz : Nat} (hf : ∀ x, (f x).length = sz) {cur : List Value} : ∀ (ys : List α), ys.length * sz ≤ cur.length → (∀ k (hk : k < ys.length), rowOf sz cur k = f ys[k]) → cur.take (ys.length * sz) = flat f ys := by
  intro ys hl h
  apply List.ext_getElem?
  intro j
  by_cases hj : j < ys.length * sz
  · have hs0 : 0 < sz := by rcases Nat.eq_zero_or_pos sz with h0 | h0; · subst h0; simp at hj
                            · exact h0
    have hk : j / sz < ys.length := Nat.div_lt_of_lt_mul (by rw [Nat.mul_comm]; exact hj)
    have hm : j % sz < sz := Nat.mod_lt _ hs0
    have he : j / sz * sz + j % sz = j := Nat.div_add_mod' j sz
    have h1 := flat_get hf ys (j / sz) (j % sz) hk hm
    rw [he] at h1
    rw [h1, ← h _ hk, rowOf_get hm, he, List.getElem?_take, if_pos hj]
  · rw [List.getElem?_eq_none (by rw [List.length_take]; omega), List.getElem?_eq_none (by rw [flat_length hf]; omega)]

end Go.Pm
namespace Go.Pm
set_option linter.unusedSimpArgs false
set_option linter.unusedVariables false
open Go.RowKit

/-! Slots. -/
abbrev TF := Nat → Option Value
abbrev TM := List (Nat × Value)
def tget : TM → TF
  | [], _ => none
  | (k, v) :: r, t => bif Nat.beq k t then some v else tget r t
/-- The place where the marks stand that ranges over functions have left among the deferred calls. -/
def mkK : Nat := 1000000
def fget (f : TF) (t : Nat) : Option Value := bif Nat.beq t 1000000 then none else f t
theorem fget_some {f : TF} {t : Nat} {v : Value} (h : fget f t = some v) : t ≠ mkK ∧ f t = some v := by
  unfold fget at h
  by_cases ht : t = 1000000
  · subst ht; simp at h
  · have : Nat.beq t 1000000 = false := by rw [Bool.eq_false_iff]; intro hb; exact ht (Nat.eq_of_beq_eq_true hb)
    rw [this] at h
    exact ⟨ht, h⟩
def evF (f : TF) : Operand → Option Value
  | .tmp t => fget f t
  | .const v => some v
  | .global g => some (.pointer (some ⟨g, 0, none⟩))
  | .func g => some (.func (.func g) #[] #[])
abbrev evT (tm : TM) : Operand → Option Value := evF (tget tm)

def mark (D : Nat) : Deferred := { target := .collected D, args := #[] }
def decM : Option Value → List Nat
  | some (.tuple vs) => vs.toList.map fun | .int _ z => z.toNat | _ => 0
  | _ => []
def encM (Ds : List Nat) : Value := .tuple (Ds.map fun D => .int .u64 (D : Int)).toArray
theorem dec_enc (Ds : List Nat) : decM (some (encM Ds)) = Ds := by
  simp only [decM, encM, List.map_map]
  induction Ds with
  | nil => rfl
  | cons D Ds ih => simp only [List.map_cons, Function.comp, Int.toNat_natCast, ih]
structure Fit (n : Nat) (f : TF) (a : Act) : Prop where
  d : a.defers = (decM (f mkK)).map mark
  sz : a.tmps.size = n
  lt : n ≤ mkK
  v : ∀ t v, t ≠ mkK → f t = some v → a.tmps[t]? = some v

theorem Fit.eval {n : Nat} {f : TF} {a : Act} (h : Fit n f a) {x : Operand} {v : Value} (e : evF f x = some v) : a.eval x = v := by
  cases x with
  | tmp t => obtain ⟨h1, h2⟩ := fget_some e; have := h.v t v h1 h2; simp [Act.eval, Array.getD_eq_getD_getElem?, this]
  | const u => simp only [evF, Option.some.injEq] at e; exact e
  | global g => simp only [evF, Option.some.injEq] at e; exact e
  | func g => simp only [evF, Option.some.injEq] at e; exact e

def upd (f : TF) (d : Option Tmp) (v : Value) : TF := match d with
  | none => f
  | some d => fun t => if t = d then some v else f t
theorem upd_cons (tm : TM) (d : Tmp) (v : Value) : upd (tget tm) (some d) v = tget ((d, v) :: tm) := by
  funext t
  by_cases h : t = d
  · subst h; simp [upd, tget]
  · have : Nat.beq d t = false := by rw [Bool.eq_false_iff]; intro hb; exact h (Nat.eq_of_beq_eq_true hb).symm
    simp [upd, tget, h, this]
theorem upd_comm {f : TF} {d e : Option Tmp} {u v : Value} (h : ∀ t, d = some t → e ≠ some t) : upd (upd f d u) e v = upd (upd f e v) d u := by
  cases d with
  | none => rfl
  | some d =>
    cases e with
    | none => rfl
    | some e =>
      have hne : e ≠ d := fun he => h d rfl (by rw [he])
      funext t
      simp only [upd]
      by_cases h1 : t = d
      · subst h1; simp [Ne.symm hne]
      · simp [h1]

def inB (n : Nat) (d : Option Tmp) : Bool := match d with
  | none => true
  | some t => Nat.blt t n
theorem Fit.put {n : Nat} {f : TF} {a : Act} (h : Fit n f a) {d : Option Tmp} (hd : inB n d = true) (v : Value) : Fit n (upd f d v) (a.put d v) := by
  cases d with
  | none => exact h
  | some t =>
    have ht : t < n := by simpa [inB] using hd
    have hm : mkK ≠ t := fun e => by subst e; exact absurd ht (Nat.not_lt.2 h.lt)
    refine ⟨by simp only [upd, if_neg hm]; exact h.d, by simpa [Act.put] using h.sz, h.lt, fun u x hn hu => ?_⟩
    simp only [upd] at hu
    split at hu
    · rename_i e; subst e; cases hu
      simp [Act.put, Array.getElem?_setIfInBounds, h.sz, ht]
    · rename_i e
      simp only [Act.put, Array.getElem?_setIfInBounds]
      rw [if_neg (fun e2 => e e2.symm)]
      exact h.v u x hn hu

/-- A frame that fits but for one slot may be set right there. -/
theorem Fit.unput {n : Nat} {f : TF} {a : Act} {d : Option Tmp} {v : Value} (h : Fit n (upd f d v) a) (hd : inB n d = true) : ∃ u, Fit n f (a.put d u) := by
  cases d with
  | none => exact ⟨undef, h⟩
  | some t =>
    have ht : t < n := by simpa [inB] using hd
    have hm : mkK ≠ t := fun e => by subst e; exact absurd ht (Nat.not_lt.2 h.lt)
    refine ⟨(f t).getD undef, by have := h.d; simp only [upd, if_neg hm] at this; exact this, by simpa [Act.put] using h.sz, h.lt, fun u x hn hu => ?_⟩
    simp only [Act.put, Array.getElem?_setIfInBounds]
    by_cases e : t = u
    · subst e
      rw [if_pos rfl, h.sz, if_pos ht, hu]
      rfl
    · rw [if_neg e]
      refine h.v u x hn ?_
      simp only [upd]
      rw [if_neg (fun e2 => e e2.symm)]
      exact hu

/-! Operations. -/
def Agree (o : Oper) (f : TF) (ρ : Operand → Value) : Prop := ∀ x ∈ o.op.operands.toList, ∀ v, evF f x = some v → ρ x = v
theorem Fit.agree {n : Nat} {f : TF} {a : Act} (h : Fit n f a) (o : Oper) : Agree o f a.eval := fun _ _ _ e => h.eval e

/-- The world has the known memory K, and the parts S. -/
def Rdw (K : Hl) (S : List HP) (w : World) : Prop := K.inn w ∧ ∃ h, sats S h ∧ h.disj K ∧ h.inn w
def Hl.le (K K' : Hl) : Prop := ∀ b x, K b = some x → K' b = some x
theorem Hl.le.refl (K : Hl) : K.le K := fun _ _ h => h
theorem Hl.le.trans {A B C : Hl} (h : A.le B) (k : B.le C) : A.le C := fun b x e => k b x (h b x e)
theorem Hl.le_add (K h : Hl) : K.le (K.add h) := fun b x e => by simp [Hl.add, e]
theorem Hl.le.inn {K K' : Hl} (h : K.le K') {w : World} (i : K'.inn w) : K.inn w := fun b x e => i b x (h b x e)
theorem Hl.le.disj {K K' h : Hl} (l : K.le K') (d : h.disj K') : h.disj K := fun b => by
  rcases d b with e | e
  · exact .inl e
  · right
    cases hk : K b with
    | none => rfl
    | some x => rw [l b x hk] at e; cases e
theorem Ow.rdw {W : World} {K : Hl} {L M : List HP} {w : World} (H : Ow W K (M ++ L) w) : Rdw K L w := by
  obtain ⟨h, s, d, i⟩ := H.mem
  obtain ⟨h1, h2, s1, s2, d', rfl⟩ := (sats_append _ _ _).1 s
  exact ⟨H.kn, h2, s2, (Hl.add_disj.1 d).2, ((Hl.inn_add d').1 i).2⟩
theorem Rdw.le {K K' : Hl} {S : List HP} {w : World} (h : Rdw K' S w) (l : K.le K') : Rdw K S w := ⟨l.inn h.1, by obtain ⟨x, s, d, i⟩ := h.2; exact ⟨x, s, l.disj d, i⟩⟩
theorem Rdw.perm {K : Hl} {S S' : List HP} {w : World} (h : Rdw K S w) (p : S.Perm S') : Rdw K S' w := ⟨h.1, by obtain ⟨x, s, d, i⟩ := h.2; exact ⟨x, sats_perm p x s, d, i⟩⟩
theorem Rdw.right {K : Hl} {S R : List HP} {w : World} (h : Rdw K (R ++ S) w) : Rdw K S w := ⟨h.1, by
  obtain ⟨x, s, d, i⟩ := h.2
  obtain ⟨h1, h2, s1, s2, d', rfl⟩ := (sats_append _ _ _).1 s
  exact ⟨h2, s2, (Hl.add_disj.1 d).2, ((Hl.inn_add d').1 i).2⟩⟩

/-- o reads only, and answers v. -/
def PE (P : Program) (K : Hl) (S : List HP) (o : Oper) (f : TF) (v : Value) : Prop := ∀ ρ w, Agree o f ρ → Rdw K S w → (execOp ρ o).run P w = .ok (.value v) w
/-- o makes one block. -/
def AL (P : Program) (o : Oper) (f : TF) (x : Obj) (g : Nat → Value) : Prop := ∀ ρ w, Agree o f ρ → (execOp ρ o).run P w = .ok (.value (g w.heap.size)) (w.alloc x)
/-- A step that ends well, rounds of a range over a function among them. -/
def wpI (P : Program) (o : Oper) (a : Act) (w : World) (next : Act → World → Prop) : Prop := o.wpIn Fence.wide 0 P a w next (fun _ _ _ => False)
/-- o acts: with the parts C for its own, reading R besides. -/
def AE (P : Program) (n : Nat) (K : Hl) (R C : List HP) (o : Oper) (f : TF) (Φ : Value → List HP → Prop) : Prop :=
  ∀ W K' w a next, K.le K' → Fit n f a → Ow W K' (C ++ R) w → (∀ v L' w', Φ v L' → Ow W K' (L' ++ R) w' → next (a.put o.dst v) w') → wpI P o a w next

def wantF (ops : Array Oper) (o : Oper) (f : TF) : Option Bool := match o.guard with
  | none => some true
  | some (j, b) => match (ops[j]?).bind (·.dst) with
    | none => none
    | some t => match fget f t with
      | some (.bool c) => some (c == b)
      | some (.tuple _) => some false
      | _ => none
theorem wantF_eq {ops : Array Oper} {o : Oper} {f : TF} {c : Bool} (h : wantF ops o f = some c) {n : Nat} {a : Act} (hf : Fit n f a) : Region.wanted o (yielded ops a.tmps) = c := by
  unfold wantF at h
  unfold Region.wanted yielded
  split at h
  · rename_i hg; rw [hg]; simpa using h
  · rename_i j b hg
    rw [hg]
    split at h
    · cases h
    · rename_i t ht
      split at h
      · rename_i c' hc
        obtain ⟨hc1, hc2⟩ := fget_some hc
        have := hf.v t _ hc1 hc2
        simp only [ht, Option.bind_some, this]
        simp only [Option.some.injEq] at h
        rw [← h]
        cases c' <;> cases b <;> rfl
      · rename_i vs hc
        obtain ⟨hc1, hc2⟩ := fget_some hc
        have := hf.v t _ hc1 hc2
        simp only [ht, Option.bind_some, this]
        simp only [Option.some.injEq] at h
        rw [← h]
        rfl
      · cases h

theorem wpI_of_wp {P : Program} {o : Oper} {a : Act} {w : World} {K : Act → World → Prop} (h : o.wp P a w K (fun _ _ _ => False)) : wpI P o a w K := by
  unfold Oper.wp at h
  refine ⟨fun f _ => trivial, ?_⟩
  show o.uponIn Fence.wide 0 P a K _ ((execOp a.eval o).run P w)
  generalize (execOp a.eval o).run P w = r at *
  cases r with
  | ok n w' =>
    cases n <;> simp only [Oper.upon, Oper.uponIn] at h ⊢ <;>
      first
        | exact h
        | exact ⟨fun h => by simp [Fence.wide] at h, callsIn_wide.2 h⟩
        | exact ⟨fun h => by simp [Fence.wide] at h, fun c cs _ => let ⟨v, w', r, s⟩ := h c cs; ⟨v, w', r, stepsIn_wide.2 s⟩⟩
  | halt x w' => cases x <;> simp only [Oper.upon, Oper.uponIn] at h ⊢ <;> exact h
theorem wpI_mono {P : Program} {o : Oper} {a : Act} {w : World} {K K' : Act → World → Prop} (h : ∀ a w, K a w → K' a w) (hh : wpI P o a w K) : wpI P o a w K' := Oper.wpIn_mono h hh

/-- What a step that runs to its end leaves is there. -/
theorem wpI_some {P : Program} {o : Oper} {a : Act} {w : World} {X : Prop} (h : wpI P o a w (fun _ _ => X)) : X := by
  replace h := h.2
  generalize (o.semAt Fence.wide.round a.eval).run P w = r at *
  cases r with
  | ok n w' =>
    cases n <;> simp only [Oper.uponIn] at h <;>
      first
        | exact h
        | exact h.elim
        | (obtain ⟨_, _, h⟩ := h
           obtain ⟨e, w'', fr, he, _⟩ := h [] (room_wide _)
           cases e with
           | returned v => exact he
           | panicked c => exact he.elim
           | outgrown => obtain ⟨_, _, h⟩ := he; exact h.elim)
        | (obtain ⟨_, _, h⟩ := h
           obtain ⟨e, w'', he, _⟩ := h default [] (room_wide _)
           cases e with
           | returned v => exact he
           | panicked c => exact he.elim
           | outgrown => obtain ⟨_, _, h⟩ := he; exact h.elim)
        | (obtain ⟨v, w'', h, _⟩ := h.2 default [] (room_wide _); exact h)
  | halt x w' => cases x <;> simp only [Oper.uponIn] at h <;> exact h.elim

theorem Act.put_same {a a' : Act} {d : Option Tmp} {v v' : Value} (hs : a.tmps.size = a'.tmps.size) (h : a.put d v = a.put d v') : a'.put d v = a'.put d v' := by
  cases d with
  | none => rfl
  | some t =>
    have h1 : a.tmps.setIfInBounds t v = a.tmps.setIfInBounds t v' := congrArg Act.tmps h
    by_cases ht : t < a.tmps.size
    · have h2 := congrArg (fun x => x[t]?) h1
      simp [Array.getElem?_setIfInBounds, ht] at h2
      rw [h2]
    · have ht' : ¬ t < a'.tmps.size := by rw [← hs]; exact ht
      simp only [Act.put, Act.mk.injEq, and_true]
      apply Array.ext_getElem?
      intro j
      simp only [Array.getElem?_setIfInBounds, if_neg ht']
/-- The same step in two frames that look alike to it. -/
theorem wpI_frame {P : Program} {o : Oper} {a a' : Act} {w : World} {N : Value → World → Prop} (he : execOp a'.eval o = execOp a.eval o) (hs : a.tmps.size = a'.tmps.size)
    (h : wpI P o a w (fun b w' => ∃ v, b = a.put o.dst v ∧ N v w')) : wpI P o a' w (fun b w' => ∃ v, b = a'.put o.dst v ∧ N v w') := by
  refine ⟨fun f _ => trivial, ?_⟩
  replace h := h.2
  replace h : o.uponIn Fence.wide 0 P a _ _ ((execOp a.eval o).run P w) := h
  show o.uponIn Fence.wide 0 P a' _ _ ((execOp a'.eval o).run P w)
  rw [he]
  have key : ∀ v w', (∃ v', a.put o.dst v = a.put o.dst v' ∧ N v' w') → ∃ v', a'.put o.dst v = a'.put o.dst v' ∧ N v' w' := fun v w' ⟨v', h1, h2⟩ => ⟨v', Act.put_same hs h1, h2⟩
  cases hr : (execOp a.eval o).run P w with
  | ok n w' =>
    rw [hr] at h
    cases n <;> simp only [Oper.uponIn] at h ⊢ <;>
      first
        | exact key _ _ h
        | exact h.elim
        | (obtain ⟨v', h1, _⟩ := h
           have h2 := congrArg (fun x => x.defers.length) h1
           cases hd : o.dst <;> simp [hd, Act.put] at h2)
        | exact ⟨h.1, CallsIn.mono h.2 (fun e w'' he => by
            cases e with
            | returned v => exact key _ _ he
            | panicked c => exact he.elim
            | outgrown => exact he)⟩
        | exact ⟨h.1, RoundIn.mono h.2 (fun e w'' he => by
            cases e with
            | returned v => exact key _ _ he
            | panicked c => exact he.elim
            | outgrown => exact he)⟩
        | exact ⟨h.1, RowsIn.mono h.2 (fun _ _ he => key _ _ he)⟩
  | halt x w' =>
    rw [hr] at h
    cases x <;> simp only [Oper.uponIn] at h <;> exact h.elim

/-- The wide fence, in a round or in none. -/
abbrev wideR (ro : Option Nat) : Fence := { Fence.wide with round := ro }
/-- The step in whatever frame. -/
theorem wpI_in {P : Program} {o : Oper} {a : Act} {w : World} {ro : Option Nat} {N : Value → World → Prop} {Q : Exit → Act → World → Prop} (h : wpI P o a w (fun b w' => ∃ v, b = a.put o.dst v ∧ N v w')) : o.wpIn (wideR ro) 0 P a w (fun b w' => ∃ v, b = a.put o.dst v ∧ N v w') Q := by
  refine ⟨fun f _ => trivial, ?_⟩
  replace h := h.2
  replace h : o.uponIn Fence.wide 0 P a _ _ ((execOp a.eval o).run P w) := h
  have hsem : (o.semAt ro a.eval).run P w = (execOp a.eval o).run P w := by
    by_cases hd : ∃ c, o.op = .defer c
    · exfalso
      obtain ⟨c, hc⟩ := hd
      have he : execOp a.eval o = (do let d ← resolve a.eval c o.type; pure (.defer d)) := by
        unfold execOp; rw [hc]
      rw [he] at h
      cases hr : (resolve a.eval c o.type).run P w with
      | ok d w' =>
        simp only [Sem.run_bind, hr, Result.andThen, Sem.run_pure, Oper.uponIn] at h
        obtain ⟨v', h1, _⟩ := h
        have h2 := congrArg (fun x => x.defers.length) h1
        cases hd : o.dst <;> simp [hd, Act.put] at h2
      | halt x w' =>
        simp only [Sem.run_bind, hr, Result.andThen] at h
        cases x <;> simp only [Oper.uponIn] at h <;> exact h.elim
    · rw [Oper.semAt_eq ro a.eval o (fun c hc => hd ⟨c, hc⟩)]
  show o.uponIn (wideR ro) 0 P a _ _ ((o.semAt ro a.eval).run P w)
  rw [hsem]
  generalize (execOp a.eval o).run P w = r at *
  cases r with
  | ok n w' =>
    cases n <;> simp only [Oper.uponIn] at h ⊢ <;>
      first
        | exact h
        | exact ⟨fun h => by simp [Fence.wide] at h, CallsIn.mono (F := wideR ro) h.2 (fun e w'' he => by
            cases e with
            | returned v => exact he
            | panicked c => exact he.elim
            | outgrown => obtain ⟨_, _, h⟩ := he; exact h.elim)⟩
        | exact ⟨fun h => by simp [Fence.wide] at h, RoundIn.mono (F := wideR ro) h.2 (fun e w'' he => by
            cases e with
            | returned v => exact he
            | panicked c => exact he.elim
            | outgrown => obtain ⟨_, _, h⟩ := he; exact h.elim)⟩
        | exact ⟨fun h => by simp [Fence.wide] at h, h.2⟩
  | halt x w' => cases x <;> simp only [Oper.uponIn] at h <;> exact h.elim
theorem wpI_val {P : Program} {o : Oper} {a : Act} {w w' : World} {ro : Option Nat} {N : Act → World → Prop} {Q : Exit → Act → World → Prop} {v : Value} (h : (execOp a.eval o).run P w = .ok (.value v) w') (hn : N (a.put o.dst v) w') : o.wpIn (wideR ro) 0 P a w N Q :=
  Oper.wpIn_mono (K := fun b x => ∃ u, b = a.put o.dst u ∧ u = v ∧ x = w') (fun b x ⟨u, e1, e2, e3⟩ => by subst e1 e2 e3; exact hn)
    (wpI_in (N := fun u x => u = v ∧ x = w') (wpI_of_wp (by unfold Oper.wp; rw [h]; exact ⟨v, rfl, rfl, rfl⟩)))
end Go.Pm
