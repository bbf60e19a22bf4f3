/-
  Base, Args, Slice, Read, More: merged.
-/
import Derived.WalkKit
import Derived.Below
import Derived.Deep.Draws
import Derived.Lib.Hide
import Derived.Deep.MidRow
import Derived.ProofKit
import Derived.OpenShut
import Derived.Deep.Slices
import Derived.ChangeOld
import Derived.Laws.AppendOwnNone
import Derived.Laws.BytesArg
import Derived.Deep.QuietTactic
namespace Go.Pm
set_option linter.unusedSimpArgs false
set_option linter.unusedVariables false
open Go.RowKit

def Blk (w : World) (b : Nat) (cs : Array Value) (T : TypeId) : Prop := w.heap[b]? = some (.cells cs T (0, 0))

theorem Blk.lt {w : World} {b : Nat} {cs : Array Value} {T : TypeId} (h : Blk w b cs T) : b < w.heap.size := by
  rcases Nat.lt_or_ge b w.heap.size with h' | h'
  · exact h'
  · have : w.heap[b]? = none := Array.getElem?_eq_none h'
    rw [Blk, this] at h
    cases h

theorem Blk.cell {w : World} {b : Nat} {cs : Array Value} {T : TypeId} (h : Blk w b cs T) (i : Nat) : w.cell? ⟨b, i, none⟩ = cs[i]? := by
  unfold World.cell?
  rw [show w.heap[(⟨b, i, none⟩ : Addr).block]? = some (.cells cs T (0, 0)) from h]
  rfl

theorem Blk.free {w : World} {b : Nat} {cs : Array Value} {T : TypeId} (h : Blk w b cs T) (i : Nat) : w.frozen? ⟨b, i, none⟩ = false := by
  unfold World.frozen?
  rw [show w.heap[(⟨b, i, none⟩ : Addr).block]? = some (.cells cs T (0, 0)) from h]
  simp

theorem heap_setCell (w : World) (b i : Nat) (v : Value) (k : Nat) (h : k ≠ b) : (w.setCell ⟨b, i, none⟩ v).heap[k]? = w.heap[k]? :=
  Below.heap_setCell _ _ _ _ h

theorem Blk.set {w : World} {b : Nat} {cs : Array Value} {T : TypeId} (h : Blk w b cs T) (i : Nat) (v : Value) :
    Blk (w.setCell ⟨b, i, none⟩ v) b (cs.setIfInBounds i v) T := by
  unfold Blk at *
  simp [World.setCell, Array.getElem?_modify, h]

theorem Blk.new (w : World) (cs : Array Value) (T : TypeId) : Blk (w.alloc (.cells cs T)) w.heap.size cs T := by
  show (w.heap.push (.cells cs T))[w.heap.size]? = _
  simp

theorem Blk.alloc {w : World} {b : Nat} {cs : Array Value} {T : TypeId} (h : Blk w b cs T) (o : Obj) : Blk (w.alloc o) b cs T := by
  have hl := h.lt
  unfold Blk at *
  rw [Below.heap_alloc _ _ _ hl]
  exact h

theorem Blk.range {w : World} {b : Nat} {cs : Array Value} {T : TypeId} (h : Blk w b cs T) : w.rangeAt b 0 cs.toList := fun j v hv => by
  rw [Nat.zero_add, h.cell]
  simpa using hv
theorem Blk.drew {w : World} {b : Nat} {cs : Array Value} {T : TypeId} (h : Blk w b cs T) : Blk w.drew b cs T := h
structure Tp (w w' : World) : Prop where
  tape : w'.tape = w.tape
  drawn : w.drawn ≤ w'.drawn
theorem Tp.refl (w : World) : Tp w w := ⟨rfl, Nat.le_refl _⟩
theorem Tp.trans {a b c : World} (h : Tp b c) (k : Tp a b) : Tp a c := ⟨h.tape.trans k.tape, Nat.le_trans k.drawn h.drawn⟩
theorem Tp.drew {a w : World} (h : Tp a w) : Tp a w.drew := ⟨h.tape, Nat.le_succ_of_le h.drawn⟩
theorem Tp.same {a w w' : World} (h : Tp a w) (ht : w'.tape = w.tape) (hd : w'.drawn = w.drawn) : Tp a w' := ⟨ht.trans h.tape, by rw [hd]; exact h.drawn⟩

structure Only (bs : List Nat) (w w' : World) : Prop where
  os : w'.os = w.os
  tape : Tp w w'
  output : w'.output = w.output
  size : w.heap.size ≤ w'.heap.size
  block : ∀ k, k < w.heap.size → k ∉ bs → w'.heap[k]? = w.heap[k]?

theorem Only.refl (bs : List Nat) (w : World) : Only bs w w := ⟨rfl, Tp.refl _, rfl, Nat.le_refl _, fun _ _ _ => rfl⟩

theorem Only.trans {bs bs' : List Nat} {a b c : World} (h : Only bs a b) (k : Only bs' b c) (hb : ∀ x, x ∈ bs' → x ∈ bs ∨ a.heap.size ≤ x) : Only bs a c :=
  ⟨k.os.trans h.os, k.tape.trans h.tape, k.output.trans h.output, Nat.le_trans h.size k.size, fun i hi hn =>
    (k.block i (Nat.lt_of_lt_of_le hi h.size) (fun hm => by
      rcases hb i hm with h1 | h1
      · exact hn h1
      · omega)).trans (h.block i hi hn)⟩

theorem Only.then {bs : List Nat} {a b c : World} (h : Only bs a b) (k : Only bs b c) : Only bs a c := h.trans k (fun _ hx => .inl hx)

theorem Only.mono {bs bs' : List Nat} {w w' : World} (h : Only bs w w') (hb : ∀ x, x ∈ bs → x ∈ bs' ∨ w.heap.size ≤ x) : Only bs' w w' :=
  ⟨h.os, h.tape, h.output, h.size, fun k hk hn => h.block k hk (fun hm => by
    rcases hb k hm with h1 | h1
    · exact hn h1
    · omega)⟩

theorem Only.drew {bs : List Nat} {a w : World} (h : Only bs a w) : Only bs a w.drew := ⟨h.os, h.tape.drew, h.output, h.size, h.block⟩
theorem Only.alloc {bs : List Nat} {a w : World} (h : Only bs a w) (o : Obj) : Only bs a (w.alloc o) :=
  h.then ⟨rfl, (Tp.refl w).same rfl rfl, rfl, by simp, fun k hk _ => Below.heap_alloc _ _ _ hk⟩

theorem Only.setCell {bs : List Nat} {a w : World} (h : Only bs a w) {b : Nat} (hb : b ∈ bs ∨ a.heap.size ≤ b) (i : Nat) (v : Value) : Only bs a (w.setCell ⟨b, i, none⟩ v) :=
  h.trans (bs' := [b]) ⟨rfl, (Tp.refl w).same rfl rfl, rfl, by simp [World.setCell], fun k _ hn => heap_setCell _ _ _ _ _ (by simpa using hn)⟩ (by simpa using hb)

theorem Only.below {bs : List Nat} {w w' : World} {B : Nat} (h : Only bs w w') (hB : B ≤ w.heap.size) (hb : ∀ x, x ∈ bs → B ≤ x) : Below B w w' :=
  ⟨h.os, h.tape.tape, h.output, h.size, fun k hk => h.block k (by omega) (fun hm => by have := hb k hm; omega)⟩

theorem Only.belowNil {w w' : World} (h : Only [] w w') : Below w.heap.size w w' := h.below (Nat.le_refl _) (by simp)

theorem Blk.keep {bs : List Nat} {w w' : World} {b : Nat} {cs : Array Value} {T : TypeId} (h : Blk w b cs T) (ho : Only bs w w') (hb : b ∉ bs) : Blk w' b cs T := by
  have hl := h.lt
  unfold Blk at *
  rw [ho.block b hl hb]
  exact h

theorem Only.cell {bs : List Nat} {w w' : World} (ho : Only bs w w') {b : Nat} (hl : b < w.heap.size) (hb : b ∉ bs) (i : Nat) : w'.cell? ⟨b, i, none⟩ = w.cell? ⟨b, i, none⟩ :=
  World.cell?_of_block (w := w) (ho.block b hl hb)

theorem Only.frozen {bs : List Nat} {w w' : World} (ho : Only bs w w') {b : Nat} (hl : b < w.heap.size) (hb : b ∉ bs) (i : Nat) : w'.frozen? ⟨b, i, none⟩ = w.frozen? ⟨b, i, none⟩ :=
  World.frozen?_of_block (w := w) (ho.block b hl hb)

def upto : Code → Nat → Option (List Code × List Code)
  | .seq a b, l => match upto a l with
    | some (bs, rs) => some (bs, rs ++ [b])
    | none => match upto b l with
      | some (bs, rs) => some (a :: bs, rs)
      | none => none
  | .label l', l => if l' == l then some ([.label l'], []) else none
  | _, _ => none

theorem no_upto : ∀ (c : Code) (l : Nat), upto c l = none → findLabel c l = none := by
  intro c l
  induction c with
  | seq x y ihx ihy =>
    intro h
    simp only [upto] at h
    simp only [findLabel]
    cases hx : upto x l with
    | some p => simp [hx] at h
    | none =>
      simp only [hx] at h
      rw [ihx hx]
      cases hy : upto y l with
      | some p => simp [hy] at h
      | none => exact ihy hy
  | label l' =>
    intro h
    simp only [upto] at h
    simp only [findLabel]
    split at h
    · simp at h
    · rename_i hl; simp [hl]
  | _ => intro _; rfl

theorem no_label : ∀ (c : Code) (l : Nat) (bs rs : List Code), upto c l = some (bs, rs) → findLabel c l = none → False := by
  intro c l
  induction c with
  | seq x y ihx ihy =>
    intro bs rs h hf
    simp only [upto] at h
    simp only [findLabel] at hf
    cases hx : upto x l with
    | some p =>
      obtain ⟨b1, r1⟩ := p
      cases hfx : findLabel x l with
      | some r => simp [hfx] at hf
      | none => exact ihx b1 r1 hx hfx
    | none =>
      simp only [hx] at h
      simp only [no_upto x l hx] at hf
      cases hy : upto y l with
      | some p =>
        obtain ⟨b1, r1⟩ := p
        exact ihy b1 r1 hy hf
      | none => simp [hy] at h
  | label l' =>
    intro bs rs h hf
    simp only [upto] at h
    simp only [findLabel] at hf
    split at h
    · rename_i hl; simp [hl] at hf
    · simp at h
  | _ => intro _ _ h; simp [upto] at h

end Go.Pm
namespace Go.Pm
set_option linter.unusedSimpArgs false
set_option linter.unusedVariables false
open Go.RowKit

theorem addr_add_add (a : Addr) (m n : Nat) : (a.add m).add n = a.add (m + n) := by
  unfold Addr.add
  by_cases h1 : m = 0
  · subst h1; simp
  · by_cases h2 : n = 0
    · subst h2; simp
    · simp [h1, h2, Nat.add_assoc]

theorem addr_add_plain (b off n : Nat) : (⟨b, off, none⟩ : Addr).add n = ⟨b, off + n, none⟩ := by
  unfold Addr.add
  by_cases h : n = 0
  · subst h; rfl
  · simp [h]

def Rd (P : Program) (w : World) : Nat → TypeId → List Value → Prop
  | 0, _, _ => False
  | n + 1, t, cs => match P.underlying t with
    | some .bool => ∃ b, cs = [.bool b]
    | some (.int k) => ∃ m, cs = [.int k m] ∧ (Lit.int k m).wf = true
    | some .string => ∃ s : ByteArray, cs = [.string s] ∧ s.size ≤ maxLen
    | some (.slice e) => cs = [.slice none 0 0] ∨ ∃ (a : Addr) (len cap : Nat), cs = [.slice (some a) len cap] ∧ len ≤ cap ∧ cap ≤ maxLen ∧
        ∀ i, i < cap → ∃ ds : List Value, ds.length = P.cellsOf e ∧ (∀ j, j < ds.length → w.cell? (a.add (i * P.cellsOf e + j)) = ds[j]?) ∧ Rd P w n e ds
    | some (.struct fs) => cs.length = P.cellsOf t ∧ ∀ f, f ∈ fs.toList → Rd P w n f.type ((cs.drop f.offset).take (P.cellsOf f.type))
    | some (.array m e) => cs.length = P.cellsOf t ∧ ∀ i, i < m → Rd P w n e ((cs.drop (i * P.cellsOf e)).take (P.cellsOf e))
    | _ => True

theorem Rd.ofTrod {H : Type} {enc : TypeId × Value → H} {P : Program} {w : World} {base : Nat} {held : Bool} : ∀ (n : Nat) (t : TypeId) (cs : List Value) (x : DataW H × List MemPlace),
    DataW.trod enc P w base (fun _ => true) held n t cs = some x → Rd P w n t cs := by
  intro n
  induction n with
  | zero => intro t cs x h; simp [DataW.trod] at h
  | succ n ih =>
    intro t cs x h
    unfold Rd
    split
    · rename_i hu
      obtain ⟨b, rfl, _⟩ := DataW.trod_bool hu h
      exact ⟨b, rfl⟩
    · rename_i k hu
      obtain ⟨m, rfl, _, hw⟩ := DataW.trod_int hu h
      exact ⟨m, rfl, hw⟩
    · rename_i hu
      obtain ⟨s, rfl, _, hw⟩ := DataW.trod_string hu h
      exact ⟨s, rfl, hw⟩
    · rename_i e hu
      rcases DataW.trod_slice hu h with ⟨h1, _⟩ | ⟨a, len, cap, elems, rest, m, hm, hcs, _, _, hl, hcm, hel, he, hr, _⟩
      · exact .inl h1
      · obtain rfl : m = n := by omega
        obtain ⟨hrl, hr⟩ := hr rfl
        refine .inr ⟨a, len, cap, hcs, hl, hcm, fun i hi => ?_⟩
        have key : ∃ y, (w.cells? base (a.add (i * P.cellsOf e)) (P.cellsOf e)).bind (DataW.trod enc P w base (fun _ => true) held m e) = some y := by
          by_cases hil : i < len
          · rw [he i hil, List.getElem?_eq_getElem (by omega)]
            exact ⟨_, rfl⟩
          · have h4 := hr (i - len) (by omega)
            rw [show len + (i - len) = i by omega, List.getElem?_eq_getElem (by omega)] at h4
            exact ⟨_, h4⟩
        obtain ⟨y, hy⟩ := key
        cases hc : w.cells? base (a.add (i * P.cellsOf e)) (P.cellsOf e) with
        | none => simp [hc] at hy
        | some ds =>
          simp only [hc, Option.bind_some] at hy
          obtain ⟨_, hlen, hcell⟩ := World.cells?_some hc
          refine ⟨ds, hlen, fun j hj => ?_, ih _ _ _ hy⟩
          rw [← hcell j (by omega), addr_add_add]
    · rename_i fs hu
      obtain ⟨xs, m, hm, _, hl, hxl, hf⟩ := DataW.trod_struct hu h
      obtain rfl : m = n := by omega
      refine ⟨hl, fun f hfm => ?_⟩
      obtain ⟨i, hi⟩ := List.getElem?_of_mem hfm
      have hi' : fs[i]? = some f := by simpa using hi
      have h3 := hf i f hi'
      have hil : i < xs.length := by
        have := (List.getElem?_eq_some_iff.1 hi).1
        simp at this
        omega
      rw [List.getElem?_eq_getElem hil] at h3
      exact ih _ _ _ h3
    · rename_i m e hu
      obtain ⟨xs, m', hm, _, hl, hxl, hf⟩ := DataW.trod_array hu h
      obtain rfl : m' = n := by omega
      refine ⟨hl, fun i hi => ?_⟩
      have h3 := hf i hi
      rw [List.getElem?_eq_getElem (by omega)] at h3
      exact ih _ _ _ h3
    · trivial

theorem Rd.ofTrod' {H : Type} {enc : TypeId × Value → H} {P : Program} {w : World} {base : Nat} {held : Bool} {t : TypeId} {v : Value} {d : DataW H} {ps : List MemPlace}
    (h : DataW.Trod enc P w base (fun _ => true) held t v d ps) : ∃ n, Rd P w n t v.cells.toList := by
  obtain ⟨n, h⟩ := h
  exact ⟨n, Rd.ofTrod n _ _ _ h⟩

theorem Rd.keep {P : Program} {w w' : World} (hb : ∀ k, k < w.heap.size → w'.heap[k]? = w.heap[k]?) : ∀ (n : Nat) (t : TypeId) (cs : List Value), Rd P w n t cs → Rd P w' n t cs := by
  intro n
  induction n with
  | zero => intro t cs h; exact h
  | succ n ih =>
    intro t cs h
    unfold Rd at h ⊢
    split
    · rename_i hu; simpa only [hu] using h
    · rename_i k hu; simpa only [hu] using h
    · rename_i hu; simpa only [hu] using h
    · rename_i e hu
      simp only [hu] at h
      rcases h with h | ⟨a, len, cap, hcs, hl, hm, he⟩
      · exact .inl h
      · refine .inr ⟨a, len, cap, hcs, hl, hm, fun i hi => ?_⟩
        obtain ⟨ds, h1, h2, h3⟩ := he i hi
        refine ⟨ds, h1, fun j hj => ?_, ih _ _ h3⟩
        have h4 := h2 j hj
        have hlt : (a.add (i * P.cellsOf e + j)).block < w.heap.size := by
          rw [List.getElem?_eq_getElem hj] at h4
          exact World.block_lt_of_cell? w _ h4
        rw [World.cell?_of_block (w := w) (hb _ hlt)]
        exact h4
    · rename_i fs hu
      simp only [hu] at h
      exact ⟨h.1, fun f hf => ih _ _ (h.2 f hf)⟩
    · rename_i m e hu
      simp only [hu] at h
      exact ⟨h.1, fun i hi => ih _ _ (h.2 i hi)⟩
    · trivial

theorem Rd.only {P : Program} {w w' : World} {n : Nat} {t : TypeId} {cs : List Value} (h : Rd P w n t cs) (ho : Only [] w w') : Rd P w' n t cs :=
  Rd.keep (fun k hk => ho.block k hk (by simp)) n t cs h

theorem Rd.int {P : Program} {w : World} {n : Nat} {t : TypeId} {cs : List Value} {k : IntKind} (h : Rd P w n t cs) (hu : P.underlying t = some (.int k)) : ∃ m, cs = [.int k m] ∧ (Lit.int k m).wf = true := by
  cases n with
  | zero => exact h.elim
  | succ n => unfold Rd at h; simpa only [hu] using h

theorem Rd.i64 {P : Program} {w : World} {n : Nat} {t : TypeId} {a : Int} (h : Rd P w n t [.int .i64 a]) (hu : P.underlying t = some (.int .i64)) : -9223372036854775808 ≤ a ∧ a ≤ 9223372036854775807 := by
  obtain ⟨m, h1, h2⟩ := h.int hu
  cases h1
  exact bounds_i64 h2

theorem Rd.bool {P : Program} {w : World} {n : Nat} {t : TypeId} {cs : List Value} (h : Rd P w n t cs) (hu : P.underlying t = some .bool) : ∃ b, cs = [.bool b] := by
  cases n with
  | zero => exact h.elim
  | succ n => unfold Rd at h; simpa only [hu] using h

theorem Rd.string {P : Program} {w : World} {n : Nat} {t : TypeId} {cs : List Value} (h : Rd P w n t cs) (hu : P.underlying t = some .string) : ∃ s : ByteArray, cs = [.string s] ∧ s.size ≤ maxLen := by
  cases n with
  | zero => exact h.elim
  | succ n => unfold Rd at h; simpa only [hu] using h

theorem Rd.struct {P : Program} {w : World} {n : Nat} {t : TypeId} {cs : List Value} {fs : Array Field} (h : Rd P w n t cs) (hu : P.underlying t = some (.struct fs)) :
    cs.length = P.cellsOf t ∧ ∀ f, f ∈ fs.toList → ∃ m, Rd P w m f.type ((cs.drop f.offset).take (P.cellsOf f.type)) := by
  cases n with
  | zero => exact h.elim
  | succ n => unfold Rd at h; simp only [hu] at h; exact ⟨h.1, fun f hf => ⟨n, h.2 f hf⟩⟩

theorem Rd.field {P : Program} {w : World} {n : Nat} {t : TypeId} {cs : List Value} {fs : Array Field} (h : Rd P w n t cs) (hu : P.underlying t = some (.struct fs)) (i : Nat) (t' : TypeId) (off sz : Nat)
    (h1 : (fs[i]?).map (fun f => (f.type, f.offset)) = some (t', off)) (h2 : P.cellsOf t' = sz) : ∃ m, Rd P w m t' ((cs.drop off).take sz) := by
  obtain ⟨_, hf⟩ := h.struct hu
  cases hi : fs[i]? with
  | none => simp [hi] at h1
  | some f =>
    simp only [hi, Option.map_some, Option.some.injEq, Prod.mk.injEq] at h1
    obtain ⟨rfl, rfl⟩ := h1
    subst h2
    exact hf f (List.mem_of_getElem? (i := i) (by simpa using hi))

theorem Rd.u32 {P : Program} {w : World} {n : Nat} {t : TypeId} {cs : List Value} (h : Rd P w n t cs) (hu : P.underlying t = some (.int .u32)) : ∃ m, cs = [.int .u32 m] ∧ 0 ≤ m ∧ m ≤ 4294967295 := by
  obtain ⟨m, h1, h2⟩ := h.int hu
  have := bounds_u32 h2
  exact ⟨m, h1, this⟩
theorem Rd.slice {P : Program} {w : World} {n : Nat} {t e : TypeId} {cs : List Value} (h : Rd P w n t cs) (hu : P.underlying t = some (.slice e)) :
    cs = [.slice none 0 0] ∨ ∃ (a : Addr) (len cap m : Nat), cs = [.slice (some a) len cap] ∧ len ≤ cap ∧ cap ≤ maxLen ∧
        ∀ i, i < cap → ∃ ds : List Value, ds.length = P.cellsOf e ∧ (∀ j, j < ds.length → w.cell? (a.add (i * P.cellsOf e + j)) = ds[j]?) ∧ Rd P w m e ds := by
  cases n with
  | zero => exact h.elim
  | succ n =>
    unfold Rd at h
    simp only [hu] at h
    rcases h with h | ⟨a, len, cap, h1, h2, h3, h4⟩
    · exact .inl h
    · exact .inr ⟨a, len, cap, n, h1, h2, h3, h4⟩

theorem choose_lt {α : Type} [Inhabited α] {p : Nat → α → Prop} {n : Nat} (h : ∀ i, i < n → ∃ x, p i x) : ∃ f : Nat → α, ∀ i, i < n → p i (f i) := by
  classical
  refine ⟨fun i => if hi : i < n then (h i hi).choose else default, fun i hi => ?_⟩
  simp only [hi, dite_true]
  exact (h i hi).choose_spec

end Go.Pm
namespace Go.Pm
set_option linter.unusedSimpArgs false
set_option linter.unusedVariables false
open Go.RowKit

structure El (P : Program) (t e : TypeId) (size bytes : Nat) : Prop where
  sl : P.underlying t = some (.slice e)
  inf : ∃ i z, P.info? e = some i ∧ i.zero = some z ∧ i.size = size ∧ i.bytes = bytes ∧ z.cells.size = size
  pos : 0 < size
  bpos : 0 < bytes

theorem El.mk' {P : Program} {t e : TypeId} {size bytes : Nat} {z : Value} (sl : P.underlying t = some (.slice e)) (h : (P.info? e).map (fun i => (i.zero, i.size, i.bytes)) = some (some z, size, bytes)) (hz : z.cells.size = size) (pos : 0 < size) (bpos : 0 < bytes) : El P t e size bytes := by
  obtain ⟨i, h1, h2, h3, h4⟩ := info_parts h
  exact ⟨sl, ⟨i, z, h1, h2, h3, h4, hz⟩, pos, bpos⟩

def Vw (w : World) (v : Value) (sz n : Nat) (xs : List Value) : Prop :=
  ∃ a cap, v = .slice a n cap ∧ xs.length = n * sz ∧ n ≤ cap ∧ cap ≤ maxLen ∧ (a = none → n = 0 ∧ cap = 0) ∧ (xs ≠ [] → ∃ b off, a = some ⟨b, off, none⟩ ∧ ∀ j u, xs[j]? = some u → w.cell? ⟨b, off + j, none⟩ = some u)

theorem Vw.nil (w : World) (sz : Nat) : Vw w (.slice none 0 0) sz 0 [] := ⟨none, 0, rfl, by simp, Nat.le_refl _, by simp [maxLen], fun _ => ⟨rfl, rfl⟩, fun h => (h rfl).elim⟩

theorem Vw.keep {w w' : World} {v : Value} {sz n : Nat} {xs : List Value} {bs : List Nat} (h : Vw w v sz n xs) (ho : Only bs w w') (hb : ∀ b, v.ownBlock = some b → b ∉ bs) : Vw w' v sz n xs := by
  obtain ⟨a, cap, rfl, h1, h2, h3, h4, h5⟩ := h
  refine ⟨a, cap, rfl, h1, h2, h3, h4, fun hne => ?_⟩
  obtain ⟨b, off, rfl, hc⟩ := h5 hne
  refine ⟨b, off, rfl, fun j u hu => ?_⟩
  have := hc j u hu
  rw [ho.cell (World.block_lt_of_cell? w _ this) (hb b rfl)]
  exact this

theorem Vw.only {w w' : World} {v : Value} {sz n : Nat} {xs : List Value} (h : Vw w v sz n xs) (ho : Only [] w w') : Vw w' v sz n xs := h.keep ho (by simp)

theorem own_vw {w : World} {base : Nat} {e : TypeId} {sz : Nat} {v : Value} {n : Nat} {xs : List Value} (h : w.ownsRow base e sz v n xs) : Vw w v sz n xs := by
  obtain ⟨hl, h⟩ := h
  rcases h with ⟨rfl, rfl⟩ | ⟨g, cap, cur, rfl, hb, hg, hnc, hcm, hcs, ht⟩
  · exact ⟨none, 0, rfl, hl, Nat.le_refl _, by simp [maxLen], fun _ => ⟨rfl, rfl⟩, fun hne => (hne (by simpa using hl)).elim⟩
  · refine ⟨_, cap, rfl, hl, hnc, hcm, (fun h => by cases h), (fun _ => ⟨g, 0, rfl, fun j u hu => ?_⟩)⟩
    have hb2 : Blk w g cur e := hg
    rw [Nat.zero_add, hb2.cell]
    rw [← ht, List.getElem?_take] at hu
    split at hu
    · simpa using hu
    · cases hu

theorem Vw.lit (w : World) (cs : Array Value) (e : TypeId) (n : Nat) (hs : cs.size = n) (hm : n ≤ maxLen) : Vw (w.alloc (.cells cs e)) (.slice (some ⟨w.heap.size, 0, none⟩) n n) 1 n cs.toList := by
  refine ⟨_, n, rfl, by simpa using hs, Nat.le_refl _, hm, (fun h => by cases h), (fun _ => ⟨w.heap.size, 0, rfl, fun j u hu => ?_⟩)⟩
  rw [Nat.zero_add, (Blk.new w cs e).cell]
  simpa using hu

theorem own_keep {w w' : World} {bs : List Nat} {base : Nat} {e : TypeId} {sz : Nat} {v : Value} {n : Nat} {xs : List Value} (h : w.ownsRow base e sz v n xs) (ho : Only bs w w') (hb : ∀ b, v.ownBlock = some b → b ∉ bs) : w'.ownsRow base e sz v n xs := by
  refine ⟨h.1, ?_⟩
  rcases h.2 with hn | ⟨g, cap, cur, rfl, hbg, hg, rest⟩
  · exact .inl hn
  · refine .inr ⟨g, cap, cur, rfl, hbg, ?_, rest⟩
    rw [ho.block g (Array.getElem?_eq_some_iff.1 hg).1 (hb g rfl)]
    exact hg

theorem own_lit {w : World} {base : Nat} {e : TypeId} {sz : Nat} (cs : Array Value) (n : Nat) (hb : base ≤ w.heap.size) (hm : n ≤ maxLen) (hs : cs.size = n * sz) :
    (w.alloc (.cells cs e)).ownsRow base e sz (.slice (some ⟨w.heap.size, 0, none⟩) n n) n cs.toList :=
  World.ownsRow_lit w cs n hb hm hs

structure Bld (e : TypeId) (sz base : Nat) (w w' : World) (v v' : Value) (n : Nat) (xs : List Value) : Prop where
  own : w'.ownsRow base e sz v' n xs
  only : Only v.ownBlock.toList w w'
  lies : v'.ownBlock = v.ownBlock ∨ ∀ g, v'.ownBlock = some g → w.heap.size ≤ g

theorem Bld.refl {e : TypeId} {sz base : Nat} {w : World} {v : Value} {n : Nat} {xs : List Value} (h : w.ownsRow base e sz v n xs) : Bld e sz base w w v v n xs := ⟨h, Only.refl _ _, .inl rfl⟩

theorem Bld.trans {e : TypeId} {sz base : Nat} {a b c : World} {v v1 v2 : Value} {n n2 : Nat} {xs xs2 : List Value} (h : Bld e sz base a b v v1 n xs) (k : Bld e sz base b c v1 v2 n2 xs2) : Bld e sz base a c v v2 n2 xs2 := by
  refine ⟨k.own, h.only.trans k.only ?_, ?_⟩
  · intro x hx
    rcases h.lies with h1 | h1
    · rw [h1] at hx; exact .inl hx
    · exact .inr (h1 x (by simpa using hx))
  · rcases k.lies with h1 | h1
    · rw [h1]; exact h.lies
    · exact .inr (fun g hg => Nat.le_trans h.only.size (h1 g hg))

theorem own_ge {w : World} {base : Nat} {e : TypeId} {sz : Nat} {v : Value} {n : Nat} {xs : List Value} (h : w.ownsRow base e sz v n xs) : ∀ g, v.ownBlock = some g → base ≤ g := fun g hg => (h.lt g hg).1
theorem own_lt {w : World} {base : Nat} {e : TypeId} {sz : Nat} {v : Value} {n : Nat} {xs : List Value} (h : w.ownsRow base e sz v n xs) : ∀ g, v.ownBlock = some g → g < w.heap.size := fun g hg => (h.lt g hg).2

theorem run_app {P : Program} {w : World} {t e : TypeId} {size bytes : Nat} (E : El P t e size bytes) (ty : TypeId) {base : Nat} {v : Value} {n : Nat} {xs : List Value} (hown : w.ownsRow base e size v n xs)
    (ad : Addr) (m c : Nat) (news : List Value) (hl : news.length = m * size) (hnews : ∀ j u, news[j]? = some u → w.cell? (ad.add j) = some u) (h1 : ∀ u ∈ news, u.oneCell' = true)
    (hbytes : (n + m) * bytes ≤ 140737488355328) (hbase : base ≤ w.heap.size) :
    ∃ v' w', (Builtin.append_ #[t, t] ty #[v, .slice (some ad) m c]).run P w = .ok v' w' ∧ Bld e size base w w' v v' (n + m) (xs ++ news) := by
  obtain ⟨i, z, hi, hz, hsize, hby, hzs⟩ := E.inf
  have hb := E.bpos
  have h63 : n + m ≤ maxLen := by
    have : n + m ≤ (n + m) * bytes := Nat.le_mul_of_pos_right _ hb
    unfold maxLen
    omega
  obtain ⟨v', w', hr, ho, hg, _⟩ := run_append_own (P := P) w base t ty e i z size bytes E.sl hi hz hsize hby hzs E.pos v n xs hown ad m c news hl hnews h1 h63 hbytes hbase
  suffices key : w.drawn ≤ w'.drawn ∧ (v'.ownBlock = v.ownBlock ∨ ∀ g, v'.ownBlock = some g → w.heap.size ≤ g) from ⟨v', w', hr, ho, ⟨hg.os, ⟨hg.tape, key.1⟩, hg.output, hg.size, fun k hk hn => hg.block k hk (fun he => hn (by simp [← he]))⟩, key.2⟩
  subst hsize
  rcases hown.2 with ⟨rfl, rfl⟩ | ⟨g, cap, cur, rfl, hbg, hgg, hnc, hcm, hcs, htake⟩
  · by_cases hm : m = 0
    · subst hm
      have hx : xs = [] := List.eq_nil_of_length_eq_zero (by simpa using hown.1)
      subst hx
      have hn : news = [] := List.eq_nil_of_length_eq_zero (by simpa using hl)
      subst hn
      simp [Builtin.append_, run_underlying E.sl, sizeOf, typeInfo, hi, Builtin.lenOf, Builtin.firstCells, loadCells, loadCellsFrom] at hr
      exact ⟨Nat.le_of_eq (congrArg World.drawn hr.2), .inl (by rw [← hr.1])⟩
    · have hr2 := run_append_nil (P := P) w t ty e i z E.sl hi hz ad m c news hl hnews (by omega) (by unfold maxLen at h63; omega) (by rw [hby]; have hq := hbytes; simp only [Nat.zero_add] at hq; omega)
      rw [hr] at hr2
      simp only [Result.ok.injEq] at hr2
      refine ⟨by rw [hr2.2]; exact Nat.le_succ _, .inr (fun g hg => ?_)⟩
      rw [hr2.1] at hg
      simp [Value.ownBlock] at hg
      omega
  · by_cases hroom : n + m ≤ cap
    · have hfit : n * i.size + news.length ≤ cur.size := by rw [hl, hcs, ← Nat.add_mul]; exact Nat.mul_le_mul_right _ hroom
      have hr2 := run_append_room (P := P) w t ty e i E.sl hi g n cap cur hgg ad m c news hl hnews h1 hroom hfit
      rw [hr] at hr2
      simp only [Result.ok.injEq] at hr2
      exact ⟨by rw [hr2.2]; exact Nat.le_refl _, .inl (by rw [hr2.1]; rfl)⟩
    · have holds : ∀ j u, xs[j]? = some u → w.cell? ((⟨g, 0, none⟩ : Addr).add j) = some u := hown.cells (g := g) rfl
      have hr2 := run_append_grow (P := P) w t ty e i z E.sl hi hz ⟨g, 0, none⟩ n cap xs hown.1 holds ad m c news hl hnews (by omega) (by unfold maxLen at h63; omega) (growslice_fits (by omega) (by rw [hby]; exact hbytes))
      rw [hr] at hr2
      simp only [Result.ok.injEq] at hr2
      refine ⟨by rw [hr2.2]; exact Nat.le_succ _, .inr (fun g' hg' => ?_)⟩
      rw [hr2.1] at hg'
      simp [Value.ownBlock] at hg'
      omega

/-! Bytes: numbers of kind u8. -/
def bys (l : List Int) : List Value := l.map (Value.int .u8)
theorem bys_length (l : List Int) : (bys l).length = l.length := List.length_map _
def Byte (l : List Int) : Prop := ∀ n ∈ l, 0 ≤ n ∧ n < 256

theorem Byte.append {l m : List Int} (hl : Byte l) (hm : Byte m) : Byte (l ++ m) := by
  intro n hn
  rcases List.mem_append.1 hn with h | h
  · exact hl n h
  · exact hm n h

theorem run_string {P : Program} {w : World} {src e dst : TypeId} {v : Value} {n : Nat} {l : List Int} (hs : P.underlying src = some (.slice e)) (he : P.underlying e = some (.int .u8)) (hd : P.underlying dst = some .string)
    (h : Vw w v 1 n (bys l)) : (convert src dst v).run P w = .ok (.string (strOfNums l)) w := by
  obtain ⟨ad, cap, rfl, hl, _, _, hnn, hv⟩ := h
  rw [bys_length, Nat.mul_one] at hl
  by_cases hne : bys l = []
  · have hl0 : l = [] := by simpa [bys] using hne
    subst hl0
    cases ad with
    | none => exact run_convert_bytes_nil w src e hs he _ _ dst hd
    | some a =>
      have hn : n = 0 := by simpa using hl.symm
      subst hn
      rw [run_convert_bytes_string w src dst e _ 0 cap hs he hd, run_bytesToString w a 0 cap [] (by simp [loadCells, loadCellsFrom])]
      rfl
  · obtain ⟨b, off, rfl, hc⟩ := hv hne
    refine run_convert_bytes_arg w src e hs he b off n cap l hl (fun i hi => ?_) dst hd
    refine hc i _ ?_
    simp [bys, List.getD, List.getElem?_eq_getElem (show i < l.length by omega)]

def VwB (w : World) (v : Value) (l : List Int) : Prop := Vw w v 1 l.length (bys l)
def OwnB (e : TypeId) (w : World) (base : Nat) (v : Value) (l : List Int) : Prop := w.ownsRow base e 1 v l.length (bys l)
def BldB (e : TypeId) (base : Nat) (w w' : World) (v v' : Value) (l : List Int) : Prop := Bld e 1 base w w' v v' l.length (bys l)
theorem OwnB.vw {e : TypeId} {w : World} {base : Nat} {v : Value} {l : List Int} (h : OwnB e w base v l) : VwB w v l := own_vw h
theorem OwnB.ge {e : TypeId} {w : World} {base : Nat} {v : Value} {l : List Int} (h : OwnB e w base v l) : ∀ g, v.ownBlock = some g → base ≤ g := own_ge h
theorem OwnB.lt {e : TypeId} {w : World} {base : Nat} {v : Value} {l : List Int} (h : OwnB e w base v l) : ∀ g, v.ownBlock = some g → g < w.heap.size := own_lt h
theorem OwnB.keep {e : TypeId} {w w' : World} {bs : List Nat} {base : Nat} {v : Value} {l : List Int} (h : OwnB e w base v l) (ho : Only bs w w') (hb : ∀ b, v.ownBlock = some b → b ∉ bs) : OwnB e w' base v l := own_keep h ho hb
theorem OwnB.alloc {e : TypeId} {w : World} {base : Nat} {v : Value} {l : List Int} (h : OwnB e w base v l) (o : Obj) : OwnB e (w.alloc o) base v l := World.ownsRow.alloc h o
theorem OwnB.only {e : TypeId} {w w' : World} {base : Nat} {v : Value} {l : List Int} (h : OwnB e w base v l) (ho : Only [] w w') : OwnB e w' base v l := own_keep h ho (by simp)
theorem OwnB.nil (e : TypeId) (w : World) (base : Nat) : OwnB e w base (.slice none 0 0) [] := World.ownsRow_nil w base e 1
theorem OwnB.lit {e : TypeId} {w : World} {base : Nat} (l : List Int) (cs : Array Value) (n : Nat) (hc : cs = (bys l).toArray) (hn : n = l.length) (hb : base ≤ w.heap.size) (hm : n ≤ maxLen) :
    OwnB e (w.alloc (.cells cs e)) base (.slice (some ⟨w.heap.size, 0, none⟩) n n) l := by
  subst hc hn
  have := own_lit (e := e) (base := base) (w := w) (sz := 1) (bys l).toArray l.length hb hm (by simp [bys_length])
  simpa [OwnB] using this
theorem VwB.lit {w : World} {e : TypeId} (l : List Int) (cs : Array Value) (n : Nat) (hc : cs = (bys l).toArray) (hn : n = l.length) (hm : n ≤ maxLen) :
    VwB (w.alloc (.cells cs e)) (.slice (some ⟨w.heap.size, 0, none⟩) n n) l := (OwnB.lit l cs n hc hn (Nat.zero_le _) hm).vw
theorem VwB.nil (w : World) : VwB w (.slice none 0 0) [] := Vw.nil w 1
theorem VwB.keep {w w' : World} {bs : List Nat} {v : Value} {l : List Int} (h : VwB w v l) (ho : Only bs w w') (hb : ∀ b, v.ownBlock = some b → b ∉ bs) : VwB w' v l := Vw.keep h ho hb
theorem VwB.only {w w' : World} {v : Value} {l : List Int} (h : VwB w v l) (ho : Only [] w w') : VwB w' v l := Vw.only h ho

theorem OwnB.drew {e : TypeId} {w : World} {base : Nat} {v : Value} {l : List Int} (h : OwnB e w base v l) : OwnB e w.drew base v l := h
theorem VwB.drew {w : World} {v : Value} {l : List Int} (h : VwB w v l) : VwB w.drew v l := h
theorem BldB.own {e : TypeId} {base : Nat} {w w' : World} {v v' : Value} {l : List Int} (h : BldB e base w w' v v' l) : OwnB e w' base v' l := Bld.own h
theorem BldB.only {e : TypeId} {base : Nat} {w w' : World} {v v' : Value} {l : List Int} (h : BldB e base w w' v v' l) : Only v.ownBlock.toList w w' := Bld.only h
theorem BldB.lies {e : TypeId} {base : Nat} {w w' : World} {v v' : Value} {l : List Int} (h : BldB e base w w' v v' l) : v'.ownBlock = v.ownBlock ∨ ∀ g, v'.ownBlock = some g → w.heap.size ≤ g := Bld.lies h
theorem BldB.refl {e : TypeId} {base : Nat} {w : World} {v : Value} {l : List Int} (h : OwnB e w base v l) : BldB e base w w v v l := Bld.refl h
theorem BldB.trans {e : TypeId} {base : Nat} {a b c : World} {v v1 v2 : Value} {l m : List Int} (h : BldB e base a b v v1 l) (k : BldB e base b c v1 v2 m) : BldB e base a c v v2 m := Bld.trans h k
theorem BldB.since {e : TypeId} {base : Nat} {W w w' : World} {v v' : Value} {l k : List Int} (h : BldB e base w w' v v' l) (ho : OwnB e w base v k) (hW : Only [] W w) (hB : W.heap.size ≤ base) : Only [] W w' :=
  hW.trans h.only (fun x hx => .inr (Nat.le_trans hB (ho.ge x (by simpa using hx))))

def FreshB (e : TypeId) (W : World) (l : List Int) (r : Ending) (w' : World) : Prop := ∃ v, r = .returned v ∧ OwnB e w' W.heap.size v l ∧ Only [] W w'

end Go.Pm
namespace Go.Pm
set_option linter.unusedSimpArgs false
set_option linter.unusedVariables false
open Go.RowKit

theorem VwB.open {w : World} {v : Value} {l : List Int} (h : VwB w v l) (hne : l ≠ []) : ∃ b off cap, v = .slice (some ⟨b, off, none⟩) l.length cap ∧ l.length ≤ cap ∧ cap ≤ maxLen ∧ b < w.heap.size ∧
    ∀ i (hi : i < l.length), w.cell? ⟨b, off + i, none⟩ = some (.int .u8 l[i]) := by
  obtain ⟨a, cap, rfl, h1, h2, h3, h4, h5⟩ := h
  obtain ⟨b, off, rfl, hc⟩ := h5 (by simpa [bys] using hne)
  have key : ∀ i (hi : i < l.length), w.cell? ⟨b, off + i, none⟩ = some (.int .u8 l[i]) := fun i hi => hc i _ (by simp [bys, List.getElem?_eq_getElem hi])
  exact ⟨b, off, cap, rfl, h2, h3, World.block_lt_of_cell? w _ (key 0 (List.length_pos_iff.2 hne)), key⟩

theorem VwB.mk {w : World} {b off n cap : Nat} {l : List Int} (hn : n = l.length) (h2 : n ≤ cap) (h3 : cap ≤ maxLen) (hc : ∀ i (hi : i < l.length), w.cell? ⟨b, off + i, none⟩ = some (.int .u8 l[i])) : VwB w (.slice (some ⟨b, off, none⟩) n cap) l := by
  subst hn
  refine ⟨_, cap, rfl, by simp [bys_length], h2, h3, (fun h => by cases h), fun _ => ⟨b, off, rfl, fun j u hu => ?_⟩⟩
  have hj : j < l.length := by
    have := (List.getElem?_eq_some_iff.1 hu).1
    simpa [bys_length] using this
  rw [hc j hj]
  simp only [bys, List.getElem?_map, List.getElem?_eq_getElem hj, Option.map_some] at hu
  exact hu

theorem VwB.none {w : World} {a : Addr} {cap : Nat} (h3 : cap ≤ maxLen) : VwB w (.slice (some a) 0 cap) [] :=
  ⟨_, cap, rfl, by simp [bys], Nat.zero_le _, h3, (fun h => by cases h), fun h => (h rfl).elim⟩

theorem VwB.part {w : World} {b off n cap i k c : Nat} {l m : List Int} (h : VwB w (.slice (some ⟨b, off, Option.none⟩) n cap) l) (hm : m = (l.drop i).take k) (hk : i + k ≤ n) (hc : k ≤ c) (hcm : c ≤ maxLen) : VwB w (.slice (some ⟨b, off + i, Option.none⟩) k c) m := by
  have hl : l.length = n := by
    obtain ⟨a, cap', he, h1, _⟩ := h
    cases he
    rfl
  subst hm
  by_cases hne : l = []
  · subst hne
    have hk0 : k = 0 := by simp at hl; omega
    subst hk0
    simpa using VwB.none (w := w) (a := ⟨b, off + i, Option.none⟩) hcm
  · obtain ⟨b', off', cap', he, _, _, _, key⟩ := h.open hne
    cases he
    refine VwB.mk (by simp; omega) hc hcm (fun j hj => ?_)
    have hj2 : j < k ∧ i + j < l.length := by simp at hj; omega
    rw [Nat.add_assoc, key (i + j) hj2.2]
    simp [List.getElem_take, List.getElem_drop]

theorem VwB.cut {w : World} {b off n cap i k k' c : Nat} {l m : List Int} (h : VwB w (.slice (some ⟨b, off, Option.none⟩) n cap) l) (hm : m = (l.drop i).take k) (hk : i + k ≤ n) (hk' : k' = k) (hc : c = cap - i) : VwB w (.slice (if cap = i then some ⟨b, off, Option.none⟩ else some ⟨b, off + i, Option.none⟩) k' c) m := by
  subst hk' hc
  have hs : n ≤ cap ∧ cap ≤ maxLen := by
    obtain ⟨a, cap', he, h1, h2, h3, _⟩ := h
    cases he
    exact ⟨h2, h3⟩
  split
  · obtain rfl : k' = 0 := by omega
    subst hm
    simpa using VwB.none (w := w) (a := ⟨b, off, Option.none⟩) (cap := cap - i) (by omega)
  · exact h.part hm hk (by omega) (by omega)
theorem VwB.size {w : World} {a : Option Addr} {n cap : Nat} {l : List Int} (h : VwB w (.slice a n cap) l) : l.length = n ∧ n ≤ cap ∧ cap ≤ maxLen := by
  obtain ⟨a, cap', he, h1, h2, h3, _⟩ := h
  cases he
  exact ⟨rfl, h2, h3⟩

theorem VwB.pre {w : World} {a : Option Addr} {n c k : Nat} {l : List Int} (h : VwB w (.slice a n c) l) (hk : k ≤ n) : VwB w (.slice a k c) (l.take k) := by
  obtain ⟨a', cap', he, h1, h2, h3, h4, h5⟩ := h
  cases he
  have hl : (l.take k).length = k := by rw [List.length_take]; simp [bys] at h1; omega
  refine ⟨a, c, by rw [hl], by simp [bys_length], by omega, h3, fun ha => by have := h4 ha; omega, fun hne => ?_⟩
  have hb : bys (l.take k) = (bys l).take k := by simp [bys]
  have hne' : bys l ≠ [] := fun h0 => hne (by rw [hb, h0]; simp)
  obtain ⟨b, off, he, hc⟩ := h5 hne'
  refine ⟨b, off, he, fun j u hu => hc j u ?_⟩
  rw [hb, List.getElem?_take] at hu
  split at hu
  · exact hu
  · cases hu

theorem VwB.shape {w : World} {v : Value} {l : List Int} (h : VwB w v l) : ∃ a cap, v = .slice a l.length cap ∧ l.length ≤ cap ∧ cap ≤ maxLen := by
  obtain ⟨a, cap, rfl, h1, h2, h3, _⟩ := h
  exact ⟨a, cap, rfl, h2, h3⟩

theorem Rd.bytes {P : Program} {w : World} {n : Nat} {t e : TypeId} {a : Option Addr} {len cap : Nat} (h : Rd P w n t [.slice a len cap]) (hu : P.underlying t = some (.slice e)) (he : P.underlying e = some (.int .u8)) (hc : P.cellsOf e = 1) :
    ∃ l : List Int, l.length = len ∧ VwB w (.slice a len cap) l ∧ Byte l := by
  rcases h.slice hu with h | ⟨x, l, c, m, h1, h2, h3, h4⟩
  · cases h
    exact ⟨[], rfl, VwB.nil w, by simp [Byte]⟩
  · cases h1
    by_cases hl : len = 0
    · subst hl
      exact ⟨[], rfl, VwB.none h3, by simp [Byte]⟩
    · obtain ⟨zs, hz⟩ := choose_lt (n := len) (p := fun i (z : Int) => w.cell? (x.add i) = some (.int .u8 z) ∧ 0 ≤ z ∧ z < 256) (by
        intro i hi
        obtain ⟨ds, hd1, hd2, hd3⟩ := h4 i (by omega)
        obtain ⟨z, rfl, hw⟩ := hd3.int he
        have h5 := hd2 0 (by simp)
        rw [hc] at h5
        have := bounds_u8 hw
        exact ⟨z, by simpa using h5, this.1, by omega⟩)
      have h0 := (hz 0 (by omega)).1
      obtain ⟨b, off, spot⟩ := x
      have hspot : spot = Option.none := by simpa [Addr.add] using World.cell?_spot h0
      subst hspot
      refine ⟨(List.range len).map zs, by simp, VwB.mk (by simp) h2 h3 (fun i hi => ?_), ?_⟩
      · have h6 := (hz i (by simpa using hi)).1
        rw [addr_add_plain] at h6
        simpa using h6
      · intro n hn
        obtain ⟨i, hi, rfl⟩ := List.mem_map.1 hn
        exact (hz i (by simpa using hi)).2

theorem Byte.at {l : List Int} (h : Byte l) (i : Nat) (hi : i < l.length) : 0 ≤ l[i] ∧ l[i] < 256 := h _ (List.getElem_mem hi)
theorem Byte.part {l : List Int} (h : Byte l) (i k : Nat) : Byte ((l.drop i).take k) := fun n hn => h n (List.drop_subset _ _ (List.take_subset _ _ hn))
end Go.Pm
namespace Go.Pm
set_option linter.unusedSimpArgs false
set_option linter.unusedVariables false
open Go.RowKit

def splice (cs : Array Value) : Nat → List Value → Array Value
  | _, [] => cs
  | o, v :: r => splice (cs.setIfInBounds o v) (o + 1) r

theorem splice_size : ∀ (vs : List Value) (o : Nat) (cs : Array Value), (splice cs o vs).size = cs.size
  | [], _, _ => rfl
  | v :: r, o, cs => by rw [splice, splice_size r, Array.size_setIfInBounds]

theorem splice_get : ∀ (vs : List Value) (o : Nat) (cs : Array Value) (i : Nat), o + vs.length ≤ cs.size → (splice cs o vs)[i]? = if o ≤ i ∧ i < o + vs.length then vs[i - o]? else cs[i]?
  | [], o, cs, i, _ => by
    rw [splice, if_neg (by simp)]
  | v :: r, o, cs, i, h => by
    simp only [List.length_cons] at h
    rw [splice, splice_get r (o + 1) _ i (by rw [Array.size_setIfInBounds]; omega)]
    by_cases h1 : i = o
    · subst h1
      rw [if_neg (by omega), if_pos (by simp)]
      simp [Array.getElem?_setIfInBounds]
      omega
    · by_cases h2 : o + 1 ≤ i ∧ i < o + 1 + r.length
      · rw [if_pos h2, if_pos (by simp; omega)]
        obtain ⟨k, hk⟩ : ∃ k, i = o + 1 + k := ⟨i - (o + 1), by omega⟩
        subst hk
        rw [show o + 1 + k - (o + 1) = k by omega, show o + 1 + k - o = k + 1 by omega]
        simp
      · rw [if_neg h2, if_neg (by simp; omega)]
        simp [Array.getElem?_setIfInBounds]
        omega

theorem splice_full (cs : Array Value) (vs : List Value) (h : vs.length = cs.size) : splice cs 0 vs = vs.toArray := by
  apply Array.ext_getElem?
  intro i
  rw [splice_get vs 0 cs i (by omega)]
  by_cases h1 : i < vs.length
  · rw [if_pos (by omega)]; simp
  · rw [if_neg (by omega), Array.getElem?_eq_none (by omega), Array.getElem?_eq_none (by simp; omega)]

theorem Blk.setCells : ∀ (vs : List Value) (o : Nat) {w : World} {b : Nat} {cs : Array Value} {T : TypeId}, Blk w b cs T → Blk (w.setCells b o vs) b (splice cs o vs) T
  | [], _, _, _, _, _, h => h
  | v :: r, o, _, _, _, _, h => Blk.setCells r (o + 1) (h.set o v)

theorem Only.setCells : ∀ (vs : List Value) (o : Nat) {bs : List Nat} {a w : World} {b : Nat}, Only bs a w → (b ∈ bs ∨ a.heap.size ≤ b) → Only bs a (w.setCells b o vs)
  | [], _, _, _, _, _, h, _ => h
  | v :: r, o, _, _, _, _, h, hb => Only.setCells r (o + 1) (h.setCell hb o v) hb

theorem Blk.there {w : World} {b : Nat} {cs : Array Value} {T : TypeId} (h : Blk w b cs T) (o n : Nat) (hn : o + n ≤ cs.size) : w.there b o n := fun j hj => by
  refine ⟨?_, h.free _⟩
  rw [h.cell, Array.getElem?_eq_getElem (by omega)]
  rfl

theorem Blk.rangeAt {w : World} {b : Nat} {cs : Array Value} {T : TypeId} (h : Blk w b cs T) (o : Nat) (xs : List Value) (hx : ∀ j v, xs[j]? = some v → cs[o + j]? = some v) : w.rangeAt b o xs := fun j v hv => by
  rw [h.cell]
  exact hx j v hv

end Go.Pm
