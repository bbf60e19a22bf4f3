/-
  General lemmas of our own: structs and arrays of many cells in a block.
-/
import Derived.Test.YtohahlcjkhgimaaRead
import Derived.Deep.MidRow
import Derived.Deep.QuietTactic
namespace Go.Pm
set_option linter.unusedSimpArgs false
set_option linter.unusedVariables false
open Go.RowKit

/-- The cells vs, laid into cs from place o on. -/
def splice (cs : Array Value) : Nat → List Value → Array Value
  | _, [] => cs
  | o, v :: r => splice (cs.setIfInBounds o v) (o + 1) r

theorem splice_size : ∀ (vs : List Value) (o : Nat) (cs : Array Value), (splice cs o vs).size = cs.size
  | [], _, _ => rfl
  | v :: r, o, cs => by rw [splice, splice_size r, Array.size_setIfInBounds]

theorem splice_get : ∀ (vs : List Value) (o : Nat) (cs : Array Value) (i : Nat), o + vs.length ≤ cs.size → (splice cs o vs)[i]? = if o ≤ i ∧ i < o + vs.length then vs[i - o]? else cs[i]?
  | [], o, cs, i, _ => by
    rw [splice, if_neg (by simp)]
  | v :: r, o, cs, i, h => by
    simp only [List.length_cons] at h
    rw [splice, splice_get r (o + 1) _ i (by rw [Array.size_setIfInBounds]; omega)]
    by_cases h1 : i = o
    · subst h1
      rw [if_neg (by omega), if_pos (by simp)]
      simp [Array.getElem?_setIfInBounds]
      omega
    · by_cases h2 : o + 1 ≤ i ∧ i < o + 1 + r.length
      · rw [if_pos h2, if_pos (by simp; omega)]
        obtain ⟨k, hk⟩ : ∃ k, i = o + 1 + k := ⟨i - (o + 1), by omega⟩
        subst hk
        rw [show o + 1 + k - (o + 1) = k by omega, show o + 1 + k - o = k + 1 by omega]
        simp
      · rw [if_neg h2, if_neg (by simp; omega)]
        simp [Array.getElem?_setIfInBounds]
        omega

theorem splice_full (cs : Array Value) (vs : List Value) (h : vs.length = cs.size) : splice cs 0 vs = vs.toArray := by
  apply Array.ext_getElem?
  intro i
  rw [splice_get vs 0 cs i (by omega)]
  by_cases h1 : i < vs.length
  · rw [if_pos (by omega)]; simp
  · rw [if_neg (by omega), Array.getElem?_eq_none (by omega), Array.getElem?_eq_none (by simp; omega)]

theorem Blk.setCells : ∀ (vs : List Value) (o : Nat) {w : World} {b : Nat} {cs : Array Value} {T : TypeId}, Blk w b cs T → Blk (w.setCells b o vs) b (splice cs o vs) T
  | [], _, _, _, _, _, h => h
  | v :: r, o, _, _, _, _, h => Blk.setCells r (o + 1) (h.set o v)

theorem Blk.setCellsOther : ∀ (vs : List Value) (o : Nat) {w : World} {b c : Nat} {cs : Array Value} {T : TypeId}, Blk w b cs T → b ≠ c → Blk (w.setCells c o vs) b cs T
  | [], _, _, _, _, _, _, h, _ => h
  | v :: r, o, _, _, _, _, _, h, hc => Blk.setCellsOther r (o + 1) (h.setOther o v hc) hc

theorem Only.setCells : ∀ (vs : List Value) (o : Nat) {bs : List Nat} {a w : World} {b : Nat}, Only bs a w → (b ∈ bs ∨ a.heap.size ≤ b) → Only bs a (w.setCells b o vs)
  | [], _, _, _, _, _, h, _ => h
  | v :: r, o, _, _, _, _, h, hb => Only.setCells r (o + 1) (h.setCell hb o v) hb

theorem Blk.there {w : World} {b : Nat} {cs : Array Value} {T : TypeId} (h : Blk w b cs T) (o n : Nat) (hn : o + n ≤ cs.size) : w.there b o n := fun j hj => by
  refine ⟨?_, h.free _⟩
  rw [h.cell, Array.getElem?_eq_getElem (by omega)]
  rfl

/-- A part of a block's cells. -/
theorem Blk.rangeAt {w : World} {b : Nat} {cs : Array Value} {T : TypeId} (h : Blk w b cs T) (o : Nat) (xs : List Value) (hx : ∀ j v, xs[j]? = some v → cs[o + j]? = some v) : w.rangeAt b o xs := fun j v hv => by
  rw [h.cell]
  exact hx j v hv

/-- A whole block of bytes as a slice. -/
theorem VwB.ofBlk {w : World} {b n : Nat} {l : List Int} {cs : Array Value} {T : TypeId} (h : Blk w b cs T) (hc : cs = (bys l).toArray) (hn : n = l.length) (hm : n ≤ maxLen) : VwB w (.slice (some ⟨b, 0, Option.none⟩) n n) l := by
  refine VwB.mk hn (Nat.le_refl _) hm (fun i hi => ?_)
  rw [Nat.zero_add, h.cell, hc]
  simp [bys, List.getElem?_eq_getElem hi]

theorem OwnB.ofBlk {e : TypeId} {w : World} {base b n : Nat} {l : List Int} {cs : Array Value} (h : Blk w b cs e) (hb : base ≤ b) (hc : cs = (bys l).toArray) (hn : n = l.length) (hm : n ≤ maxLen) : OwnB e w base (.slice (some ⟨b, 0, Option.none⟩) n n) l := by
  subst hn
  refine ⟨by simp [bys_length], .inr ⟨b, l.length, cs, rfl, hb, h, Nat.le_refl _, hm, by rw [hc]; simp [bys_length], ?_⟩⟩
  rw [hc]
  simp only [Nat.mul_one]
  rw [List.take_of_length_le (by simp [bys_length])]

theorem wpList_load_blk {P : Program} {ops : Array Oper} {rest : List Oper} {op : Oper} {a : Act} {w : World} {Q : Exit → Act → World → Prop} (hgd : op.guard = none) (ty : TypeId) (x : Operand) (ho : op.op = .load ty x)
    {b : Nat} {cs : Array Value} {T : TypeId} (hx : a.eval x = .pointer (some ⟨b, 0, none⟩)) (hB : Blk w b cs T) (d : TypeDesc)
    (hu : P.underlying ty = some d) (hd : d.isRow = true) (hi : (P.info? ty).map (·.size) = some cs.size)
    (h : wpList P ops Q rest (a.put op.dst (.agg cs)) w) : wpList P ops Q (op :: rest) a w :=
  wpList_load_mid hgd ty x ho b 0 hx cs.toList d hB.range hu hd (by simpa using hi) (by simpa using h)

theorem wpList_store_blk {P : Program} {ops : Array Oper} {rest : List Oper} {op : Oper} {a : Act} {w : World} {Q : Exit → Act → World → Prop} (hgd : op.guard = none) (ty : TypeId) (x y : Operand) (ho : op.op = .store ty x y)
    {b : Nat} {cs vs : Array Value} {T : TypeId} (hx : a.eval x = .pointer (some ⟨b, 0, none⟩)) (hy : a.eval y = .agg vs) (hB : Blk w b cs T)
    (hi : (P.info? ty).map (·.size) = some cs.size) (hs : vs.size = cs.size) (h1 : ∀ v ∈ vs.toList, v.oneCell' = true)
    (h : ∀ w', Blk w' b vs T → Only [b] w w' → wpList P ops Q rest (a.put op.dst undef) w') : wpList P ops Q (op :: rest) a w := by
  refine wpList_store_mid hgd ty x y ho b 0 vs hx hy (hB.there 0 _ (by omega)) (by rw [hi, hs]) (by simpa using all_oneCell_toArray h1) (h _ ?_ (Only.setCells _ _ (Only.refl _ _) (.inl (by simp))))
  have := Blk.setCells vs.toList 0 hB
  rwa [splice_full cs vs.toList (by simpa using hs)] at this

/-- In a quiet region: a callee that leaves the world alone (its contract has the caller's world on the left). -/
theorem calls_still {P : Program} {f : FuncId} {args : Array Value} {W X : World} {v : Value} (n : Nat) (hX : X = W.drewN n) (h : Calls P f args X fun e w' => e = .returned v ∧ X = w') :
    Calls P f args X fun e w' => e = .returned v ∧ ∃ m, w' = W.drewN m := by
  subst hX
  exact h.mono fun _ _ hh => ⟨hh.1, n, hh.2.symm⟩
end Go.Pm
