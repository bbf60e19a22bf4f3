/-
  Package mark: how a stream is told; a slice of messages of the call's own.
-/
import Derived.Test.YtcpoaghogpkagaaMarkNext
namespace Go.Proofs.Ytcpoaghogpkagaa
set_option linter.unusedSimpArgs false
set_option linter.unusedVariables false
open Go.RowKit Go.Pm


/-- A stream's messages (kind, body), the fault that ends them, if there is one (subcode, data), and what is left. -/
inductive Parses : List Int → List (Int × List Int) → Option (Int × List Int) → List Int → Prop
  | short (l : List Int) (h : l.length < 19) : Parses l [] none l
  | bad (l : List Int) (f : Int × List Int) (h : 19 ≤ l.length) (hf : checkF (l.take 19) = some f) : Parses l [] (some f) []
  | wait (l : List Int) (h : 19 ≤ l.length) (hf : checkF (l.take 19) = none) (hn : (l.length : Int) < lenOf l) : Parses l [] none l
  | msg (l : List Int) (n : Nat) (ms : List (Int × List Int)) (f : Option (Int × List Int)) (r : List Int) (h : 19 ≤ n) (hn : lenOf l = n) (hl : n ≤ l.length) (hf : checkF (l.take 19) = none) (hr : Parses (l.drop n) ms f r) :
      Parses l ((at_ l 18, (l.take n).drop 19) :: ms) f r

theorem at_take (l : List Int) (i n : Nat) (h : i < n) : at_ (l.take n) i = at_ l i := by
  unfold at_
  simp [List.getD, List.getElem?_take, h]
theorem lenOf_take (l : List Int) (n : Nat) (h : 17 < n) : lenOf (l.take n) = lenOf l := by
  unfold lenOf
  rw [at_take l 16 n (by omega), at_take l 17 n (by omega)]
theorem check_len {h : List Int} (hf : checkF h = none) : 19 ≤ lenOf h ∧ lenOf h ≤ 4096 := by
  unfold checkF at hf
  split at hf
  · cases hf
  · split at hf
    · cases hf
    · omega

theorem parses_exists : ∀ (k : Nat) (l : List Int), l.length ≤ k → ∃ ms f r, Parses l ms f r := by
  intro k
  induction k with
  | zero => intro l h; exact ⟨[], none, l, .short l (by omega)⟩
  | succ k ih =>
    intro l h
    by_cases h19 : l.length < 19
    · exact ⟨[], none, l, .short l h19⟩
    · cases hf : checkF (l.take 19) with
      | some f => exact ⟨[], some f, [], .bad l f (by omega) hf⟩
      | none =>
        have hl := check_len hf
        rw [lenOf_take l 19 (by omega)] at hl
        by_cases hn : (l.length : Int) < lenOf l
        · exact ⟨[], none, l, .wait l (by omega) hf hn⟩
        · obtain ⟨n, hn'⟩ := Int.eq_ofNat_of_zero_le (show 0 ≤ lenOf l by omega)
          obtain ⟨ms, f, r, hp⟩ := ih (l.drop n) (by simp; omega)
          exact ⟨_, f, r, .msg l n ms f r (by omega) hn' (by omega) hf hp⟩

/-- A message as it lies in memory. -/
structure Ms where
  kind : Int
  bv : Value
  body : List Int
def Ms.cells (m : Ms) : List Value := [.int .i64 m.kind, m.bv]
def Ms.pair (m : Ms) : Int × List Int := (m.kind, m.body)
def msCells (es : List Ms) : List Value := es.flatMap Ms.cells
theorem msCells_length (es : List Ms) : (msCells es).length = es.length * 2 := by
  induction es with
  | nil => rfl
  | cons e es ih => simp [msCells, Ms.cells] at ih ⊢; omega
theorem msCells_append (es fs : List Ms) : msCells (es ++ fs) = msCells es ++ msCells fs := by simp [msCells]

theorem msCells_get : ∀ (es : List Ms) (i : Nat) (h : i < es.length), (msCells es)[i * 2]? = some (.int .i64 es[i].kind) ∧ (msCells es)[i * 2 + 1]? = some es[i].bv
  | [], _, h => by simp at h
  | e :: es, 0, _ => by simp [msCells, Ms.cells]
  | e :: es, i + 1, h => by
    have := msCells_get es i (by simpa using h)
    rw [show (i + 1) * 2 = i * 2 + 2 by omega, show i * 2 + 2 + 1 = (i * 2 + 1) + 2 by omega]
    simpa [msCells, Ms.cells] using this

/-- Where messages lie. -/
theorem msgs_open {w : World} {v : Value} {es : List Ms} (h : Vw w v 2 es.length (msCells es)) (hne : es ≠ []) : ∃ b off cap, v = .slice (some ⟨b, off, none⟩) es.length cap ∧ es.length ≤ cap ∧ cap ≤ maxLen ∧ b < w.heap.size ∧
    ∀ i (hi : i < es.length), w.cell? ⟨b, off + i * 2, none⟩ = some (.int .i64 es[i].kind) ∧ w.cell? ⟨b, off + i * 2 + 1, none⟩ = some es[i].bv := by
  obtain ⟨a, cap, rfl, h1, h2, h3, h4, h5⟩ := h
  have hp : 0 < es.length := List.length_pos_iff.2 hne
  obtain ⟨b, off, rfl, hc⟩ := h5 (by intro h0; rw [h0] at h1; simp at h1; omega)
  have key : ∀ i (hi : i < es.length), w.cell? ⟨b, off + i * 2, none⟩ = some (.int .i64 es[i].kind) ∧ w.cell? ⟨b, off + i * 2 + 1, none⟩ = some es[i].bv := fun i hi => by
    have := msCells_get es i hi
    exact ⟨hc _ _ this.1, by rw [Nat.add_assoc]; exact hc _ _ this.2⟩
  exact ⟨b, off, cap, rfl, h2, h3, World.block_lt_of_cell? w _ (key 0 hp).1, key⟩

/-- The element type T is a struct of two cells; a slice of the call's own in blocks from base on. -/
structure OwnM (T : TypeId) (w : World) (base : Nat) (v : Value) (es : List Ms) : Prop where
  own : w.ownsRow base T 2 v es.length (msCells es)
  bod : ∀ e ∈ es, VwB w e.bv e.body
  apart : ∀ e ∈ es, ∀ g, e.bv.ownBlock = some g → v.ownBlock ≠ some g
  fresh : ∀ e ∈ es, ∀ g, e.bv.ownBlock = some g → base ≤ g ∧ g < w.heap.size

theorem OwnM.nil (T : TypeId) (w : World) (base : Nat) : OwnM T w base (.slice none 0 0) [] := ⟨World.ownsRow_nil w base T 2, by simp, by simp, by simp⟩

theorem OwnM.keep {T : TypeId} {w w' : World} {bs : List Nat} {base : Nat} {v : Value} {es : List Ms} (h : OwnM T w base v es) (ho : Only bs w w') (hb : ∀ x ∈ bs, x < base) : OwnM T w' base v es := by
  refine ⟨own_keep h.own ho (fun g hg hm => ?_), fun e he => (h.bod e he).keep ho (fun g hg hm => ?_), h.apart, fun e he g hg => ?_⟩
  · have := own_ge h.own g hg; have := hb g hm; omega
  · have := (h.fresh e he g hg).1; have := hb g hm; omega
  · have := h.fresh e he g hg; have := ho.size; omega

theorem OwnM.lower {T : TypeId} {w : World} {base base' : Nat} {v : Value} {es : List Ms} (h : OwnM T w base v es) (hb : base' ≤ base) : OwnM T w base' v es :=
  ⟨own_mono h.own (fun g hg => by have := own_ge h.own g hg; omega), h.bod, h.apart, fun e he g hg => by have := h.fresh e he g hg; omega⟩

theorem msgsEl : El Try.prog 36 53 2 32 := El.mk' (z := .agg #[.int .i64 0, .slice none 0 0]) Try.underlying36 (by kernel_rfl) rfl (by omega) (by omega)
theorem rmsgsEl : El Try.prog 41 50 2 32 := El.mk' (z := .agg #[.int .i64 0, .slice none 0 0]) Try.underlying41 (by kernel_rfl) rfl (by omega) (by omega)

/-- A literal of one message, laid behind the world w. -/
theorem vw_one (w : World) (m : Ms) (T : TypeId) (cs : Array Value) (hc : cs = m.cells.toArray) (g : Nat) (hg : g = w.heap.size) : Vw (w.alloc (.cells cs T)) (.slice (some ⟨g, 0, none⟩) 1 1) 2 1 m.cells := by
  subst hc hg
  refine ⟨_, 1, rfl, rfl, Nat.le_refl _, by simp [maxLen], (fun h => by cases h), (fun _ => ⟨w.heap.size, 0, rfl, fun j u hu => ?_⟩)⟩
  rw [Nat.zero_add, (Blk.new w _ T).cell]
  simpa using hu

/-- Behind an append of one message to a slice of messages. -/
theorem OwnM.push {T : TypeId} {w w1 w2 : World} {base : Nat} {v v' : Value} {es : List Ms} {m : Ms} (h : OwnM T w base v es) (hW : Only [] w w1) (hb : Bld T 2 base w1 w2 v v' (es.length + 1) (msCells es ++ m.cells))
    (hm : VwB w1 m.bv m.body) (hmf : ∀ g, m.bv.ownBlock = some g → base ≤ g ∧ g < w1.heap.size ∧ v.ownBlock ≠ some g) : OwnM T w2 base v' (es ++ [m]) := by
  have hlies : ∀ g, g < w1.heap.size → v.ownBlock ≠ some g → v'.ownBlock ≠ some g := by
    intro g hg hv hv'
    rcases hb.lies with h1 | h1
    · rw [h1] at hv'; exact hv hv'
    · have := h1 g hv'; omega
  have hstay : ∀ g, v.ownBlock ≠ some g → g ∉ v.ownBlock.toList := by
    intro g hv hm
    exact hv (by simpa using hm)
  refine ⟨?_, fun e he => ?_, fun e he g hg => ?_, fun e he g hg => ?_⟩
  · have := hb.own
    rw [show es.length + 1 = (es ++ [m]).length by simp, show msCells es ++ m.cells = msCells (es ++ [m]) by simp [msCells]] at this
    exact this
  · rcases List.mem_append.1 he with he | he
    · exact ((h.bod e he).only hW).keep hb.only (fun g hg => hstay g (h.apart e he g hg))
    · obtain rfl : e = m := by simpa using he
      exact hm.keep hb.only (fun g hg => hstay g (hmf g hg).2.2)
  · rcases List.mem_append.1 he with he | he
    · exact hlies g (by have := (h.fresh e he g hg).2; have := hW.size; omega) (h.apart e he g hg)
    · obtain rfl : e = m := by simpa using he
      exact hlies g (hmf g hg).2.1 (hmf g hg).2.2
  · have hs := hb.only.size
    have hs2 := hW.size
    rcases List.mem_append.1 he with he | he
    · have := h.fresh e he g hg; omega
    · obtain rfl : e = m := by simpa using he
      have := hmf g hg; omega
end Go.Proofs.Ytcpoaghogpkagaa
