/-
  What an argument that came in looks like in memory, by its type: 'Rd'; and that a step which leaves old memory alone leaves it so.
-/
import Derived.Test.YtohahlcjkhgimaaBase
import Derived.ProofKit
import Derived.OpenShut
import Derived.Deep.Slices
import Derived.ChangeOld
namespace Go.Pm
set_option linter.unusedSimpArgs false
set_option linter.unusedVariables false
open Go.RowKit

theorem addr_add_add (a : Addr) (m n : Nat) : (a.add m).add n = a.add (m + n) := by
  unfold Addr.add
  by_cases h1 : m = 0
  · subst h1; simp
  · by_cases h2 : n = 0
    · subst h2; simp
    · simp [h1, h2, Nat.add_assoc]

theorem addr_add_plain (b off n : Nat) : (⟨b, off, none⟩ : Addr).add n = ⟨b, off + n, none⟩ := by
  unfold Addr.add
  by_cases h : n = 0
  · subst h; rfl
  · simp [h]

/-- The cells cs are a value of type t (to depth n): numbers fit their kinds, slices lead to as many elements as their capacity says. -/
def Rd (P : Program) (w : World) : Nat → TypeId → List Value → Prop
  | 0, _, _ => False
  | n + 1, t, cs => match P.underlying t with
    | some .bool => ∃ b, cs = [.bool b]
    | some (.int k) => ∃ m, cs = [.int k m] ∧ (Lit.int k m).wf = true
    | some .string => ∃ s : ByteArray, cs = [.string s] ∧ s.size ≤ maxLen
    | some (.slice e) => cs = [.slice none 0 0] ∨ ∃ (a : Addr) (len cap : Nat), cs = [.slice (some a) len cap] ∧ len ≤ cap ∧ cap ≤ maxLen ∧
        ∀ i, i < cap → ∃ ds : List Value, ds.length = P.cellsOf e ∧ (∀ j, j < ds.length → w.cell? (a.add (i * P.cellsOf e + j)) = ds[j]?) ∧ Rd P w n e ds
    | some (.struct fs) => cs.length = P.cellsOf t ∧ ∀ f, f ∈ fs.toList → Rd P w n f.type ((cs.drop f.offset).take (P.cellsOf f.type))
    | some (.array m e) => cs.length = P.cellsOf t ∧ ∀ i, i < m → Rd P w n e ((cs.drop (i * P.cellsOf e)).take (P.cellsOf e))
    | _ => True

theorem Rd.ofTrod {H : Type} {enc : TypeId × Value → H} {P : Program} {w : World} {base : Nat} {held : Bool} : ∀ (n : Nat) (t : TypeId) (cs : List Value) (x : DataW H × List MemPlace),
    DataW.trod enc P w base (fun _ => true) held n t cs = some x → Rd P w n t cs := by
  intro n
  induction n with
  | zero => intro t cs x h; simp [DataW.trod] at h
  | succ n ih =>
    intro t cs x h
    unfold Rd
    split
    · rename_i hu
      obtain ⟨b, rfl, _⟩ := DataW.trod_bool hu h
      exact ⟨b, rfl⟩
    · rename_i k hu
      obtain ⟨m, rfl, _, hw⟩ := DataW.trod_int hu h
      exact ⟨m, rfl, hw⟩
    · rename_i hu
      obtain ⟨s, rfl, _, hw⟩ := DataW.trod_string hu h
      exact ⟨s, rfl, hw⟩
    · rename_i e hu
      rcases DataW.trod_slice hu h with ⟨h1, _⟩ | ⟨a, len, cap, elems, rest, m, hm, hcs, _, _, hl, hcm, hel, he, hr, _⟩
      · exact .inl h1
      · obtain rfl : m = n := by omega
        obtain ⟨hrl, hr⟩ := hr rfl
        refine .inr ⟨a, len, cap, hcs, hl, hcm, fun i hi => ?_⟩
        have key : ∃ y, (w.cells? base (a.add (i * P.cellsOf e)) (P.cellsOf e)).bind (DataW.trod enc P w base (fun _ => true) held m e) = some y := by
          by_cases hil : i < len
          · rw [he i hil, List.getElem?_eq_getElem (by omega)]
            exact ⟨_, rfl⟩
          · have h4 := hr (i - len) (by omega)
            rw [show len + (i - len) = i by omega, List.getElem?_eq_getElem (by omega)] at h4
            exact ⟨_, h4⟩
        obtain ⟨y, hy⟩ := key
        cases hc : w.cells? base (a.add (i * P.cellsOf e)) (P.cellsOf e) with
        | none => simp [hc] at hy
        | some ds =>
          simp only [hc, Option.bind_some] at hy
          obtain ⟨_, hlen, hcell⟩ := World.cells?_some hc
          refine ⟨ds, hlen, fun j hj => ?_, ih _ _ _ hy⟩
          rw [← hcell j (by omega), addr_add_add]
    · rename_i fs hu
      obtain ⟨xs, m, hm, _, hl, hxl, hf⟩ := DataW.trod_struct hu h
      obtain rfl : m = n := by omega
      refine ⟨hl, fun f hfm => ?_⟩
      obtain ⟨i, hi⟩ := List.getElem?_of_mem hfm
      have hi' : fs[i]? = some f := by simpa using hi
      have h3 := hf i f hi'
      have hil : i < xs.length := by
        have := (List.getElem?_eq_some_iff.1 hi).1
        simp at this
        omega
      rw [List.getElem?_eq_getElem hil] at h3
      exact ih _ _ _ h3
    · rename_i m e hu
      obtain ⟨xs, m', hm, _, hl, hxl, hf⟩ := DataW.trod_array hu h
      obtain rfl : m' = n := by omega
      refine ⟨hl, fun i hi => ?_⟩
      have h3 := hf i hi
      rw [List.getElem?_eq_getElem (by omega)] at h3
      exact ih _ _ _ h3
    · trivial

theorem Rd.ofTrod' {H : Type} {enc : TypeId × Value → H} {P : Program} {w : World} {base : Nat} {held : Bool} {t : TypeId} {v : Value} {d : DataW H} {ps : List MemPlace}
    (h : DataW.Trod enc P w base (fun _ => true) held t v d ps) : ∃ n, Rd P w n t v.cells.toList := by
  obtain ⟨n, h⟩ := h
  exact ⟨n, Rd.ofTrod n _ _ _ h⟩

/-- Old memory left alone: what was a value of type t still is. -/
theorem Rd.keep {P : Program} {w w' : World} (hb : ∀ k, k < w.heap.size → w'.heap[k]? = w.heap[k]?) : ∀ (n : Nat) (t : TypeId) (cs : List Value), Rd P w n t cs → Rd P w' n t cs := by
  intro n
  induction n with
  | zero => intro t cs h; exact h
  | succ n ih =>
    intro t cs h
    unfold Rd at h ⊢
    split
    · rename_i hu; simpa only [hu] using h
    · rename_i k hu; simpa only [hu] using h
    · rename_i hu; simpa only [hu] using h
    · rename_i e hu
      simp only [hu] at h
      rcases h with h | ⟨a, len, cap, hcs, hl, hm, he⟩
      · exact .inl h
      · refine .inr ⟨a, len, cap, hcs, hl, hm, fun i hi => ?_⟩
        obtain ⟨ds, h1, h2, h3⟩ := he i hi
        refine ⟨ds, h1, fun j hj => ?_, ih _ _ h3⟩
        have h4 := h2 j hj
        have hlt : (a.add (i * P.cellsOf e + j)).block < w.heap.size := by
          rw [List.getElem?_eq_getElem hj] at h4
          exact World.block_lt_of_cell? w _ h4
        rw [World.cell?_of_block (w := w) (hb _ hlt)]
        exact h4
    · rename_i fs hu
      simp only [hu] at h
      exact ⟨h.1, fun f hf => ih _ _ (h.2 f hf)⟩
    · rename_i m e hu
      simp only [hu] at h
      exact ⟨h.1, fun i hi => ih _ _ (h.2 i hi)⟩
    · trivial

theorem Rd.only {P : Program} {w w' : World} {n : Nat} {t : TypeId} {cs : List Value} (h : Rd P w n t cs) (ho : Only [] w w') : Rd P w' n t cs :=
  Rd.keep (fun k hk => ho.block k hk (by simp)) n t cs h

theorem Rd.int {P : Program} {w : World} {n : Nat} {t : TypeId} {cs : List Value} {k : IntKind} (h : Rd P w n t cs) (hu : P.underlying t = some (.int k)) : ∃ m, cs = [.int k m] ∧ (Lit.int k m).wf = true := by
  cases n with
  | zero => exact h.elim
  | succ n => unfold Rd at h; simpa only [hu] using h

theorem Rd.i64 {P : Program} {w : World} {n : Nat} {t : TypeId} {a : Int} (h : Rd P w n t [.int .i64 a]) (hu : P.underlying t = some (.int .i64)) : -9223372036854775808 ≤ a ∧ a ≤ 9223372036854775807 := by
  obtain ⟨m, h1, h2⟩ := h.int hu
  cases h1
  exact bounds_i64 h2

theorem Rd.bool {P : Program} {w : World} {n : Nat} {t : TypeId} {cs : List Value} (h : Rd P w n t cs) (hu : P.underlying t = some .bool) : ∃ b, cs = [.bool b] := by
  cases n with
  | zero => exact h.elim
  | succ n => unfold Rd at h; simpa only [hu] using h

theorem Rd.string {P : Program} {w : World} {n : Nat} {t : TypeId} {cs : List Value} (h : Rd P w n t cs) (hu : P.underlying t = some .string) : ∃ s : ByteArray, cs = [.string s] ∧ s.size ≤ maxLen := by
  cases n with
  | zero => exact h.elim
  | succ n => unfold Rd at h; simpa only [hu] using h

theorem Rd.struct {P : Program} {w : World} {n : Nat} {t : TypeId} {cs : List Value} {fs : Array Field} (h : Rd P w n t cs) (hu : P.underlying t = some (.struct fs)) :
    cs.length = P.cellsOf t ∧ ∀ f, f ∈ fs.toList → ∃ m, Rd P w m f.type ((cs.drop f.offset).take (P.cellsOf f.type)) := by
  cases n with
  | zero => exact h.elim
  | succ n => unfold Rd at h; simp only [hu] at h; exact ⟨h.1, fun f hf => ⟨n, h.2 f hf⟩⟩

/-- A field of a struct, by its place: its type, where its cells begin, how many there are. -/
theorem Rd.field {P : Program} {w : World} {n : Nat} {t : TypeId} {cs : List Value} {fs : Array Field} (h : Rd P w n t cs) (hu : P.underlying t = some (.struct fs)) (i : Nat) (t' : TypeId) (off sz : Nat)
    (h1 : (fs[i]?).map (fun f => (f.type, f.offset)) = some (t', off)) (h2 : P.cellsOf t' = sz) : ∃ m, Rd P w m t' ((cs.drop off).take sz) := by
  obtain ⟨_, hf⟩ := h.struct hu
  cases hi : fs[i]? with
  | none => simp [hi] at h1
  | some f =>
    simp only [hi, Option.map_some, Option.some.injEq, Prod.mk.injEq] at h1
    obtain ⟨rfl, rfl⟩ := h1
    subst h2
    exact hf f (List.mem_of_getElem? (i := i) (by simpa using hi))

theorem Rd.u32 {P : Program} {w : World} {n : Nat} {t : TypeId} {cs : List Value} (h : Rd P w n t cs) (hu : P.underlying t = some (.int .u32)) : ∃ m, cs = [.int .u32 m] ∧ 0 ≤ m ∧ m ≤ 4294967295 := by
  obtain ⟨m, h1, h2⟩ := h.int hu
  have := bounds_u32 h2
  exact ⟨m, h1, this⟩
theorem Rd.int64 {P : Program} {w : World} {n : Nat} {t : TypeId} {cs : List Value} (h : Rd P w n t cs) (hu : P.underlying t = some (.int .i64)) : ∃ m, cs = [.int .i64 m] ∧ -9223372036854775808 ≤ m ∧ m ≤ 9223372036854775807 := by
  obtain ⟨m, h1, h2⟩ := h.int hu
  have := bounds_i64 h2
  exact ⟨m, h1, this⟩

/-- A slice: nil, or its elements lie at an address. -/
theorem Rd.slice {P : Program} {w : World} {n : Nat} {t e : TypeId} {cs : List Value} (h : Rd P w n t cs) (hu : P.underlying t = some (.slice e)) :
    cs = [.slice none 0 0] ∨ ∃ (a : Addr) (len cap m : Nat), cs = [.slice (some a) len cap] ∧ len ≤ cap ∧ cap ≤ maxLen ∧
        ∀ i, i < cap → ∃ ds : List Value, ds.length = P.cellsOf e ∧ (∀ j, j < ds.length → w.cell? (a.add (i * P.cellsOf e + j)) = ds[j]?) ∧ Rd P w m e ds := by
  cases n with
  | zero => exact h.elim
  | succ n =>
    unfold Rd at h
    simp only [hu] at h
    rcases h with h | ⟨a, len, cap, h1, h2, h3, h4⟩
    · exact .inl h
    · exact .inr ⟨a, len, cap, n, h1, h2, h3, h4⟩

theorem choose_lt {α : Type} [Inhabited α] {p : Nat → α → Prop} {n : Nat} (h : ∀ i, i < n → ∃ x, p i x) : ∃ f : Nat → α, ∀ i, i < n → p i (f i) := by
  classical
  refine ⟨fun i => if hi : i < n then (h i hi).choose else default, fun i hi => ?_⟩
  simp only [hi, dite_true]
  exact (h i hi).choose_spec

/-- A slice of numbers of 64 bits: no element, or all lie behind one another. -/
theorem Rd.ints {P : Program} {w : World} {n : Nat} {t e : TypeId} {a : Option Addr} {len cap : Nat} (h : Rd P w n t [.slice a len cap]) (hu : P.underlying t = some (.slice e)) (he : P.underlying e = some (.int .i64)) (hc : P.cellsOf e = 1) :
    len ≤ cap ∧ cap ≤ maxLen ∧ (len = 0 ∨ ∃ (b off : Nat) (zs : Nat → Int), a = some ⟨b, off, none⟩ ∧ b < w.heap.size ∧ ∀ i, i < len → w.cell? ⟨b, off + i, none⟩ = some (.int .i64 (zs i)) ∧ -9223372036854775808 ≤ zs i ∧ zs i ≤ 9223372036854775807) := by
  rcases h.slice hu with h | ⟨x, l, c, m, h1, h2, h3, h4⟩
  · cases h
    exact ⟨Nat.le_refl _, by simp [maxLen], .inl rfl⟩
  · cases h1
    refine ⟨h2, h3, ?_⟩
    by_cases hl : len = 0
    · exact .inl hl
    · right
      obtain ⟨zs, hz⟩ := choose_lt (n := len) (p := fun i (z : Int) => w.cell? (x.add i) = some (.int .i64 z) ∧ -9223372036854775808 ≤ z ∧ z ≤ 9223372036854775807) (by
        intro i hi
        obtain ⟨ds, hd1, hd2, hd3⟩ := h4 i (by omega)
        obtain ⟨z, rfl, hw⟩ := hd3.int he
        have h5 := hd2 0 (by simp)
        rw [hc] at h5
        exact ⟨z, by simpa using h5, bounds_i64 hw⟩)
      have h0 := (hz 0 (by omega)).1
      obtain ⟨b, off, spot⟩ := x
      have hspot : spot = none := by simpa [Addr.add] using World.cell?_spot h0
      subst hspot
      refine ⟨b, off, zs, rfl, World.block_lt_of_cell? w _ (by simpa [Addr.add] using h0), fun i hi => ?_⟩
      have h6 := hz i hi
      rw [addr_add_plain] at h6
      exact h6

/-- A slice of pairs of numbers of 64 bits. -/
theorem Rd.pairs {P : Program} {w : World} {n : Nat} {t e : TypeId} {a : Option Addr} {len cap : Nat} {f0 f1 : Field} (h : Rd P w n t [.slice a len cap]) (hu : P.underlying t = some (.slice e)) (he : P.underlying e = some (.struct #[f0, f1]))
    (hc : P.cellsOf e = 2) (o0 : f0.offset = 0) (o1 : f1.offset = 1) (ht0 : P.underlying f0.type = some (.int .i64)) (ht1 : P.underlying f1.type = some (.int .i64)) (hc0 : P.cellsOf f0.type = 1) (hc1 : P.cellsOf f1.type = 1) :
    len ≤ cap ∧ cap ≤ maxLen ∧ (len = 0 ∨ ∃ (b off : Nat) (zs : Nat → Int × Int), a = some ⟨b, off, none⟩ ∧ b < w.heap.size ∧ ∀ i, i < len → w.cell? ⟨b, off + i * 2, none⟩ = some (.int .i64 (zs i).1) ∧ w.cell? ⟨b, off + i * 2 + 1, none⟩ = some (.int .i64 (zs i).2) ∧
      -9223372036854775808 ≤ (zs i).1 ∧ (zs i).1 ≤ 9223372036854775807 ∧ -9223372036854775808 ≤ (zs i).2 ∧ (zs i).2 ≤ 9223372036854775807) := by
  rcases h.slice hu with h | ⟨x, l, c, m, h1, h2, h3, h4⟩
  · cases h
    exact ⟨Nat.le_refl _, by simp [maxLen], .inl rfl⟩
  · cases h1
    refine ⟨h2, h3, ?_⟩
    by_cases hl : len = 0
    · exact .inl hl
    · right
      obtain ⟨zs, hz⟩ := choose_lt (n := len) (p := fun i (z : Int × Int) => w.cell? (x.add (i * 2)) = some (.int .i64 z.1) ∧ w.cell? (x.add (i * 2 + 1)) = some (.int .i64 z.2) ∧ -9223372036854775808 ≤ z.1 ∧ z.1 ≤ 9223372036854775807 ∧ -9223372036854775808 ≤ z.2 ∧ z.2 ≤ 9223372036854775807) (by
        intro i hi
        obtain ⟨ds, hd1, hd2, hd3⟩ := h4 i (by omega)
        rw [hc] at hd1 hd2
        obtain ⟨_, hf⟩ := hd3.struct he
        match ds, hd1 with
        | [c0, c1], _ =>
          obtain ⟨m0, hm0⟩ := hf f0 (by simp)
          obtain ⟨m1, hm1⟩ := hf f1 (by simp)
          rw [o0, hc0] at hm0
          rw [o1, hc1] at hm1
          obtain ⟨z0, hz0, hw0⟩ := hm0.int ht0
          obtain ⟨z1, hz1, hw1⟩ := hm1.int ht1
          simp at hz0 hz1
          subst hz0 hz1
          have h5 := hd2 0 (by simp)
          have h6 := hd2 1 (by simp)
          have b0 := bounds_i64 hw0
          have b1 := bounds_i64 hw1
          exact ⟨(z0, z1), by simpa using h5, by simpa using h6, b0.1, b0.2, b1.1, b1.2⟩)
      have h0 := (hz 0 (by omega)).1
      obtain ⟨b, off, spot⟩ := x
      have hspot : spot = none := by simpa [Addr.add] using World.cell?_spot h0
      subst hspot
      refine ⟨b, off, zs, rfl, World.block_lt_of_cell? w _ (by simpa [Addr.add] using h0), fun i hi => ?_⟩
      have h6 := hz i hi
      rw [addr_add_plain, addr_add_plain] at h6
      simpa [Nat.add_assoc] using h6

end Go.Pm
