/-
  General lemmas of our own: a slice of bytes that is read: its elements, its parts.
-/
import Derived.Test.YtohahlcjkhgimaaSlice
namespace Go.Pm
set_option linter.unusedSimpArgs false
set_option linter.unusedVariables false
open Go.RowKit

/-- A slice with elements: where they lie. -/
theorem VwB.open {w : World} {v : Value} {l : List Int} (h : VwB w v l) (hne : l ≠ []) : ∃ b off cap, v = .slice (some ⟨b, off, none⟩) l.length cap ∧ l.length ≤ cap ∧ cap ≤ maxLen ∧ b < w.heap.size ∧
    ∀ i (hi : i < l.length), w.cell? ⟨b, off + i, none⟩ = some (.int .u8 l[i]) := by
  obtain ⟨a, cap, rfl, h1, h2, h3, h4, h5⟩ := h
  obtain ⟨b, off, rfl, hc⟩ := h5 (by simpa [bys] using hne)
  have key : ∀ i (hi : i < l.length), w.cell? ⟨b, off + i, none⟩ = some (.int .u8 l[i]) := fun i hi => hc i _ (by simp [bys, List.getElem?_eq_getElem hi])
  exact ⟨b, off, cap, rfl, h2, h3, World.block_lt_of_cell? w _ (key 0 (List.length_pos_iff.2 hne)), key⟩

theorem VwB.mk {w : World} {b off n cap : Nat} {l : List Int} (hn : n = l.length) (h2 : n ≤ cap) (h3 : cap ≤ maxLen) (hc : ∀ i (hi : i < l.length), w.cell? ⟨b, off + i, none⟩ = some (.int .u8 l[i])) : VwB w (.slice (some ⟨b, off, none⟩) n cap) l := by
  subst hn
  refine ⟨_, cap, rfl, by simp [bys_length], h2, h3, (fun h => by cases h), fun _ => ⟨b, off, rfl, fun j u hu => ?_⟩⟩
  have hj : j < l.length := by
    have := (List.getElem?_eq_some_iff.1 hu).1
    simpa [bys_length] using this
  rw [hc j hj]
  simp only [bys, List.getElem?_map, List.getElem?_eq_getElem hj, Option.map_some] at hu
  exact hu

/-- An empty part. -/
theorem VwB.none {w : World} {a : Addr} {cap : Nat} (h3 : cap ≤ maxLen) : VwB w (.slice (some a) 0 cap) [] :=
  ⟨_, cap, rfl, by simp [bys], Nat.zero_le _, h3, (fun h => by cases h), fun h => (h rfl).elim⟩

/-- A part of a slice with an address, from i on, k elements. -/
theorem VwB.part {w : World} {b off n cap i k c : Nat} {l m : List Int} (h : VwB w (.slice (some ⟨b, off, Option.none⟩) n cap) l) (hm : m = (l.drop i).take k) (hk : i + k ≤ n) (hc : k ≤ c) (hcm : c ≤ maxLen) : VwB w (.slice (some ⟨b, off + i, Option.none⟩) k c) m := by
  have hl : l.length = n := by
    obtain ⟨a, cap', he, h1, _⟩ := h
    cases he
    rfl
  subst hm
  by_cases hne : l = []
  · subst hne
    have hk0 : k = 0 := by simp at hl; omega
    subst hk0
    simpa using VwB.none (w := w) (a := ⟨b, off + i, Option.none⟩) hcm
  · obtain ⟨b', off', cap', he, _, _, _, key⟩ := h.open hne
    cases he
    refine VwB.mk (by simp; omega) hc hcm (fun j hj => ?_)
    have hj2 : j < k ∧ i + j < l.length := by simp at hj; omega
    rw [Nat.add_assoc, key (i + j) hj2.2]
    simp [List.getElem_take, List.getElem_drop]

/-- What the slice expression b[i:i+k] hands out: where nothing is left, the old address. -/
theorem VwB.cut {w : World} {b off n cap i k k' c : Nat} {l m : List Int} (h : VwB w (.slice (some ⟨b, off, Option.none⟩) n cap) l) (hm : m = (l.drop i).take k) (hk : i + k ≤ n) (hk' : k' = k) (hc : c = cap - i) : VwB w (.slice (if cap = i then some ⟨b, off, Option.none⟩ else some ⟨b, off + i, Option.none⟩) k' c) m := by
  subst hk' hc
  have hs : n ≤ cap ∧ cap ≤ maxLen := by
    obtain ⟨a, cap', he, h1, h2, h3, _⟩ := h
    cases he
    exact ⟨h2, h3⟩
  split
  · obtain rfl : k' = 0 := by omega
    subst hm
    simpa using VwB.none (w := w) (a := ⟨b, off, Option.none⟩) (cap := cap - i) (by omega)
  · exact h.part hm hk (by omega) (by omega)
theorem ownBlock_if {c : Prop} [Decidable c] (b o1 o2 n m : Nat) : (Value.slice (if c then some ⟨b, o1, Option.none⟩ else some ⟨b, o2, Option.none⟩) n m).ownBlock = some b := by
  split <;> rfl

theorem VwB.size {w : World} {a : Option Addr} {n cap : Nat} {l : List Int} (h : VwB w (.slice a n cap) l) : l.length = n ∧ n ≤ cap ∧ cap ≤ maxLen := by
  obtain ⟨a, cap', he, h1, h2, h3, _⟩ := h
  cases he
  exact ⟨rfl, h2, h3⟩

theorem VwB.pre {w : World} {a : Option Addr} {n c k : Nat} {l : List Int} (h : VwB w (.slice a n c) l) (hk : k ≤ n) : VwB w (.slice a k c) (l.take k) := by
  obtain ⟨a', cap', he, h1, h2, h3, h4, h5⟩ := h
  cases he
  have hl : (l.take k).length = k := by rw [List.length_take]; simp [bys] at h1; omega
  refine ⟨a, c, by rw [hl], by simp [bys_length], by omega, h3, fun ha => by have := h4 ha; omega, fun hne => ?_⟩
  have hb : bys (l.take k) = (bys l).take k := by simp [bys]
  have hne' : bys l ≠ [] := fun h0 => hne (by rw [hb, h0]; simp)
  obtain ⟨b, off, he, hc⟩ := h5 hne'
  refine ⟨b, off, he, fun j u hu => hc j u ?_⟩
  rw [hb, List.getElem?_take] at hu
  split at hu
  · exact hu
  · cases hu

theorem VwB.shape {w : World} {v : Value} {l : List Int} (h : VwB w v l) : ∃ a cap, v = .slice a l.length cap ∧ l.length ≤ cap ∧ cap ≤ maxLen := by
  obtain ⟨a, cap, rfl, h1, h2, h3, _⟩ := h
  exact ⟨a, cap, rfl, h2, h3⟩

/-- An argument: a slice of bytes. -/
theorem Rd.bytes {P : Program} {w : World} {n : Nat} {t e : TypeId} {a : Option Addr} {len cap : Nat} (h : Rd P w n t [.slice a len cap]) (hu : P.underlying t = some (.slice e)) (he : P.underlying e = some (.int .u8)) (hc : P.cellsOf e = 1) :
    ∃ l : List Int, l.length = len ∧ VwB w (.slice a len cap) l ∧ Byte l := by
  rcases h.slice hu with h | ⟨x, l, c, m, h1, h2, h3, h4⟩
  · cases h
    exact ⟨[], rfl, VwB.nil w, by simp [Byte]⟩
  · cases h1
    by_cases hl : len = 0
    · subst hl
      exact ⟨[], rfl, VwB.none h3, by simp [Byte]⟩
    · obtain ⟨zs, hz⟩ := choose_lt (n := len) (p := fun i (z : Int) => w.cell? (x.add i) = some (.int .u8 z) ∧ 0 ≤ z ∧ z < 256) (by
        intro i hi
        obtain ⟨ds, hd1, hd2, hd3⟩ := h4 i (by omega)
        obtain ⟨z, rfl, hw⟩ := hd3.int he
        have h5 := hd2 0 (by simp)
        rw [hc] at h5
        have := bounds_u8 hw
        exact ⟨z, by simpa using h5, this.1, by omega⟩)
      have h0 := (hz 0 (by omega)).1
      obtain ⟨b, off, spot⟩ := x
      have hspot : spot = Option.none := by simpa [Addr.add] using World.cell?_spot h0
      subst hspot
      refine ⟨(List.range len).map zs, by simp, VwB.mk (by simp) h2 h3 (fun i hi => ?_), ?_⟩
      · have h6 := (hz i (by simpa using hi)).1
        rw [addr_add_plain] at h6
        simpa using h6
      · intro n hn
        obtain ⟨i, hi, rfl⟩ := List.mem_map.1 hn
        exact (hz i (by simpa using hi)).2

/-- A cell of another block stands. -/
theorem cell_setOther {w : World} {b i c j : Nat} {u v : Value} (h : w.cell? ⟨b, i, Option.none⟩ = some v) (hc : b ≠ c) : (w.setCell ⟨c, j, Option.none⟩ u).cell? ⟨b, i, Option.none⟩ = some v :=
  (World.cell?_of_block (w := w) (heap_setCell w c j u b hc)).trans h

theorem results_tmp4 {fn : Func} {t u v x : Tmp} (h : fn.results = #[.tmp t, .tmp u, .tmp v, .tmp x]) (tmps : Array Value) (P : Program) (w : World) :
    (results fn tmps).run P w = .ok (.tuple #[tmps.getD t undef, tmps.getD u undef, tmps.getD v undef, tmps.getD x undef]) w := by
  simp [results, h]

theorem Byte.at {l : List Int} (h : Byte l) (i : Nat) (hi : i < l.length) : 0 ≤ l[i] ∧ l[i] < 256 := h _ (List.getElem_mem hi)
theorem Byte.part {l : List Int} (h : Byte l) (i k : Nat) : Byte ((l.drop i).take k) := fun n hn => h n (List.drop_subset _ _ (List.take_subset _ _ hn))
end Go.Pm
