/-
  What an argument that came in looks like in memory, with the bounds on its slices' sizes: 'Rs'.
-/
import Derived.Test.YtohahlcjkhgimaaView
import Derived.HandedShaped
namespace Go.Pm
set_option linter.unusedSimpArgs false
set_option linter.unusedVariables false
open Go.RowKit

/-- As Rd; besides each slice's memory, and each string, is within the reach. -/
def Rs (P : Program) (w : World) : Nat → TypeId → List Value → Prop
  | 0, _, _ => False
  | n + 1, t, cs => match P.underlying t with
    | some .bool => ∃ b, cs = [.bool b]
    | some (.int k) => ∃ m, cs = [.int k m] ∧ (Lit.int k m).wf = true
    | some .string => ∃ s : ByteArray, cs = [.string s] ∧ s.size ≤ reachBytes
    | some (.slice e) => cs = [.slice none 0 0] ∨ ∃ (a : Addr) (len cap : Nat), cs = [.slice (some a) len cap] ∧ len ≤ cap ∧ cap ≤ maxLen ∧ cap * P.bytesOf e ≤ reachBytes ∧
        ∀ i, i < cap → ∃ ds : List Value, ds.length = P.cellsOf e ∧ (∀ j, j < ds.length → w.cell? (a.add (i * P.cellsOf e + j)) = ds[j]?) ∧ Rs P w n e ds
    | some (.struct fs) => cs.length = P.cellsOf t ∧ ∀ f, f ∈ fs.toList → Rs P w n f.type ((cs.drop f.offset).take (P.cellsOf f.type))
    | some (.array m e) => cs.length = P.cellsOf t ∧ ∀ i, i < m → Rs P w n e ((cs.drop (i * P.cellsOf e)).take (P.cellsOf e))
    | _ => True

theorem weightsAll_mem {H : Type} {P : Program} {e : TypeId} {ds : List (DataW H)} {d : DataW H} (h : d ∈ ds) {m : Nat} (hm : m ∈ d.weights P e) : m ∈ DataW.weightsAll P e ds := by
  induction ds with
  | nil => cases h
  | cons x r ih =>
    unfold DataW.weightsAll
    rcases List.mem_cons.1 h with rfl | h
    · exact List.mem_append_left _ hm
    · exact List.mem_append_right _ (ih h)
theorem weightsEach_mem {H : Type} {P : Program} : ∀ {ts : List TypeId} {ds : List (DataW H)} {i : Nat} {t : TypeId} {d : DataW H}, ts[i]? = some t → ds[i]? = some d → ∀ {m : Nat}, m ∈ d.weights P t → m ∈ DataW.weightsEach P ts ds
  | [], _, _, _, _, h, _, _, _ => by simp at h
  | _ :: _, [], _, _, _, _, h, _, _ => by simp at h
  | t :: ts, d :: ds, 0, _, _, h1, h2, m, hm => by
    simp only [List.getElem?_cons_zero, Option.some.injEq] at h1 h2
    subst h1 h2
    unfold DataW.weightsEach
    exact List.mem_append_left _ hm
  | t :: ts, d :: ds, i + 1, _, _, h1, h2, m, hm => by
    unfold DataW.weightsEach
    exact List.mem_append_right _ (weightsEach_mem (by simpa using h1) (by simpa using h2) hm)

theorem Rs.ofTrod {H : Type} {enc : TypeId × Value → H} {P : Program} {w : World} {base : Nat} {held : Bool} : ∀ (n : Nat) (t : TypeId) (cs : List Value) (x : DataW H × List MemPlace),
    DataW.trod enc P w base (fun _ => true) held n t cs = some x → (∀ m ∈ x.1.weights P t, m ≤ reachBytes) → Rs P w n t cs := by
  intro n
  induction n with
  | zero => intro t cs x h; simp [DataW.trod] at h
  | succ n ih =>
    intro t cs x h hz
    unfold Rs
    split
    · rename_i hu
      obtain ⟨b, rfl, _⟩ := DataW.trod_bool hu h
      exact ⟨b, rfl⟩
    · rename_i k hu
      obtain ⟨m, rfl, _, hw⟩ := DataW.trod_int hu h
      exact ⟨m, rfl, hw⟩
    · rename_i hu
      obtain ⟨s, rfl, rfl, hw⟩ := DataW.trod_string hu h
      exact ⟨s, rfl, by have := hz s.data.toList.length (by simp [DataW.weights]); simpa using this⟩
    · rename_i e hu
      rcases DataW.trod_slice hu h with ⟨h1, _⟩ | ⟨a, len, cap, elems, rest, m, hm, hcs, hx, _, hl, hcm, hel, he, hr, _⟩
      · exact .inl h1
      · obtain rfl : m = n := by omega
        obtain ⟨hrl, hr⟩ := hr rfl
        subst hx
        have hwe : DataW.weights P t (.slice (elems.map (·.1)) (rest.map (·.1)) : DataW H) = ((elems.map (·.1)).length + (rest.map (·.1)).length) * P.bytesOf e :: (DataW.weightsAll P e (elems.map (·.1)) ++ DataW.weightsAll P e (rest.map (·.1))) := by
          rw [DataW.weights, hu]
        have hz' : ∀ m ∈ DataW.weights P t (.slice (elems.map (·.1)) (rest.map (·.1)) : DataW H), m ≤ reachBytes := hz
        rw [hwe] at hz'
        refine .inr ⟨a, len, cap, hcs, hl, hcm, ?_, fun i hi => ?_⟩
        · have := hz' _ (List.mem_cons_self ..)
          simp only [List.length_map] at this
          rwa [show elems.length + rest.length = cap by omega] at this
        · have key : ∃ y, (w.cells? base (a.add (i * P.cellsOf e)) (P.cellsOf e)).bind (DataW.trod enc P w base (fun _ => true) held m e) = some y ∧ (∀ k ∈ y.1.weights P e, k ≤ reachBytes) := by
            by_cases hil : i < len
            · rw [he i hil, List.getElem?_eq_getElem (by omega)]
              exact ⟨_, rfl, fun k hk => hz' k (List.mem_cons_of_mem _ (List.mem_append_left _ (weightsAll_mem (List.mem_map_of_mem (List.getElem_mem _)) hk)))⟩
            · have h4 := hr (i - len) (by omega)
              rw [show len + (i - len) = i by omega, List.getElem?_eq_getElem (by omega)] at h4
              exact ⟨_, h4, fun k hk => hz' k (List.mem_cons_of_mem _ (List.mem_append_right _ (weightsAll_mem (List.mem_map_of_mem (List.getElem_mem _)) hk)))⟩
          obtain ⟨y, hy, hyz⟩ := key
          cases hc : w.cells? base (a.add (i * P.cellsOf e)) (P.cellsOf e) with
          | none => simp [hc] at hy
          | some ds =>
            simp only [hc, Option.bind_some] at hy
            obtain ⟨_, hlen, hcell⟩ := World.cells?_some hc
            refine ⟨ds, hlen, fun j hj => ?_, ih _ _ _ hy hyz⟩
            rw [← hcell j (by omega), addr_add_add]
    · rename_i fs hu
      obtain ⟨xs, m, hm, hx, hl, hxl, hf⟩ := DataW.trod_struct hu h
      obtain rfl : m = n := by omega
      subst hx
      have hz' : ∀ m ∈ DataW.weightsEach P (fs.toList.map (·.type)) (xs.map (·.1)), m ≤ reachBytes := fun k hk => hz k (by show k ∈ DataW.weights P t (.agg (xs.map (·.1)) : DataW H); rw [DataW.weights, hu]; exact hk)
      refine ⟨hl, fun f hfm => ?_⟩
      obtain ⟨i, hi⟩ := List.getElem?_of_mem hfm
      have hi' : fs[i]? = some f := by simpa using hi
      have h3 := hf i f hi'
      have hil : i < xs.length := by
        have := (List.getElem?_eq_some_iff.1 hi).1
        simp at this
        omega
      rw [List.getElem?_eq_getElem hil] at h3
      exact ih _ _ _ h3 fun k hk => hz' k (weightsEach_mem (i := i) (t := f.type) (by simp [hi]) (d := xs[i].1) (by simp [List.getElem?_eq_getElem hil]) hk)
    · rename_i m e hu
      obtain ⟨xs, m', hm, hx, hl, hxl, hf⟩ := DataW.trod_array hu h
      obtain rfl : m' = n := by omega
      subst hx
      have hz' : ∀ m ∈ DataW.weightsAll P e (xs.map (·.1)), m ≤ reachBytes := fun k hk => hz k (by show k ∈ DataW.weights P t (.agg (xs.map (·.1)) : DataW H); rw [DataW.weights, hu]; exact hk)
      refine ⟨hl, fun i hi => ?_⟩
      have h3 := hf i hi
      rw [List.getElem?_eq_getElem (by omega)] at h3
      exact ih _ _ _ h3 fun k hk => hz' k (weightsAll_mem (List.mem_map_of_mem (List.getElem_mem _)) hk)
    · trivial

theorem Rs.ofTrod' {H : Type} {enc : TypeId × Value → H} {P : Program} {w : World} {base : Nat} {held : Bool} {t : TypeId} {v : Value} {d : DataW H} {ps : List MemPlace}
    (h : DataW.Trod enc P w base (fun _ => true) held t v d ps) (hz : ∀ m ∈ d.weights P t, m ≤ reachBytes) : ∃ n, Rs P w n t v.cells.toList := by
  obtain ⟨n, h⟩ := h
  exact ⟨n, Rs.ofTrod n _ _ _ h hz⟩

theorem Rs.rd {P : Program} {w : World} : ∀ (n : Nat) (t : TypeId) (cs : List Value), Rs P w n t cs → Rd P w n t cs := by
  intro n
  induction n with
  | zero => intro t cs h; exact h
  | succ n ih =>
    intro t cs h
    unfold Rs at h
    unfold Rd
    split
    · rename_i hu; simpa only [hu] using h
    · rename_i k hu; simpa only [hu] using h
    · rename_i hu
      simp only [hu] at h
      obtain ⟨s, hs, hl⟩ := h
      exact ⟨s, hs, by unfold reachBytes at hl; unfold maxLen; omega⟩
    · rename_i e hu
      simp only [hu] at h
      rcases h with h | ⟨a, len, cap, hcs, hl, hm, _, he⟩
      · exact .inl h
      · exact .inr ⟨a, len, cap, hcs, hl, hm, fun i hi => by
          obtain ⟨ds, h1, h2, h3⟩ := he i hi
          exact ⟨ds, h1, h2, ih _ _ h3⟩⟩
    · rename_i fs hu
      simp only [hu] at h
      exact ⟨h.1, fun f hf => ih _ _ (h.2 f hf)⟩
    · rename_i m e hu
      simp only [hu] at h
      exact ⟨h.1, fun i hi => ih _ _ (h.2 i hi)⟩
    · trivial

theorem Rs.slice {P : Program} {w : World} {n : Nat} {t e : TypeId} {cs : List Value} (h : Rs P w n t cs) (hu : P.underlying t = some (.slice e)) :
    cs = [.slice none 0 0] ∨ ∃ (a : Addr) (len cap m : Nat), cs = [.slice (some a) len cap] ∧ len ≤ cap ∧ cap ≤ maxLen ∧ cap * P.bytesOf e ≤ reachBytes ∧
        ∀ i, i < cap → ∃ ds : List Value, ds.length = P.cellsOf e ∧ (∀ j, j < ds.length → w.cell? (a.add (i * P.cellsOf e + j)) = ds[j]?) ∧ Rs P w m e ds := by
  cases n with
  | zero => exact h.elim
  | succ n =>
    unfold Rs at h
    simp only [hu] at h
    rcases h with h | ⟨a, len, cap, h1, h2, h3, h4, h5⟩
    · exact .inl h
    · exact .inr ⟨a, len, cap, n, h1, h2, h3, h4, h5⟩

/-- The elements of a slice that came in: of each its cells, and what they are. -/
theorem Rs.elems {P : Program} {w : World} {n : Nat} {t e : TypeId} {a : Option Addr} {len cap sz : Nat} (h : Rs P w n t [.slice a len cap]) (hu : P.underlying t = some (.slice e)) (hc : P.cellsOf e = sz) :
    len ≤ cap ∧ cap ≤ maxLen ∧ cap * P.bytesOf e ≤ reachBytes ∧ ∃ (m : Nat) (ds : List (List Value)), ds.length = len ∧ Vw w (.slice a len cap) sz len ds.flatten ∧ ∀ d ∈ ds, d.length = sz ∧ Rs P w m e d := by
  rcases h.slice hu with h | ⟨x, l, c, m, h1, h2, h3, h4, h5⟩
  · cases h
    exact ⟨Nat.le_refl _, by simp [maxLen], by simp, 0, [], rfl, by simpa using Vw.nil w sz, by simp⟩
  · cases h1
    refine ⟨h2, h3, h4, m, ?_⟩
    obtain ⟨f, hf⟩ := choose_lt (n := len) (p := fun i (d : List Value) => d.length = sz ∧ (∀ j, j < sz → w.cell? (x.add (i * sz + j)) = d[j]?) ∧ Rs P w m e d) (by
      intro i hi
      obtain ⟨d, h6, h7, h8⟩ := h5 i (by omega)
      rw [hc] at h6 h7
      exact ⟨d, h6, fun j hj => h7 j (by omega), h8⟩)
    have hfl : ∀ k, k ≤ len → ((List.range k).map f).flatten.length = k * sz := by
      intro k
      induction k with
      | zero => intro _; simp
      | succ k ih => intro hk; rw [List.range_succ, List.map_append, List.flatten_append, List.length_append, ih (by omega)]; simp [(hf k (by omega)).1, Nat.succ_mul]
    refine ⟨(List.range len).map f, by simp, ⟨_, _, rfl, hfl len (Nat.le_refl _), h2, h3, (fun h => by cases h), fun hne => ?_⟩, ?_⟩
    · have hcell : ∀ k, k ≤ len → ∀ j u, ((List.range k).map f).flatten[j]? = some u → w.cell? (x.add j) = some u := by
        intro k
        induction k with
        | zero => intro _ j u hu; simp at hu
        | succ k ih =>
          intro hk j u hu
          rw [List.range_succ, List.map_append, List.flatten_append, List.getElem?_append] at hu
          split at hu
          · exact ih (by omega) j u hu
          · rename_i hj
            rw [hfl k (by omega)] at hu hj
            simp only [List.map_cons, List.map_nil, List.flatten_cons, List.flatten_nil, List.append_nil] at hu
            have hjl : j - k * sz < sz := by
              have := (List.getElem?_eq_some_iff.1 hu).1
              rw [(hf k (by omega)).1] at this
              exact this
            have := (hf k (by omega)).2.1 (j - k * sz) hjl
            rw [show k * sz + (j - k * sz) = j by omega] at this
            rw [this]
            exact hu
      have h0 : ∃ u, ((List.range len).map f).flatten[0]? = some u := by
        cases hq : ((List.range len).map f).flatten with
        | nil => exact (hne hq).elim
        | cons u r => exact ⟨u, rfl⟩
      obtain ⟨u0, hu0⟩ := h0
      have hc0 := hcell len (Nat.le_refl _) 0 u0 hu0
      obtain ⟨b, off, spot⟩ := x
      have hspot : spot = Option.none := by simpa [Addr.add] using World.cell?_spot hc0
      subst hspot
      exact ⟨b, off, rfl, fun j u hu => by have := hcell len (Nat.le_refl _) j u hu; rwa [addr_add_plain] at this⟩
    · intro d hd
      obtain ⟨i, hi, rfl⟩ := List.mem_map.1 hd
      have hi' : i < len := by simpa using hi
      exact ⟨(hf i hi').1, (hf i hi').2.2⟩

theorem Rs.only {P : Program} {w w' : World} (ho : Only [] w w') : ∀ (n : Nat) (t : TypeId) (cs : List Value), Rs P w n t cs → Rs P w' n t cs := by
  intro n
  induction n with
  | zero => intro t cs h; exact h
  | succ n ih =>
    intro t cs h
    unfold Rs at h ⊢
    split
    · rename_i hu; simpa only [hu] using h
    · rename_i k hu; simpa only [hu] using h
    · rename_i hu; simpa only [hu] using h
    · rename_i e hu
      simp only [hu] at h
      rcases h with h | ⟨a, len, cap, hcs, hl, hm, hz, he⟩
      · exact .inl h
      · refine .inr ⟨a, len, cap, hcs, hl, hm, hz, fun i hi => ?_⟩
        obtain ⟨ds, h1, h2, h3⟩ := he i hi
        refine ⟨ds, h1, fun j hj => ?_, ih _ _ h3⟩
        have h4 := h2 j hj
        have hlt : (a.add (i * P.cellsOf e + j)).block < w.heap.size := by
          rw [List.getElem?_eq_getElem hj] at h4
          exact World.block_lt_of_cell? w _ h4
        rw [World.cell?_of_block (w := w) (ho.block _ hlt (by simp))]
        exact h4
    · rename_i fs hu
      simp only [hu] at h
      exact ⟨h.1, fun f hf => ih _ _ (h.2 f hf)⟩
    · rename_i m e hu
      simp only [hu] at h
      exact ⟨h.1, fun i hi => ih _ _ (h.2 i hi)⟩
    · trivial
theorem Rs.struct {P : Program} {w : World} {n : Nat} {t : TypeId} {cs : List Value} {fs : Array Field} (h : Rs P w n t cs) (hu : P.underlying t = some (.struct fs)) :
    cs.length = P.cellsOf t ∧ ∃ m, ∀ f, f ∈ fs.toList → Rs P w m f.type ((cs.drop f.offset).take (P.cellsOf f.type)) := by
  cases n with
  | zero => exact h.elim
  | succ n => unfold Rs at h; simp only [hu] at h; exact ⟨h.1, n, h.2⟩
/-- A field of a struct, by its place: its type, where its cells begin, how many there are. -/
theorem Rs.field {P : Program} {w : World} {n : Nat} {t : TypeId} {cs : List Value} {fs : Array Field} (h : Rs P w n t cs) (hu : P.underlying t = some (.struct fs)) (i : Nat) (t' : TypeId) (off sz : Nat)
    (h1 : (fs[i]?).map (fun f => (f.type, f.offset)) = some (t', off)) (h2 : P.cellsOf t' = sz) : ∃ m, Rs P w m t' ((cs.drop off).take sz) := by
  obtain ⟨_, m, hf⟩ := h.struct hu
  cases hi : fs[i]? with
  | none => simp [hi] at h1
  | some f =>
    simp only [hi, Option.map_some, Option.some.injEq, Prod.mk.injEq] at h1
    obtain ⟨rfl, rfl⟩ := h1
    subst h2
    exact ⟨m, hf f (List.mem_of_getElem? (i := i) (by simpa using hi))⟩
end Go.Pm
