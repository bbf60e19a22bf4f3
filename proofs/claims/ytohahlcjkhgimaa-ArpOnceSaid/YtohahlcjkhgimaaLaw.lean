/-
  From a law's contract to the law; from an argument that came in to its parts: 'Leaf', 'Rs.list'.
-/
import Derived.Test.YtohahlcjkhgimaaSized
import Derived.Test.YtohahlcjkhgimaaJm
import Derived.SizedLaws
namespace Go.Pm
set_option linter.unusedSimpArgs false
set_option linter.unusedVariables false
open Go.RowKit

theorem Pact.law {P : Program} {f : FuncId} {args : Array Value} {φ : World → Prop} {W : World} (S : Pact P f args φ [] (fun v L => v = .bool true ∧ L = [])) (h : Kn (World.all W) φ) :
    Calls P f args W fun e w' => e = .returned (.bool true) ∧ Only [] W w' :=
  (S W (World.all W) W h (Ow.start W)).mono fun e w' ⟨v, L', ⟨hv, hl⟩, he, H⟩ => by
    subst hv
    exact ⟨he, H.fin⟩

theorem cell?_heap {w w' : World} (h : w'.heap = w.heap) (a : Addr) : w'.cell? a = w.cell? a := by
  have : w' = { w' with heap := w.heap } := by rw [← h]
  unfold World.cell?
  rw [h]
theorem Rs.heap {P : Program} {w w' : World} (hh : w'.heap = w.heap) : ∀ (n : Nat) (t : TypeId) (cs : List Value), Rs P w n t cs → Rs P w' n t cs := by
  intro n
  induction n with
  | zero => intro t cs h; exact h
  | succ n ih =>
    intro t cs h
    unfold Rs at h ⊢
    split
    · rename_i hu; simpa only [hu] using h
    · rename_i k hu; simpa only [hu] using h
    · rename_i hu; simpa only [hu] using h
    · rename_i e hu
      simp only [hu] at h
      rcases h with h | ⟨a, len, cap, hcs, hl, hm, hz, he⟩
      · exact .inl h
      · refine .inr ⟨a, len, cap, hcs, hl, hm, hz, fun i hi => ?_⟩
        obtain ⟨ds, h1, h2, h3⟩ := he i hi
        exact ⟨ds, h1, fun j hj => by rw [cell?_heap hh]; exact h2 j hj, ih _ _ h3⟩
    · rename_i fs hu
      simp only [hu] at h
      exact ⟨h.1, fun f hf => ih _ _ (h.2 f hf)⟩
    · rename_i m e hu
      simp only [hu] at h
      exact ⟨h.1, fun i hi => ih _ _ (h.2 i hi)⟩
    · trivial
theorem Rs.kn {P : Program} {W : World} {n : Nat} {t : TypeId} {cs : List Value} (h : Rs P W n t cs) : Kn (World.all W) (fun w => Rs P w n t cs) :=
  Kn.all (fun _ ho => Rs.only ho n t cs h) fun _ _ hh hr => Rs.heap hh n t cs hr
theorem Rs.of_weights {H : Type} {enc : TypeId × Value → H} {P : Program} {w : World} {base : Nat} {held : Bool} {ts : List TypeId} {ds : List (DataW H)} (hz : (DataW.weightsEach P ts ds).all (· ≤ reachBytes) = true) (i : Nat) {t : TypeId} {d : DataW H} (h1 : ts[i]? = some t) (h2 : ds[i]? = some d)
    {v : Value} {ps : List MemPlace} (h : DataW.Trod enc P w base (fun _ => true) held t v d ps) : ∃ n, Rs P w n t v.cells.toList :=
  Rs.ofTrod' h fun m hm => by
    have := List.all_eq_true.1 hz m (weightsEach_mem h1 h2 hm)
    simpa using this

/-! The cells of a struct, one by one. -/
def flatF (P : Program) (r : TypeId → Option (List TypeId)) : List Field → Nat → Option (List TypeId)
  | [], _ => some []
  | f :: fs, o => if f.offset = o then match r f.type, flatF P r fs (o + P.cellsOf f.type) with
      | some a, some b => if a.length = P.cellsOf f.type then some (a ++ b) else none
      | _, _ => none
    else none
def flatT (P : Program) : Nat → TypeId → Option (List TypeId)
  | 0, _ => none
  | n + 1, t => match P.underlying t with
    | some (.struct fs) => match flatF P (flatT P n) fs.toList 0 with
      | some a => if a.length = P.cellsOf t then some a else none
      | none => none
    | some (.array m e) => match flatT P n e with
      | some a => if a.length = P.cellsOf e ∧ m * P.cellsOf e = P.cellsOf t then some (List.replicate m a).flatten else none
      | none => none
    | some .bool => some [t]
    | some (.int _) => some [t]
    | some .string => some [t]
    | some (.slice _) => some [t]
    | _ => none
def Leaf (P : Program) (w : World) : List TypeId → List Value → Prop
  | [], cs => cs = []
  | t :: ts, cs => ∃ c r, cs = c :: r ∧ (∃ m, Rs P w m t [c]) ∧ Leaf P w ts r
theorem Leaf.append {P : Program} {w : World} : ∀ {ts us : List TypeId} {cs ds : List Value}, Leaf P w ts cs → Leaf P w us ds → Leaf P w (ts ++ us) (cs ++ ds)
  | [], _, _, _, h, k => by cases h; exact k
  | _ :: _, _, _, _, ⟨c, r, e, h1, h2⟩, k => by subst e; exact ⟨c, _, rfl, h1, Leaf.append h2 k⟩
theorem Leaf.len {P : Program} {w : World} : ∀ {ts : List TypeId} {cs : List Value}, Leaf P w ts cs → cs.length = ts.length
  | [], _, h => by cases h; rfl
  | _ :: _, _, ⟨c, r, e, _, h2⟩ => by subst e; simp [Leaf.len h2]
theorem leaf_fields {P : Program} {w : World} {r : TypeId → Option (List TypeId)} (hr : ∀ t ts m cs, r t = some ts → Rs P w m t cs → Leaf P w ts cs) : ∀ (fs : List Field) (o : Nat) (ts : List TypeId) (m : Nat) (all : List Value),
    flatF P r fs o = some ts → (∀ f ∈ fs, Rs P w m f.type ((all.drop f.offset).take (P.cellsOf f.type))) → Leaf P w ts ((all.drop o).take ts.length)
  | [], _, ts, _, _, h, _ => by
    simp only [flatF, Option.some.injEq] at h
    subst h
    simp [Leaf]
  | f :: fs, o, ts, m, all, h, hf => by
    simp only [flatF] at h
    split at h
    · rename_i ho
      split at h
      · rename_i a b ha hb
        split at h
        · rename_i hl
          cases h
          have h1 := hr _ _ _ _ ha (hf f (List.mem_cons_self ..))
          have h2 := leaf_fields hr fs _ b m all hb fun g hg => hf g (List.mem_cons_of_mem _ hg)
          rw [ho] at h1
          have := h1.append h2
          rw [List.length_append, List.take_add, List.drop_drop]
          rw [hl]
          exact this
        · cases h
      · cases h
    · cases h
theorem leaf_of {P : Program} {w : World} : ∀ (k : Nat) (t : TypeId) (ts : List TypeId) (m : Nat) (cs : List Value), flatT P k t = some ts → Rs P w m t cs → Leaf P w ts cs := by
  intro k
  induction k with
  | zero => intro t ts m cs h; simp [flatT] at h
  | succ k ih =>
    intro t ts m cs h hr
    have one : ∀ c, cs = [c] → ts = [t] → Leaf P w ts cs := fun c e e2 => by subst e e2; exact ⟨c, [], rfl, ⟨m, hr⟩, rfl⟩
    simp only [flatT] at h
    split at h
    · rename_i fs hu
      split at h
      · rename_i a ha
        split at h
        · rename_i hal
          cases h
          obtain ⟨hl, m', hf⟩ := hr.struct hu
          have h1 := leaf_fields (w := w) (fun t ts m cs => ih t ts m cs) fs.toList 0 _ m' cs ha hf
          rw [List.drop_zero, List.take_of_length_le (by omega)] at h1
          exact h1
        · cases h
      · cases h
    · rename_i x e hu
      split at h
      · rename_i a ha
        split at h
        · rename_i hal
          cases h
          obtain ⟨hal, htl⟩ := hal
          cases m with
          | zero => exact hr.elim
          | succ m =>
            unfold Rs at hr
            simp only [hu] at hr
            obtain ⟨hl, hf⟩ := hr
            have key : ∀ y, y ≤ x → Leaf P w (List.replicate y a).flatten (cs.take (y * P.cellsOf e)) := by
              intro y
              induction y with
              | zero => intro _; simp [Leaf]
              | succ y ihy =>
                intro hy
                have h1 := (ihy (by omega)).append (ih _ _ _ _ ha (hf y (by omega)))
                rw [Nat.succ_mul, List.take_add, List.replicate_succ', List.flatten_append]
                simpa using h1
            have := key x (Nat.le_refl _)
            rw [List.take_of_length_le (by omega)] at this
            exact this
        · cases h
      · cases h
    · rename_i hu
      cases h
      cases m with
      | zero => exact hr.elim
      | succ m => have hr' := hr; unfold Rs at hr'; simp only [hu] at hr'; obtain ⟨b, e⟩ := hr'; exact one _ e rfl
    · rename_i hu
      cases h
      cases m with
      | zero => exact hr.elim
      | succ m => have hr' := hr; unfold Rs at hr'; simp only [hu] at hr'; obtain ⟨b, e, _⟩ := hr'; exact one _ e rfl
    · rename_i hu
      cases h
      cases m with
      | zero => exact hr.elim
      | succ m => have hr' := hr; unfold Rs at hr'; simp only [hu] at hr'; obtain ⟨b, e, _⟩ := hr'; exact one _ e rfl
    · rename_i hu
      cases h
      cases m with
      | zero => exact hr.elim
      | succ m => have hr' := hr; unfold Rs at hr'; simp only [hu] at hr'; rcases hr' with e | ⟨a, l, c, e, _⟩ <;> exact one _ e rfl
    · cases h

theorem Leaf.one {P : Program} {w : World} {t : TypeId} {ts : List TypeId} {cs : List Value} (h : Leaf P w (t :: ts) cs) : ∃ c r, cs = c :: r ∧ (∃ m, Rs P w m t [c]) ∧ Leaf P w ts r := h
theorem Leaf.nil' {P : Program} {w : World} {cs : List Value} (h : Leaf P w [] cs) : cs = [] := h
theorem Leaf.int {P : Program} {w : World} {t : TypeId} {ts : List TypeId} {cs : List Value} {k : IntKind} (h : Leaf P w (t :: ts) cs) (hu : P.underlying t = some (.int k)) : ∃ z r, cs = .int k z :: r ∧ (Lit.int k z).wf = true ∧ Leaf P w ts r := by
  obtain ⟨c, r, rfl, ⟨m, h1⟩, h2⟩ := h
  obtain ⟨z, e, h3⟩ := (Rs.rd _ _ _ h1).int hu
  cases e
  exact ⟨z, r, rfl, h3, h2⟩
theorem Leaf.i64 {P : Program} {w : World} {t : TypeId} {ts : List TypeId} {cs : List Value} (h : Leaf P w (t :: ts) cs) (hu : P.underlying t = some (.int .i64)) : ∃ z r, cs = .int .i64 z :: r ∧ (-9223372036854775808 ≤ z ∧ z ≤ 9223372036854775807) ∧ Leaf P w ts r := by
  obtain ⟨z, r, e, h1, h2⟩ := h.int hu
  exact ⟨z, r, e, bounds_i64 h1, h2⟩
theorem Leaf.u32 {P : Program} {w : World} {t : TypeId} {ts : List TypeId} {cs : List Value} (h : Leaf P w (t :: ts) cs) (hu : P.underlying t = some (.int .u32)) : ∃ z r, cs = .int .u32 z :: r ∧ (0 ≤ z ∧ z ≤ 4294967295) ∧ Leaf P w ts r := by
  obtain ⟨z, r, e, h1, h2⟩ := h.int hu
  exact ⟨z, r, e, bounds_u32 h1, h2⟩
theorem Leaf.u8 {P : Program} {w : World} {t : TypeId} {ts : List TypeId} {cs : List Value} (h : Leaf P w (t :: ts) cs) (hu : P.underlying t = some (.int .u8)) : ∃ z r, cs = .int .u8 z :: r ∧ (0 ≤ z ∧ z ≤ 255) ∧ Leaf P w ts r := by
  obtain ⟨z, r, e, h1, h2⟩ := h.int hu
  exact ⟨z, r, e, bounds_u8 h1, h2⟩
theorem Leaf.bool {P : Program} {w : World} {t : TypeId} {ts : List TypeId} {cs : List Value} (h : Leaf P w (t :: ts) cs) (hu : P.underlying t = some .bool) : ∃ z r, cs = .bool z :: r ∧ Leaf P w ts r := by
  obtain ⟨c, r, rfl, ⟨m, h1⟩, h2⟩ := h
  obtain ⟨z, e⟩ := (Rs.rd _ _ _ h1).bool hu
  cases e
  exact ⟨z, r, rfl, h2⟩
theorem Leaf.sl {P : Program} {w : World} {t e : TypeId} {ts : List TypeId} {cs : List Value} (h : Leaf P w (t :: ts) cs) (hu : P.underlying t = some (.slice e)) : ∃ a l c r, cs = .slice a l c :: r ∧ (∃ m, Rs P w m t [.slice a l c]) ∧ Leaf P w ts r := by
  obtain ⟨v, r, rfl, ⟨m, h1⟩, h2⟩ := h
  rcases h1.slice hu with e | ⟨a, l, c, _, e, _⟩
  · cases e
    exact ⟨none, 0, 0, r, rfl, ⟨m, h1⟩, h2⟩
  · cases e
    exact ⟨some a, l, c, r, rfl, ⟨m, h1⟩, h2⟩
/-- A slice that came in, as a list. -/
theorem Rs.list {P : Program} {w : World} {n : Nat} {t e : TypeId} {a : Option Addr} {l c sz b : Nat} {α : Type} {enc : α → List Value} {ok : α → Prop} (h : Rs P w n t [.slice a l c]) (hu : P.underlying t = some (.slice e)) (hc : P.cellsOf e = sz) (hb : P.bytesOf e = b)
    (hx : ∀ m d, d.length = sz → Rs P w m e d → ∃ x, d = enc x ∧ ok x) :
    ∃ es : List α, es.length = l ∧ l ≤ c ∧ c ≤ maxLen ∧ c * b ≤ reachBytes ∧ Vw w (.slice a es.length c) sz es.length (flat enc es) ∧ ∀ x ∈ es, ok x := by
  obtain ⟨h1, h2, h3, m, ds, h4, h5, h6⟩ := h.elems hu hc
  subst hb
  have : ∃ es : List α, ds = es.map enc ∧ ∀ x ∈ es, ok x := by
    clear h4 h5
    induction ds with
    | nil => exact ⟨[], rfl, by simp⟩
    | cons d ds ih =>
      obtain ⟨es, e1, e2⟩ := ih fun d hd => h6 d (List.mem_cons_of_mem _ hd)
      obtain ⟨hl, hr⟩ := h6 d (List.mem_cons_self ..)
      obtain ⟨x, e3, e4⟩ := hx m d hl hr
      exact ⟨x :: es, by simp [e1, e3], fun y hy => by
        rcases List.mem_cons.1 hy with rfl | hy
        · exact e4
        · exact e2 y hy⟩
  obtain ⟨es, e1, e2⟩ := this
  subst e1
  have hel : es.length = l := by simpa using h4
  subst hel
  exact ⟨es, rfl, h1, h2, h3, by simpa [flat, List.flatMap] using h5, e2⟩
/-! What came in is known of any later world. -/
theorem vwKeep {w w' : World} (hc : ∀ b o u, w.cell? ⟨b, o, none⟩ = some u → w'.cell? ⟨b, o, none⟩ = some u) {v : Value} {sz n : Nat} {xs : List Value} (h : Vw w v sz n xs) : Vw w' v sz n xs := by
  obtain ⟨a, cap, rfl, h1, h2, h3, h4, h5⟩ := h
  refine ⟨a, cap, rfl, h1, h2, h3, h4, fun hne => ?_⟩
  obtain ⟨b, off, h6, h7⟩ := h5 hne
  exact ⟨b, off, h6, fun j u hu => hc _ _ _ (h7 j u hu)⟩
theorem vwKn {W : World} {v : Value} {sz n : Nat} {xs : List Value} (h : Vw W v sz n xs) : Kn (World.all W) (fun w => Vw w v sz n xs) :=
  Kn.all (fun w ho => vwKeep (fun b o u hu => by
    rw [World.cell?_of_block (w := W) (ho.block b (World.block_lt_of_cell? _ _ hu) (by simp))]
    exact hu) h) fun w w' hh hr => vwKeep (fun b o u hu => by rw [cell?_heap hh]; exact hu) hr
theorem i64Arg {P : Program} {W : World} {m : Nat} {t : TypeId} {z : Int} (hu : P.underlying t = some (.int .i64)) (h : Rs P W m t (Value.int .i64 z).cells.toList) : -9223372036854775808 ≤ z ∧ z ≤ 9223372036854775807 := by
  obtain ⟨y, e, h3⟩ := (Rs.rd _ _ _ h).int hu
  cases e
  exact bounds_i64 h3
theorem u32Arg {P : Program} {W : World} {m : Nat} {t : TypeId} {z : Int} (hu : P.underlying t = some (.int .u32)) (h : Rs P W m t (Value.int .u32 z).cells.toList) : 0 ≤ z ∧ z ≤ 4294967295 := by
  obtain ⟨y, e, h3⟩ := (Rs.rd _ _ _ h).int hu
  cases e
  exact bounds_u32 h3
end Go.Pm
