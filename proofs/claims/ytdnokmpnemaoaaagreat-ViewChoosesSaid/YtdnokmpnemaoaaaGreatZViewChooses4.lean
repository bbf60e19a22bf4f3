/-
  Jc, Js: merged.
-/
import Derived.Test.YtdnokmpnemaoaaaGreatZViewChooses3
import Derived.ScopeJumps
namespace Go.Pm
set_option linter.unusedSimpArgs false
set_option linter.unusedVariables false
open Go.RowKit

def clo : List Nat → List Oper → List Nat
  | acc, [] => acc
  | acc, o :: r => clo (acc ++ [o.after.toList.foldr (fun e s => if Region.binds .any e then (2 ^ e.on ||| acc.getD e.on 0) ||| s else s) 0]) r

def CloAt (ops : List Oper) (m : List Nat) (i : Nat) : Prop := ∀ j, (m.getD i 0).testBit j = true → ∃ o, ops[i]? = some o ∧ ∃ e ∈ o.after, Region.binds .any e = true ∧ (e.on = j ∨ (e.on < i ∧ (m.getD e.on 0).testBit j = true))

theorem clo_bits (acc : List Nat) (j : Nat) : ∀ (es : List Edge), (es.foldr (fun e s => if Region.binds .any e then (2 ^ e.on ||| acc.getD e.on 0) ||| s else s) 0).testBit j = true → ∃ e ∈ es, Region.binds .any e = true ∧ (e.on = j ∨ (e.on < acc.length ∧ (acc.getD e.on 0).testBit j = true))
  | [], h => by simp at h
  | e :: es, h => by
    simp only [List.foldr_cons] at h
    split at h
    · rename_i hb
      rw [Nat.testBit_or, Nat.testBit_or, Bool.or_eq_true, Bool.or_eq_true, Nat.testBit_two_pow, decide_eq_true_eq] at h
      rcases h with (h | h) | h
      · exact ⟨e, by simp, hb, .inl h⟩
      · refine ⟨e, by simp, hb, .inr ⟨?_, h⟩⟩
        rcases Nat.lt_or_ge e.on acc.length with hl | hl
        · exact hl
        · rw [List.getD_eq_getElem?_getD, List.getElem?_eq_none hl] at h; simp at h
      · obtain ⟨e', h1, h2⟩ := clo_bits acc j es h
        exact ⟨e', by simp [h1], h2⟩
    · obtain ⟨e', h1, h2⟩ := clo_bits acc j es h
      exact ⟨e', by simp [h1], h2⟩

theorem clo_at : ∀ (r pre : List Oper) (acc : List Nat), acc.length = pre.length → (∀ i, i < acc.length → CloAt (pre ++ r) acc i) → ∀ i, CloAt (pre ++ r) (clo acc r) i
  | [], pre, acc, hl, h, i => by
    rcases Nat.lt_or_ge i acc.length with hi | hi
    · exact h i hi
    · intro j hj
      simp only [clo] at hj
      rw [List.getD_eq_getElem?_getD, List.getElem?_eq_none hi] at hj
      simp at hj
  | o :: r, pre, acc, hl, h, i => by
    have key := clo_at r (pre ++ [o]) (acc ++ [o.after.toList.foldr (fun e s => if Region.binds .any e then (2 ^ e.on ||| acc.getD e.on 0) ||| s else s) 0]) (by simp [hl]) (fun i hi => ?_) i
    · simpa [clo] using key
    · simp only [List.append_assoc, List.singleton_append]
      rw [List.length_append, List.length_singleton] at hi
      intro j hj
      by_cases hi2 : i < acc.length
      · rw [List.getD_eq_getElem?_getD, List.getElem?_append_left hi2, ← List.getD_eq_getElem?_getD] at hj
        obtain ⟨o', h1, e, h2, h3, h4⟩ := h i hi2 j hj
        refine ⟨o', h1, e, h2, h3, h4.imp id fun ⟨h5, h6⟩ => ⟨h5, ?_⟩⟩
        rw [List.getD_eq_getElem?_getD, List.getElem?_append_left (by omega), ← List.getD_eq_getElem?_getD]
        exact h6
      · obtain rfl : i = acc.length := by omega
        rw [List.getD_eq_getElem?_getD, List.getElem?_append_right (Nat.le_refl _)] at hj
        simp only [Nat.sub_self, List.getElem?_cons_zero, Option.getD_some] at hj
        obtain ⟨e, h1, h2, h3⟩ := clo_bits acc j _ hj
        refine ⟨o, by rw [hl]; simp, e, by simpa using h1, h2, h3.imp id fun ⟨h5, h6⟩ => ⟨h5, ?_⟩⟩
        rw [List.getD_eq_getElem?_getD, List.getElem?_append_left h5, ← List.getD_eq_getElem?_getD]
        exact h6

def okEdge (ops : Array Oper) (i : Nat) : Bool := match ops[i]? with
  | none => false
  | some o => o.after.toList.all fun e => !Region.binds .any e || (e.on != i && Nat.blt e.on ops.size)
def noEdge (ops : Array Oper) (i j : Nat) : Bool := match ops[i]? with
  | none => false
  | some o => o.after.toList.all fun e => !Region.binds .any e || e.on != j
def movI (ops : Array Oper) (i j : Nat) : Bool := match ops[i]?, ops[j]? with
  | some o, some o' => mov ops o o'
  | _, _ => false
def inI (n : Nat) (ops : Array Oper) (i : Nat) : Bool := match ops[i]? with
  | some o => inB n o.dst
  | none => false
def okGo (n : Nat) (ops : Array Oper) (m : List Nat) : List Nat → Bool
  | [] => true
  | i :: r => inI n ops i && okEdge ops i && (r.all fun j => j != i && noEdge ops i j && ((m.getD j 0).testBit i || movI ops i j)) && okGo n ops m r
def okOrder (n : Nat) (ops : Array Oper) (l l2 : List Nat) : Bool := let m := clo [] ops.toList
  okGo n ops m (l ++ l2) && (l ++ l2).length == ops.size && (List.range ops.size).all ((l ++ l2).contains ·) && l2.all fun j => l.all fun i => (m.getD j 0).testBit i

theorem okGo_pair {n : Nat} {ops : Array Oper} {m : List Nat} : ∀ {l : List Nat}, okGo n ops m l = true → l.Pairwise (fun i j => j ≠ i ∧ noEdge ops i j = true ∧ ((m.getD j 0).testBit i = true ∨ movI ops i j = true)) ∧ ∀ i ∈ l, inI n ops i = true ∧ okEdge ops i = true
  | [], _ => ⟨.nil, by simp⟩
  | i :: r, h => by
    simp only [okGo, Bool.and_eq_true, List.all_eq_true, Bool.or_eq_true, bne_iff_ne, ne_eq] at h
    obtain ⟨⟨⟨h1, h2⟩, h3⟩, h4⟩ := h
    obtain ⟨k1, k2⟩ := okGo_pair h4
    refine ⟨.cons (fun j hj => ⟨(h3 j hj).1.1, (h3 j hj).1.2, (h3 j hj).2⟩) k1, fun j hj => ?_⟩
    rcases List.mem_cons.1 hj with rfl | hj
    · exact ⟨h1, h2⟩
    · exact k2 j hj

section
variable {P : Program} {n : Nat} {K : Hl} {ops : Array Oper} {fin : TF → List HP → Prop} {Q : Exit → Act → World → Prop} {ro : Option Nat}

def opAt (ops : Array Oper) (i : Nat) : Oper := (ops[i]?).getD default

theorem DW_front (hfin : ∀ f L L', L.Perm L' → fin f L → fin f L') {i : Nat} {B : List Nat} (hi : inI n ops i = true) : ∀ (A : List Nat), (∀ j ∈ A, movI ops j i = true ∧ inI n ops j = true) → ∀ f S M,
    DW P n K ops fin ((A ++ i :: B).map (opAt ops)) f S M → DW P n K ops fin ((i :: A ++ B).map (opAt ops)) f S M := by
  intro A
  induction A with
  | nil => exact fun _ f S M h => h
  | cons j A ih =>
    intro hA f S M h
    have h2 := DW_mono (X := (A ++ i :: B).map (opAt ops)) (Y := (i :: A ++ B).map (opAt ops)) (fun f S M => ih (fun k hk => hA k (List.mem_cons_of_mem _ hk)) f S M) [opAt ops j] f S M (by simpa using h)
    obtain ⟨hm, hj⟩ := hA j (by simp)
    have : mov ops (opAt ops j) (opAt ops i) = true ∧ inB n (opAt ops j).dst = true ∧ inB n (opAt ops i).dst = true := by
      unfold movI at hm
      unfold inI at hi hj
      unfold opAt
      cases h1 : ops[j]? with
      | none => simp [h1] at hm
      | some o =>
        cases h3 : ops[i]? with
        | none => simp [h1, h3] at hm
        | some o' => simp only [h1, h3] at hm hi hj; exact ⟨hm, hj, hi⟩
    have h3 := DW_swap hfin (r := (A ++ B).map (opAt ops)) this.1 this.2.1 this.2.2 f S M (by simpa using h2)
    simpa using h3

theorem clo_done {listed : Array Bool} (hd : ∀ i o, ops[i]? = some o → listed.getD i false = true → ∀ e ∈ o.after, Region.binds .any e = true → listed.getD e.on false = true)
    {i : Nat} : ∀ {o : Oper}, ops[i]? = some o → (∀ e ∈ o.after, Region.binds .any e = true → listed.getD e.on false = true) → ∀ j, ((clo [] ops.toList).getD i 0).testBit j = true → listed.getD j false = true := by
  induction i using Nat.strongRecOn with
  | _ i ih =>
    intro o ho hr j hj
    obtain ⟨o', h1, e, h2, h3, h4⟩ := clo_at ops.toList [] [] rfl (by simp) i j hj
    simp only [List.nil_append, Array.getElem?_toList] at h1
    rw [ho] at h1
    cases h1
    have hl := hr e h2 h3
    rcases h4 with rfl | ⟨h5, h6⟩
    · exact hl
    · cases ho' : ops[e.on]? with
      | none =>
        exfalso
        obtain ⟨o2, h7, _⟩ := clo_at ops.toList [] [] rfl (by simp) e.on j h6
        simp [ho'] at h7
      | some o2 => exact ih e.on h5 ho' (hd e.on o2 ho' hl) j h6

theorem DW_any (hfin : ∀ f L L', L.Perm L' → fin f L → fin f L') {W : World} {K' : Hl} (hK : K.le K') (l2 : List Nat) (fuel2 : Nat) (hQ : ∀ f L a w (listed : Array Bool), listed.size = ops.size → (∀ i, i < ops.size → (listed.getD i false = false ↔ i ∈ l2)) → (∀ i o, ops[i]? = some o → listed.getD i false = true → ∀ e ∈ o.after, Region.binds .any e = true → listed.getD e.on false = true) →
    fin f L → Fit n f a → Ow W K' L w → wpAnyIn (wideR ro) 0 P .any ops Q fuel2 listed a w) : ∀ (fuel : Nat) (l : List Nat) (listed : Array Bool) (a : Act) (w : World) (f : TF) (S M : List HP),
    l.length = fuel → listed.size = ops.size → (∀ i, i < ops.size → (listed.getD i false = false ↔ i ∈ l ++ l2)) →
    (∀ i o, ops[i]? = some o → listed.getD i false = true → ∀ e ∈ o.after, Region.binds .any e = true → listed.getD e.on false = true) →
    (∀ i ∈ l, ∀ j ∈ l2, j ≠ i ∧ noEdge ops i j = true ∧ ((clo [] ops.toList).getD j 0).testBit i = true) → l.Pairwise (fun i j => j ≠ i ∧ noEdge ops i j = true ∧ (((clo [] ops.toList).getD j 0).testBit i = true ∨ movI ops i j = true)) → (∀ i ∈ l, inI n ops i = true ∧ okEdge ops i = true) →
    DW P n K ops fin (l.map (opAt ops)) f S M → Fit n f a → Ow W K' (M ++ S) w → wpAnyIn (wideR ro) 0 P .any ops Q (fuel + fuel2) listed a w := by
  intro fuel
  induction fuel with
  | zero =>
    intro l listed a w f S M hl hs hli hd hx hp hg h hf hO
    obtain rfl : l = [] := List.eq_nil_of_length_eq_zero hl
    rw [Nat.zero_add]
    exact hQ _ _ _ _ _ hs (by simpa using hli) hd (h ⟨W, K', w, a, hK, hf, hO⟩) hf hO
  | succ fuel ih =>
    intro l listed a w f S M hl hs hli hd hx hp hg h hf hO
    rw [show fuel + 1 + fuel2 = (fuel + fuel2) + 1 by omega]
    have unl : ∀ i, i < ops.size → listed.getD i true = listed.getD i false := fun i hi => by
      rw [Array.getD_eq_getD_getElem?, Array.getD_eq_getD_getElem?, Array.getElem?_eq_getElem (by omega)]; rfl
    refine ⟨fun hr => ?_, fun i hi => ?_⟩
    · exfalso
      cases l with
      | nil => simp at hl
      | cons i r =>
        obtain ⟨g1, g2⟩ := hg i (by simp)
        cases ho : ops[i]? with
        | none => simp [inI, ho] at g1
        | some o =>
          have hlt := (Array.getElem?_eq_some_iff.1 ho).1
          have : i ∈ Region.ready .any ops listed := mem_ready.2 ⟨by rw [unl i hlt]; exact (hli i hlt).2 (by simp), o, ho, fun e he hb => by
            unfold okEdge at g2
            simp only [ho, List.all_eq_true, Bool.or_eq_true, Bool.not_eq_true', Bool.and_eq_true, bne_iff_ne, ne_eq] at g2
            have g3 := (g2 e (by simpa using he)).resolve_left (by simp [hb])
            have hen : e.on < ops.size := by simpa using g3.2
            cases hc : listed.getD e.on false with
            | true => rfl
            | false =>
              exfalso
              have hm := (hli e.on hen).1 hc
              have h5 : e.on = i ∨ noEdge ops i e.on = true := by
                rcases List.mem_cons.1 hm with h1 | h1
                · exact .inl h1
                · rcases List.mem_append.1 h1 with h1 | h1
                  · exact .inr ((List.pairwise_cons.1 hp).1 e.on h1).2.1
                  · exact .inr (hx i (by simp) e.on h1).2.1
              rcases h5 with h1 | h2
              · exact g3.1 h1
              · unfold noEdge at h2
                simp only [ho, List.all_eq_true, Bool.or_eq_true, Bool.not_eq_true', bne_iff_ne, ne_eq] at h2
                have := (h2 e (by simpa using he)).resolve_left (by simp [hb])
                exact this rfl⟩
          rw [hr] at this
          cases this
    · obtain ⟨h1, o, ho, hedge⟩ := mem_ready.1 hi
      have hlt := (Array.getElem?_eq_some_iff.1 ho).1
      have hil : i ∈ l := by
        rcases List.mem_append.1 ((hli i hlt).1 (by rw [← unl i hlt]; exact h1)) with h2 | h2
        · exact h2
        · exfalso
          cases l with
          | nil => simp at hl
          | cons j r =>
            have h3 := clo_done hd ho hedge j (hx j (by simp) i h2).2.2
            have hj2 := (hg j (by simp)).1
            have hjl : j < ops.size := by
              unfold inI at hj2
              cases hoj : ops[j]? with
              | none => simp [hoj] at hj2
              | some _ => exact (Array.getElem?_eq_some_iff.1 hoj).1
            have h4 := (hli j hjl).2 (by simp)
            rw [h3] at h4
            cases h4
      obtain ⟨A, B, rfl⟩ := List.append_of_mem hil
      have hA : ∀ j ∈ A, movI ops j i = true ∧ inI n ops j = true := fun j hj => by
        refine ⟨?_, (hg j (by simp [hj])).1⟩
        have h2 := (List.pairwise_append.1 hp).2.2 j hj i (by simp)
        refine h2.2.2.resolve_left fun hb => ?_
        have h3 := clo_done hd ho hedge j hb
        have hj2 := (hg j (by simp [hj])).1
        have hjl : j < ops.size := by
          unfold inI at hj2
          cases hoj : ops[j]? with
          | none => simp [hoj] at hj2
          | some _ => exact (Array.getElem?_eq_some_iff.1 hoj).1
        have h4 := (hli j hjl).2 (by simp [hj])
        rw [h3] at h4
        cases h4
      have hin := (hg i (by simp)).1
      have h2 := DW_front hfin hin A hA f S M h
      have hop : opAt ops i = o := by simp [opAt, ho]
      have hdst : inB n o.dst = true := by simpa [inI, ho] using hin
      rw [List.cons_append, List.map_cons, hop] at h2
      have sub : (A ++ B).Sublist (A ++ i :: B) := List.Sublist.append_left (List.sublist_cons_self ..) A
      have nd : i ∉ A ∧ i ∉ B := by
        have h3 := List.pairwise_append.1 hp
        refine ⟨fun hm => (h3.2.2 i hm i (by simp)).1 rfl, fun hm => ((List.pairwise_cons.1 h3.2.1).1 i hm).1 rfl⟩
      have nd2 : i ∉ l2 := fun hm => (hx i (by simp) i hm).1 rfl
      have go : ∀ a' w' f' S' M', DW P n K ops fin ((A ++ B).map (opAt ops)) f' S' M' → Fit n f' a' → Ow W K' (M' ++ S') w' → wpAnyIn (wideR ro) 0 P .any ops Q (fuel + fuel2) (listed.setIfInBounds i true) a' w' := fun a' w' f' S' M' x1 x2 x3 => by
        refine ih (A ++ B) _ a' w' f' S' M' (by simp at hl ⊢; omega) (by simpa using hs) (fun j hj => ?_) (fun j o' hj' hl' e he hb => ?_) (fun j hj => hx j (sub.subset hj)) (hp.sublist sub) (fun j hj => hg j (sub.subset hj)) x1 x2 x3
        · by_cases hji : i = j
          · subst hji
            have : (listed.setIfInBounds i true).getD i false = true := by rw [Array.getD_eq_getD_getElem?, Array.getElem?_setIfInBounds]; simp [hs, hj]
            rw [this]
            simp [nd, nd2]
          · rw [getD_set_ne false hji, hli j hj]
            simp [Ne.symm hji]
        · by_cases hji : i = j
          · subst hji
            rw [ho] at hj'
            cases hj'
            exact getD_set_true (hedge e he hb)
          · rw [getD_set_ne false hji] at hl'
            exact getD_set_true (hd j o' hj' hl' e he hb)
      unfold wpOpIn
      rw [ho]
      dsimp only
      rcases h2 W K' w a hK hf hO with ⟨wi, d⟩ | ⟨wi, h3⟩
      · rw [wantF_eq wi hf, if_neg (by simp)]
        exact ⟨fun _ _ => trivial, go _ _ _ _ _ d (hf.put hdst _) hO⟩
      · rw [wantF_eq wi hf, if_pos rfl]
        rcases h3 with ⟨_, As, M', v, p, e, d⟩ | ⟨_, x, g, e, d⟩ | ⟨_, e⟩
        · have hO2 : Ow W K' (M' ++ (As ++ S)) w := hO.perm ((p.append_right S).trans (by rw [← List.append_assoc]; exact (List.perm_append_comm).append_right S))
          exact wpI_val (e a.eval w (hf.agree o) (hO2.rdw.le hK)) (go _ _ _ _ _ d (hf.put hdst _) hO2)
        · exact wpI_val (e a.eval w (hf.agree o)) (go _ _ _ _ _ (d _) (hf.put hdst _) (hO.al x))
        · refine Oper.wpIn_mono ?_ (wpI_in (N := fun v w' => ∃ M', Ow W K' (M' ++ S) w' ∧ DW P n K ops fin ((A ++ B).map (opAt ops)) (upd f o.dst v) S M') e)
          rintro a' w' ⟨v, rfl, M', o2, d⟩
          exact go _ _ _ _ _ d (hf.put hdst _) o2

theorem DW_region (hfin : ∀ f L L', L.Perm L' → fin f L → fin f L') {W : World} (hm : P.follows .mixedOrders = true) {id : Nat} {l l2 : List Nat} (hl : okOrder n ops l l2 = true) {f : TF} {L : List HP} {a : Act} {w : World}
    (hQ : ∀ f L a w, fin f L → Fit n f a → Ow W K L w → Q .normal a w) (h : DW P n K ops (fun f L => DW P n K ops fin (l2.map (opAt ops)) f [] L) (l.map (opAt ops)) f [] L) (hf : Fit n f a) (hO : Ow W K L w) : (Code.region id ops true).wpIn (wideR ro) 0 P Q a w := by
  simp only [okOrder, Bool.and_eq_true, beq_iff_eq] at hl
  obtain ⟨⟨⟨h1, h2⟩, h3⟩, h4⟩ := hl
  obtain ⟨k1, k2⟩ := okGo_pair h1
  have k3 := List.pairwise_append.1 k1
  have hlen : ops.size = l.length + l2.length := by rw [← h2]; simp
  have hends : ∀ f L a w (listed : Array Bool), listed.size = ops.size → (∀ i, i < ops.size → (listed.getD i false = false ↔ i ∈ ([] : List Nat))) → (∀ i o, ops[i]? = some o → listed.getD i false = true → ∀ e ∈ o.after, Region.binds .any e = true → listed.getD e.on false = true) →
      fin f L → Fit n f a → Ow W K L w → wpAnyIn (wideR ro) 0 P .any ops Q 0 listed a w := fun f L a w listed hs hli _ hfn hf hO => by
    refine ⟨?_, hQ _ _ _ _ hfn hf hO⟩
    apply List.eq_nil_iff_forall_not_mem.2
    intro i hi
    obtain ⟨h1, o, h2, _⟩ := mem_ready.1 hi
    have hlt := (Array.getElem?_eq_some_iff.1 h2).1
    have : listed.getD i false = false := by
      rw [Array.getD_eq_getD_getElem?, Array.getElem?_eq_getElem (by omega)] at h1 ⊢
      exact h1
    exact absurd ((hli i hlt).1 this) (by simp)
  refine wpIn_region_any hm ?_
  rw [hlen]
  refine DW_any (W := W) (fin := fun f L => DW P n K ops fin (l2.map (opAt ops)) f [] L) (fun f L L' p h => DW_perm hfin _ _ _ _ _ p h) (Hl.le.refl K) l2 l2.length (fun f L a w listed hs hli hd hfn hf hO => ?_) l.length l _ a _ f [] L rfl (by simp [hlen]) (fun i hi => ?_) (fun i o hi hl => ?_) (fun i hi j hj => ?_) k3.1 (fun i hi => k2 i (by simp [hi])) h hf ?_
  · have := DW_any (W := W) hfin (Hl.le.refl K) [] 0 hends l2.length l2 listed a w f [] L rfl hs (by simpa using hli) hd (by simp) k3.2.1 (fun i hi => k2 i (by simp [hi])) hfn hf (by simpa using hO)
    simpa using this
  · rw [← hlen] at *
    have : (Array.replicate ops.size false).getD i false = false := by rw [Array.getD_eq_getD_getElem?]; simp [hi]
    rw [this]
    simp only [true_iff]
    have := List.all_eq_true.1 h3 i (by simpa using hi)
    simpa using this
  · exfalso
    have hlt := (Array.getElem?_eq_some_iff.1 hi).1
    rw [← hlen] at hl
    have : (Array.replicate ops.size false).getD i false = false := by rw [Array.getD_eq_getD_getElem?]; simp [hlt]
    rw [this] at hl
    cases hl
  · have h5 := k3.2.2 i hi j hj
    exact ⟨h5.1, h5.2.1, List.all_eq_true.1 (List.all_eq_true.1 h4 j hj) i hi⟩
  · simpa using hO.drew
end
end Go.Pm
namespace Go.Pm
set_option linter.unusedSimpArgs false
set_option linter.unusedVariables false
open Go.RowKit

section
variable {P : Program} {b : Frame} {a : Act} {k : List Item} {cs : List Frame} {w : World}
theorem stepR_scope {c : Code} : step P (lone (b.atR a (.code (.scope c) :: k)) cs w) = .next (lone (b.atR a (.code c :: .inScope c :: k)) cs w) :=
  step_lone_go (by simp [stepG, stepG.exec, Frame.atR])
theorem stepR_inScope {c : Code} : step P (lone (b.atR a (.inScope c :: k)) cs w) = .next (lone (b.atR a k) cs w) :=
  step_lone_go (by simp [stepG, stepG.exec, Frame.atR])
end
theorem wpIn_scope_jumps {F : Fence} {n : Nat} {P : Program} {a : Act} {w : World} {Q : Exit → Act → World → Prop} {c rest : Code} (l : Nat) (J : Act → World → Prop) (μ : Act → World → Nat) (hf : findLabel c l = some rest)
    (first : c.wpIn F n P (Exit.jump l J Q) a w)
    (pass : ∀ a w, J a w → rest.wpIn F n P (Exit.jump l (fun a' w' => J a' w' ∧ μ a' w' < μ a w) Q) a w) : (Code.scope c).wpIn F n P Q a w := by
  intro b k cs hro hb hr
  have hg : gotoIn l (.inScope c :: k) = some (.code rest :: .inScope c :: k) := by simp [gotoIn, hf]
  have hx : ∀ id, exitTo id (.inScope c :: k) = exitTo id k := fun id => by simp [exitTo]
  have key : ∀ m a w, μ a w = m → J a w → ∃ e a' w', Q e a' w' ∧ ArrivesIn (Machine.fenced P F) P (lone (b.atR a (.code rest :: .inScope c :: k)) cs w) b k cs e a' w' := by
    intro m
    induction m using Nat.strongRecOn with
    | _ m ih =>
      intro a w hn hJ
      obtain ⟨e, a₁, w₁, hq, harr⟩ := pass a w hJ b (.inScope c :: k) cs hro hb hr
      cases e with
      | normal => exact ⟨.normal, a₁, w₁, hq, StepsIn.trans harr (.one (fenced_calm hb hr rfl) stepR_inScope)⟩
      | exit id => exact ⟨.exit id, a₁, w₁, hq, fun k' hk => harr.1 k' (by rw [hx]; exact hk), fun hr' hk => harr.2 hr' (by rw [hx]; exact hk)⟩
      | goto l' =>
        obtain ⟨rfl, hJ', hlt⟩ := hq
        obtain ⟨e₂, a₂, w₂, hq₂, harr₂⟩ := ih _ (by omega) a₁ w₁ rfl hJ'
        exact ⟨e₂, a₂, w₂, hq₂, .of_steps (harr.1 _ hg) harr₂⟩
      | ret => exact ⟨_, a₁, w₁, hq, harr⟩
      | panic ch => exact ⟨_, a₁, w₁, hq, harr⟩
      | outgrown => exact ⟨_, a₁, w₁, hq, harr⟩
  have h0 : (lone (b.atR a (.code (.scope c) :: k)) cs w).fenced P F := fenced_calm hb hr rfl
  obtain ⟨e, a₁, w₁, hq, harr⟩ := first b (.inScope c :: k) cs hro hb hr
  cases e with
  | normal => exact ⟨.normal, a₁, w₁, hq, .head h0 stepR_scope (StepsIn.trans harr (.one (fenced_calm hb hr rfl) stepR_inScope))⟩
  | exit id => exact ⟨.exit id, a₁, w₁, hq, fun k' hk => .head h0 stepR_scope (harr.1 k' (by rw [hx]; exact hk)), fun hr' hk => let ⟨k₁, h1, h2⟩ := harr.2 hr' (by rw [hx]; exact hk); ⟨k₁, h1, .head h0 stepR_scope h2⟩⟩
  | goto l' =>
    obtain ⟨rfl, hJ'⟩ := hq
    obtain ⟨e₂, a₂, w₂, hq₂, harr₂⟩ := key _ a₁ w₁ rfl hJ'
    exact ⟨e₂, a₂, w₂, hq₂, .of_steps (.head h0 stepR_scope (harr.1 _ hg)) harr₂⟩
  | ret => exact ⟨_, a₁, w₁, hq, .of_steps (.one h0 stepR_scope) harr⟩
  | panic ch => exact ⟨_, a₁, w₁, hq, .of_steps (.one h0 stepR_scope) harr⟩
  | outgrown => exact ⟨_, a₁, w₁, hq, .of_steps (.one h0 stepR_scope) harr⟩

def wpKI (F : Fence) (n : Nat) (P : Program) : List Code → (Act → World → Prop) → (Exit → Act → World → Prop) → Act → World → Prop
  | [], K, _ => K
  | c :: cs, K, Q => c.wpIn F n P (Exit.then (wpKI F n P cs K Q) Q)

theorem wpKI_mono {F : Fence} {n : Nat} {P : Program} {Q Q' : Exit → Act → World → Prop} (hq : ∀ e a w, e ≠ .normal → Q e a w → Q' e a w) : ∀ (l : List Code) {K K' : Act → World → Prop} (_ : ∀ a w, K a w → K' a w) (a : Act) (w : World),
    wpKI F n P l K Q a w → wpKI F n P l K' Q' a w
  | [], _, _, hk, a, w, h => hk a w h
  | c :: cs, K, K', hk, a, w, h => by
    refine wpIn_mono (c := c) h ?_
    intro e a w he
    cases e <;> first | exact wpKI_mono hq cs hk _ _ he | exact hq _ _ _ (by simp) he

theorem wpKI_append {F : Fence} {n : Nat} {P : Program} {Q : Exit → Act → World → Prop} {K : Act → World → Prop} (y : List Code) : ∀ (l : List Code), wpKI F n P (l ++ y) K Q = wpKI F n P l (wpKI F n P y K Q) Q
  | [] => rfl
  | c :: cs => by simp only [List.cons_append, wpKI, wpKI_append y cs]

theorem wpI_upto {F : Fence} {n : Nat} {P : Program} : ∀ (c : Code) (l : Nat) (bs rs : List Code) (Q : Exit → Act → World → Prop) (a : Act) (w : World), upto c l = some (bs, rs) →
    wpKI F n P bs (wpKI F n P rs (Q .normal) Q) Q a w → c.wpIn F n P Q a w := by
  intro c l
  induction c with
  | seq x y ihx ihy =>
    intro bs rs Q a w hu h
    simp only [upto] at hu
    cases hx : upto x l with
    | some p =>
      obtain ⟨b1, r1⟩ := p
      simp only [hx, Option.some.injEq, Prod.mk.injEq] at hu
      obtain ⟨rfl, rfl⟩ := hu
      refine wpIn_seq (ihx b1 r1 _ a w hx ?_)
      refine wpKI_mono (fun e a w hne he => ?_) b1 (fun a w hk => ?_) a w h
      · cases e <;> first | exact (hne rfl).elim | exact he
      · rw [wpKI_append] at hk
        refine wpKI_mono (fun e a w hne he => ?_) r1 (fun a w hk => ?_) a w hk
        · cases e <;> first | exact (hne rfl).elim | exact he
        · refine wpIn_mono (c := y) hk ?_
          intro e a w he
          cases e <;> exact he
    | none =>
      simp only [hx] at hu
      cases hy : upto y l with
      | none => simp [hy] at hu
      | some p =>
        obtain ⟨b1, r1⟩ := p
        simp only [hy, Option.some.injEq, Prod.mk.injEq] at hu
        obtain ⟨rfl, rfl⟩ := hu
        refine wpIn_seq (wpIn_mono (c := x) h ?_)
        intro e a w he
        cases e <;> first | exact ihy b1 r1 Q a w hy he | exact he
  | label l' =>
    intro bs rs Q a w hu h
    simp only [upto] at hu
    split at hu
    · simp only [Option.some.injEq, Prod.mk.injEq] at hu
      obtain ⟨rfl, rfl⟩ := hu
      refine wpIn_mono (c := .label l') h ?_
      intro e a w he
      cases e <;> exact he
    · simp at hu
  | _ => intro _ _ _ _ _ hu; simp [upto] at hu

theorem wpI_rest {F : Fence} {n : Nat} {P : Program} : ∀ (c : Code) (l : Nat) (bs rs : List Code) (rest : Code) (Q : Exit → Act → World → Prop) (a : Act) (w : World), upto c l = some (bs, rs) → findLabel c l = some rest →
    wpKI F n P rs (Q .normal) Q a w → rest.wpIn F n P Q a w := by
  intro c l
  induction c with
  | seq x y ihx ihy =>
    intro bs rs rest Q a w hu hf h
    simp only [upto] at hu
    simp only [findLabel] at hf
    cases hx : upto x l with
    | some p =>
      obtain ⟨b1, r1⟩ := p
      simp only [hx, Option.some.injEq, Prod.mk.injEq] at hu
      obtain ⟨rfl, rfl⟩ := hu
      cases hfx : findLabel x l with
      | none => exact (no_label x l b1 r1 hx hfx).elim
      | some r =>
        simp only [hfx, Option.some.injEq] at hf
        subst hf
        refine wpIn_seq (ihx b1 r1 r _ a w hx hfx ?_)
        rw [wpKI_append] at h
        refine wpKI_mono (fun e a w hne he => ?_) r1 (fun a w hk => ?_) a w h
        · cases e <;> first | exact (hne rfl).elim | exact he
        · refine wpIn_mono (c := y) hk ?_
          intro e a w he
          cases e <;> exact he
    | none =>
      simp only [hx] at hu
      cases hy : upto y l with
      | none => simp [hy] at hu
      | some p =>
        obtain ⟨b1, r1⟩ := p
        simp only [hy, Option.some.injEq, Prod.mk.injEq] at hu
        obtain ⟨rfl, rfl⟩ := hu
        have hfx := no_upto x l hx
        simp only [hfx] at hf
        exact ihy b1 r1 rest Q a w hy hf h
  | label l' =>
    intro bs rs rest Q a w hu hf h
    simp only [upto] at hu
    simp only [findLabel] at hf
    split at hu
    · rename_i hl
      simp only [Option.some.injEq, Prod.mk.injEq] at hu
      obtain ⟨rfl, rfl⟩ := hu
      simp only [hl, if_true, Option.some.injEq] at hf
      subst hf
      exact wpIn_skip h
    · simp at hu
  | _ => intro _ _ _ _ _ _ hu; simp [upto] at hu

end Go.Pm
