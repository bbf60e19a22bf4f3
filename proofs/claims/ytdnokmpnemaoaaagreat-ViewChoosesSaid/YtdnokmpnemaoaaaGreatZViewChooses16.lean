/-
  J4, J5, Ve1, Cq1: merged.
-/
import Derived.Test.YtdnokmpnemaoaaaGreatZViewChooses15
namespace Go.Pm
set_option linter.unusedSimpArgs false
set_option linter.unusedVariables false
open Go.RowKit
section
variable {P : Program} {n : Nat} {K : Hl} {ops : Array Oper} {fin : TF → List HP → Prop} {Q : Exit → Act → World → Prop} {ro : Option Nat}
def Indep (P : Program) (o : Oper) : Prop := kindOp o.op = 0 ∧ ∀ ρ w w' v, (∀ c, Operand.const c ∈ o.op.operands.toList → ρ (.const c) = c) → (execOp ρ o).run P w = .ok (.value v) w → (execOp ρ o).run P w' = .ok (.value v) w'
theorem PE.indep {o : Oper} {f : TF} {v : Value} {S : List HP} (hi : Indep P o) (h : PE P K S o f v) {W : World} {K' : Hl} {w : World} {M : List HP} (hK : K.le K') (hO : Ow W K' (M ++ S) w) : PE P K [] o f v := fun ρ w' ha _ => hi.2 ρ w w' v (fun c hc => ha (.const c) hc c rfl) (h ρ w ha (hO.rdw.le hK))
theorem DW_shift (hfin : ∀ f L L', L.Perm L' → fin f L → fin f L') (B : List Oper) : ∀ (A : List Oper) (f : TF) (S M : List HP), (∀ o ∈ A, Indep P o) → DW P n K ops (fun f L => DW P n K ops fin B f [] L) A f S M → DW P n K ops fin (A ++ B) f [] (M ++ S)
  | [], f, S, M, _, h => DW_lv fun l => h (by rwa [List.append_nil] at l)
  | o :: A, f, S, M, hi, h => fun W K' w a hK hf hO => by
    rw [List.append_nil] at hO
    have hio := hi o (by simp)
    have hiA : ∀ o ∈ A, Indep P o := fun z hz => hi z (by simp [hz])
    rcases h W K' w a hK hf hO with ⟨h1, h2⟩ | ⟨h1, h2⟩
    · exact .inl ⟨h1, DW_shift hfin B A _ S M hiA h2⟩
    · rcases h2 with ⟨k, As, M', v, p, e, d⟩ | ⟨k, _⟩ | ⟨k, _⟩
      · refine .inr ⟨h1, .inl ⟨k, [], M ++ S, v, .refl _, ?_, ?_⟩⟩
        · have hO2 : Ow W K' (M' ++ (As ++ S)) w := hO.perm ((p.append_right S).trans (by rw [← List.append_assoc]; exact (List.perm_append_comm).append_right S))
          exact PE.indep hio e hK hO2
        · have h3 := DW_shift hfin B A _ _ _ hiA d
          refine DW_perm hfin _ _ _ _ _ ?_ h3
          exact (((p.append_right S).trans (by rw [← List.append_assoc]; exact (List.perm_append_comm).append_right S))).symm
      · rw [hio.1] at k; cases k
      · rw [hio.1] at k; cases k
def okOrderF (n : Nat) (ops : Array Oper) (l l2 free : List Nat) : Bool := let m := clo [] ops.toList
  okGo n ops m (l ++ l2) && (l ++ l2).length == ops.size && (List.range ops.size).all ((l ++ l2).contains ·) && l2.all fun j => l.all fun i => (m.getD j 0).testBit i || (free.contains i && movI ops i j)
theorem DW_anyF (hfin : ∀ f L L', L.Perm L' → fin f L → fin f L') {W : World} {K' : Hl} (hK : K.le K') (l2 free : List Nat) (fuel2 : Nat) (hQ : ∀ (l : List Nat) (f : TF) (S M : List HP) (a : Act) (w : World) (listed : Array Bool), (∀ i ∈ l, i ∈ free) → listed.size = ops.size → (∀ i, i < ops.size → (listed.getD i false = false ↔ i ∈ l ++ l2)) → (∀ i o, ops[i]? = some o → listed.getD i false = true → ∀ e ∈ o.after, Region.binds .any e = true → listed.getD e.on false = true) →
    (∀ i ∈ l, ∀ j ∈ l2, j ≠ i ∧ noEdge ops i j = true ∧ (((clo [] ops.toList).getD j 0).testBit i = true ∨ (i ∈ free ∧ movI ops i j = true))) → l.Pairwise (fun i j => j ≠ i ∧ noEdge ops i j = true ∧ (((clo [] ops.toList).getD j 0).testBit i = true ∨ movI ops i j = true)) → (∀ i ∈ l, inI n ops i = true ∧ okEdge ops i = true) →
    DW P n K ops fin (l.map (opAt ops)) f S M → Fit n f a → Ow W K' (M ++ S) w → wpAnyIn (wideR ro) 0 P .any ops Q (l.length + fuel2) listed a w) : ∀ (fuel : Nat) (l : List Nat) (listed : Array Bool) (a : Act) (w : World) (f : TF) (S M : List HP),
    l.length = fuel → listed.size = ops.size → (∀ i, i < ops.size → (listed.getD i false = false ↔ i ∈ l ++ l2)) →
    (∀ i o, ops[i]? = some o → listed.getD i false = true → ∀ e ∈ o.after, Region.binds .any e = true → listed.getD e.on false = true) →
    (∀ i ∈ l, ∀ j ∈ l2, j ≠ i ∧ noEdge ops i j = true ∧ (((clo [] ops.toList).getD j 0).testBit i = true ∨ (i ∈ free ∧ movI ops i j = true))) → l.Pairwise (fun i j => j ≠ i ∧ noEdge ops i j = true ∧ (((clo [] ops.toList).getD j 0).testBit i = true ∨ movI ops i j = true)) → (∀ i ∈ l, inI n ops i = true ∧ okEdge ops i = true) →
    DW P n K ops fin (l.map (opAt ops)) f S M → Fit n f a → Ow W K' (M ++ S) w → wpAnyIn (wideR ro) 0 P .any ops Q (fuel + fuel2) listed a w := by
  intro fuel
  induction fuel with
  | zero =>
    intro l listed a w f S M hl hs hli hd hx hp hg h hf hO
    obtain rfl : l = [] := List.eq_nil_of_length_eq_zero hl
    exact hQ [] f S M a w listed (by simp) hs hli hd hx hp hg h hf hO
  | succ fuel ih =>
    intro l listed a w f S M hl hs hli hd hx hp hg h hf hO
    by_cases hall : ∀ i ∈ l, i ∈ free
    · have := hQ l f S M a w listed hall hs hli hd hx hp hg h hf hO
      rwa [hl] at this
    obtain ⟨j0, hj0, hnf⟩ : ∃ j, j ∈ l ∧ j ∉ free := Classical.byContradiction fun k => hall fun i hi => Classical.byContradiction fun k2 => k ⟨i, hi, k2⟩
    rw [show fuel + 1 + fuel2 = (fuel + fuel2) + 1 by omega]
    have unl : ∀ i, i < ops.size → listed.getD i true = listed.getD i false := fun i hi => by
      rw [Array.getD_eq_getD_getElem?, Array.getD_eq_getD_getElem?, Array.getElem?_eq_getElem (by omega)]; rfl
    refine ⟨fun hr => ?_, fun i hi => ?_⟩
    · exfalso
      cases l with
      | nil => simp at hl
      | cons i r =>
        obtain ⟨g1, g2⟩ := hg i (by simp)
        cases ho : ops[i]? with
        | none => simp [inI, ho] at g1
        | some o =>
          have hlt := (Array.getElem?_eq_some_iff.1 ho).1
          have : i ∈ Region.ready .any ops listed := mem_ready.2 ⟨by rw [unl i hlt]; exact (hli i hlt).2 (by simp), o, ho, fun e he hb => by
            unfold okEdge at g2
            simp only [ho, List.all_eq_true, Bool.or_eq_true, Bool.not_eq_true', Bool.and_eq_true, bne_iff_ne, ne_eq] at g2
            have g3 := (g2 e (by simpa using he)).resolve_left (by simp [hb])
            have hen : e.on < ops.size := by simpa using g3.2
            cases hc : listed.getD e.on false with
            | true => rfl
            | false =>
              exfalso
              have hm := (hli e.on hen).1 hc
              have h5 : e.on = i ∨ noEdge ops i e.on = true := by
                rcases List.mem_cons.1 hm with h1 | h1
                · exact .inl h1
                · rcases List.mem_append.1 h1 with h1 | h1
                  · exact .inr ((List.pairwise_cons.1 hp).1 e.on h1).2.1
                  · exact .inr (hx i (by simp) e.on h1).2.1
              rcases h5 with h1 | h2
              · exact g3.1 h1
              · unfold noEdge at h2
                simp only [ho, List.all_eq_true, Bool.or_eq_true, Bool.not_eq_true', bne_iff_ne, ne_eq] at h2
                have := (h2 e (by simpa using he)).resolve_left (by simp [hb])
                exact this rfl⟩
          rw [hr] at this
          cases this
    · obtain ⟨h1, o, ho, hedge⟩ := mem_ready.1 hi
      have hlt := (Array.getElem?_eq_some_iff.1 ho).1
      have hil : i ∈ l := by
        rcases List.mem_append.1 ((hli i hlt).1 (by rw [← unl i hlt]; exact h1)) with h2 | h2
        · exact h2
        · exfalso
          have h3 := clo_done hd ho hedge j0 ((hx j0 hj0 i h2).2.2.resolve_right fun k => hnf k.1)
          have hj2 := (hg j0 hj0).1
          have hjl : j0 < ops.size := by
            unfold inI at hj2
            cases hoj : ops[j0]? with
            | none => simp [hoj] at hj2
            | some _ => exact (Array.getElem?_eq_some_iff.1 hoj).1
          have h4 := (hli j0 hjl).2 (by simp [hj0])
          rw [h3] at h4
          cases h4
      obtain ⟨A, B, rfl⟩ := List.append_of_mem hil
      have hA : ∀ j ∈ A, movI ops j i = true ∧ inI n ops j = true := fun j hj => by
        refine ⟨?_, (hg j (by simp [hj])).1⟩
        have h2 := (List.pairwise_append.1 hp).2.2 j hj i (by simp)
        refine h2.2.2.resolve_left fun hb => ?_
        have h3 := clo_done hd ho hedge j hb
        have hj2 := (hg j (by simp [hj])).1
        have hjl : j < ops.size := by
          unfold inI at hj2
          cases hoj : ops[j]? with
          | none => simp [hoj] at hj2
          | some _ => exact (Array.getElem?_eq_some_iff.1 hoj).1
        have h4 := (hli j hjl).2 (by simp [hj])
        rw [h3] at h4
        cases h4
      have hin := (hg i (by simp)).1
      have h2 := DW_front hfin hin A hA f S M h
      have hop : opAt ops i = o := by simp [opAt, ho]
      have hdst : inB n o.dst = true := by simpa [inI, ho] using hin
      rw [List.cons_append, List.map_cons, hop] at h2
      have sub : (A ++ B).Sublist (A ++ i :: B) := List.Sublist.append_left (List.sublist_cons_self ..) A
      have nd : i ∉ A ∧ i ∉ B := by
        have h3 := List.pairwise_append.1 hp
        refine ⟨fun hm => (h3.2.2 i hm i (by simp)).1 rfl, fun hm => ((List.pairwise_cons.1 h3.2.1).1 i hm).1 rfl⟩
      have nd2 : i ∉ l2 := fun hm => (hx i (by simp) i hm).1 rfl
      have go : ∀ a' w' f' S' M', DW P n K ops fin ((A ++ B).map (opAt ops)) f' S' M' → Fit n f' a' → Ow W K' (M' ++ S') w' → wpAnyIn (wideR ro) 0 P .any ops Q (fuel + fuel2) (listed.setIfInBounds i true) a' w' := fun a' w' f' S' M' x1 x2 x3 => by
        refine ih (A ++ B) _ a' w' f' S' M' (by simp at hl ⊢; omega) (by simpa using hs) (fun j hj => ?_) (fun j o' hj' hl' e he hb => ?_) (fun j hj => hx j (sub.subset hj)) (hp.sublist sub) (fun j hj => hg j (sub.subset hj)) x1 x2 x3
        · by_cases hji : i = j
          · subst hji
            have : (listed.setIfInBounds i true).getD i false = true := by rw [Array.getD_eq_getD_getElem?, Array.getElem?_setIfInBounds]; simp [hs, hj]
            rw [this]
            simp [nd, nd2]
          · rw [getD_set_ne false hji, hli j hj]
            simp [Ne.symm hji]
        · by_cases hji : i = j
          · subst hji
            rw [ho] at hj'
            cases hj'
            exact getD_set_true (hedge e he hb)
          · rw [getD_set_ne false hji] at hl'
            exact getD_set_true (hd j o' hj' hl' e he hb)
      unfold wpOpIn
      rw [ho]
      dsimp only
      rcases h2 W K' w a hK hf hO with ⟨wi, d⟩ | ⟨wi, h3⟩
      · rw [wantF_eq wi hf, if_neg (by simp)]
        exact ⟨fun _ _ => trivial, go _ _ _ _ _ d (hf.put hdst _) hO⟩
      · rw [wantF_eq wi hf, if_pos rfl]
        rcases h3 with ⟨_, As, M', v, p, e, d⟩ | ⟨_, x, g, e, d⟩ | ⟨_, e⟩
        · have hO2 : Ow W K' (M' ++ (As ++ S)) w := hO.perm ((p.append_right S).trans (by rw [← List.append_assoc]; exact (List.perm_append_comm).append_right S))
          exact wpI_val (e a.eval w (hf.agree o) (hO2.rdw.le hK)) (go _ _ _ _ _ d (hf.put hdst _) hO2)
        · exact wpI_val (e a.eval w (hf.agree o)) (go _ _ _ _ _ (d _) (hf.put hdst _) (hO.al x))
        · refine Oper.wpIn_mono ?_ (wpI_in (N := fun v w' => ∃ M', Ow W K' (M' ++ S) w' ∧ DW P n K ops fin ((A ++ B).map (opAt ops)) (upd f o.dst v) S M') e)
          rintro a' w' ⟨v, rfl, M', o2, d⟩
          exact go _ _ _ _ _ d (hf.put hdst _) o2

theorem DW_regionF (hfin : ∀ f L L', L.Perm L' → fin f L → fin f L') {W : World} (hm : P.follows .mixedOrders = true) {id : Nat} {l l2 free : List Nat} (hl : okOrderF n ops l l2 free = true) (hfree : ∀ i ∈ free, Indep P (opAt ops i)) {f : TF} {L : List HP} {a : Act} {w : World}
    (hQ : ∀ f L a w, fin f L → Fit n f a → Ow W K L w → Q .normal a w) (h : DW P n K ops (fun f L => DW P n K ops fin (l2.map (opAt ops)) f [] L) (l.map (opAt ops)) f [] L) (hf : Fit n f a) (hO : Ow W K L w) : (Code.region id ops true).wpIn (wideR ro) 0 P Q a w := by
  simp only [okOrderF, Bool.and_eq_true, beq_iff_eq] at hl
  obtain ⟨⟨⟨h1, h2⟩, h3⟩, h4⟩ := hl
  obtain ⟨k1, k2⟩ := okGo_pair h1
  have k3 := List.pairwise_append.1 k1
  have hlen : ops.size = l.length + l2.length := by rw [← h2]; simp
  have hends : ∀ f L a w (listed : Array Bool), listed.size = ops.size → (∀ i, i < ops.size → (listed.getD i false = false ↔ i ∈ ([] : List Nat))) → (∀ i o, ops[i]? = some o → listed.getD i false = true → ∀ e ∈ o.after, Region.binds .any e = true → listed.getD e.on false = true) →
      fin f L → Fit n f a → Ow W K L w → wpAnyIn (wideR ro) 0 P .any ops Q 0 listed a w := fun f L a w listed hs hli _ hfn hf hO => by
    refine ⟨?_, hQ _ _ _ _ hfn hf hO⟩
    apply List.eq_nil_iff_forall_not_mem.2
    intro i hi
    obtain ⟨h1, o, h2, _⟩ := mem_ready.1 hi
    have hlt := (Array.getElem?_eq_some_iff.1 h2).1
    have : listed.getD i false = false := by
      rw [Array.getD_eq_getD_getElem?, Array.getElem?_eq_getElem (by omega)] at h1 ⊢
      exact h1
    exact absurd ((hli i hlt).1 this) (by simp)
  refine wpIn_region_any hm ?_
  rw [hlen]
  refine DW_anyF (W := W) (fin := fun f L => DW P n K ops fin (l2.map (opAt ops)) f [] L) (fun f L L' p h => DW_perm hfin _ _ _ _ _ p h) (Hl.le.refl K) l2 free l2.length (fun lx f S M a w listed hfr hs hli hd hx hp hg hdw hf hO => ?_) l.length l _ a _ f [] L rfl (by simp [hlen]) (fun i hi => ?_) (fun i o hi hl => ?_) (fun i hi j hj => ?_) k3.1 (fun i hi => k2 i (by simp [hi])) h hf ?_
  · have h6 := DW_shift hfin (l2.map (opAt ops)) (lx.map (opAt ops)) f S M (fun o ho => by
      obtain ⟨i, hi, rfl⟩ := List.mem_map.1 ho
      exact hfree i (hfr i hi)) hdw
    rw [← List.map_append] at h6
    have h7 := DW_any (W := W) hfin (Hl.le.refl K) [] 0 hends (lx.length + l2.length) (lx ++ l2) listed a w f [] (M ++ S) (by simp) hs (by simpa using hli) hd (by simp) (List.pairwise_append.2 ⟨hp, k3.2.1, fun i hi j hj => ⟨(hx i hi j hj).1, (hx i hi j hj).2.1, (hx i hi j hj).2.2.imp_right fun k => k.2⟩⟩) (fun i hi => (List.mem_append.1 hi).elim (hg i) fun k => k2 i (by simp [k])) h6 hf (by simpa using hO)
    simpa using h7
  · rw [← hlen] at *
    have : (Array.replicate ops.size false).getD i false = false := by rw [Array.getD_eq_getD_getElem?]; simp [hi]
    rw [this]
    simp only [true_iff]
    have := List.all_eq_true.1 h3 i (by simpa using hi)
    simpa using this
  · exfalso
    have hlt := (Array.getElem?_eq_some_iff.1 hi).1
    rw [← hlen] at hl
    have : (Array.replicate ops.size false).getD i false = false := by rw [Array.getD_eq_getD_getElem?]; simp [hlt]
    rw [this] at hl
    cases hl
  · have h5 := k3.2.2 i hi j hj
    have h6 := List.all_eq_true.1 (List.all_eq_true.1 h4 j hj) i hi
    simp only [Bool.or_eq_true, Bool.and_eq_true, List.contains_eq_mem, decide_eq_true_eq] at h6
    exact ⟨h5.1, h5.2.1, h6⟩
  · simpa using hO.drew
end
section
variable {P : Program} {n : Nat} {W : World} {K : Hl} {F : Fp} {k : List It} {tm : TM} {L : List HP}
theorem J_drawF {id : Nat} {lo : List Oper} (l l2 free : List Nat) {r r2 : List Oper} (hm : P.follows .mixedOrders = true) (hl : okOrderF n lo.toArray l l2 free = true) (h1 : Pick lo l r) (h2 : Pick lo l2 r2) (hfree : ∀ i ∈ free, Indep P (opAt lo.toArray i)) (h : JD P n W K F lo.toArray k r2 r tm [] L) : J P n W K F (.code (.region id lo.toArray true) :: k) tm L := .mk <| fun _ _ hf hO => by
  rw [← h1.eq, ← h2.eq] at h
  exact DW_regionF (fun _ _ _ p h a w h1 h2 => h a w h1 (h2.perm p.symm)) hm hl hfree (fun _ _ a w h h1 h2 => h a w h1 h2) h.h hf hO
end
end Go.Pm
namespace Go.Pm
set_option linter.unusedSimpArgs false
set_option linter.unusedVariables false
open Go.RowKit
section
variable {P : Program} {d : Option Tmp} {T : TypeId} {pos : String} {af : Array Edge} {gd : Option (Nat × Bool)}
theorem bp_no {α : Type} {k : IntKind} {x y : Int} {code : BoundsCode} {w w' : World} {v : α} : (boundsPanic k x y code : Sem α).run P w ≠ .ok v w' := by
  intro h
  unfold boundsPanic at h
  dsimp only at h
  split at h
  · rw [Sem.run_bind] at h
    generalize Sem.run P ((fun x => x == 1) <$> choose (Question.extern "runtime.boundsError.signed" 2)) w = r at h
    cases r with
    | ok s w2 => simp [runtimePanic, Sem.run_bind, goPanic] at h
    | _ => simp at h
  · simp [runtimePanic, Sem.run_bind, goPanic] at h
theorem andThen_no {α β : Type} {r : Result α} {f : α → World → Result β} (h : ∀ v w, r ≠ .ok v w) {u : β} {w' : World} : r.andThen f ≠ .ok u w' := by
  cases r with
  | ok v w => exact absurd rfl (h v w)
  | _ => intro k; cases k
theorem indep_len {x : Operand} {t : TypeId} (ht : tyIs P t isSliceD = true) : Indep P ⟨d, .call ⟨.builtin .len, #[x], #[t]⟩, T, pos, af, gd⟩ := ⟨rfl, fun ρ w w' v _ h => by
  obtain ⟨de, hd, hf⟩ := tyIs_spec ht
  cases de <;> simp [isSliceD] at hf
  unfold execOp at h ⊢
  simp only [resolve, Sem.run_bind, Sem.run_pure, Result.andThen_ok, invoke] at h ⊢
  have e : (#[x].map ρ) = #[ρ x] := by simp
  rw [e] at h ⊢
  cases hx : ρ x <;> simp [hx, builtin, Builtin.len_, Sem.run_bind, run_underlying hd, goInt, stuck] at h ⊢
  all_goals first | exact h | (cases h; rfl)⟩
theorem indep_min {x : Operand} {ts : Array TypeId} {k : IntKind} {b : Int} : Indep P ⟨d, .call ⟨.builtin .min, #[x, .const (.int k b)], ts⟩, T, pos, af, gd⟩ := ⟨rfl, fun ρ w w' v hc h => by
  have hb := hc (.int k b) (by simp [Op.operands, Call.operands])
  unfold execOp at h ⊢
  simp only [resolve, Sem.run_bind, Sem.run_pure, Result.andThen_ok, invoke] at h ⊢
  have e : (#[x, .const (.int k b)].map ρ) = #[ρ x, .int k b] := by simp [hb]
  rw [e] at h ⊢
  cases hx : ρ x with
  | pointer o => cases o <;> simp [hx, builtin, Builtin.min_, Builtin.min2, Sem.run_bind, stuck] at h
  | _ => simp [hx, builtin, Builtin.min_, Builtin.min2, Sem.run_bind, stuck] at h ⊢ <;> exact h⟩
theorem indep_slice0 {x y : Operand} {t e : TypeId} {sz b' : Nat} (ht : elemInfo P t = some (e, sz, b')) : Indep P ⟨d, .slice t x none (some y) none, T, pos, af, gd⟩ := ⟨rfl, fun ρ w w' v _ h => by
  obtain ⟨inf, hu, hin, hsz, _⟩ := elemInfo_spec ht
  unfold execOp at h ⊢
  cases hx : ρ x with
  | slice a n c =>
    cases hy : ρ y with
    | int k z =>
      by_cases hb : 0 ≤ z ∧ z ≤ (c : Int)
      · simp [hx, hy, hb, Instr.sliceAt, Instr.slice, Instr.sliceBounds, Instr.sliceBound, asIntOf, Sem.run_bind, run_underlying hu, run_sz hin] at h ⊢
        exact h
      · exfalso
        simp [hx, hy, hb, Instr.sliceAt, Instr.slice, Instr.sliceBounds, Instr.sliceBound, asIntOf, Sem.run_bind, run_underlying hu, run_sz hin] at h
        exact andThen_no (fun v w => andThen_no fun v w => bp_no) h
    | pointer o =>
      exfalso
      cases o <;> simp [hx, hy, Instr.sliceAt, Instr.slice, Instr.sliceBounds, Instr.sliceBound, asIntOf, Sem.run_bind, run_underlying hu] at h
    | _ =>
      exfalso
      simp [hx, hy, Instr.sliceAt, Instr.slice, Instr.sliceBounds, Instr.sliceBound, asIntOf, Sem.run_bind, run_underlying hu] at h
      done
  | _ =>
    exfalso
    simp [hx, Instr.sliceAt, Instr.slice, Sem.run_bind, run_underlying hu, stuck] at h
    done⟩
end
end Go.Pm
namespace Go.Proofs.YtdnokmpnemaoaaaGreat
set_option linter.unusedSimpArgs false
set_option linter.unusedVariables false
set_option maxRecDepth 20000
set_option maxHeartbeats 4000000
open Go.RowKit Go.Pm
theorem zd20Ve1 {p q : Prop} (k : p) (h : p → q := by intro hk; first | exact J_draw (id := 1) [0, 1, 2, 3, 4, 5, 6, 7, 8, 9, 10, 11, 12, 13, 14, 15, 16, 17, 18, 19, 20, 21, 22, 23, 24] [25, 26] mixed xC xD xD hk | fail) : q := h k

def At.trW (d : At) : At := d.at_ (d.path.take 6) d.pa d.pc (d.comms.take 40) d.ca d.cc (d.others.take 9) d.oa d.oc
theorem At.trW_few {d : At} (h : AtN d) : AtF d.trW := by
  refine ⟨⟨h.origin, h.next, h.med, h.loc, h.makerAS, h.maker, fun s hs => h.path s (List.take_subset _ _ hs), fun s hs => h.comms s (List.take_subset _ _ hs), fun s hs => h.others s (List.take_subset _ _ hs)⟩, ?_, ?_, ?_⟩ <;> simp [At.trW, At.at_] <;> omega
theorem AtV.trW {w : World} {d : At} (h : AtV w d) : AtV w d.trW :=
  ⟨⟨Vw_take h.path.vw (by intro _; rfl) rfl 6 _ rfl, fun s hs => h.path.segs s (List.take_subset _ _ hs)⟩, Vw_take h.comms (by intro _; rfl) rfl 40 _ rfl, ⟨Vw_take h.others.vw (by intro _; rfl) rfl 9 _ rfl, fun s hs => h.others.raws s (List.take_subset _ _ hs)⟩⟩
theorem fewv_s (d : At) (hN : AtN d) : Pact Tryz.prog 20 #[.agg (atC d).toArray] (fun w => AtV w d) [] (CopyR d.trW) := by
  refine pact Tryz.func20 rfl Tryz.ntmps20 rfl ?_
  intro W K hK
  refine J_fact (φ := (d.path.length ≤ d.pc ∧ d.pc ≤ maxLen) ∧ (d.comms.length ≤ d.cc ∧ d.cc ≤ maxLen) ∧ (d.others.length ≤ d.oc ∧ d.oc ≤ maxLen)) (fun w H => ?_) ?_
  · have h := hK.of H
    refine ⟨?_, ?_, ?_⟩
    · obtain ⟨a', c', he, h1, h2⟩ := h.path.vw.shape
      cases he
      exact ⟨h1, h2⟩
    · obtain ⟨a', c', he, h1, h2⟩ := h.comms.shape
      cases he
      exact ⟨h1, h2⟩
    · obtain ⟨a', c', he, h1, h2⟩ := h.others.vw.shape
      cases he
      exact ⟨h1, h2⟩
  rintro ⟨⟨hp, hp2⟩, ⟨hc, hc2⟩, ⟨ho, ho2⟩⟩
  unfold maxLen at hp2 hc2 ho2
  have e1 : d.trW.path.length = (min (d.path.length : Int) 6).toNat := by simp [At.trW, At.at_]; omega
  have e2 : d.trW.comms.length = (min (d.comms.length : Int) 40).toNat := by simp [At.trW, At.at_]; omega
  have e3 : d.trW.others.length = (min (d.others.length : Int) 9).toNat := by simp [At.trW, At.at_]; omega
  (iterate 6 (first | (refine gL ?_; first | refine yL0 ?_ | refine yL ?_ | (refine yM ?_; intro _)) | (refine gD ?_; first | (refine yN ?_; try simp only [cAp, nAp]) | refine yD ?_) | refine yJ ?_ | refine zd20Ve1 ?_ | fail))
  refine J_drawF (id := 1) [0, 1, 2, 3, 4, 5, 6, 7, 8, 9, 10, 11, 12, 13, 14, 15, 16, 17, 18, 19, 20] [21, 22, 23, 24, 25, 26] [11, 12, 13, 18, 19, 20] mixed xC xD xD ?_ ?_
  · intro i hi
    simp only [List.mem_cons, List.not_mem_nil, or_false] at hi
    rcases hi with rfl | rfl | rfl | rfl | rfl | rfl
    · exact indep_len (by rfl)
    · exact indep_min
    · exact indep_slice0 (tabE etab_ok xR)
    · exact indep_len (by rfl)
    · exact indep_min
    · exact indep_slice0 (tabE etab_ok xR)
  (repeat' (first | (refine gL ?_; first | refine yL0 ?_ | refine yL ?_ | (refine gL_go ?_; (refine JL_goq (acopy_s d.trW (At.trW_few hN) _ _ _ e1 e2 e3) (hφ := (by (try simp only [cAp, nAp]); exact fun w hr => (hK w hr.1).trW)) (h := ?_); rintro _ _ ⟨d', hd', hnf, rfl, rfl⟩; try simp only [cAp, nAp])) | (refine yM ?_; intro _)) | (refine gD ?_; first | (refine yN ?_; try simp only [cAp, nAp]) | refine yD ?_) | refine yJ ?_ | refine zd20Ve1 ?_ | fail))
  exact J_retC (cs := atC d') rfl (by rfl) xA (by rfl) fun w H => ⟨_, ⟨d', hd', hnf, rfl, rfl⟩, H.sel xZ⟩
end Go.Proofs.YtdnokmpnemaoaaaGreat
namespace Go.Proofs.YtdnokmpnemaoaaaGreat.C
set_option linter.unusedSimpArgs false
set_option linter.unusedVariables false
set_option maxRecDepth 20000
set_option maxHeartbeats 4000000
open Go.RowKit Go.Pm

abbrev Pf := Int × Int
def PfN (p : Pf) : Prop := U32 p.1 ∧ I64 p.2
abbrev pfC (p : Pf) : List Value := [.int .u32 p.1, .int .i64 p.2]
def pw (l : Int) : Int := 2 ^ (32 - l).toNat
def Rt (p : Pf) : Prop := 0 ≤ p.2 ∧ p.2 ≤ 32 ∧ p.1 % pw p.2 = 0
instance (p : Pf) : Decidable (Rt p) := inferInstanceAs (Decidable (_ ∧ _ ∧ _))
theorem pw_pos (l : Int) : 0 < pw l := Int.pow_pos (by omega)
theorem pw_le (l : Int) (h : 0 ≤ l) : pw l ≤ 4294967296 := by
  unfold pw
  have : (2 : Int) ^ (32 - l).toNat ≤ 2 ^ 32 := by
    have h1 : (2 : Nat) ^ (32 - l).toNat ≤ 2 ^ 32 := Nat.pow_le_pow_right (by omega) (by omega)
    exact_mod_cast h1
  omega
theorem mask_s (a l : Int) (ha : U32 a) (h0 : 0 ≤ l) (h1 : l ≤ 32) : Pact Tryz.prog 105 #[.int .u32 a, .int .i64 l] (fun _ => True) [] (ret0 (.int .u32 (a - a % pw l))) := by
  refine pact Tryz.func105 rfl Tryz.ntmps105 rfl ?_
  intro W K _
  have hm : (32 - l) = (((32 - l).toNat : Nat) : Int) := by omega
  have hle := pw_le l h0
  have hpos := pw_pos l
  have e1 : (1 : Int) * 2 ^ (32 - l).toNat = pw l := by unfold pw; omega
  unfold U32 at ha
  (repeat' (first | (refine gL ?_; first | refine yL0 ?_ | (refine gL_bin_shl ?_; (refine JL_p rfl xR xR (pe_shl (m := (32 - l).toNat) xR xR hm (by show _ ≤ 64; omega) (w_u64 (by rw [e1]; omega) (by rw [e1]; omega))) ?_)) | refine yL ?_) | refine yJ ?_ | fail))
  refine J_ret1 rfl (by rfl) fun w H => ⟨[], ⟨?_, rfl⟩, H.sel .nil⟩
  rw [e1]
  have := bits_andNot (a := a) (m := (32 - l).toNat) (by omega) (by omega) (by omega)
  unfold pw at *
  rw [this]
theorem right_s (p : Pf) (hp : PfN p) : Pact Tryz.prog 65 #[.agg (pfC p).toArray] (fun _ => True) [] (ret0 (.bool (decide (Rt p)))) := by
  refine pact Tryz.func65 rfl Tryz.ntmps65 rfl ?_
  intro W K _
  (repeat' (first | (refine gL ?_; first | refine yL0 ?_ | refine yL ?_ | (refine yM ?_; intro _)) | (refine gD ?_; first | (refine yN ?_; try simp only [cAp, nAp]) | refine yD0 ?_ | refine yD ?_ | (refine gD_go ?_; (refine JD_goq (mask_s p.1 p.2 hp.1 (by omega) (by omega)) (hφ := xF) (h := ?_); rintro _ _ ⟨rfl, rfl⟩; try simp only [cAp, nAp]))) | refine yJ ?_ | refine J_draw (id := 1) [0, 1, 2, 3, 4, 5, 6, 7, 8, 9, 10, 11, 12, 14, 15, 13] [16, 17, 18] mixed xC xD xD ?_ | (refine yI ?_ ?_ <;> intro _ <;> try exact xX) | (refine yK ?_ ?_ <;> intro hgb <;> first | subst hgb | fail_if_success have : type_of% hgb := rfl) | fail))
  all_goals (refine J_ret1 rfl (by rfl) fun w H => ⟨[], ⟨?_, rfl⟩, H.sel .nil⟩)
  all_goals congr 1
  · rename_i h1 h2
    simp only [Rt, h1, h2, true_and]
    congr 1
    simp only [eq_iff_iff]
    omega
  · rename_i h1 h2
    simp [Rt, h1, h2]
  · rename_i h1
    simp [Rt, h1]
/-! The document's answer. -/
theorem size_s (l : Int) (h0 : 0 ≤ l) (h1 : l ≤ 32) : Pact Tryz.prog 111 #[.int .i64 l] (fun _ => True) [] (ret0 (.int .u64 (pw l))) := by
  refine pact Tryz.func111 rfl Tryz.ntmps111 rfl ?_
  intro W K _
  have hmax : max l 0 = l := by omega
  have p2 : ∀ k : Nat, k ≤ 32 → 0 < (2 : Int) ^ k ∧ (2 : Int) ^ k ≤ 4294967296 := fun k hk => by
    refine ⟨Int.pow_pos (by omega), ?_⟩
    have h1 := pw_le (32 - k) (by omega)
    unfold pw at h1
    rwa [show (32 - (32 - (k : Int))).toNat = k by omega] at h1
  (repeat' (first | (refine gL ?_; first | refine yL0 ?_ | refine yL ?_) | refine yJ ?_ | (refine yI ?_ ?_ <;> intro _ <;> try exact xX) | (refine yK ?_ ?_ <;> intro hgb <;> first | subst hgb | fail_if_success have : type_of% hgb := rfl) | fail))
  refine J_loop (α := Nat) 0 (fun k => 32 - k) (fun k => l + k ≤ 32) (fun k => [(3, .int .u64 (2 ^ k)), (4, .int .i64 (l + k))]) (fun _ => []) (by show l + 0 ≤ 32; omega) ⟨rfl, ?_, trivial⟩ (fun w H => H.sel xZ) ?_
  · show some (Value.int .i64 (max l 0)) = some (Value.int .i64 (l + 0))
    rw [hmax, Int.add_zero]
  rintro k hk
  have hk2 := p2 k (by omega)
  by_cases hlt : l + k < 32
  · (repeat' (first | (refine gL ?_; first | refine yL0 ?_ | refine yL ?_) | refine yJ ?_ | (refine yI ?_ ?_ <;> intro _ <;> try exact xX) | (refine yK ?_ ?_ <;> intro hgb <;> first | subst hgb | fail_if_success have : type_of% hgb := rfl) | fail))
    refine J_again (k + 1) (by omega) (by show l + ((k + 1 : Nat) : Int) ≤ 32; omega) ⟨?_, ?_, trivial⟩ (fun w H => H.sel xZ)
    · show some _ = some _
      rw [Int.pow_succ, Int.mul_comm]
    · show some _ = some _
      congr 2
      omega
  · (repeat' (first | (refine gL ?_; first | refine yL0 ?_ | refine yL ?_) | refine yJ ?_ | (refine yI ?_ ?_ <;> intro _ <;> try exact xX) | (refine yK ?_ ?_ <;> intro hgb <;> first | subst hgb | fail_if_success have : type_of% hgb := rfl) | fail))
    refine J_ret1 rfl (by rfl) fun w H => ⟨[], ⟨?_, rfl⟩, H.sel .nil⟩
    unfold pw
    rw [show (32 - l).toNat = k by omega]
theorem rright_s (p : Pf) (hp : PfN p) : Pact Tryz.prog 77 #[.agg (pfC p).toArray] (fun _ => True) [] (ret0 (.bool (decide (Rt p)))) := by
  refine pact Tryz.func77 rfl Tryz.ntmps77 rfl ?_
  intro W K _
  have h1 := hp.1
  unfold U32 at h1
  have hpos := pw_pos p.2
  (repeat' (first | (refine gL ?_; first | refine yL0 ?_ | refine yL ?_ | (refine yM ?_; intro _)) | (refine gD ?_; first | (refine yN ?_; try simp only [cAp, nAp]) | refine yD0 ?_ | refine yD ?_ | (refine gD_go ?_; (refine JD_goq (size_s p.2 (by omega) (by omega)) (hφ := xF) (h := ?_); rintro _ _ ⟨rfl, rfl⟩; try simp only [cAp, nAp]))) | refine yJ ?_ | refine J_draw (id := 1) [0, 1, 2, 3, 4, 5, 6, 7, 8, 9, 10, 11, 12, 13, 14] [15, 16, 17, 18] mixed xC xD xD ?_ | (refine yI ?_ ?_ <;> intro _ <;> try exact xX) | (refine yK ?_ ?_ <;> intro hgb <;> first | subst hgb | fail_if_success have : type_of% hgb := rfl) | fail))
  all_goals (refine J_ret1 rfl (by rfl) fun w H => ⟨[], ⟨?_, rfl⟩, H.sel .nil⟩)
  all_goals congr 1
  · rename_i h1 h2
    simp [Rt, h1, h2]
  · rename_i h1 h2
    simp [Rt, h1, h2]
  · rename_i h1
    simp [Rt, h1]
theorem right_b (p : Pf) (hp : PfN p) (b : Bool) (hb : decide (Rt p) = b) : Pact Tryz.prog 65 #[.agg (pfC p).toArray] (fun _ => True) [] (ret0 (.bool b)) := hb ▸ right_s p hp
theorem rright_b (p : Pf) (hp : PfN p) (b : Bool) (hb : decide (Rt p) = b) : Pact Tryz.prog 77 #[.agg (pfC p).toArray] (fun _ => True) [] (ret0 (.bool b)) := hb ▸ rright_s p hp
/-! Words, tests, acts. -/
def WordOk (n : Int) : Prop := 0 ≤ n ∧ n ≤ 4294967295
instance (n : Int) : Decidable (WordOk n) := inferInstanceAs (Decidable (_ ∧ _))
def TestOk (op n : Int) (p : Pf) : Prop := (op = 4 ∧ Rt p ∧ p.2 ≤ n ∧ n ≤ 32) ∨ (op = 5 ∧ Rt p ∧ n = 0) ∨ ((6 ≤ op ∧ op ≤ 10 ∨ op = 12) ∧ (p.1 = 0 ∧ p.2 = 0) ∧ (0 ≤ n ∧ n ≤ 4294967295)) ∨ (op = 11 ∧ (p.1 = 0 ∧ p.2 = 0) ∧ 0 ≤ n ∧ n ≤ 2)
instance (op n : Int) (p : Pf) : Decidable (TestOk op n p) := inferInstanceAs (Decidable (_ ∨ _ ∨ _ ∨ _))
def ActOk (op n m : Int) : Prop := ((op = 2 ∨ op = 3 ∨ op = 9) ∧ n = 0 ∧ m = 0) ∨ (op = 4 ∧ 1 ≤ n ∧ n ≤ 4294967295 ∧ 1 ≤ m ∧ m ≤ 10) ∨ ((5 ≤ op ∧ op ≤ 8) ∧ (0 ≤ n ∧ n ≤ 4294967295) ∧ m = 0)
instance (op n m : Int) : Decidable (ActOk op n m) := inferInstanceAs (Decidable (_ ∨ _ ∨ _))
theorem word_s (n : Int) : Pact Tryz.prog 171 #[.int .i64 n] (fun _ => True) [] (ret0 (.bool (decide (0 ≤ n ∧ n ≤ 4294967295)))) := by
  refine pact Tryz.func171 rfl Tryz.ntmps171 rfl ?_
  intro W K _
  (repeat' (first | (refine gL ?_; first | refine yL0 ?_ | refine yL ?_) | refine yJ ?_ | (refine yI ?_ ?_ <;> intro _ <;> try exact xX) | (refine yK ?_ ?_ <;> intro hgb <;> first | subst hgb | fail_if_success have : type_of% hgb := rfl) | fail))
  all_goals (refine J_ret1 rfl (by rfl) fun w H => ⟨[], ⟨?_, rfl⟩, H.sel .nil⟩; congr 1; rw [Bool.eq_iff_iff]; simp only [decide_eq_true_eq, true_iff, Bool.false_eq_true, false_iff]; omega)
theorem rword_s (n : Int) : Pact Tryz.prog 95 #[.int .i64 n] (fun _ => True) [] (ret0 (.bool (decide (0 ≤ n ∧ n ≤ 4294967295)))) := by
  refine pact Tryz.func95 rfl Tryz.ntmps95 rfl ?_
  intro W K _
  (repeat' (first | (refine gL ?_; first | refine yL0 ?_ | refine yL ?_) | refine yJ ?_ | (refine yI ?_ ?_ <;> intro _ <;> try exact xX) | (refine yK ?_ ?_ <;> intro hgb <;> first | subst hgb | fail_if_success have : type_of% hgb := rfl) | fail))
  all_goals (refine J_ret1 rfl (by rfl) fun w H => ⟨[], ⟨?_, rfl⟩, H.sel .nil⟩; congr 1; rw [Bool.eq_iff_iff]; simp only [decide_eq_true_eq, true_iff, Bool.false_eq_true, false_iff]; omega)
theorem rbare_s (p : Pf) : Pact Tryz.prog 57 #[.agg (pfC p).toArray] (fun _ => True) [] (ret0 (.bool (decide (p.1 = 0 ∧ p.2 = 0)))) := by
  refine pact Tryz.func57 rfl Tryz.ntmps57 rfl ?_
  intro W K _
  (repeat' (first | (refine gL ?_; first | refine yL0 ?_ | refine yL ?_ | (refine yM ?_; intro _)) | refine yJ ?_ | fail))
  refine J_ret1 rfl (by rfl) fun w H => ⟨[], ⟨rfl, rfl⟩, H.sel .nil⟩
end Go.Proofs.YtdnokmpnemaoaaaGreat.C
