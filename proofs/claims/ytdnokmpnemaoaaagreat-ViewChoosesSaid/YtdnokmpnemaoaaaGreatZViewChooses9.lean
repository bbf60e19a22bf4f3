/-
  Jm, Jn: merged.
-/
import Derived.Test.YtdnokmpnemaoaaaGreatZViewChooses8
namespace Go.Pm
set_option linter.unusedSimpArgs false
set_option linter.unusedVariables false
open Go.RowKit

def mp (k : IntKind) (b : Nat) (es : List (Int × Value)) : HP := fun h => ∃ ents clock, h = Hl.one b (.map ents clock) ∧ ents.toList.map (fun e => (e.key, e.val)) = es.map (fun p => (Value.int k p.1, p.2))
def alGet : List (Int × Value) → Int → Option Value
  | [], _ => none
  | (x, v) :: r, z => if x = z then some v else alGet r z
def alPut : List (Int × Value) → Int → Value → List (Int × Value)
  | [], z, v => [(z, v)]
  | (x, u) :: r, z, v => if x = z then (x, v) :: r else (x, u) :: alPut r z v
theorem alGet_put (es : List (Int × Value)) (z y : Int) (v : Value) : alGet (alPut es z v) y = if y = z then some v else alGet es y := by
  induction es with
  | nil => simp only [alPut, alGet]; by_cases h : z = y <;> simp [h, eq_comm]
  | cons p r ih =>
    obtain ⟨x, u⟩ := p
    simp only [alPut]
    by_cases hx : x = z
    · subst hx
      rw [if_pos rfl]
      simp only [alGet]
      by_cases h : x = y
      · simp [h]
      · rw [if_neg h, if_neg h, if_neg (Ne.symm h)]
    · rw [if_neg hx]
      simp only [alGet, ih]
      by_cases h : x = y
      · subst h; simp [hx]
      · simp [h]
def mapInfo (P : Program) (t : TypeId) : Option (IntKind × Value) := match P.underlying t with
  | some (.map key elem) => match P.underlying key, P.info? elem with
    | some (.int k), some i => match i.zero with
      | some z => some (k, z)
      | none => none
    | _, _ => none
  | _ => none
theorem mapInfo_spec {P : Program} {t : TypeId} {k : IntKind} {z : Value} (h : mapInfo P t = some (k, z)) : ∃ key elem i, P.underlying t = some (.map key elem) ∧ P.underlying key = some (.int k) ∧ P.info? elem = some i ∧ i.zero = some z := by
  unfold mapInfo at h
  split at h
  · rename_i key elem hu
    split at h
    · rename_i k' i hk hi
      split at h
      · rename_i z' hz
        simp only [Option.some.injEq, Prod.mk.injEq] at h
        obtain ⟨rfl, rfl⟩ := h
        exact ⟨key, elem, i, hu, hk, hi, hz⟩
      · cases h
    · cases h
  · cases h

inductive TabM (P : Program) : List (Nat × (IntKind × Value)) → Prop
  | nil : TabM P []
  | cons {p : Nat × (IntKind × Value)} {l : List (Nat × (IntKind × Value))} : mapInfo P p.1 = some p.2 → TabM P l → TabM P (p :: l)
def tabOkM (P : Program) (l : List (Nat × (IntKind × Value))) : Prop := TabM P l
theorem tabM {P : Program} {tab : List (Nat × (IntKind × Value))} {t : Nat} {x : IntKind × Value} (h : tabOkM P tab) (g : tabGet tab t = some x) : mapInfo P t = some x := by
  have hm := tabGet_mem g
  clear g
  unfold tabOkM at h
  induction h with
  | nil => cases hm
  | cons h1 _ ih =>
    rcases List.mem_cons.1 hm with e | e
    · rw [← e] at h1; exact h1
    · exact ih e

section
variable {P : Program} {n : Nat} {W : World} {K : Hl} {F : Fp} {k : List It} {tm : TM} {L L' R S M M' : List HP} {T : TypeId} {pos : String} {af : Array Edge} {gd : Option (Nat × Bool)} {ops : Array Oper} {rest nx : List Oper} {d : Tmp}

theorem findNow_al (kd : IntKind) (z : Int) : ∀ (ents : List MapEntry) (es : List (Int × Value)) (i : Nat), ents.map (fun e => (e.key, e.val)) = es.map (fun p => (Value.int kd p.1, p.2)) →
    (alGet es z = none ∧ Instr.findNow (.int kd) (.int kd z) ents i = some none) ∨ (∃ j v, alGet es z = some v ∧ Instr.findNow (.int kd) (.int kd z) ents i = some (some (i + j, v)) ∧ j < ents.length ∧ (ents[j]?).map (·.key) = some (.int kd z) ∧ ∀ u, es.length = ents.length ∧ (alPut es z u) = (es.set j (z, u)))
  | [], [], i, _ => .inl ⟨rfl, rfl⟩
  | [], p :: _, _, h => by simp at h
  | e :: ents, [], _, h => by simp at h
  | e :: ents, (x, v) :: es, i, h => by
    simp only [List.map_cons, List.cons.injEq, Prod.mk.injEq] at h
    obtain ⟨⟨h1, h2⟩, h3⟩ := h
    have hlen : es.length = ents.length := by have := congrArg List.length h3; simpa using this.symm
    by_cases hx : x = z
    · subst hx
      refine .inr ⟨0, v, by simp [alGet], ?_, by simp, by simp [h1], fun u => ⟨by simp [hlen], by simp [alPut]⟩⟩
      simp [Instr.findNow, Instr.sameNow, h1, h2]
    · have hx' : (z == x) = false := by simp [Ne.symm hx]
      have hstep : Instr.findNow (.int kd) (.int kd z) (e :: ents) i = Instr.findNow (.int kd) (.int kd z) ents (i + 1) := by
        simp [Instr.findNow, Instr.sameNow, h1, hx']
      rw [hstep]
      rcases findNow_al kd z ents es (i + 1) h3 with ⟨a, b⟩ | ⟨j, u, a, b, c, d, e⟩
      · exact .inl ⟨by simp [alGet, hx, a], b⟩
      · refine .inr ⟨j + 1, u, by simp [alGet, hx, a], by rw [b]; congr 3; omega, by simp [c], by simpa using d, fun w => ⟨by simp [hlen], ?_⟩⟩
        simp [alPut, hx, (e w).2]

theorem mp_obj {h : Hl} {b : Nat} {kd : IntKind} {es : List (Int × Value)} (hm : mp kd b es h) {w : World} (i : h.inn w) : ∃ ents clock, w.heap[b]? = some (.map ents clock) ∧ ents.toList.map (fun e => (e.key, e.val)) = es.map (fun p => (Value.int kd p.1, p.2)) := by
  obtain ⟨ents, clock, rfl, he⟩ := hm
  exact ⟨ents, clock, i b _ (by simp [Hl.one]), he⟩
theorem run_getObj {w : World} {b : Nat} {ents : Array MapEntry} {clock : Nat} (h : w.heap[b]? = some (.map ents clock)) : (getObj b).run P w = .ok (.map ents clock) w := by
  simp [getObj, Sem.run, h]
theorem run_checkKey {key : TypeId} {kd : IntKind} (hk : P.underlying key = some (.int kd)) (e : Bool) (z : Int) (w : World) : (Instr.checkKey e 10000 key (.int kd z)).run P w = .ok () w := by
  have : ∀ m, (Instr.checkKey e (m + 1) key (.int kd z)).run P w = .ok () w := fun m => by
    unfold Instr.checkKey
    simp [Sem.run_bind, run_underlying hk]
  exact this 9999
theorem run_findKey {key : TypeId} {kd : IntKind} (hk : P.underlying key = some (.int kd)) {z : Int} {es : List MapEntry} {r : Option (Nat × Value)} (h : Instr.findNow (.int kd) (.int kd z) es 0 = some r) (w : World) : (Instr.findKey key (.int kd z) es).run P w = .ok r w := by
  simp [Instr.findKey, Sem.run_bind, run_underlying hk, h]

def lookV (o : Option Value) (z : Value) (ok : Bool) : Value := match ok with
  | true => .tuple [o.getD z, .bool o.isSome].toArray
  | false => o.getD z
theorem pe_lookup {od : Option Tmp} {t : TypeId} {x y : Operand} {b : Nat} {kd : IntKind} {z : Int} {es : List (Int × Value)} {zv : Value} {ok : Bool} {v : Value} (hx : evT tm x = some (.map (some b))) (hy : evT tm y = some (.int kd z)) (ht : mapInfo P t = some (kd, zv)) (hm : Tk L (mp kd b es) R) (hq : lookV (alGet es z) zv ok = v) : PE P K L ⟨od, .lookup t x y ok, T, pos, af, gd⟩ (tget tm) v := fun ρ w ha hr => by
  subst hq
  have h1 := ha x (by simp [Op.operands]) _ hx
  have h2 := ha y (by simp [Op.operands]) _ hy
  obtain ⟨key, elem, i, hu, hk, hi, hz⟩ := mapInfo_spec ht
  obtain ⟨q, hq, hin⟩ := hr.tk hm
  obtain ⟨ents, clock, ho, he⟩ := mp_obj hq hin
  unfold execOp
  simp only [h1, h2]
  rcases findNow_al kd z ents.toList es 0 he with ⟨e1, e2⟩ | ⟨j, v', e1, e2, _⟩
  · simp only [Instr.lookup, Sem.run_bind, run_underlying hu, Result.andThen_ok, run_getObj ho, Sem.run_pure, run_checkKey hk, run_findKey hk e2, zeroValue, typeInfo, e1, lookV]
    cases ok <;> simp [hi, hz]
  · simp only [Instr.lookup, Sem.run_bind, run_underlying hu, Result.andThen_ok, run_getObj ho, Sem.run_pure, run_checkKey hk, run_findKey hk e2, e1, lookV]
    cases ok <;> simp
theorem pe_lookupK {od : Option Tmp} {t : TypeId} {x y : Operand} {b : Nat} {kd : IntKind} {z : Int} {es : List (Int × Value)} {zv : Value} {ok : Bool} {v : Value} (hx : evT tm x = some (.map (some b))) (hy : evT tm y = some (.int kd z)) (ht : mapInfo P t = some (kd, zv)) (hm : Kn K (fun w => ∃ h, mp kd b es h ∧ h.inn w)) (hq : lookV (alGet es z) zv ok = v) : PE P K L ⟨od, .lookup t x y ok, T, pos, af, gd⟩ (tget tm) v := fun ρ w ha hr => by
  subst hq
  have h1 := ha x (by simp [Op.operands]) _ hx
  have h2 := ha y (by simp [Op.operands]) _ hy
  obtain ⟨key, elem, i, hu, hk, hi, hz⟩ := mapInfo_spec ht
  obtain ⟨q, hq, hin⟩ := hm w hr.1
  obtain ⟨ents, clock, ho, he⟩ := mp_obj hq hin
  unfold execOp
  simp only [h1, h2]
  rcases findNow_al kd z ents.toList es 0 he with ⟨e1, e2⟩ | ⟨j, v', e1, e2, _⟩
  · simp only [Instr.lookup, Sem.run_bind, run_underlying hu, Result.andThen_ok, run_getObj ho, Sem.run_pure, run_checkKey hk, run_findKey hk e2, zeroValue, typeInfo, e1, lookV]
    cases ok <;> simp [hi, hz]
  · simp only [Instr.lookup, Sem.run_bind, run_underlying hu, Result.andThen_ok, run_getObj ho, Sem.run_pure, run_checkKey hk, run_findKey hk e2, e1, lookV]
    cases ok <;> simp
theorem Rdw.mp {kd : IntKind} {b : Nat} {es : List (Int × Value)} {w : World} (h : Rdw K L w) (t : Tk L (mp kd b es) R) : ∃ q, Pm.mp kd b es q ∧ q.inn w := h.tk t

theorem ae_mapSet {od : Option Tmp} {t : TypeId} {x y u : Operand} {b : Nat} {kd : IntKind} {z : Int} {es : List (Int × Value)} {zv v : Value} (hx : evT tm x = some (.map (some b))) (hy : evT tm y = some (.int kd z)) (hv : evT tm u = some v) (ht : mapInfo P t = some (kd, zv)) :
    AE P n K R [mp kd b es] ⟨od, .mapUpdate t x y u, T, pos, af, gd⟩ (tget tm) (one undef [mp kd b (alPut es z v)]) := fun W K' w a next hK hf hO hn => by
  obtain ⟨key, elem, i, hu, hk, hi, hz⟩ := mapInfo_spec ht
  obtain ⟨q, hq, hin⟩ := hO.part
  obtain ⟨ents, clock, ho, he⟩ := mp_obj hq hin
  have key2 : ∀ ents' clock', ents'.toList.map (fun e => (e.key, e.val)) = (alPut es z v).map (fun p => (Value.int kd p.1, p.2)) → Ow W K' (mp kd b (alPut es z v) :: R) { w with heap := w.heap.setIfInBounds b (.map ents' clock') } := fun ents' clock' he' => by
    refine Ow.change hO rfl ((Tp.refl _).same rfl rfl) rfl (by simp) (fun h hh ih => ?_)
    obtain ⟨en, cl, rfl, _⟩ := hh
    have hlt : b < w.heap.size := (Array.getElem?_eq_some_iff.1 ho).1
    refine ⟨⟨Hl.one b (.map ents' clock'), ⟨ents', clock', rfl, he'⟩, fun c o e => ?_, fun c hc => ?_⟩, fun c hl hc => ?_⟩
    · unfold Hl.one at e
      split at e
      · rename_i hcb; subst hcb; cases e
        simp [Array.getElem?_setIfInBounds, hlt]
      · cases e
    · left
      unfold Hl.one at hc ⊢
      split at hc <;> simp_all
    · have hcb : b ≠ c := fun e => by subst e; simp [Hl.one] at hc
      simp [Array.getElem?_setIfInBounds, hcb]
  refine wp_done (w' := { w with heap := w.heap.setIfInBounds b (.map (match Instr.findNow (.int kd) (.int kd z) ents.toList 0 with | some (some (j, _)) => ents.modify j fun e => { e with key := .int kd z, val := v } | _ => ents.push { key := .int kd z, val := v, born := clock }) (match Instr.findNow (.int kd) (.int kd z) ents.toList 0 with | some (some _) => clock | _ => clock + 1)) }) ?_ (hn undef _ _ ⟨rfl, rfl⟩ (key2 _ _ ?_))
  · unfold execOp
    simp only [hf.eval hx, hf.eval hy, hf.eval hv]
    rcases findNow_al kd z ents.toList es 0 he with ⟨e1, e2⟩ | ⟨j, u', e1, e2, e3, e4, _⟩
    · simp only [Instr.mapUpdate, Sem.run_bind, run_underlying hu, Result.andThen_ok, run_getObj ho, run_checkKey hk, run_findKey hk e2, e2]
      simp [setObj, Sem.run, ho]
    · have hold : ((ents[0 + j]?).map (·.key)).getD (.int kd z) = .int kd z := by
        rw [Nat.zero_add]
        have : (ents[j]?).map (·.key) = some (.int kd z) := by simpa using e4
        rw [this]; rfl
      have hsame : (Instr.keyThatStays (.int kd z) (.int kd z)).run P w = .ok (.int kd z) w := by
        have : ∀ m, Instr.sameBits m (.int kd z) (.int kd z) = true := fun m => by cases m <;> simp [Instr.sameBits]
        simp [Instr.keyThatStays, this]
      simp only [Instr.mapUpdate, Sem.run_bind, run_underlying hu, Result.andThen_ok, run_getObj ho, run_checkKey hk, run_findKey hk e2, e2, hold, hsame]
      simp [setObj, Sem.run, ho]
  · rcases findNow_al kd z ents.toList es 0 he with ⟨e1, e2⟩ | ⟨j, u', e1, e2, e3, e4, e5⟩
    · rw [e2]
      have : ∀ (l : List (Int × Value)), alGet l z = none → alPut l z v = l ++ [(z, v)] := by
        intro l
        induction l with
        | nil => intro _; rfl
        | cons p l ih =>
          intro h
          obtain ⟨x, u⟩ := p
          simp only [alGet] at h
          split at h
          · cases h
          · rename_i hx; simp [alPut, hx, ih h]
      rw [this es e1]
      simp [he]
    · rw [e2]
      dsimp only
      rw [Nat.zero_add, (e5 v).2]
      apply List.ext_getElem?
      intro q
      have hq2 := congrArg (·[q]?) he
      simp only [List.getElem?_map] at hq2
      simp only [List.getElem?_map, Array.getElem?_toList, Array.getElem?_modify, List.getElem?_set]
      by_cases hjq : j = q
      · subst hjq
        have hl2 := (e5 v).1
        have e6 : j < es.length := by rw [hl2]; exact e3
        simp only [if_pos rfl, if_pos e6]
        have : j < ents.size := by simpa using e3
        simp [Array.getElem?_eq_getElem this]
      · rw [if_neg hjq, if_neg hjq]
        simpa using hq2

theorem al_mapNew {od : Option Tmp} {t : TypeId} : AL P ⟨od, .makeMap t none, T, pos, af, gd⟩ (tget tm) (.map #[] 0) (fun b => .map (some b)) := fun ρ w ha => by
  unfold execOp
  simp [Instr.makeMap, Sem.run_bind, newObj, Sem.run]
theorem JL_mm {t : TypeId} {kd : IntKind} {zv : Value} (ht : mapInfo P t = some (kd, zv)) (hn : Nat.blt d n = true) (hg : wantF ops ⟨some d, .makeMap t none, T, pos, af, gd⟩ (tget tm) = some true) (h : ∀ b, JL P n W K F ops k rest ((d, .map (some b)) :: tm) (mp kd b [] :: L)) : JL P n W K F ops k (⟨some d, .makeMap t none, T, pos, af, gd⟩ :: rest) tm L :=
  JL_m rfl hn hg al_mapNew fun b => JL_heap (fun w H => H.imp fun q hq => ⟨#[], 0, hq, rfl⟩) (h b)
theorem JD_mapSet {t : TypeId} {x y u : Operand} {b : Nat} {kd : IntKind} {z : Int} {es : List (Int × Value)} {zv v : Value} (hx : evT tm x = some (.map (some b))) (hy : evT tm y = some (.int kd z)) (hv : evT tm u = some v) (ht : mapInfo P t = some (kd, zv)) (hm : Tk M (mp kd b es) R) (hg : wantF ops ⟨none, .mapUpdate t x y u, T, pos, af, gd⟩ (tget tm) = some true)
    (h : JD P n W K F ops k nx rest tm S (mp kd b (alPut es z v) :: R)) : JD P n W K F ops k nx (⟨none, .mapUpdate t x y u, T, pos, af, gd⟩ :: rest) tm S M :=
  JD_a0 rfl hg rfl (.cons hm .nil) (ae_mapSet hx hy hv ht) (by rintro _ _ ⟨rfl, rfl⟩; exact h)
theorem JD_lookM {t : TypeId} {x y : Operand} {b : Nat} {kd : IntKind} {z : Int} {es : List (Int × Value)} {zv : Value} {ok : Bool} (hx : evT tm x = some (.map (some b))) (hy : evT tm y = some (.int kd z)) (ht : mapInfo P t = some (kd, zv)) (hm : Tk M (mp kd b es) M') {v : Value} (hq : lookV (alGet es z) zv ok = v) (hg : wantF ops ⟨some d, .lookup t x y ok, T, pos, af, gd⟩ (tget tm) = some true)
    (h : JD P n W K F ops k nx rest ((d, v) :: tm) (mp kd b es :: S) M') : JD P n W K F ops k nx (⟨some d, .lookup t x y ok, T, pos, af, gd⟩ :: rest) tm S M := JD_pM rfl hg rfl hm (pe_lookup hx hy ht .here hq) h
end

/-! What some memory of the call's own is enough to know. -/
def has (φ : World → Prop) : HP := fun h => ∀ w, h.inn w → φ w
def noK : Hl := fun _ => none
theorem has_of {M : List HP} {φ : World → Prop} (h : ∀ w, Rdw noK M w → φ w) : ∀ k, sats M k → has φ k := by
  intro k s w i
  refine h w ⟨?_, k, s, ?_, i⟩
  · intro b o e
    exact nomatch e
  · intro b
    exact .inr rfl
theorem Rdw.has {K : Hl} {L R : List HP} {φ : World → Prop} {w : World} (h : Rdw K L w) (t : Tk L (Pm.has φ) R) : φ w := by
  obtain ⟨k, hk, i⟩ := h.tk t
  exact hk w i
theorem Ow.has {W : World} {K : Hl} {L R M : List HP} {w : World} {φ : World → Prop} (H : Ow W K L w) (t : Sb L M R) (h : ∀ w, Rdw noK M w → φ w) : Ow W K (Pm.has φ :: R) w := H.shut t (has_of h)
theorem Ow.hasTrue {W : World} {K : Hl} {L : List HP} {w : World} {φ : World → Prop} (H : Ow W K L w) (h : ∀ w, φ w) : Ow W K (Pm.has φ :: L) w := (Ow.satsNil H).imp fun _ _ w _ => h w

/-! Append onto an empty literal. -/
section
variable {P : Program} {n : Nat} {W : World} {K : Hl} {F : Fp} {k : List It} {tm : TM} {L L' R S M M' : List HP} {T : TypeId} {pos : String} {af : Array Edge} {gd : Option (Nat × Bool)} {ops : Array Oper} {rest nx : List Oper} {d : Tmp}
variable {α : Type} {enc : α → List Value} {t e : TypeId} {sz bytes m b : Nat} {s x : Operand} {v y : Value} {fs : List α}
theorem JL_appL (enc : α → List Value) {fs : List α} (hi : elemInfo P t = some (e, sz, bytes)) (hs : evT tm s = some (.slice (some ⟨b, 0, none⟩) 0 0)) (hx : evT tm x = some y) (hm : Tk L (pts b [] e) R) (hv : Src K R y sz m (flat enc fs)) (hok : elOk P t e sz bytes = true) (hl : ∀ x, (enc x).length = sz) (h1 : ∀ u ∈ flat enc fs, u.oneCell' = true) (hsz : m * bytes ≤ 140737488355328)
    (hn : Nat.blt d n = true) (hg : wantF ops ⟨some d, .call ⟨.builtin .append, #[s, x], #[t, t]⟩, T, pos, af, gd⟩ (tget tm) = some true) (h : ∀ ad c, m ≤ c → c ≤ maxLen → JL P n W K F ops k rest ((d, .slice ad m c) :: tm) (Ar e sz enc (.slice ad m c) fs :: R)) : JL P n W K F ops k (⟨some d, .call ⟨.builtin .append, #[s, x], #[t, t]⟩, T, pos, af, gd⟩ :: rest) tm L :=
  JL_a rfl hn hg (.cons hm .nil) (fun W' K' w a next hK hf hO hn => ae_app (es := []) (.ofOk hok) hs hx hv hl h1 (by simpa using hsz) W' K' w a next hK hf (Ow.arLit0 hO .here) hn) (by
    rintro _ _ ⟨ad, c, h2, h3, rfl, rfl⟩
    simp only [List.length_nil, Nat.zero_add, List.nil_append] at h2 ⊢
    exact h ad c h2 h3)
theorem JD_appL (enc : α → List Value) {fs : List α} (hi : elemInfo P t = some (e, sz, bytes)) (hs : evT tm s = some (.slice (some ⟨b, 0, none⟩) 0 0)) (hx : evT tm x = some y) (hm : Tk M (pts b [] e) R) (hv : Src K (R ++ S) y sz m (flat enc fs)) (hok : elOk P t e sz bytes = true) (hl : ∀ x, (enc x).length = sz) (h1 : ∀ u ∈ flat enc fs, u.oneCell' = true) (hsz : m * bytes ≤ 140737488355328)
    (hg : wantF ops ⟨some d, .call ⟨.builtin .append, #[s, x], #[t, t]⟩, T, pos, af, gd⟩ (tget tm) = some true) (h : ∀ ad c, m ≤ c → c ≤ maxLen → JD P n W K F ops k nx rest ((d, .slice ad m c) :: tm) S (Ar e sz enc (.slice ad m c) fs :: R)) : JD P n W K F ops k nx (⟨some d, .call ⟨.builtin .append, #[s, x], #[t, t]⟩, T, pos, af, gd⟩ :: rest) tm S M :=
  JD_a rfl hg rfl (.cons hm .nil) (fun W' K' w a next hK hf hO hn => ae_app (es := []) (.ofOk hok) hs hx hv hl h1 (by simpa using hsz) W' K' w a next hK hf (Ow.arLit0 hO .here) hn) (by
    rintro _ _ ⟨ad, c, h2, h3, rfl, rfl⟩
    simp only [List.length_nil, Nat.zero_add, List.nil_append] at h2 ⊢
    exact h ad c h2 h3)
end
end Go.Pm
namespace Go.Pm
set_option linter.unusedSimpArgs false
set_option linter.unusedVariables false
open Go.RowKit
variable {α : Type} {enc : α → List Value} {K : Hl} {L : List HP} {a : Option Addr} {c n sz : Nat} {es : List α}
theorem flat_drop (hl : ∀ x, (enc x).length = sz) (es : List α) (j : Nat) (hj : j ≤ es.length) : (flat enc es).drop (j * sz) = flat enc (es.drop j) := by
  have h : flat enc es = flat enc (es.take j) ++ flat enc (es.drop j) := by rw [← flat_append, List.take_append_drop]
  have h2 : (flat enc (es.take j)).length = j * sz := by rw [flat_length hl, List.length_take, Nat.min_eq_left hj]
  rw [h, ← h2, List.drop_left]
theorem Vw_drop {w : World} (h : Vw w (.slice a n c) sz n (flat enc es)) (hl : ∀ x, (enc x).length = sz) (hn : es.length = n) (k m : Nat) (hk : k ≤ n) (hm : m = n - k) : Vw w (.slice (slA a c k sz) m (c - k)) sz m (flat enc (es.drop k)) := by
  subst hm
  obtain ⟨a', cap, he, h1, h2, h3, h4, h5⟩ := h
  cases he
  have hlen : (es.drop k).length = n - k := by rw [List.length_drop, hn]
  unfold slA
  by_cases hck : c = k
  · rw [if_pos hck]
    refine ⟨a, c - k, rfl, by rw [flat_length hl, hlen], by omega, by omega, fun h => ⟨by have := (h4 h).1; omega, by omega⟩, fun hne => ?_⟩
    have hnil : es.drop k = [] := List.eq_nil_of_length_eq_zero (by omega)
    rw [hnil] at hne
    exact absurd rfl hne
  · rw [if_neg hck]
    refine ⟨_, c - k, rfl, by rw [flat_length hl, hlen], by omega, by omega, fun h => ?_, fun hne => ?_⟩
    · cases a with
      | none => have := h4 rfl; omega
      | some x => cases h
    · have hd := flat_drop hl es k (by omega)
      have hne' : flat enc es ≠ [] := by
        intro h
        rw [h] at hd
        exact hne (by rw [← hd]; simp)
      obtain ⟨b, off, hb, hc⟩ := h5 hne'
      subst hb
      refine ⟨b, off + k * sz, by rw [Option.map_some, addr_add_plain], fun j u hj => ?_⟩
      rw [← hd, List.getElem?_drop] at hj
      have := hc _ _ hj
      rwa [Nat.add_assoc]
theorem Vw_take' {w : World} (h : Vw w (.slice a n c) sz n (flat enc es)) (hl : ∀ x, (enc x).length = sz) (hn : es.length = n) (j : Nat) (hj : j ≤ n) : Vw w (.slice a j c) sz j (flat enc (es.take j)) := by
  obtain ⟨a', cap, he, h1, h2, h3, h4, h5⟩ := h
  cases he
  have hlen : (es.take j).length = j := by rw [List.length_take]; omega
  have hpre : flat enc es = flat enc (es.take j) ++ flat enc (es.drop j) := by rw [← flat_append, List.take_append_drop]
  refine ⟨a, c, rfl, by rw [flat_length hl, hlen], by omega, h3, fun h => ⟨by have := (h4 h).1; omega, (h4 h).2⟩, fun hne => ?_⟩
  have hne' : flat enc es ≠ [] := by
    intro h
    rw [hpre] at h
    exact hne (List.append_eq_nil_iff.1 h).1
  obtain ⟨b, off, hb, hc⟩ := h5 hne'
  refine ⟨b, off, hb, fun k u hk => hc k u ?_⟩
  rw [hpre, List.getElem?_append_left (List.getElem?_eq_some_iff.1 hk).1]
  exact hk
theorem Src.drop (h : Src K L (.slice a n c) sz n (flat enc es)) (hl : ∀ x, (enc x).length = sz) (hn : es.length = n) (k m : Nat) (hk : k ≤ n) (hm : m = n - k) : Src K L (.slice (slA a c k sz) m (c - k)) sz m (flat enc (es.drop k)) := fun w hr => Vw_drop (h w hr) hl hn k m hk hm
theorem Src.take (h : Src K L (.slice a n c) sz n (flat enc es)) (hl : ∀ x, (enc x).length = sz) (hn : es.length = n) (j : Nat) (hj : j ≤ n) : Src K L (.slice a j c) sz j (flat enc (es.take j)) := fun w hr => Vw_take' (h w hr) hl hn j hj
end Go.Pm
