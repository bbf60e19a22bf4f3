/-
  Jk, Jm, Jn, Jr: merged.
-/
import Derived.Test.YtdnokmpnemaoaaaGreatZViewPlays7
namespace Go.Pm
set_option linter.unusedSimpArgs false
set_option linter.unusedVariables false
open Go.RowKit

section
variable {P : Program} {n : Nat} {W : World} {K : Hl} {F : Fp} {k : List It} {tm : TM} {L L' R S M : List HP} {T : TypeId} {pos : String} {af : Array Edge} {gd : Option (Nat × Bool)} {ops : Array Oper} {rest nx : List Oper} {d : Tmp}
variable {α : Type} {enc : α → List Value} {e : TypeId} {sz : Nat} {a : Option Addr} {m c : Nat} {es : List α} {w : World}

theorem Rdw.cell {b i : Nat} {cs : List Value} {v : Value} (h : Rdw K L w) (t : Tk L (pts b cs T) R) (hv : cs[i]? = some v) : w.cell? ⟨b, i, none⟩ = some v := by
  rw [(h.blk t).cell]; simpa using hv
theorem Ow.arShape (H : Ow W K L w) (h : Tk L (Ar e sz enc (.slice a m c) es) R) : m = es.length ∧ m ≤ c ∧ c ≤ maxLen := by
  obtain ⟨_, a', c', he, h1, h2⟩ := Ow.slShape H h
  injection he with h3 h4 h5
  subst h4 h5
  exact ⟨rfl, h1, h2⟩
end
end Go.Pm
namespace Go.Pm
set_option linter.unusedSimpArgs false
set_option linter.unusedVariables false
open Go.RowKit

def mp (k : IntKind) (b : Nat) (es : List (Int × Value)) : HP := fun h => ∃ ents clock, h = Hl.one b (.map ents clock) ∧ ents.toList.map (fun e => (e.key, e.val)) = es.map (fun p => (Value.int k p.1, p.2))
def alGet : List (Int × Value) → Int → Option Value
  | [], _ => none
  | (x, v) :: r, z => if x = z then some v else alGet r z
def alPut : List (Int × Value) → Int → Value → List (Int × Value)
  | [], z, v => [(z, v)]
  | (x, u) :: r, z, v => if x = z then (x, v) :: r else (x, u) :: alPut r z v
def mapInfo (P : Program) (t : TypeId) : Option (IntKind × Value) := match P.underlying t with
  | some (.map key elem) => match P.underlying key, P.info? elem with
    | some (.int k), some i => match i.zero with
      | some z => some (k, z)
      | none => none
    | _, _ => none
  | _ => none
theorem mapInfo_spec {P : Program} {t : TypeId} {k : IntKind} {z : Value} (h : mapInfo P t = some (k, z)) : ∃ key elem i, P.underlying t = some (.map key elem) ∧ P.underlying key = some (.int k) ∧ P.info? elem = some i ∧ i.zero = some z := by
  unfold mapInfo at h
  split at h
  · rename_i key elem hu
    split at h
    · rename_i k' i hk hi
      split at h
      · rename_i z' hz
        simp only [Option.some.injEq, Prod.mk.injEq] at h
        obtain ⟨rfl, rfl⟩ := h
        exact ⟨key, elem, i, hu, hk, hi, hz⟩
      · cases h
    · cases h
  · cases h

inductive TabM (P : Program) : List (Nat × (IntKind × Value)) → Prop
  | nil : TabM P []
  | cons {p : Nat × (IntKind × Value)} {l : List (Nat × (IntKind × Value))} : mapInfo P p.1 = some p.2 → TabM P l → TabM P (p :: l)
def tabOkM (P : Program) (l : List (Nat × (IntKind × Value))) : Prop := TabM P l
theorem tabM {P : Program} {tab : List (Nat × (IntKind × Value))} {t : Nat} {x : IntKind × Value} (h : tabOkM P tab) (g : tabGet tab t = some x) : mapInfo P t = some x := by
  have hm := tabGet_mem g
  clear g
  unfold tabOkM at h
  induction h with
  | nil => cases hm
  | cons h1 _ ih =>
    rcases List.mem_cons.1 hm with e | e
    · rw [← e] at h1; exact h1
    · exact ih e

section
variable {P : Program} {n : Nat} {W : World} {K : Hl} {F : Fp} {k : List It} {tm : TM} {L L' R S M M' : List HP} {T : TypeId} {pos : String} {af : Array Edge} {gd : Option (Nat × Bool)} {ops : Array Oper} {rest nx : List Oper} {d : Tmp}

theorem findNow_al (kd : IntKind) (z : Int) : ∀ (ents : List MapEntry) (es : List (Int × Value)) (i : Nat), ents.map (fun e => (e.key, e.val)) = es.map (fun p => (Value.int kd p.1, p.2)) →
    (alGet es z = none ∧ Instr.findNow (.int kd) (.int kd z) ents i = some none) ∨ (∃ j v, alGet es z = some v ∧ Instr.findNow (.int kd) (.int kd z) ents i = some (some (i + j, v)) ∧ j < ents.length ∧ (ents[j]?).map (·.key) = some (.int kd z) ∧ ∀ u, es.length = ents.length ∧ (alPut es z u) = (es.set j (z, u)))
  | [], [], i, _ => .inl ⟨rfl, rfl⟩
  | [], p :: _, _, h => by simp at h
  | e :: ents, [], _, h => by simp at h
  | e :: ents, (x, v) :: es, i, h => by
    simp only [List.map_cons, List.cons.injEq, Prod.mk.injEq] at h
    obtain ⟨⟨h1, h2⟩, h3⟩ := h
    have hlen : es.length = ents.length := by have := congrArg List.length h3; simpa using this.symm
    by_cases hx : x = z
    · subst hx
      refine .inr ⟨0, v, by simp [alGet], ?_, by simp, by simp [h1], fun u => ⟨by simp [hlen], by simp [alPut]⟩⟩
      simp [Instr.findNow, Instr.sameNow, h1, h2]
    · have hx' : (z == x) = false := by simp [Ne.symm hx]
      have hstep : Instr.findNow (.int kd) (.int kd z) (e :: ents) i = Instr.findNow (.int kd) (.int kd z) ents (i + 1) := by
        simp [Instr.findNow, Instr.sameNow, h1, hx']
      rw [hstep]
      rcases findNow_al kd z ents es (i + 1) h3 with ⟨a, b⟩ | ⟨j, u, a, b, c, d, e⟩
      · exact .inl ⟨by simp [alGet, hx, a], b⟩
      · refine .inr ⟨j + 1, u, by simp [alGet, hx, a], by rw [b]; congr 3; omega, by simp [c], by simpa using d, fun w => ⟨by simp [hlen], ?_⟩⟩
        simp [alPut, hx, (e w).2]

theorem mp_obj {h : Hl} {b : Nat} {kd : IntKind} {es : List (Int × Value)} (hm : mp kd b es h) {w : World} (i : h.inn w) : ∃ ents clock, w.heap[b]? = some (.map ents clock) ∧ ents.toList.map (fun e => (e.key, e.val)) = es.map (fun p => (Value.int kd p.1, p.2)) := by
  obtain ⟨ents, clock, rfl, he⟩ := hm
  exact ⟨ents, clock, i b _ (by simp [Hl.one]), he⟩
theorem run_getObj {w : World} {b : Nat} {ents : Array MapEntry} {clock : Nat} (h : w.heap[b]? = some (.map ents clock)) : (getObj b).run P w = .ok (.map ents clock) w := by
  simp [getObj, Sem.run, h]
theorem run_checkKey {key : TypeId} {kd : IntKind} (hk : P.underlying key = some (.int kd)) (e : Bool) (z : Int) (w : World) : (Instr.checkKey e 10000 key (.int kd z)).run P w = .ok () w := by
  have : ∀ m, (Instr.checkKey e (m + 1) key (.int kd z)).run P w = .ok () w := fun m => by
    unfold Instr.checkKey
    simp [Sem.run_bind, run_underlying hk]
  exact this 9999
theorem run_findKey {key : TypeId} {kd : IntKind} (hk : P.underlying key = some (.int kd)) {z : Int} {es : List MapEntry} {r : Option (Nat × Value)} (h : Instr.findNow (.int kd) (.int kd z) es 0 = some r) (w : World) : (Instr.findKey key (.int kd z) es).run P w = .ok r w := by
  simp [Instr.findKey, Sem.run_bind, run_underlying hk, h]

def lookV (o : Option Value) (z : Value) (ok : Bool) : Value := match ok with
  | true => .tuple [o.getD z, .bool o.isSome].toArray
  | false => o.getD z
theorem pe_lookup {od : Option Tmp} {t : TypeId} {x y : Operand} {b : Nat} {kd : IntKind} {z : Int} {es : List (Int × Value)} {zv : Value} {ok : Bool} {v : Value} (hx : evT tm x = some (.map (some b))) (hy : evT tm y = some (.int kd z)) (ht : mapInfo P t = some (kd, zv)) (hm : Tk L (mp kd b es) R) (hq : lookV (alGet es z) zv ok = v) : PE P K L ⟨od, .lookup t x y ok, T, pos, af, gd⟩ (tget tm) v := fun ρ w ha hr => by
  subst hq
  have h1 := ha x (by simp [Op.operands]) _ hx
  have h2 := ha y (by simp [Op.operands]) _ hy
  obtain ⟨key, elem, i, hu, hk, hi, hz⟩ := mapInfo_spec ht
  obtain ⟨q, hq, hin⟩ := hr.tk hm
  obtain ⟨ents, clock, ho, he⟩ := mp_obj hq hin
  unfold execOp
  simp only [h1, h2]
  rcases findNow_al kd z ents.toList es 0 he with ⟨e1, e2⟩ | ⟨j, v', e1, e2, _⟩
  · simp only [Instr.lookup, Sem.run_bind, run_underlying hu, Result.andThen_ok, run_getObj ho, Sem.run_pure, run_checkKey hk, run_findKey hk e2, zeroValue, typeInfo, e1, lookV]
    cases ok <;> simp [hi, hz]
  · simp only [Instr.lookup, Sem.run_bind, run_underlying hu, Result.andThen_ok, run_getObj ho, Sem.run_pure, run_checkKey hk, run_findKey hk e2, e1, lookV]
    cases ok <;> simp
theorem pe_lookupK {od : Option Tmp} {t : TypeId} {x y : Operand} {b : Nat} {kd : IntKind} {z : Int} {es : List (Int × Value)} {zv : Value} {ok : Bool} {v : Value} (hx : evT tm x = some (.map (some b))) (hy : evT tm y = some (.int kd z)) (ht : mapInfo P t = some (kd, zv)) (hm : Kn K (fun w => ∃ h, mp kd b es h ∧ h.inn w)) (hq : lookV (alGet es z) zv ok = v) : PE P K L ⟨od, .lookup t x y ok, T, pos, af, gd⟩ (tget tm) v := fun ρ w ha hr => by
  subst hq
  have h1 := ha x (by simp [Op.operands]) _ hx
  have h2 := ha y (by simp [Op.operands]) _ hy
  obtain ⟨key, elem, i, hu, hk, hi, hz⟩ := mapInfo_spec ht
  obtain ⟨q, hq, hin⟩ := hm w hr.1
  obtain ⟨ents, clock, ho, he⟩ := mp_obj hq hin
  unfold execOp
  simp only [h1, h2]
  rcases findNow_al kd z ents.toList es 0 he with ⟨e1, e2⟩ | ⟨j, v', e1, e2, _⟩
  · simp only [Instr.lookup, Sem.run_bind, run_underlying hu, Result.andThen_ok, run_getObj ho, Sem.run_pure, run_checkKey hk, run_findKey hk e2, zeroValue, typeInfo, e1, lookV]
    cases ok <;> simp [hi, hz]
  · simp only [Instr.lookup, Sem.run_bind, run_underlying hu, Result.andThen_ok, run_getObj ho, Sem.run_pure, run_checkKey hk, run_findKey hk e2, e1, lookV]
    cases ok <;> simp
theorem Rdw.mp {kd : IntKind} {b : Nat} {es : List (Int × Value)} {w : World} (h : Rdw K L w) (t : Tk L (mp kd b es) R) : ∃ q, Pm.mp kd b es q ∧ q.inn w := h.tk t

theorem ae_mapSet {od : Option Tmp} {t : TypeId} {x y u : Operand} {b : Nat} {kd : IntKind} {z : Int} {es : List (Int × Value)} {zv v : Value} (hx : evT tm x = some (.map (some b))) (hy : evT tm y = some (.int kd z)) (hv : evT tm u = some v) (ht : mapInfo P t = some (kd, zv)) :
    AE P n K R [mp kd b es] ⟨od, .mapUpdate t x y u, T, pos, af, gd⟩ (tget tm) (one undef [mp kd b (alPut es z v)]) := fun W K' w a next hK hf hO hn => by
  obtain ⟨key, elem, i, hu, hk, hi, hz⟩ := mapInfo_spec ht
  obtain ⟨q, hq, hin⟩ := hO.part
  obtain ⟨ents, clock, ho, he⟩ := mp_obj hq hin
  have key2 : ∀ ents' clock', ents'.toList.map (fun e => (e.key, e.val)) = (alPut es z v).map (fun p => (Value.int kd p.1, p.2)) → Ow W K' (mp kd b (alPut es z v) :: R) { w with heap := w.heap.setIfInBounds b (.map ents' clock') } := fun ents' clock' he' => by
    refine Ow.change hO rfl ((Tp.refl _).same rfl rfl) rfl (by simp) (fun h hh ih => ?_)
    obtain ⟨en, cl, rfl, _⟩ := hh
    have hlt : b < w.heap.size := (Array.getElem?_eq_some_iff.1 ho).1
    refine ⟨⟨Hl.one b (.map ents' clock'), ⟨ents', clock', rfl, he'⟩, fun c o e => ?_, fun c hc => ?_⟩, fun c hl hc => ?_⟩
    · unfold Hl.one at e
      split at e
      · rename_i hcb; subst hcb; cases e
        simp [Array.getElem?_setIfInBounds, hlt]
      · cases e
    · left
      unfold Hl.one at hc ⊢
      split at hc <;> simp_all
    · have hcb : b ≠ c := fun e => by subst e; simp [Hl.one] at hc
      simp [Array.getElem?_setIfInBounds, hcb]
  refine wp_done (w' := { w with heap := w.heap.setIfInBounds b (.map (match Instr.findNow (.int kd) (.int kd z) ents.toList 0 with | some (some (j, _)) => ents.modify j fun e => { e with key := .int kd z, val := v } | _ => ents.push { key := .int kd z, val := v, born := clock }) (match Instr.findNow (.int kd) (.int kd z) ents.toList 0 with | some (some _) => clock | _ => clock + 1)) }) ?_ (hn undef _ _ ⟨rfl, rfl⟩ (key2 _ _ ?_))
  · unfold execOp
    simp only [hf.eval hx, hf.eval hy, hf.eval hv]
    rcases findNow_al kd z ents.toList es 0 he with ⟨e1, e2⟩ | ⟨j, u', e1, e2, e3, e4, _⟩
    · simp only [Instr.mapUpdate, Sem.run_bind, run_underlying hu, Result.andThen_ok, run_getObj ho, run_checkKey hk, run_findKey hk e2, e2]
      simp [setObj, Sem.run, ho]
    · have hold : ((ents[0 + j]?).map (·.key)).getD (.int kd z) = .int kd z := by
        rw [Nat.zero_add]
        have : (ents[j]?).map (·.key) = some (.int kd z) := by simpa using e4
        rw [this]; rfl
      have hsame : (Instr.keyThatStays (.int kd z) (.int kd z)).run P w = .ok (.int kd z) w := by
        have : ∀ m, Instr.sameBits m (.int kd z) (.int kd z) = true := fun m => by cases m <;> simp [Instr.sameBits]
        simp [Instr.keyThatStays, this]
      simp only [Instr.mapUpdate, Sem.run_bind, run_underlying hu, Result.andThen_ok, run_getObj ho, run_checkKey hk, run_findKey hk e2, e2, hold, hsame]
      simp [setObj, Sem.run, ho]
  · rcases findNow_al kd z ents.toList es 0 he with ⟨e1, e2⟩ | ⟨j, u', e1, e2, e3, e4, e5⟩
    · rw [e2]
      have : ∀ (l : List (Int × Value)), alGet l z = none → alPut l z v = l ++ [(z, v)] := by
        intro l
        induction l with
        | nil => intro _; rfl
        | cons p l ih =>
          intro h
          obtain ⟨x, u⟩ := p
          simp only [alGet] at h
          split at h
          · cases h
          · rename_i hx; simp [alPut, hx, ih h]
      rw [this es e1]
      simp [he]
    · rw [e2]
      dsimp only
      rw [Nat.zero_add, (e5 v).2]
      apply List.ext_getElem?
      intro q
      have hq2 := congrArg (·[q]?) he
      simp only [List.getElem?_map] at hq2
      simp only [List.getElem?_map, Array.getElem?_toList, Array.getElem?_modify, List.getElem?_set]
      by_cases hjq : j = q
      · subst hjq
        have hl2 := (e5 v).1
        have e6 : j < es.length := by rw [hl2]; exact e3
        simp only [if_pos rfl, if_pos e6]
        have : j < ents.size := by simpa using e3
        simp [Array.getElem?_eq_getElem this]
      · rw [if_neg hjq, if_neg hjq]
        simpa using hq2

theorem al_mapNew {od : Option Tmp} {t : TypeId} : AL P ⟨od, .makeMap t none, T, pos, af, gd⟩ (tget tm) (.map #[] 0) (fun b => .map (some b)) := fun ρ w ha => by
  unfold execOp
  simp [Instr.makeMap, Sem.run_bind, newObj, Sem.run]
theorem JL_mm {t : TypeId} {kd : IntKind} {zv : Value} (ht : mapInfo P t = some (kd, zv)) (hn : Nat.blt d n = true) (hg : wantF ops ⟨some d, .makeMap t none, T, pos, af, gd⟩ (tget tm) = some true) (h : ∀ b, JL P n W K F ops k rest ((d, .map (some b)) :: tm) (mp kd b [] :: L)) : JL P n W K F ops k (⟨some d, .makeMap t none, T, pos, af, gd⟩ :: rest) tm L :=
  JL_m rfl hn hg al_mapNew fun b => JL_heap (fun w H => H.imp fun q hq => ⟨#[], 0, hq, rfl⟩) (h b)
theorem JD_mapSet {t : TypeId} {x y u : Operand} {b : Nat} {kd : IntKind} {z : Int} {es : List (Int × Value)} {zv v : Value} (hx : evT tm x = some (.map (some b))) (hy : evT tm y = some (.int kd z)) (hv : evT tm u = some v) (ht : mapInfo P t = some (kd, zv)) (hm : Tk M (mp kd b es) R) (hg : wantF ops ⟨none, .mapUpdate t x y u, T, pos, af, gd⟩ (tget tm) = some true)
    (h : JD P n W K F ops k nx rest tm S (mp kd b (alPut es z v) :: R)) : JD P n W K F ops k nx (⟨none, .mapUpdate t x y u, T, pos, af, gd⟩ :: rest) tm S M :=
  JD_a0 rfl hg rfl (.cons hm .nil) (ae_mapSet hx hy hv ht) (by rintro _ _ ⟨rfl, rfl⟩; exact h)
end

/-! What some memory of the call's own is enough to know. -/
def has (φ : World → Prop) : HP := fun h => ∀ w, h.inn w → φ w
def noK : Hl := fun _ => none
theorem has_of {M : List HP} {φ : World → Prop} (h : ∀ w, Rdw noK M w → φ w) : ∀ k, sats M k → has φ k := by
  intro k s w i
  refine h w ⟨?_, k, s, ?_, i⟩
  · intro b o e
    exact nomatch e
  · intro b
    exact .inr rfl
theorem Rdw.has {K : Hl} {L R : List HP} {φ : World → Prop} {w : World} (h : Rdw K L w) (t : Tk L (Pm.has φ) R) : φ w := by
  obtain ⟨k, hk, i⟩ := h.tk t
  exact hk w i
theorem Ow.has {W : World} {K : Hl} {L R M : List HP} {w : World} {φ : World → Prop} (H : Ow W K L w) (t : Sb L M R) (h : ∀ w, Rdw noK M w → φ w) : Ow W K (Pm.has φ :: R) w := H.shut t (has_of h)
theorem Ow.hasTrue {W : World} {K : Hl} {L : List HP} {w : World} {φ : World → Prop} (H : Ow W K L w) (h : ∀ w, φ w) : Ow W K (Pm.has φ :: L) w := (Ow.satsNil H).imp fun _ _ w _ => h w

/-! Append onto an empty literal. -/
section
variable {P : Program} {n : Nat} {W : World} {K : Hl} {F : Fp} {k : List It} {tm : TM} {L L' R S M M' : List HP} {T : TypeId} {pos : String} {af : Array Edge} {gd : Option (Nat × Bool)} {ops : Array Oper} {rest nx : List Oper} {d : Tmp}
variable {α : Type} {enc : α → List Value} {t e : TypeId} {sz bytes m b : Nat} {s x : Operand} {v y : Value} {fs : List α}
theorem JL_appL (enc : α → List Value) {fs : List α} (hi : elemInfo P t = some (e, sz, bytes)) (hs : evT tm s = some (.slice (some ⟨b, 0, none⟩) 0 0)) (hx : evT tm x = some y) (hm : Tk L (pts b [] e) R) (hv : Src K R y sz m (flat enc fs)) (hok : elOk P t e sz bytes = true) (hl : ∀ x, (enc x).length = sz) (h1 : ∀ u ∈ flat enc fs, u.oneCell' = true) (hsz : m * bytes ≤ 140737488355328)
    (hn : Nat.blt d n = true) (hg : wantF ops ⟨some d, .call ⟨.builtin .append, #[s, x], #[t, t]⟩, T, pos, af, gd⟩ (tget tm) = some true) (h : ∀ ad c, m ≤ c → c ≤ maxLen → JL P n W K F ops k rest ((d, .slice ad m c) :: tm) (Ar e sz enc (.slice ad m c) fs :: R)) : JL P n W K F ops k (⟨some d, .call ⟨.builtin .append, #[s, x], #[t, t]⟩, T, pos, af, gd⟩ :: rest) tm L :=
  JL_a rfl hn hg (.cons hm .nil) (fun W' K' w a next hK hf hO hn => ae_app (es := []) (.ofOk hok) hs hx hv hl h1 (by simpa using hsz) W' K' w a next hK hf (Ow.arLit0 hO .here) hn) (by
    rintro _ _ ⟨ad, c, h2, h3, rfl, rfl⟩
    simp only [List.length_nil, Nat.zero_add, List.nil_append] at h2 ⊢
    exact h ad c h2 h3)
theorem JD_appL (enc : α → List Value) {fs : List α} (hi : elemInfo P t = some (e, sz, bytes)) (hs : evT tm s = some (.slice (some ⟨b, 0, none⟩) 0 0)) (hx : evT tm x = some y) (hm : Tk M (pts b [] e) R) (hv : Src K (R ++ S) y sz m (flat enc fs)) (hok : elOk P t e sz bytes = true) (hl : ∀ x, (enc x).length = sz) (h1 : ∀ u ∈ flat enc fs, u.oneCell' = true) (hsz : m * bytes ≤ 140737488355328)
    (hg : wantF ops ⟨some d, .call ⟨.builtin .append, #[s, x], #[t, t]⟩, T, pos, af, gd⟩ (tget tm) = some true) (h : ∀ ad c, m ≤ c → c ≤ maxLen → JD P n W K F ops k nx rest ((d, .slice ad m c) :: tm) S (Ar e sz enc (.slice ad m c) fs :: R)) : JD P n W K F ops k nx (⟨some d, .call ⟨.builtin .append, #[s, x], #[t, t]⟩, T, pos, af, gd⟩ :: rest) tm S M :=
  JD_a rfl hg rfl (.cons hm .nil) (fun W' K' w a next hK hf hO hn => ae_app (es := []) (.ofOk hok) hs hx hv hl h1 (by simpa using hsz) W' K' w a next hK hf (Ow.arLit0 hO .here) hn) (by
    rintro _ _ ⟨ad, c, h2, h3, rfl, rfl⟩
    simp only [List.length_nil, Nat.zero_add, List.nil_append] at h2 ⊢
    exact h ad c h2 h3)
end
end Go.Pm
namespace Go.Pm
set_option linter.unusedSimpArgs false
set_option linter.unusedVariables false
open Go.RowKit
variable {α : Type} {enc : α → List Value} {K : Hl} {L : List HP} {a : Option Addr} {c n sz : Nat} {es : List α}
theorem flat_drop (hl : ∀ x, (enc x).length = sz) (es : List α) (j : Nat) (hj : j ≤ es.length) : (flat enc es).drop (j * sz) = flat enc (es.drop j) := by
  have h : flat enc es = flat enc (es.take j) ++ flat enc (es.drop j) := by rw [← flat_append, List.take_append_drop]
  have h2 : (flat enc (es.take j)).length = j * sz := by rw [flat_length hl, List.length_take, Nat.min_eq_left hj]
  rw [h, ← h2, List.drop_left]
theorem Vw_drop {w : World} (h : Vw w (.slice a n c) sz n (flat enc es)) (hl : ∀ x, (enc x).length = sz) (hn : es.length = n) (k m : Nat) (hk : k ≤ n) (hm : m = n - k) : Vw w (.slice (slA a c k sz) m (c - k)) sz m (flat enc (es.drop k)) := by
  subst hm
  obtain ⟨a', cap, he, h1, h2, h3, h4, h5⟩ := h
  cases he
  have hlen : (es.drop k).length = n - k := by rw [List.length_drop, hn]
  unfold slA
  by_cases hck : c = k
  · rw [if_pos hck]
    refine ⟨a, c - k, rfl, by rw [flat_length hl, hlen], by omega, by omega, fun h => ⟨by have := (h4 h).1; omega, by omega⟩, fun hne => ?_⟩
    have hnil : es.drop k = [] := List.eq_nil_of_length_eq_zero (by omega)
    rw [hnil] at hne
    exact absurd rfl hne
  · rw [if_neg hck]
    refine ⟨_, c - k, rfl, by rw [flat_length hl, hlen], by omega, by omega, fun h => ?_, fun hne => ?_⟩
    · cases a with
      | none => have := h4 rfl; omega
      | some x => cases h
    · have hd := flat_drop hl es k (by omega)
      have hne' : flat enc es ≠ [] := by
        intro h
        rw [h] at hd
        exact hne (by rw [← hd]; simp)
      obtain ⟨b, off, hb, hc⟩ := h5 hne'
      subst hb
      refine ⟨b, off + k * sz, by rw [Option.map_some, addr_add_plain], fun j u hj => ?_⟩
      rw [← hd, List.getElem?_drop] at hj
      have := hc _ _ hj
      rwa [Nat.add_assoc]
theorem Vw_take' {w : World} (h : Vw w (.slice a n c) sz n (flat enc es)) (hl : ∀ x, (enc x).length = sz) (hn : es.length = n) (j : Nat) (hj : j ≤ n) : Vw w (.slice a j c) sz j (flat enc (es.take j)) := by
  obtain ⟨a', cap, he, h1, h2, h3, h4, h5⟩ := h
  cases he
  have hlen : (es.take j).length = j := by rw [List.length_take]; omega
  have hpre : flat enc es = flat enc (es.take j) ++ flat enc (es.drop j) := by rw [← flat_append, List.take_append_drop]
  refine ⟨a, c, rfl, by rw [flat_length hl, hlen], by omega, h3, fun h => ⟨by have := (h4 h).1; omega, (h4 h).2⟩, fun hne => ?_⟩
  have hne' : flat enc es ≠ [] := by
    intro h
    rw [hpre] at h
    exact hne (List.append_eq_nil_iff.1 h).1
  obtain ⟨b, off, hb, hc⟩ := h5 hne'
  refine ⟨b, off, hb, fun k u hk => hc k u ?_⟩
  rw [hpre, List.getElem?_append_left (List.getElem?_eq_some_iff.1 hk).1]
  exact hk
theorem Src.drop (h : Src K L (.slice a n c) sz n (flat enc es)) (hl : ∀ x, (enc x).length = sz) (hn : es.length = n) (k m : Nat) (hk : k ≤ n) (hm : m = n - k) : Src K L (.slice (slA a c k sz) m (c - k)) sz m (flat enc (es.drop k)) := fun w hr => Vw_drop (h w hr) hl hn k m hk hm
theorem Src.take (h : Src K L (.slice a n c) sz n (flat enc es)) (hl : ∀ x, (enc x).length = sz) (hn : es.length = n) (j : Nat) (hj : j ≤ n) : Src K L (.slice a j c) sz j (flat enc (es.take j)) := fun w hr => Vw_take' (h w hr) hl hn j hj
end Go.Pm
namespace Go.Pm
set_option linter.unusedSimpArgs false
set_option linter.unusedVariables false
open Go.RowKit

def yldV (l : Nat) : Value := .func (.yield l) #[] #[]
def Yld (P : Program) (K0 : Hl) (l : Nat) (args : Array Value) (C : List HP) (Φ : Value → List HP → Prop) : Prop :=
  ∀ W K w, K0.le K → Ow W K C w → ∃ fn tmps assign body, (Instr.yield l args).run P w = .ok (.round l fn tmps assign body) w ∧ RoundIn Fence.wide 0 P l fn tmps assign body w (retR W K Φ)

section
variable {P : Program} {n : Nat} {W : World} {K : Hl} {F : Fp} {k : List It} {tm : TM} {L L' R S M C : List HP} {T : TypeId} {pos : String} {af : Array Edge} {gd : Option (Nat × Bool)} {ops : Array Oper} {rest nx : List Oper} {d : Tmp}

theorem ae_yield {od : Option Tmp} {c : Operand} {xs : Array Operand} {ts : Array TypeId} {l : Nat} {us : List Value} {Φ : Value → List HP → Prop} {K0 : Hl} (Y : Yld P K0 l us.toArray C Φ) (hK0 : K0.le K) (hc : evT tm c = some (yldV l)) (ha : xs.toList.mapM (evT tm) = some us) :
    AE P n K R C ⟨od, .call ⟨.value c, xs, ts⟩, T, pos, af, gd⟩ (tget tm) Φ := fun W K' w a next hK hf hO hn => by
  have e1 : xs.map a.eval = us.toArray := Array.ext' (by rw [Array.toList_map]; exact mapM_eval hf ha)
  obtain ⟨hR, sR, dR, H1, back⟩ := hO.frame
  obtain ⟨fn, tmps, assign, body, hy, hr⟩ := Y W (K'.add hR) w (hK0.trans (hK.trans (Hl.le_add _ _))) H1
  have hev : a.eval c = .func (.yield l) #[] #[] := hf.eval hc
  have hx : (execOp a.eval ⟨od, .call ⟨.value c, xs, ts⟩, T, pos, af, gd⟩).run P w = .ok (.round l fn tmps assign body) w := by
    unfold execOp
    simp only [resolve, e1, hev, Deferred.ofValue, Sem.run_bind, Sem.run_pure, Result.andThen_ok, invoke]
    simpa using hy
  refine ⟨fun _ _ => trivial, ?_⟩
  show Oper.uponIn Fence.wide 0 P _ a next _ ((execOp a.eval ⟨od, .call ⟨.value c, xs, ts⟩, T, pos, af, gd⟩).run P w)
  rw [hx]
  refine ⟨fun h => by simp [Fence.wide] at h, RoundIn.mono hr ?_⟩
  rintro e w' ⟨v, L', h1, rfl, h2⟩
  exact hn v L' w' h1 (back L' w' h2)
theorem JL_y {c : Operand} {xs : Array Operand} {ts : Array TypeId} {l : Nat} {us : List Value} {Φ : Value → List HP → Prop} {K0 : Hl} (Y : Yld P K0 l us.toArray C Φ) (hK0 : K0.le K) (hc : evT tm c = some (yldV l)) (ha : xs.toList.mapM (evT tm) = some us) (hs : Sb L C R) (hn : Nat.blt d n = true) (hg : wantF ops ⟨some d, .call ⟨.value c, xs, ts⟩, T, pos, af, gd⟩ (tget tm) = some true)
    (h : ∀ v L', Φ v L' → JL P n W K F ops k rest ((d, v) :: tm) (L' ++ R)) : JL P n W K F ops k (⟨some d, .call ⟨.value c, xs, ts⟩, T, pos, af, gd⟩ :: rest) tm L := JL_a rfl hn hg hs (ae_yield Y hK0 hc ha) h
theorem JD_y {c : Operand} {xs : Array Operand} {ts : Array TypeId} {l : Nat} {us : List Value} {Φ : Value → List HP → Prop} {K0 : Hl} (Y : Yld P K0 l us.toArray C Φ) (hK0 : K0.le K) (hc : evT tm c = some (yldV l)) (ha : xs.toList.mapM (evT tm) = some us) (hs : Sb M C R) (hg : wantF ops ⟨some d, .call ⟨.value c, xs, ts⟩, T, pos, af, gd⟩ (tget tm) = some true)
    (h : ∀ v L', Φ v L' → JD P n W K F ops k nx rest ((d, v) :: tm) S (L' ++ R)) : JD P n W K F ops k nx (⟨some d, .call ⟨.value c, xs, ts⟩, T, pos, af, gd⟩ :: rest) tm S M := JD_a rfl hg rfl hs (ae_yield Y hK0 hc ha) h

def Iter {α : Type} (P : Program) (f : FuncId) (args : Nat → List Value) (φ : World → Prop) (enc : α → List Value) (N : Nat) (S Sp : List α → Prop) : Prop :=
  ∀ (K0 : Hl) (l : Nat) (Y Yx : List α → HP), (∀ pre x, pre.length < N → Yld P K0 l (enc x).toArray [Y pre] (fun v L' => (v = .bool true ∧ L' = [Y (pre ++ [x])]) ∨ (v = .bool false ∧ L' = [Yx (pre ++ [x])]))) →
    ∀ W K w, K0.le K → Kn K φ → Ow W K [Y []] w → Calls P f (args l).toArray w (retR W K (fun _ L' => (∃ xs, S xs ∧ L' = [Y xs]) ∨ ∃ pre, Sp pre ∧ L' = [Yx pre]))
def IterQ {α : Type} (P : Program) (f : FuncId) (args : Nat → List Value) (φ : World → Prop) (enc : α → List Value) (G : List α → α → Prop) (S Sp : List α → Prop) (Q : (List α → HP) → Prop) : Prop :=
  ∀ (K0 : Hl) (l : Nat) (Y Yx : List α → HP), Q Y → (∀ pre x, G pre x → Yld P K0 l (enc x).toArray [Y pre] (fun v L' => (v = .bool true ∧ L' = [Y (pre ++ [x])]) ∨ (v = .bool false ∧ L' = [Yx (pre ++ [x])]))) →
    ∀ W K w, K0.le K → Kn K φ → Ow W K [Y []] w → Calls P f (args l).toArray w (retR W K (fun _ L' => (∃ xs, S xs ∧ L' = [Y xs]) ∨ ∃ pre, Sp pre ∧ L' = [Yx pre]))
theorem Iter.q {α : Type} {f : FuncId} {args : Nat → List Value} {φ : World → Prop} {enc : α → List Value} {N : Nat} {S Sp : List α → Prop} (It : Iter P f args φ enc N S Sp) : IterQ P f args φ enc (fun pre _ => pre.length < N) S Sp (fun _ => True) := fun K0 l Y Yx _ => It K0 l Y Yx
theorem iterQ {α : Type} {f : FuncId} {fn : Func} {c : Code} {args : Nat → List Value} {φ : World → Prop} {enc : α → List Value} {G : List α → α → Prop} {St Sp : List α → Prop} {Q : (List α → HP) → Prop} (hf : P.funcs[f]? = some fn) (hb : fn.body = some c) {nt : Nat} (hn : fn.ntmps = nt) (ha : ∀ l, (Nat.ble (args l).length nt && Nat.ble nt 1000000) = true)
    (h : ∀ (K0 : Hl) (l : Nat) (Y Yx : List α → HP), Q Y → (∀ pre x, G pre x → Yld P K0 l (enc x).toArray [Y pre] (fun v L' => (v = .bool true ∧ L' = [Y (pre ++ [x])]) ∨ (v = .bool false ∧ L' = [Yx (pre ++ [x])]))) →
      ∀ W K, K0.le K → Kn K φ → J P nt W K (fpost P fn W K (fun _ L' => (∃ xs, St xs ∧ L' = [Y xs]) ∨ ∃ pre, Sp pre ∧ L' = [Yx pre])) [.code c] (argTM 0 (args l)) [Y []]) : IterQ P f args φ enc G St Sp Q := fun K0 l Y Yx hQ hY W K w hK hφ H =>
  J_start hf hb hn (by have := ha l; simp at this ⊢; omega) (by have := ha l; simp at this; show nt ≤ 1000000; omega) H (fun t v e => by have := argTM_get (args l) 0 t v e; simpa using this.2) (h K0 l Y Yx hQ hY W K hK hφ)
theorem iter {α : Type} {f : FuncId} {fn : Func} {c : Code} {args : Nat → List Value} {φ : World → Prop} {enc : α → List Value} {N : Nat} {St Sp : List α → Prop} (hf : P.funcs[f]? = some fn) (hb : fn.body = some c) {nt : Nat} (hn : fn.ntmps = nt) (ha : ∀ l, (Nat.ble (args l).length nt && Nat.ble nt 1000000) = true)
    (h : ∀ (K0 : Hl) (l : Nat) (Y Yx : List α → HP), (∀ pre x, pre.length < N → Yld P K0 l (enc x).toArray [Y pre] (fun v L' => (v = .bool true ∧ L' = [Y (pre ++ [x])]) ∨ (v = .bool false ∧ L' = [Yx (pre ++ [x])]))) →
      ∀ W K, K0.le K → Kn K φ → J P nt W K (fpost P fn W K (fun _ L' => (∃ xs, St xs ∧ L' = [Y xs]) ∨ ∃ pre, Sp pre ∧ L' = [Yx pre])) [.code c] (argTM 0 (args l)) [Y []]) : Iter P f args φ enc N St Sp := fun K0 l Y Yx hY W K w hK hφ H =>
  J_start hf hb hn (by have := ha l; simp at this ⊢; omega) (by have := ha l; simp at this; show nt ≤ 1000000; omega) H (fun t v e => by have := argTM_get (args l) 0 t v e; simpa using this.2) (h K0 l Y Yx hY W K hK hφ)

/-! A round. -/
def rndPost {α : Type} (W : World) (K : Hl) (I : List α → List HP) (Ix : Code → List α → List HP) (pre : List α) : Exit → Act → World → Prop
  | .normal, _, w => Ow W K (I pre) w
  | .ret, _, w => Ow W K (Ix .ret pre) w
  | .exit id, _, w => Ow W K (Ix (.exit id) pre) w
  | .goto t, _, w => Ow W K (Ix (.goto t) pre) w
  | _, _, _ => False
def noP : Exit → Act → World → Prop := fun _ _ _ => False
def RB {α : Type} (P : Program) (n : Nat) (W : World) (K3 K : Hl) (l : Nat) (I : List α → List HP) (Ix : Code → List α → List HP) (pre : List α) (body : Code) : Act → World → Prop := fun a w =>
  ∃ tm1 L1, Fit n (tget tm1) a ∧ Ow W K3 L1 w ∧ ∀ K4, K.le K4 → Kn K4 (fun w => ∃ r, w.heap[l]? = some (.loop r)) → J P n W K4 ⟨some l, rndPost W K4 I Ix pre⟩ [.code body] tm1 L1
theorem J_body {α : Type} {K0 : Hl} {l : Nat} {I : List α → List HP} {Ix : Code → List α → List HP} {pre : List α} {body : Code} (h : ∀ K4, K0.le K4 → Kn K4 (fun w => ∃ r, w.heap[l]? = some (.loop r)) → J P n W K4 ⟨some l, rndPost W K4 I Ix pre⟩ [.code body] tm L) : J P n W K F (.hole (RB P n W K K0 l I Ix pre body) :: k) tm L := .mk <|
  fun _ w hf hO => ⟨tm, L, hf, hO, h⟩
theorem J_rnd {α : Type} {l : Nat} {I : List α → List HP} {Ix : Code → List α → List HP} {pre : List α} (h : ∀ w, Ow W K L w → Ow W K (I pre) w) : J P n W K ⟨some l, rndPost W K I Ix pre⟩ [] tm L := .mk <| fun _ w _ hO => h w hO
theorem J_rndRet {α : Type} {l : Nat} {I : List α → List HP} {Ix : Code → List α → List HP} {pre : List α} (h : ∀ w, Ow W K L w → Ow W K (Ix .ret pre) w) : J P n W K ⟨some l, rndPost W K I Ix pre⟩ (.code .ret :: k) tm L := .mk <| fun _ w _ hO => wpIn_ret (runK_ret (h w hO))
theorem runK_popN {id : Nat} : ∀ {k : List It}, popK id k = none → ∀ a w, F.post (.exit id) a w → runK P F k (.exit id) a w
  | [], _, _, _, h => h
  | .blk i :: k, h, a, w, h2 => by
    simp only [popK] at h
    by_cases hi : id = i
    · subst hi; simp at h
    · have : Nat.beq id i = false := by rw [Bool.eq_false_iff]; intro hb; exact hi (Nat.eq_of_beq_eq_true hb)
      rw [this] at h
      simp only [runK, Exit.inBlock, if_neg hi]
      exact runK_popN h a w h2
  | .code _ :: k, h, a, w, h2 => by simpa only [runK, Exit.then] using runK_popN (k := k) h a w h2
  | .hole _ :: k, h, a, w, h2 => by simpa only [runK, Exit.then] using runK_popN (k := k) h a w h2
  | .jmp _ _ :: k, h, a, w, h2 => by simpa only [runK, Exit.jump] using runK_popN (k := k) h a w h2
theorem J_rndExit {α : Type} {l id : Nat} {I : List α → List HP} {Ix : Code → List α → List HP} {pre : List α} (hp : popK id k = none) (h : ∀ w, Ow W K L w → Ow W K (Ix (.exit id) pre) w) : J P n W K ⟨some l, rndPost W K I Ix pre⟩ (.code (.exit id) :: k) tm L := .mk <| fun a w _ hO => wpIn_exit (runK_popN hp a w (h w hO))

def parTM : List Tmp → List Value → TM → TM
  | p :: ps, v :: vs, tm => parTM ps vs ((p, v) :: tm)
  | _, _, tm => tm
theorem Fit.par {ds : List Deferred} : ∀ (ps : List Tmp) (vs : List Value) (tm : TM) (tmps : Array Value), ps.all (Nat.blt · n) = true → (tmps.size = n ∧ n ≤ mkK ∧ ∀ t v, t ≠ mkK → tget tm t = some v → tmps[t]? = some v) →
    let t' := (ps.zip vs).foldl (fun t (p, v) => t.setIfInBounds p v) tmps
    t'.size = n ∧ n ≤ mkK ∧ ∀ t v, t ≠ mkK → tget (parTM ps vs tm) t = some v → t'[t]? = some v
  | [], _, tm, tmps, _, h => by simpa [parTM] using h
  | p :: ps, [], tm, tmps, _, h => by simpa [parTM] using h
  | p :: ps, v :: vs, tm, tmps, hp, h => by
    simp only [List.all_cons, Bool.and_eq_true] at hp
    have hpl : p < n := by simpa using hp.1
    simp only [List.zip_cons_cons, List.foldl_cons, parTM]
    refine Fit.par (ds := ds) ps vs ((p, v) :: tm) _ hp.2 ⟨by simpa using h.1, h.2.1, fun t u ht hu => ?_⟩
    simp only [Array.getElem?_setIfInBounds]
    by_cases e : p = t
    · subst e
      simp [tget] at hu
      rw [if_pos rfl, if_pos (by rw [h.1]; exact hpl), hu]
    · rw [if_neg e]
      have : Nat.beq p t = false := by rw [Bool.eq_false_iff]; intro hb; exact e (Nat.eq_of_beq_eq_true hb)
      simp only [tget, this] at hu
      exact h.2.2 t u ht hu

theorem ob_in {D : Nat} {o : Obj} {w : World} (H : Ow W K (ob D o :: L) w) : w.heap[D]? = some o := by
  obtain ⟨h, hA, i⟩ := H.part
  obtain rfl : h = Hl.one D o := hA
  exact i D _ (by simp [Hl.one])
theorem kn_ob {hR : Hl} {D : Nat} {o : Obj} {M : List HP} (s : sats M hR) (t : Tk M (ob D o) R) (hd : hR.disj K) : Kn (K.add hR) (fun w => w.heap[D]? = some o) := fun w i => by
  obtain ⟨h1, h2, hA, _, d', rfl⟩ := sats_perm t.perm _ s
  obtain rfl : h1 = Hl.one D o := hA
  exact ((Hl.inn_add d').1 ((Hl.inn_add hd.symm).1 i).2).1 D _ (by simp [Hl.one])

theorem J_rangeQ {α : Type} {enc : α → List Value} {g : Operand} {ps : List Tmp} {assign body : Code} {gf : FuncId} {first lb : List Value} {φ : World → Prop} {G : List α → α → Prop} {St Sp : List α → Prop} {Q : (List α → HP) → Prop} {Ds : List Nat}
    (It : IterQ P gf (fun l => first ++ yldV l :: lb) φ enc G St Sp Q) (hro : F.ro = none) (hm : decM (tget tm mkK) = Ds) (hg : evT tm g = some (.func (.func gf) first.toArray lb.toArray)) (ho : ownB P gf = true) (hps : ps.all (Nat.blt · n) = true) (hes : ∀ x, (enc x).length = ps.length)
    (I : List α → List HP) (Ix : Code → List α → List HP) (hQ : ∀ A B : HP, Q (fun pre => sats (A :: B :: I pre))) (hs : Sb L (I []) R) (hφ : ∀ w, Rdw K R w → φ w)
    (hround : ∀ (W : World) (K3 : Hl) (l : Nat) (pre : List α) (x : α), K.le K3 → G pre x → J P n W K3 ⟨some l, noP⟩ [.code assign, .hole (RB P n W K3 K l I Ix (pre ++ [x]) body)] (parTM ps (enc x) ((mkK, encM []) :: tm)) (I pre))
    (hdone : ∀ D xs, St xs → J P n W K F k ((mkK, encM (D :: Ds)) :: tm) (dfr D :: (I xs ++ R)))
    (hstop : ∀ D c pre, Sp pre → J P n W K F (.code c :: k) ((mkK, encM (D :: Ds)) :: tm) (dfr D :: (Ix c pre ++ R))) :
    J P n W K F (.code (.rangeFunc g ps.toArray assign body) :: k) tm L := .mk <| fun a w hf hO => by
  refine wpIn_rangeFunc fun fn _ => ?_
  rw [show (wideR F.ro).round = none from hro]
  obtain ⟨rec, hrec⟩ : ∃ rec : LoopState → Option Code → Loop, rec = fun st pe => { state := st, pending := pe, fn, tmps := a.tmps, params := ps.toArray, assign, body, defers := w.heap.size } := ⟨_, rfl⟩
  obtain ⟨D, hD⟩ : ∃ D, D = w.heap.size := ⟨_, rfl⟩
  obtain ⟨l, hl⟩ : ∃ l, l = w.heap.size + 1 := ⟨_, rfl⟩
  have H1 : Ow W K (ob l (.loop (rec .ready none)) :: dfr D :: (I [] ++ R)) ((w.alloc (.deferred (some []))).alloc (.loop (rec .ready none))) := by
    have h1 := (hO.sb hs).alloc (.deferred (some []))
    have h2 := h1.alloc (.loop (rec .ready none))
    rw [World.size_alloc, ← hl, ← hD] at h2
    exact h2
  obtain ⟨W1, hW1⟩ : ∃ W1, (w.alloc (.deferred (some []))).alloc (.loop (rec .ready none)) = W1 := ⟨_, rfl⟩
  rw [hW1] at H1
  refine ⟨l, [mark D], W1, { target := .fn (.func gf) lb.toArray, args := first.toArray ++ #[yldV l] }, W1, gf, first.toArray ++ #[yldV l] ++ lb.toArray, W1, ?_, ?_, fun _ _ => trivial, ?_, fun h => by simp [Fence.wide] at h, ?_⟩
  · rw [← hW1, hrec, hl, hD]; exact run_enterLoop_outer _ _ _ _ _
  · simp only [resolve, hf.eval hg, Deferred.ofValue]
    simp [Act.eval, yldV]
  · simp only [invoke]
    exact run_own ho _ _
  -- the iterator
  let Y : List α → HP := fun pre => sats (dfr D :: ob l (.loop (rec .ready none)) :: I pre)
  let Yx : List α → HP := fun pre h => ∃ c, sats (dfr D :: ob l (.loop (rec .done (some c))) :: Ix c pre) h
  have hY : ∀ pre x, G pre x → Yld P K l (enc x).toArray [Y pre] (fun v L' => (v = .bool true ∧ L' = [Y (pre ++ [x])]) ∨ (v = .bool false ∧ L' = [Yx (pre ++ [x])])) := by
    intro pre x hlen W2 K2 w2 hKK H2
    have H3 : Ow W2 K2 (dfr D :: ob l (.loop (rec .ready none)) :: I pre) w2 := by simpa using H2.flat (As := dfr D :: ob l (.loop (rec .ready none)) :: I pre) .here
    have H4 : Ow W2 K2 (I pre ++ [ob l (.loop (rec .ready none)), dfr D]) w2 := H3.perm (by
      refine (List.Perm.swap _ _ _).trans ?_
      exact (List.perm_append_comm (l₁ := [ob l (.loop (rec .ready none)), dfr D]) (l₂ := I pre)))
    have hl2 : w2.heap[l]? = some (.loop (rec .ready none)) := ob_in (H3.perm (List.Perm.swap _ _ _))
    have hy := run_yield (P := P) (args := (enc x).toArray) hl2 (by rw [hrec]; simpa using hes x)
    refine ⟨_, _, _, _, hy, ?_⟩
    obtain ⟨hR, sR, dR, H5, back⟩ := H4.frame
    have hfit := Fit.par (n := n) (ds := []) ps (enc x) ((mkK, encM []) :: tm) a.tmps hps ⟨hf.sz, hf.lt, fun t v ht hv => hf.v t v ht (by
      have : Nat.beq mkK t = false := by rw [Bool.eq_false_iff]; intro hb; exact ht (Nat.eq_of_beq_eq_true hb).symm
      simpa [tget, this] using hv)⟩
    have hmk : tget (parTM ps (enc x) ((mkK, encM []) :: tm)) mkK = some (encM []) := by
      have key : ∀ (ps : List Tmp) (vs : List Value) (tm : TM), ps.all (Nat.blt · n) = true → tget (parTM ps vs tm) mkK = tget tm mkK := by
        intro ps
        induction ps with
        | nil => intro vs tm _; rfl
        | cons p ps ih =>
          intro vs tm hp
          simp only [List.all_cons, Bool.and_eq_true] at hp
          cases vs with
          | nil => rfl
          | cons v vs =>
            rw [parTM, ih vs _ hp.2]
            have hpl : p < n := by simpa using hp.1
            have : Nat.beq p mkK = false := by rw [Bool.eq_false_iff]; intro hb; have := Nat.eq_of_beq_eq_true hb; have := hf.lt; subst_vars; exact absurd hpl (Nat.not_lt.2 this)
            simp [tget, this]
      rw [key _ _ _ hps]
      rfl
    have hJ := (hround W2 (K2.add hR) l pre x (Hl.le.trans hKK (Hl.le_add _ _)) hlen).h _ w2 (⟨by rw [hmk, dec_enc]; rfl, hfit.1, hfit.2.1, hfit.2.2⟩ : Fit n _ { tmps := (ps.zip (enc x)).foldl (fun t (p, v) => t.setIfInBounds p v) a.tmps, defers := [] }) H5
    have htm : ((rec .ready none).params.zip (enc x).toArray).foldl (fun tmps (t, a) => tmps.setIfInBounds t a) (rec .ready none).tmps = (ps.zip (enc x)).foldl (fun t (p, v) => t.setIfInBounds p v) a.tmps := by
      rw [hrec]
      simp
    have e1 : (rec .ready none).assign = assign := by rw [hrec]
    have e2 : (rec .ready none).body = body := by rw [hrec]
    rw [htm, e1, e2]
    refine roundIn_of_wpIn (F := Fence.wide) trivial (wpIn_mono (F := wideR (some l)) hJ ?_)
    rintro e a1 w1 he
    cases e with
    | normal =>
      obtain ⟨tm1, L1, hf1, H6, hbody⟩ := he
      have H7 : Ow W2 K2 (ob l (.loop (rec .ready none)) :: (dfr D :: L1)) w1 := (back L1 w1 H6).perm (by
        exact (List.perm_append_comm (l₁ := L1) (l₂ := [ob l (.loop (rec .ready none)), dfr D])))
      have hbr := run_beginRound (P := P) (ob_in H7) (by rw [hrec])
      have H8 := H7.putOb (.loop { rec .ready none with state := .busy })
      have H9 : Ow W2 K2 (L1 ++ [ob l (.loop { rec .ready none with state := .busy }), dfr D]) _ := H8.perm (List.perm_append_comm (l₁ := [ob l (.loop { rec .ready none with state := .busy }), dfr D]) (l₂ := L1))
      obtain ⟨hR2, sR2, dR2, H10, back2⟩ := H9.frame
      refine ⟨_, hbr, wpIn_mono (F := wideR (some l)) ((hbody (K2.add hR2) (Hl.le.trans hKK (Hl.le_add _ _)) ((kn_ob sR2 .here dR2).imp fun w h => ⟨_, h⟩)).h a1 _ hf1 H10) ?_⟩
      have fin : ∀ (jump : Option Code) (M : List HP) (w3 : World), Ow W2 (K2.add hR2) M w3 → ∃ v w4, (Instr.endRound l jump).run P w3 = .ok v w4 ∧ v = .bool jump.isNone ∧ Ow W2 K2 (dfr D :: ob l (.loop (rec (if jump.isNone then .ready else .done) jump)) :: M) w4 := fun jump M w3 H11 => by
        have H12 : Ow W2 K2 (ob l (.loop { rec .ready none with state := .busy }) :: (dfr D :: M)) w3 := (back2 M w3 H11).perm (List.perm_append_comm (l₁ := M) (l₂ := [ob l (.loop { rec .ready none with state := .busy }), dfr D]))
        have her := run_endRound (P := P) jump (ob_in H12)
        refine ⟨_, _, her, rfl, ?_⟩
        have H13 := H12.putOb (.loop (rec (if jump.isNone then .ready else .done) jump))
        have e3 : ({ rec .ready none with state := .busy } : Loop) = rec .busy none := by rw [hrec]
        have e4 : (Obj.loop { ({ rec .ready none with state := .busy } : Loop) with state := if jump.isNone then .ready else .done, pending := jump }) = .loop (rec (if jump.isNone then .ready else .done) jump) := by rw [hrec]
        rw [e4]
        exact H13.perm (List.Perm.swap _ _ _)
      rintro e3 a3 w3 hp
      cases e3 with
      | normal =>
        obtain ⟨v, w4, h1, h2, h3⟩ := fin none _ w3 hp
        exact ⟨v, w4, h1, v, _, .inl ⟨h2, rfl⟩, rfl, (h3.shut (M := dfr D :: ob l (.loop (rec .ready none)) :: I (pre ++ [x])) (R := []) (A := Y (pre ++ [x])) (by simpa using Sb.all (dfr D :: ob l (.loop (rec .ready none)) :: I (pre ++ [x])) []) (fun k hk => hk))⟩
      | ret =>
        obtain ⟨v, w4, h1, h2, h3⟩ := fin (some .ret) _ w3 hp
        exact ⟨v, w4, h1, v, _, .inr ⟨h2, rfl⟩, rfl, (h3.shut (M := dfr D :: ob l (.loop (rec .done (some .ret))) :: Ix .ret (pre ++ [x])) (R := []) (A := Yx (pre ++ [x])) (by simpa using Sb.all (dfr D :: ob l (.loop (rec .done (some .ret))) :: Ix .ret (pre ++ [x])) []) (fun k hk => ⟨_, hk⟩))⟩
      | exit id =>
        obtain ⟨v, w4, h1, h2, h3⟩ := fin (some (.exit id)) _ w3 hp
        exact ⟨v, w4, h1, v, _, .inr ⟨h2, rfl⟩, rfl, (h3.shut (M := dfr D :: ob l (.loop (rec .done (some (.exit id)))) :: Ix (.exit id) (pre ++ [x])) (R := []) (A := Yx (pre ++ [x])) (by simpa using Sb.all (dfr D :: ob l (.loop (rec .done (some (.exit id)))) :: Ix (.exit id) (pre ++ [x])) []) (fun k hk => ⟨_, hk⟩))⟩
      | goto t =>
        obtain ⟨v, w4, h1, h2, h3⟩ := fin (some (.goto t)) _ w3 hp
        exact ⟨v, w4, h1, v, _, .inr ⟨h2, rfl⟩, rfl, (h3.shut (M := dfr D :: ob l (.loop (rec .done (some (.goto t)))) :: Ix (.goto t) (pre ++ [x])) (R := []) (A := Yx (pre ++ [x])) (by simpa using Sb.all (dfr D :: ob l (.loop (rec .done (some (.goto t)))) :: Ix (.goto t) (pre ++ [x])) []) (fun k hk => ⟨_, hk⟩))⟩
      | panic c => exact hp.elim
      | outgrown => exact hp.elim
    | exit id => exact he.elim
    | goto t => exact he.elim
    | ret => exact he.elim
    | panic c => exact he.elim
    | outgrown => exact he.elim
  have H2 : Ow W K ([Y []] ++ R) W1 := by
    have H3 : Ow W K ((dfr D :: ob l (.loop (rec .ready none)) :: I []) ++ R) W1 := H1.perm (List.Perm.swap _ _ _)
    exact H3.shut (M := dfr D :: ob l (.loop (rec .ready none)) :: I []) (R := R) (A := Y []) (Sb.all _ _) (fun k hk => hk)
  obtain ⟨hR, sR, dR, H3, back⟩ := H2.frame
  have hcall := It K l Y Yx (hQ _ _) hY W (K.add hR) W1 (Hl.le_add _ _) (fun w i => hφ w ⟨((Hl.inn_add dR.symm).1 i).1, hR, sR, dR, ((Hl.inn_add dR.symm).1 i).2⟩) H3
  have hcall2 : CallsIn (wideR F.ro) (0 - 1) P gf (first ++ yldV l :: lb).toArray W1 _ := callsIn_wide.2 hcall
  have eargs : first.toArray ++ #[yldV l] ++ lb.toArray = (first ++ yldV l :: lb).toArray := by simp
  rw [eargs]
  refine hcall2.mono ?_
  rintro e w3 ⟨v, L', hL', rfl, H4⟩
  have hfitD : Fit n (tget ((mkK, encM (D :: Ds)) :: tm)) { a with defers := [mark D] ++ a.defers } := ⟨by
    show [mark D] ++ a.defers = (decM (some (encM (D :: Ds)))).map mark
    rw [dec_enc, hf.d, hm]
    rfl, hf.sz, hf.lt, fun t v ht hv => hf.v t v ht (by
      have : Nat.beq mkK t = false := by rw [Bool.eq_false_iff]; intro hb; exact ht (Nat.eq_of_beq_eq_true hb).symm
      simpa [tget, this] using hv)⟩
  have fin : ∀ (st : LoopState) (pe : Option Code) (M : List HP), st ≠ .busy → Ow W K (dfr D :: ob l (.loop (rec st pe)) :: (M ++ R)) w3 → ∃ w4, (Instr.endLoop l).run P w3 = .ok pe w4 ∧ Ow W K (dfr D :: (M ++ R)) w4 := fun st pe M hb H5 => by
    have H6 := H5.perm (List.Perm.swap _ _ _)
    have hel := run_endLoop (P := P) (ob_in H6) (by rw [hrec]; exact hb)
    have e3 : (rec st pe).pending = pe := by rw [hrec]
    rw [e3] at hel
    exact ⟨_, hel, (H6.putOb _).drop⟩
  rcases hL' with ⟨xs, hx, rfl⟩ | ⟨pre, hx, rfl⟩
  · have H5 : Ow W K ((dfr D :: ob l (.loop (rec .ready none)) :: I xs) ++ R) w3 := (back [Y xs] w3 H4).flat (As := dfr D :: ob l (.loop (rec .ready none)) :: I xs) .here
    obtain ⟨w4, h1, h2⟩ := fin .ready none (I xs) (by simp) H5
    exact ⟨none, w4, h1, (hdone D xs hx).h _ w4 hfitD h2⟩
  · obtain ⟨c, H5⟩ := (back [Yx pre] w3 H4).open (A := Yx pre) .here (Bs := fun c => dfr D :: ob l (.loop (rec .done (some c))) :: Ix c pre) (fun _ h => h)
    obtain ⟨w4, h1, h2⟩ := fin .done (some c) (Ix c pre) (by simp) H5
    exact ⟨some c, w4, h1, (hstop D c pre hx).h _ w4 hfitD h2⟩
theorem J_range {α : Type} {enc : α → List Value} {g : Operand} {ps : List Tmp} {assign body : Code} {gf : FuncId} {first lb : List Value} {φ : World → Prop} {N : Nat} {St Sp : List α → Prop} {Ds : List Nat}
    (It : Iter P gf (fun l => first ++ yldV l :: lb) φ enc N St Sp) (hro : F.ro = none) (hm : decM (tget tm mkK) = Ds) (hg : evT tm g = some (.func (.func gf) first.toArray lb.toArray)) (ho : ownB P gf = true) (hps : ps.all (Nat.blt · n) = true) (hes : ∀ x, (enc x).length = ps.length)
    (I : List α → List HP) (Ix : Code → List α → List HP) (hs : Sb L (I []) R) (hφ : ∀ w, Rdw K R w → φ w)
    (hround : ∀ (W : World) (K3 : Hl) (l : Nat) (pre : List α) (x : α), K.le K3 → pre.length < N → J P n W K3 ⟨some l, noP⟩ [.code assign, .hole (RB P n W K3 K l I Ix (pre ++ [x]) body)] (parTM ps (enc x) ((mkK, encM []) :: tm)) (I pre))
    (hdone : ∀ D xs, St xs → J P n W K F k ((mkK, encM (D :: Ds)) :: tm) (dfr D :: (I xs ++ R)))
    (hstop : ∀ D c pre, Sp pre → J P n W K F (.code c :: k) ((mkK, encM (D :: Ds)) :: tm) (dfr D :: (Ix c pre ++ R))) :
    J P n W K F (.code (.rangeFunc g ps.toArray assign body) :: k) tm L :=
  J_rangeQ (G := fun pre _ => pre.length < N) (Q := fun _ => True) It.q hro hm hg ho hps hes I Ix (fun _ _ => trivial) hs hφ hround hdone hstop
end
end Go.Pm
