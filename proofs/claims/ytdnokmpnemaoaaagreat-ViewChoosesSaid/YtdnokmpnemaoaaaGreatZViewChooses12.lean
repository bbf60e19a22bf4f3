/-
  Ju, Jp, Aq1, Aq2: merged.
-/
import Derived.Test.YtdnokmpnemaoaaaGreatZViewChooses11
import Derived.Lib.AppendZeros
namespace Go.Pm
set_option linter.unusedSimpArgs false
set_option linter.unusedVariables false
open Go.RowKit

theorem beqBA (a b : ByteArray) : (a == b) = decide (a = b) := by
  show ByteArray.beq a b = _
  cases a with | mk x => cases b with | mk y =>
    rw [Bool.eq_iff_iff]
    simp [ByteArray.beq]
section
variable {κ : Type} [DecidableEq κ]
def KeyOk (P : Program) (key : TypeId) (kv : κ → Value) : Prop := ∃ kd, P.underlying key = some kd ∧ (∀ a b : κ, Instr.sameNow kd (kv a) (kv b) = some (decide (a = b))) ∧ (∀ e (a : κ) w, (Instr.checkKey e 10000 key (kv a)).run P w = .ok () w) ∧ ∀ a : κ, Instr.sameBits 10000 (kv a) (kv a) = true
def MI (P : Program) (t : TypeId) (kv : κ → Value) (zv : Value) : Prop := ∃ key elem i, P.underlying t = some (.map key elem) ∧ KeyOk P key kv ∧ P.info? elem = some i ∧ i.zero = some zv
structure Born (ents : List MapEntry) (clock : Nat) : Prop where
  lt : ∀ e ∈ ents, e.born < clock
  ne : ents.Pairwise (fun a b => a.born ≠ b.born)
def mq (kv : κ → Value) (b : Nat) (es : List (κ × Value)) : HP := fun h => ∃ ents clock, h = Hl.one b (.map ents clock) ∧ ents.toList.map (fun e => (e.key, e.val)) = es.map (fun p => (kv p.1, p.2)) ∧ Born ents.toList clock
def aG : List (κ × Value) → κ → Option Value
  | [], _ => none
  | (x, v) :: r, z => if x = z then some v else aG r z
def aP : List (κ × Value) → κ → Value → List (κ × Value)
  | [], z, v => [(z, v)]
  | (x, u) :: r, z, v => if x = z then (x, v) :: r else (x, u) :: aP r z v
def aD : List (κ × Value) → κ → List (κ × Value)
  | [], _ => []
  | (x, u) :: r, z => if x = z then r else (x, u) :: aD r z
end
theorem keyOkS {P : Program} {key : TypeId} (h : P.underlying key = some .string) : KeyOk P key Value.string := by
  refine ⟨_, h, fun a b => ?_, fun e a w => ?_, fun a => ?_⟩
  · simp only [Instr.sameNow, beqBA]
  · have : ∀ m, (Instr.checkKey e (m + 1) key (.string a)).run P w = .ok () w := fun m => by
      unfold Instr.checkKey
      simp [Sem.run_bind, run_underlying h]
    exact this 9999
  · have : ∀ m, Instr.sameBits m (.string a) (.string a) = true := fun m => by cases m <;> simp [Instr.sameBits, beqBA]
    exact this _
theorem keyOkI {P : Program} {key : TypeId} {k : IntKind} (h : P.underlying key = some (.int k)) : KeyOk P key (Value.int k) := by
  refine ⟨_, h, fun a b => ?_, fun e a w => run_checkKey h e a w, fun a => ?_⟩
  · simp only [Instr.sameNow, if_pos]
    congr 1
  · have : ∀ m, Instr.sameBits m (.int k a) (.int k a) = true := fun m => by cases m <;> simp [Instr.sameBits]
    exact this _
section
variable {κ : Type} [DecidableEq κ] {kv : κ → Value}
variable {P : Program} {n : Nat} {W : World} {K : Hl} {F : Fp} {k : List It} {tm : TM} {L L' R S M M' : List HP} {T : TypeId} {pos : String} {af : Array Edge} {gd : Option (Nat × Bool)} {ops : Array Oper} {rest nx : List Oper} {d : Tmp}
theorem findNow_aG {kd : TypeDesc} (hs : ∀ a b : κ, Instr.sameNow kd (kv a) (kv b) = some (decide (a = b))) (z : κ) : ∀ (ents : List MapEntry) (es : List (κ × Value)) (i : Nat), ents.map (fun e => (e.key, e.val)) = es.map (fun p => (kv p.1, p.2)) →
    (aG es z = none ∧ Instr.findNow kd (kv z) ents i = some none ∧ aD es z = es) ∨ (∃ j v, aG es z = some v ∧ Instr.findNow kd (kv z) ents i = some (some (i + j, v)) ∧ j < ents.length ∧ (ents[j]?).map (·.key) = some (kv z) ∧ es.length = ents.length ∧ (∀ u, aP es z u = es.set j (z, u)) ∧ aD es z = es.eraseIdx j)
  | [], [], i, _ => .inl ⟨rfl, rfl, rfl⟩
  | [], p :: _, _, h => by simp at h
  | e :: ents, [], _, h => by simp at h
  | e :: ents, (x, v) :: es, i, h => by
    simp only [List.map_cons, List.cons.injEq, Prod.mk.injEq] at h
    obtain ⟨⟨h1, h2⟩, h3⟩ := h
    have hlen : es.length = ents.length := by have := congrArg List.length h3; simpa using this.symm
    by_cases hx : x = z
    · subst hx
      refine .inr ⟨0, v, by simp [aG], ?_, by simp, by simp [h1], by simp [hlen], fun u => by simp [aP], by simp [aD]⟩
      simp [Instr.findNow, h1, h2, hs]
    · have hstep : Instr.findNow kd (kv z) (e :: ents) i = Instr.findNow kd (kv z) ents (i + 1) := by
        simp [Instr.findNow, h1, hs, Ne.symm hx]
      rw [hstep]
      rcases findNow_aG hs z ents es (i + 1) h3 with ⟨a, b, c⟩ | ⟨j, u, a, b, c, d, e, f, g⟩
      · exact .inl ⟨by simp [aG, hx, a], b, by simp [aD, hx, c]⟩
      · refine .inr ⟨j + 1, u, by simp [aG, hx, a], by rw [b]; congr 3; omega, by simp [c], by simpa using d, by simp [hlen], fun w => ?_, ?_⟩
        · simp [aP, hx, f w]
        · simp [aD, hx, g]
omit [DecidableEq κ] in
theorem mq_obj {h : Hl} {b : Nat} {es : List (κ × Value)} (hm : mq kv b es h) {w : World} (i : h.inn w) : ∃ ents clock, w.heap[b]? = some (.map ents clock) ∧ ents.toList.map (fun e => (e.key, e.val)) = es.map (fun p => (kv p.1, p.2)) ∧ Born ents.toList clock := by
  obtain ⟨ents, clock, rfl, he, hb⟩ := hm
  exact ⟨ents, clock, i b _ (by simp [Hl.one]), he, hb⟩
omit [DecidableEq κ] in
theorem run_findKeyG {key : TypeId} {kd : TypeDesc} (hk : P.underlying key = some kd) {z : κ} {es : List MapEntry} {r : Option (Nat × Value)} (h : Instr.findNow kd (kv z) es 0 = some r) (w : World) : (Instr.findKey key (kv z) es).run P w = .ok r w := by
  simp [Instr.findKey, Sem.run_bind, run_underlying hk, h]
theorem pe_lookG {od : Option Tmp} {t : TypeId} {x y : Operand} {b : Nat} {z : κ} {es : List (κ × Value)} {zv : Value} {ok : Bool} {v : Value} (ht : MI P t kv zv) (hx : evT tm x = some (.map (some b))) (hy : evT tm y = some (kv z)) (hm : Tk L (mq kv b es) R) (hq : lookV (aG es z) zv ok = v) : PE P K L ⟨od, .lookup t x y ok, T, pos, af, gd⟩ (tget tm) v := fun ρ w ha hr => by
  subst hq
  have h1 := ha x (by simp [Op.operands]) _ hx
  have h2 := ha y (by simp [Op.operands]) _ hy
  obtain ⟨key, elem, i, hu, ⟨kd, hk, hs, hck, _⟩, hi, hz⟩ := ht
  obtain ⟨q, hq, hin⟩ := hr.tk hm
  obtain ⟨ents, clock, ho, he, hbo⟩ := mq_obj hq hin
  unfold execOp
  simp only [h1, h2]
  rcases findNow_aG hs z ents.toList es 0 he with ⟨e1, e2, _⟩ | ⟨j, v', e1, e2, _⟩
  · simp only [Instr.lookup, Sem.run_bind, run_underlying hu, Result.andThen_ok, run_getObj ho, Sem.run_pure, hck, run_findKeyG hk e2, zeroValue, typeInfo, e1, lookV]
    cases ok <;> simp [hi, hz]
  · simp only [Instr.lookup, Sem.run_bind, run_underlying hu, Result.andThen_ok, run_getObj ho, Sem.run_pure, hck, run_findKeyG hk e2, e1, lookV]
    cases ok <;> simp
theorem pe_lenG {od : Option Tmp} {t : TypeId} {x : Operand} {b N : Nat} {es : List (κ × Value)} {zv : Value} (ht : MI P t kv zv) (hx : evT tm x = some (.map (some b))) (hm : Tk L (mq kv b es) R) (hN : es.length = N) : PE P K L ⟨od, .call ⟨.builtin .len, #[x], #[t]⟩, T, pos, af, gd⟩ (tget tm) (.int .i64 N) := pe_call (vs := [.map (some b)]) (by simp [hx]) fun w hr cs => by
  subst hN
  obtain ⟨key, elem, i, hu, _⟩ := ht
  obtain ⟨q, hq, hin⟩ := hr.tk hm
  obtain ⟨ents, clock, ho, he, hbo⟩ := mq_obj hq hin
  have hl : ents.size = es.length := by have := congrArg List.length he; simpa using this
  simp [builtin, Builtin.len_, Sem.run_bind, run_underlying hu, run_getObj ho, hl]
  rfl
omit [DecidableEq κ] in
theorem mq_change {W : World} {K' : Hl} {w : World} {b : Nat} {es es' : List (κ × Value)} {ents ents' : Array MapEntry} {clock clock' : Nat} (hO : Ow W K' (mq kv b es :: R) w) (ho : w.heap[b]? = some (.map ents clock)) (he' : ents'.toList.map (fun e => (e.key, e.val)) = es'.map (fun p => (kv p.1, p.2))) (hb' : Born ents'.toList clock') : Ow W K' (mq kv b es' :: R) { w with heap := w.heap.setIfInBounds b (.map ents' clock') } := by
  refine Ow.change hO rfl ((Tp.refl _).same rfl rfl) rfl (by simp) (fun h hh ih => ?_)
  obtain ⟨en, cl, rfl, _, _⟩ := hh
  have hlt : b < w.heap.size := (Array.getElem?_eq_some_iff.1 ho).1
  refine ⟨⟨Hl.one b (.map ents' clock'), ⟨ents', clock', rfl, he', hb'⟩, fun c o e => ?_, fun c hc => ?_⟩, fun c hl hc => ?_⟩
  · unfold Hl.one at e
    split at e
    · rename_i hcb; subst hcb; cases e
      simp [Array.getElem?_setIfInBounds, hlt]
    · cases e
  · left
    unfold Hl.one at hc ⊢
    split at hc <;> simp_all
  · have hcb : b ≠ c := fun e => by subst e; simp [Hl.one] at hc
    simp [Array.getElem?_setIfInBounds, hcb]
theorem born_set {ents : Array MapEntry} {clock : Nat} (hb : Born ents.toList clock) {o : Option (Option (Nat × Value))} {z v : Value} : Born (match o with | some (some (j, _)) => ents.modify j fun e => { e with key := z, val := v } | _ => ents.push { key := z, val := v, born := clock }).toList (match o with | some (some _) => clock | _ => clock + 1) := by
  have push : Born (ents.push { key := z, val := v, born := clock }).toList (clock + 1) := by
    refine ⟨fun e he => ?_, ?_⟩
    · rw [Array.toList_push] at he
      rcases List.mem_append.1 he with he | he
      · have := hb.lt e he; omega
      · obtain rfl := List.mem_singleton.1 he; exact Nat.lt_succ_self _
    · rw [Array.toList_push]
      refine List.pairwise_append.2 ⟨hb.ne, List.pairwise_singleton _ _, fun a ha b hb' => ?_⟩
      obtain rfl := List.mem_singleton.1 hb'
      have := hb.lt a ha
      dsimp only
      omega
  match o with
  | none => exact push
  | some none => exact push
  | some (some (j, _)) =>
    have hm : (ents.modify j fun e => { e with key := z, val := v }).toList.map (·.born) = ents.toList.map (·.born) := by
      apply List.ext_getElem?
      intro q
      simp only [List.getElem?_map, Array.getElem?_toList, Array.getElem?_modify]
      split
      · cases ents[q]? <;> rfl
      · rfl
    dsimp only
    refine ⟨fun e he => ?_, ?_⟩
    · have h1 : e.born ∈ (ents.modify j fun e => { e with key := z, val := v }).toList.map (·.born) := List.mem_map.2 ⟨e, he, rfl⟩
      rw [hm] at h1
      obtain ⟨e', he', h2⟩ := List.mem_map.1 h1
      rw [← h2]; exact hb.lt e' he'
    · have h1 : (ents.toList.map (·.born)).Pairwise (· ≠ ·) := List.pairwise_map.2 hb.ne
      rw [← hm] at h1
      exact List.pairwise_map.1 h1
theorem born_del {ents : Array MapEntry} {clock : Nat} (hb : Born ents.toList clock) {o : Option (Option (Nat × Value))} : Born (match o with | some (some (j, _)) => ents.eraseIdxIfInBounds j | _ => ents).toList clock := by
  match o with
  | none => exact hb
  | some none => exact hb
  | some (some (j, _)) =>
    dsimp only
    have hs : ((ents.eraseIdxIfInBounds j).toList).Sublist ents.toList := by
      unfold Array.eraseIdxIfInBounds
      split
      · simp only [Array.toList_eraseIdx]
        exact List.eraseIdx_sublist ..
      · exact List.Sublist.refl _
    exact ⟨fun e he => hb.lt e (hs.subset he), hb.ne.sublist hs⟩
theorem ae_setG {od : Option Tmp} {t : TypeId} {x y u : Operand} {b : Nat} {z : κ} {es : List (κ × Value)} {zv v : Value} (ht : MI P t kv zv) (hx : evT tm x = some (.map (some b))) (hy : evT tm y = some (kv z)) (hv : evT tm u = some v) :
    AE P n K R [mq kv b es] ⟨od, .mapUpdate t x y u, T, pos, af, gd⟩ (tget tm) (one undef [mq kv b (aP es z v)]) := fun W K' w a next hK hf hO hn => by
  obtain ⟨key, elem, i, hu, ⟨kd, hk, hs, hck, hsb⟩, hi, hz⟩ := ht
  obtain ⟨q, hq, hin⟩ := hO.part
  obtain ⟨ents, clock, ho, he, hbo⟩ := mq_obj hq hin
  refine wp_done (w' := { w with heap := w.heap.setIfInBounds b (.map (match Instr.findNow kd (kv z) ents.toList 0 with | some (some (j, _)) => ents.modify j fun e => { e with key := kv z, val := v } | _ => ents.push { key := kv z, val := v, born := clock }) (match Instr.findNow kd (kv z) ents.toList 0 with | some (some _) => clock | _ => clock + 1)) }) ?_ (hn undef _ _ ⟨rfl, rfl⟩ (mq_change hO ho ?_ ?_))
  · unfold execOp
    simp only [hf.eval hx, hf.eval hy, hf.eval hv]
    rcases findNow_aG hs z ents.toList es 0 he with ⟨e1, e2, _⟩ | ⟨j, u', e1, e2, e3, e4, _⟩
    · simp only [Instr.mapUpdate, Sem.run_bind, run_underlying hu, Result.andThen_ok, run_getObj ho, hck, run_findKeyG hk e2, e2]
      simp [setObj, Sem.run, ho]
    · have hold : ((ents[0 + j]?).map (·.key)).getD (kv z) = kv z := by
        rw [Nat.zero_add]
        have : (ents[j]?).map (·.key) = some (kv z) := by simpa using e4
        rw [this]; rfl
      have hsame : (Instr.keyThatStays (kv z) (kv z)).run P w = .ok (kv z) w := by
        simp [Instr.keyThatStays, hsb]
      simp only [Instr.mapUpdate, Sem.run_bind, run_underlying hu, Result.andThen_ok, run_getObj ho, hck, run_findKeyG hk e2, e2, hold, hsame]
      simp [setObj, Sem.run, ho]
  · rcases findNow_aG hs z ents.toList es 0 he with ⟨e1, e2, _⟩ | ⟨j, u', e1, e2, e3, e4, e6, e5, _⟩
    · rw [e2]
      have : ∀ (l : List (κ × Value)), aG l z = none → aP l z v = l ++ [(z, v)] := by
        intro l
        induction l with
        | nil => intro _; rfl
        | cons p l ih =>
          intro h
          obtain ⟨x, u⟩ := p
          simp only [aG] at h
          split at h
          · cases h
          · rename_i hx; simp [aP, hx, ih h]
      rw [this es e1]
      simp [he]
    · rw [e2]
      dsimp only
      rw [Nat.zero_add, e5 v]
      apply List.ext_getElem?
      intro q
      have hq2 := congrArg (·[q]?) he
      simp only [List.getElem?_map] at hq2
      simp only [List.getElem?_map, Array.getElem?_toList, Array.getElem?_modify, List.getElem?_set]
      by_cases hjq : j = q
      · subst hjq
        have e6 : j < es.length := by rw [e6]; exact e3
        simp only [if_pos rfl, if_pos e6]
        have : j < ents.size := by simpa using e3
        simp [Array.getElem?_eq_getElem this]
      · rw [if_neg hjq, if_neg hjq]
        simpa using hq2
  · exact born_set hbo
theorem ae_delG {od : Option Tmp} {t : TypeId} {x y : Operand} {ts : Array TypeId} {b : Nat} {z : κ} {es : List (κ × Value)} {zv : Value} (ht : MI P t kv zv) (h0 : ts[0]? = some t) (hx : evT tm x = some (.map (some b))) (hy : evT tm y = some (kv z)) :
    AE P n K R [mq kv b es] ⟨od, .call ⟨.builtin .delete, #[x, y], ts⟩, T, pos, af, gd⟩ (tget tm) (one (.tuple #[]) [mq kv b (aD es z)]) := fun W K' w a next hK hf hO hn => by
  obtain ⟨key, elem, i, hu, ⟨kd, hk, hs, hck, hsb⟩, hi, hz⟩ := ht
  obtain ⟨q, hq, hin⟩ := hO.part
  obtain ⟨ents, clock, ho, he, hbo⟩ := mq_obj hq hin
  have hr : (Builtin.delete_ ts T #[.map (some b), kv z]).run P w = .ok (.tuple #[]) { w with heap := w.heap.setIfInBounds b (.map (match Instr.findNow kd (kv z) ents.toList 0 with | some (some (j, _)) => ents.eraseIdxIfInBounds j | _ => ents) clock) } := by
    rcases findNow_aG hs z ents.toList es 0 he with ⟨e1, e2, _⟩ | ⟨j, u', e1, e2, e3, e4, _⟩
    · simp [Builtin.delete_, h0, Sem.run_bind, run_underlying hu, run_getObj ho, hck, run_findKeyG hk e2, e2, setObj, Sem.run, ho]
    · simp [Builtin.delete_, h0, Sem.run_bind, run_underlying hu, run_getObj ho, hck, run_findKeyG hk e2, e2, setObj, Sem.run, ho]
  refine wpI_of_wp ?_
  unfold Oper.wp execOp
  simp only [resolve, invoke, builtin, Sem.run_bind, Sem.run_pure, Result.andThen_ok, List.map_toArray, List.map_cons, List.map_nil, hf.eval hx, hf.eval hy, hr]
  refine hn (.tuple #[]) _ _ ⟨rfl, rfl⟩ (mq_change hO ho ?_ (born_del hbo))
  rcases findNow_aG hs z ents.toList es 0 he with ⟨e1, e2, e3⟩ | ⟨j, u', e1, e2, e3, e4, e6, e5, e7⟩
  · rw [e2, e3]
    exact he
  · rw [e2, e7]
    dsimp only
    rw [Nat.zero_add]
    have h8 : (ents.eraseIdxIfInBounds j).toList = ents.toList.eraseIdx j := by
      unfold Array.eraseIdxIfInBounds
      rw [dif_pos (by simpa using e3)]
      simp
    have h9 : ∀ {α β : Type} (f : α → β) (l : List α) (j : Nat), (l.eraseIdx j).map f = (l.map f).eraseIdx j := by
      intro α β f l
      induction l with
      | nil => intro j; simp
      | cons x l ih => intro j; cases j <;> simp [ih]
    rw [h8, h9, h9, he]
omit [DecidableEq κ] in
theorem JL_mmG {t : TypeId} (kv : κ → Value) (hn : Nat.blt d n = true) (hg : wantF ops ⟨some d, .makeMap t none, T, pos, af, gd⟩ (tget tm) = some true) (h : ∀ b, JL P n W K F ops k rest ((d, .map (some b)) :: tm) (mq kv b [] :: L)) : JL P n W K F ops k (⟨some d, .makeMap t none, T, pos, af, gd⟩ :: rest) tm L :=
  JL_m rfl hn hg al_mapNew fun b => JL_heap (fun w H => H.imp fun q hq => ⟨#[], 0, hq, rfl, by simp, by simp⟩) (h b)
theorem JD_setG {t : TypeId} {x y u : Operand} {b : Nat} {z : κ} {es : List (κ × Value)} {zv v : Value} (ht : MI P t kv zv) (hx : evT tm x = some (.map (some b))) (hy : evT tm y = some (kv z)) (hv : evT tm u = some v) (hm : Tk M (mq kv b es) R) (hg : wantF ops ⟨none, .mapUpdate t x y u, T, pos, af, gd⟩ (tget tm) = some true)
    (h : JD P n W K F ops k nx rest tm S (mq kv b (aP es z v) :: R)) : JD P n W K F ops k nx (⟨none, .mapUpdate t x y u, T, pos, af, gd⟩ :: rest) tm S M :=
  JD_a0 rfl hg rfl (.cons hm .nil) (ae_setG ht hx hy hv) (by rintro _ _ ⟨rfl, rfl⟩; exact h)
theorem JL_delG {t : TypeId} {x y : Operand} {ts : Array TypeId} {b : Nat} {z : κ} {es : List (κ × Value)} {zv : Value} (ht : MI P t kv zv) (hx : evT tm x = some (.map (some b))) (hy : evT tm y = some (kv z)) (h0 : ts[0]? = some t) (hm : Tk L (mq kv b es) R) (hg : wantF ops ⟨none, .call ⟨.builtin .delete, #[x, y], ts⟩, T, pos, af, gd⟩ (tget tm) = some true)
    (h : JL P n W K F ops k rest tm (mq kv b (aD es z) :: R)) : JL P n W K F ops k (⟨none, .call ⟨.builtin .delete, #[x, y], ts⟩, T, pos, af, gd⟩ :: rest) tm L :=
  JL_a0 rfl hg (.cons hm .nil) (ae_delG ht h0 hx hy) (by rintro _ _ ⟨rfl, rfl⟩; exact h)
theorem JD_delG {t : TypeId} {x y : Operand} {ts : Array TypeId} {b : Nat} {z : κ} {es : List (κ × Value)} {zv : Value} (ht : MI P t kv zv) (hx : evT tm x = some (.map (some b))) (hy : evT tm y = some (kv z)) (h0 : ts[0]? = some t) (hm : Tk M (mq kv b es) R) (hg : wantF ops ⟨none, .call ⟨.builtin .delete, #[x, y], ts⟩, T, pos, af, gd⟩ (tget tm) = some true)
    (h : JD P n W K F ops k nx rest tm S (mq kv b (aD es z) :: R)) : JD P n W K F ops k nx (⟨none, .call ⟨.builtin .delete, #[x, y], ts⟩, T, pos, af, gd⟩ :: rest) tm S M :=
  JD_a0 rfl hg rfl (.cons hm .nil) (ae_delG ht h0 hx hy) (by rintro _ _ ⟨rfl, rfl⟩; exact h)
end
end Go.Pm
namespace Go.Pm
set_option linter.unusedSimpArgs false
set_option linter.unusedVariables false
open Go.RowKit

section
variable {P : Program} {n : Nat} {W : World} {K : Hl} {F : Fp} {k : List It} {tm : TM} {L L' R S M C : List HP} {T : TypeId} {pos : String} {af : Array Edge} {gd : Option (Nat × Bool)} {ops : Array Oper} {rest nx : List Oper} {d : Option Tmp}

def byC (z : Int) : List Value := [.int .u8 z]
theorem flat_byC (l : List Int) : flat byC l = bys l := by
  unfold flat bys
  induction l with
  | nil => rfl
  | cons x r ih => rw [List.flatMap_cons, ih]; rfl
def isStrD : TypeDesc → Bool
  | .string => true
  | _ => false
def isBytes (P : Program) (t : TypeId) : Bool := match P.underlying t with
  | some (.slice e) => match P.underlying e with
    | some (.int .u8) => true
    | _ => false
  | _ => false
theorem isBytes_spec {t : TypeId} (h : isBytes P t = true) : ∃ e, P.underlying t = some (.slice e) ∧ P.underlying e = some (.int .u8) := by
  unfold isBytes at h
  split at h
  · rename_i e he
    split at h
    · rename_i h2; exact ⟨e, he, h2⟩
    · cases h
  · cases h
theorem pe_str {st dt : TypeId} {x : Operand} {v : Value} {m : Nat} {l : List Int} (hx : evT tm x = some v) (hs : isBytes P st = true) (hd : tyIs P dt isStrD = true) (hv : Src K L v 1 m (flat byC l)) : PE P K L ⟨d, .convert st dt x, T, pos, af, gd⟩ (tget tm) (.string (strOfNums l)) := fun ρ w ha hr => by
  have h1 := ha x (by simp [Op.operands]) _ hx
  obtain ⟨e, h2, h3⟩ := isBytes_spec hs
  obtain ⟨dd, h4, h5⟩ := tyIs_spec hd
  cases dd <;> simp [isStrD] at h5
  have h6 := hv w hr
  rw [flat_byC] at h6
  have h7 := run_string h2 h3 h4 h6
  unfold execOp
  simp only [h1]
  simp [Sem.run_bind, h7]
end
end Go.Pm
namespace Go.Proofs.YtdnokmpnemaoaaaGreat
set_option linter.unusedSimpArgs false
set_option linter.unusedVariables false
open Go.RowKit Go.Pm

def I64 (n : Int) : Prop := -9223372036854775808 ≤ n ∧ n ≤ 9223372036854775807
def U32 (n : Int) : Prop := 0 ≤ n ∧ n ≤ 4294967295
def U8 (n : Int) : Prop := 0 ≤ n ∧ n ≤ 255
def u32C (n : Int) : List Value := [.int .u32 n]
abbrev ret0 (v : Value) : Value → List HP → Prop := fun u L' => u = v ∧ L' = []
structure Sg where
  set : Bool
  a : Option Addr
  c : Nat
  as_ : List Int
def sgC (s : Sg) : List Value := [.bool s.set, .slice s.a s.as_.length s.c]
structure Rw where
  kind : Int
  a : Option Addr
  c : Nat
  data : List Int
def rwC (r : Rw) : List Value := [.int .i64 r.kind, .slice r.a r.data.length r.c]
structure At where
  origin : Int
  pa : Option Addr
  pc : Nat
  path : List Sg
  next : Int
  hasMed : Bool
  med : Int
  hasLocal : Bool
  loc : Int
  atomic : Bool
  hasMaker : Bool
  makerAS : Int
  maker : Int
  ca : Option Addr
  cc : Nat
  comms : List Int
  oa : Option Addr
  oc : Nat
  others : List Rw
def atN (c : At) (n m k : Nat) : List Value := [.int .i64 c.origin, .slice c.pa n c.pc, .int .u32 c.next, .bool c.hasMed, .int .u32 c.med, .bool c.hasLocal, .int .u32 c.loc, .bool c.atomic, .bool c.hasMaker, .int .u32 c.makerAS, .int .u32 c.maker, .slice c.ca m c.cc, .slice c.oa k c.oc]
def atC (c : At) : List Value := atN c c.path.length c.comms.length c.others.length
def segV (w : World) (s : Sg) : Prop := Vw w (.slice s.a s.as_.length s.c) 1 s.as_.length (flat u32C s.as_)
def rawV (w : World) (r : Rw) : Prop := Vw w (.slice r.a r.data.length r.c) 1 r.data.length (flat byC r.data)
structure PathV (w : World) (a : Option Addr) (c : Nat) (p : List Sg) : Prop where
  vw : Vw w (.slice a p.length c) 2 p.length (flat sgC p)
  segs : ∀ s ∈ p, segV w s
structure RawsV (w : World) (a : Option Addr) (c : Nat) (p : List Rw) : Prop where
  vw : Vw w (.slice a p.length c) 2 p.length (flat rwC p)
  raws : ∀ s ∈ p, rawV w s
structure AtV (w : World) (d : At) : Prop where
  path : PathV w d.pa d.pc d.path
  comms : Vw w (.slice d.ca d.comms.length d.cc) 1 d.comms.length (flat u32C d.comms)
  others : RawsV w d.oa d.oc d.others
def SgN (s : Sg) : Prop := s.as_.length ≤ 35184372088832 ∧ ∀ z ∈ s.as_, U32 z
def RwN (r : Rw) : Prop := I64 r.kind ∧ r.data.length ≤ 140737488355328 ∧ ∀ z ∈ r.data, U8 z
structure AtN (d : At) : Prop where
  origin : I64 d.origin
  next : U32 d.next
  med : U32 d.med
  loc : U32 d.loc
  makerAS : U32 d.makerAS
  maker : U32 d.maker
  path : ∀ s ∈ d.path, SgN s
  comms : ∀ z ∈ d.comms, U32 z
  others : ∀ r ∈ d.others, RwN r
structure AtF (d : At) : Prop where
  num : AtN d
  path : d.path.length ≤ 65
  comms : d.comms.length ≤ 40
  others : d.others.length ≤ 9
structure Nf where
  origin : Int
  path : List (Bool × List Int)
  next : Int
  med : Option Int
  loc : Option Int
  atomic : Bool
  maker : Option (Int × Int)
  comms : List Int
  others : List (Int × List Int)
deriving DecidableEq
def pN (p : List Sg) : List (Bool × List Int) := p.map fun s => (s.set, s.as_)
def oN (p : List Rw) : List (Int × List Int) := p.map fun r => (r.kind, r.data)
def At.nf (d : At) : Nf := ⟨d.origin, pN d.path, d.next, if d.hasMed then some d.med else none, if d.hasLocal then some d.loc else none, d.atomic, if d.hasMaker then some (d.makerAS, d.maker) else none, d.comms, oN d.others⟩
def At.at_ (c : At) (p : List Sg) (pa : Option Addr) (pc : Nat) (q : List Int) (ca : Option Addr) (cc : Nat) (o : List Rw) (oa : Option Addr) (oc : Nat) : At := { c with path := p, pa := pa, pc := pc, comms := q, ca := ca, cc := cc, others := o, oa := oa, oc := oc }
theorem At.at_nf (c : At) (p : List Sg) (pa : Option Addr) (pc : Nat) (q : List Int) (ca : Option Addr) (cc : Nat) (o : List Rw) (oa : Option Addr) (oc : Nat) (h1 : pN p = pN c.path) (h2 : q = c.comms) (h3 : oN o = oN c.others) : (c.at_ p pa pc q ca cc o oa oc).nf = c.nf := by
  subst h2
  simp only [At.nf, At.at_, h1, h3]
  rfl
theorem pN_len {p q : List Sg} (h : pN p = pN q) : p.length = q.length := by have := congrArg List.length h; simpa [pN] using this
theorem oN_len {p q : List Rw} (h : oN p = oN q) : p.length = q.length := by have := congrArg List.length h; simpa [oN] using this
theorem pN_num {p q : List Sg} (h : pN p = pN q) (hn : ∀ s ∈ q, SgN s) : ∀ s ∈ p, SgN s := by
  intro s hs
  have : (s.set, s.as_) ∈ pN q := h ▸ List.mem_map.2 ⟨s, hs, rfl⟩
  obtain ⟨t, ht, e⟩ := List.mem_map.1 this
  have e2 : t.as_ = s.as_ := congrArg Prod.snd e
  have := hn t ht
  unfold SgN at this ⊢
  rwa [e2] at this
theorem oN_num {p q : List Rw} (h : oN p = oN q) (hn : ∀ s ∈ q, RwN s) : ∀ s ∈ p, RwN s := by
  intro s hs
  have : (s.kind, s.data) ∈ oN q := h ▸ List.mem_map.2 ⟨s, hs, rfl⟩
  obtain ⟨t, ht, e⟩ := List.mem_map.1 this
  have e1 : t.kind = s.kind := congrArg Prod.fst e
  have e2 : t.data = s.data := congrArg Prod.snd e
  have := hn t ht
  unfold RwN at this ⊢
  rwa [e1, e2] at this
theorem At.at_num {c : At} (h : AtF c) (p : List Sg) (pa : Option Addr) (pc : Nat) (q : List Int) (ca : Option Addr) (cc : Nat) (o : List Rw) (oa : Option Addr) (oc : Nat) (h1 : pN p = pN c.path) (h2 : q = c.comms) (h3 : oN o = oN c.others) : AtF (c.at_ p pa pc q ca cc o oa oc) := by
  subst h2
  exact ⟨⟨h.num.origin, h.num.next, h.num.med, h.num.loc, h.num.makerAS, h.num.maker, pN_num h1 h.num.path, h.num.comms, oN_num h3 h.num.others⟩, (pN_len h1).symm ▸ h.path, h.comms, (oN_len h3).symm ▸ h.others⟩
theorem take_snoc {α : Type} {l : List α} {k : Nat} {x : α} (h : l[k]? = some x) : l.take (k + 1) = l.take k ++ [x] := by
  rw [List.take_add_one, h]; rfl
def CopyR (d : At) (v : Value) (L' : List HP) : Prop := ∃ d', AtF d' ∧ d'.nf = d.nf ∧ v = .agg (atC d').toArray ∧ L' = [has (fun w => AtV w d')]
set_option maxRecDepth 20000
set_option maxHeartbeats 4000000
theorem zd62Aq2 {p q : Prop} (k : p) (h : p → q := by intro hk; first | exact J_draw (id := 5) [0, 1, 2, 3, 4, 5, 7, 8, 9, 10, 11, 6, 12, 13, 14] [15, 16] mixed xC xD xD hk | fail) : q := h k
theorem zd27Aq2 {p q : Prop} (k : p) (h : p → q := by intro hk; first | exact J_draw (id := 8) [0, 1, 2, 3, 4, 5, 6, 7, 9, 10, 11, 12, 13, 14, 8, 15, 16, 17] [18, 19, 20] mixed xC xD xD hk | fail) : q := h k

structure Lc where
  q : List Sg
  ad : Option Addr
  cc : Nat
def PathR (p : List Sg) (v : Value) (L' : List HP) : Prop := ∃ q a' c', v = .slice a' q.length c' ∧ pN q = pN p ∧ L' = [has (fun w => PathV w a' c' q)]
theorem pcopy_s (a : Option Addr) (c : Nat) (p : List Sg) (n : Nat) (hn : p.length = n) (h8 : n ≤ 1000) (hsm : ∀ s ∈ p, SgN s) : Pact Tryz.prog 62 #[.slice a n c] (fun w => PathV w a c p) [] (PathR p) := by
  subst hn
  refine pact Tryz.func62 rfl Tryz.ntmps62 rfl ?_
  intro W K hK
  have hv : Kn K (fun w => Vw w (.slice a p.length c) 2 p.length (flat sgC p)) := hK.imp fun _ h => h.vw
  (repeat' (first | (refine gL ?_; first | refine yL0 ?_ | refine yL ?_ | (refine yM ?_; intro _)) | (refine gD ?_; first | (refine yN ?_; try simp only [cAp, nAp]) | refine yD ?_ | (refine yE ?_; intro _) | (refine yB ?_; intro _ _ _ _)) | refine yJ ?_ | refine zd62Aq2 ?_ | (refine yI ?_ ?_ <;> intro _ <;> try exact xX) | (refine yK ?_ ?_ <;> intro hgb <;> first | subst hgb | fail_if_success have : type_of% hgb := rfl) | fail))
  rename_i b0
  refine J_loop (α := Lc) ⟨[], some ⟨b0, 0, none⟩, 0⟩ (fun x => p.length - x.q.length) (fun x => x.q.length ≤ p.length ∧ pN x.q = pN (p.take x.q.length)) (fun x => [(0, .slice a p.length c), (3, .slice x.ad x.q.length x.cc), (4, .int .i64 x.q.length)])
    (fun x => [Ar 87 2 sgC (.slice x.ad x.q.length x.cc) x.q, has (fun w => ∀ s ∈ x.q, segV w s)]) ⟨Nat.zero_le _, rfl⟩ ⟨rfl, rfl, rfl, trivial⟩ (fun w H => (Ow.hasTrue (φ := fun w => ∀ s ∈ ([] : List Sg), segV w s) (H.arLit0 .here) (by intro _ _ h; exact absurd h List.not_mem_nil)).sel xZ) ?_
  rintro ⟨q, ad, cc⟩ ⟨hq, hsame⟩
  dsimp only at hq hsame ⊢
  by_cases hlt : q.length < p.length
  · obtain ⟨s, hs⟩ : ∃ s, p[q.length]? = some s := ⟨_, List.getElem?_eq_getElem hlt⟩
    have hm := List.mem_of_getElem? hs
    have hsn := hsm s hm
    have hsn1 := hsn.1
    have hu : Kn K (fun w => Vw w (.slice s.a s.as_.length s.c) 1 s.as_.length (flat u32C s.as_)) := hK.imp fun _ h => h.segs s hm
    (repeat' (first | (refine gL ?_; first | refine yL0 ?_ | refine yL ?_ | (refine yM ?_; intro _)) | (refine gD ?_; first | (refine yN ?_; try simp only [cAp, nAp]) | (refine gD_c_append ?_; first | ((refine JD_appL u32C (tabE etab_ok (by rfl)) (by rfl) (by rfl) xA (Src.kn hu) (by decide +kernel) (by intro _; rfl) (all_one _ (by intro _ _; rfl)) (by omega) (by rfl) ?_; intro ad2 c2 _ _)) | ((refine JD_ap1 (z := Sg.mk s.set ad2 c2 s.as_) (tabE etab_ok (by rfl)) (by rfl) (by rfl) xA xA (by decide +kernel) (by rfl) (by intro _; rfl) (by rfl) (by omega) (by rfl) ?_; intro ad3 c3 _ _))) | refine yD ?_ | (refine yE ?_; intro _) | (refine yB ?_; intro _ _ _ _)) | refine yJ ?_ | refine zd62Aq2 ?_ | (refine yI ?_ ?_ <;> intro _ <;> try exact xX) | (refine yK ?_ ?_ <;> intro hgb <;> first | subst hgb | fail_if_success have : type_of% hgb := rfl) | fail))
    refine J_again ⟨q ++ [Sg.mk s.set ad2 c2 s.as_], ad3, c3⟩ (by simp; omega) ⟨by simp; omega, ?_⟩ ⟨rfl, ?_, ?_, trivial⟩ (fun w H => ?_)
    · simp only [List.length_append, List.length_cons, List.length_nil]
      rw [take_snoc hs]
      unfold pN at hsame ⊢
      rw [List.map_append, List.map_append, hsame]
      rfl
    · show some _ = some _
      simp
    · show some _ = some _
      simp
    · simp only [List.length_append, List.length_cons, List.length_nil]
      refine (Ow.has (M := [Ar 22 1 u32C (.slice ad2 s.as_.length c2) s.as_, has (fun w => ∀ s ∈ q, segV w s)]) (φ := fun w => ∀ x ∈ q ++ [Sg.mk s.set ad2 c2 s.as_], segV w x) H xZ ?_).sel xZ
      intro w hr x hx
      rcases List.mem_append.1 hx with hx | hx
      · exact hr.has (.there .here) x hx
      · obtain rfl := List.mem_singleton.1 hx
        exact Src.ar .here w hr
  · obtain hql : q.length = p.length := by omega
    rw [hql, List.take_length] at hsame
    (repeat' (first | (refine gL ?_; first | refine yL0 ?_ | refine yL ?_ | (refine yM ?_; intro _)) | (refine gD ?_; first | (refine yN ?_; try simp only [cAp, nAp]) | refine yD ?_ | (refine yE ?_; intro _) | (refine yB ?_; intro _ _ _ _)) | refine yJ ?_ | refine zd62Aq2 ?_ | (refine yI ?_ ?_ <;> intro _ <;> try exact xX) | (refine yK ?_ ?_ <;> intro hgb <;> first | subst hgb | fail_if_success have : type_of% hgb := rfl) | fail))
    refine J_ret1 rfl (by rfl) fun w H => ⟨_, ⟨q, ad, cc, rfl, hsame, rfl⟩, ?_⟩
    refine (Ow.has (M := [Ar 87 2 sgC (.slice ad q.length cc) q, has (fun w => ∀ s ∈ q, segV w s)]) (φ := fun w => PathV w ad cc q) H xZ ?_).sel xZ
    intro w hr
    exact ⟨Src.ar .here w hr, fun s hs => hr.has (.there .here) s hs⟩
structure Lo where
  q : List Rw
  ad : Option Addr
  cc : Nat
def cpC (d : At) (n : Nat) (a' : Option Addr) (c' : Nat) (ad2 : Option Addr) (c2 : Nat) (oa : Option Addr) (k oc : Nat) : List Value := [.int .i64 d.origin, .slice a' n c', .int .u32 d.next, .bool d.hasMed, .int .u32 d.med, .bool d.hasLocal, .int .u32 d.loc, .bool d.atomic, .bool d.hasMaker, .int .u32 d.makerAS, .int .u32 d.maker, .slice ad2 d.comms.length c2, .slice oa k oc]
theorem acopy_s (d : At) (hd : AtF d) (n m k : Nat) (hn : d.path.length = n) (hm : d.comms.length = m) (hk : d.others.length = k) : Pact Tryz.prog 27 #[.agg (atN d n m k).toArray] (fun w => AtV w d) [] (CopyR d) := by
  subst hn hm hk
  refine pact Tryz.func27 rfl Tryz.ntmps27 rfl ?_
  intro W K hK
  have hd1 := hd.path
  have hd2 := hd.comms
  have hd3 := hd.others
  have hcv : Kn K (fun w => Vw w (.slice d.ca d.comms.length d.cc) 1 d.comms.length (flat u32C d.comms)) := hK.imp fun _ h => h.comms
  have hov : Kn K (fun w => Vw w (.slice d.oa d.others.length d.oc) 2 d.others.length (flat rwC d.others)) := hK.imp fun _ h => h.others.vw
  (repeat' (first | (refine gL ?_; first | refine yL0 ?_ | (refine gL_c_append ?_; (refine JL_appL (fs := d.comms) u32C (tabE etab_ok (by rfl)) (by rfl) (by rfl) xA (Src.kn hcv) (by decide +kernel) (by intro _; rfl) (all_one _ (by intro _ _; rfl)) (by omega) (by rfl) (by rfl) ?_; intro ad2 c2 _ _)) | refine yL ?_ | (refine gL_go ?_; (refine JL_goq (pcopy_s d.pa d.pc d.path _ rfl (by omega) hd.num.path) (hφ := (by (try simp only [cAp, nAp]); exact fun w hr => (hK w hr.1).path)) (h := ?_); rintro _ _ ⟨q, a', c', rfl, hs, rfl⟩; try simp only [cAp, nAp])) | (refine yM ?_; intro _) | (refine yA ?_; intro _ _ _ _)) | (refine gD ?_; first | (refine yN ?_; try simp only [cAp, nAp]) | (refine gD_c_append ?_; (refine JL_appL (fs := d.comms) u32C (tabE etab_ok (by rfl)) (by rfl) (by rfl) xA (Src.kn hcv) (by decide +kernel) (by intro _; rfl) (all_one _ (by intro _ _; rfl)) (by omega) (by rfl) (by rfl) ?_; intro ad2 c2 _ _)) | refine yD ?_ | (refine yE ?_; intro _) | (refine yB ?_; intro _ _ _ _)) | refine yJ ?_ | refine zd27Aq2 ?_ | (refine yI ?_ ?_ <;> intro _ <;> try exact xX) | (refine yK ?_ ?_ <;> intro hgb <;> first | subst hgb | fail_if_success have : type_of% hgb := rfl) | fail))
  rename_i b1 b2 b3 _ _ _ b4
  refine J_loop (α := Lo) ⟨[], some ⟨b4, 0, none⟩, 0⟩ (fun x => d.others.length - x.q.length) (fun x => x.q.length ≤ d.others.length ∧ oN x.q = oN (d.others.take x.q.length)) (fun x => [(1, .pointer (some ⟨b1, 0, none⟩)), (2, .pointer (some ⟨b2, 0, none⟩)), (3, .pointer (some ⟨b3, 0, none⟩)), (4, .int .i64 x.q.length)])
    (fun x => [pts b3 (cpC d q.length a' c' ad2 c2 x.ad x.q.length x.cc) 35, Ar 79 2 rwC (.slice x.ad x.q.length x.cc) x.q, has (fun w => ∀ s ∈ x.q, rawV w s), Ar 22 1 u32C (.slice ad2 d.comms.length c2) d.comms, has (fun w => PathV w a' c' q), pts b2 [.int .i64 0, .slice none 0 0, .int .u32 0, .bool false, .int .u32 0, .bool false, .int .u32 0, .bool false, .bool false, .int .u32 0, .int .u32 0, .slice none 0 0, .slice none 0 0] 35, pts b1 (atN d d.path.length d.comms.length d.others.length) 35]) ⟨Nat.zero_le _, rfl⟩ ⟨rfl, rfl, rfl, rfl, trivial⟩ (fun w H => (Ow.hasTrue (φ := fun w => ∀ s ∈ ([] : List Rw), rawV w s) (H.arLit0 xA) (by intro _ _ h; exact absurd h List.not_mem_nil)).sel xZ) ?_
  rintro ⟨o, oa, oc⟩ ⟨ho, hsame⟩
  dsimp only at ho hsame ⊢
  by_cases hlt : o.length < d.others.length
  · obtain ⟨s, hs⟩ : ∃ s, d.others[o.length]? = some s := ⟨_, List.getElem?_eq_getElem hlt⟩
    have hm := List.mem_of_getElem? hs
    have hsn := hd.num.others s hm
    have hsn1 := hsn.2.1
    have hu : Kn K (fun w => Vw w (.slice s.a s.data.length s.c) 1 s.data.length (flat byC s.data)) := hK.imp fun _ h => h.others.raws s hm
    (repeat' (first | (refine gL ?_; first | refine yL0 ?_ | (refine gL_c_append ?_; first | ((refine JD_appL byC (tabE etab_ok (by rfl)) (by rfl) (by rfl) xA (Src.kn hu) (by decide +kernel) (by intro _; rfl) (all_one _ (by intro _ _; rfl)) (by omega) (by rfl) ?_; intro ad3 c3 _ _)) | ((refine JD_ap1 (z := Rw.mk s.kind ad3 c3 s.data) (tabE etab_ok (by rfl)) (by rfl) (by rfl) xA xA (by decide +kernel) (by rfl) (by intro _; rfl) (by rfl) (by omega) (by rfl) ?_; intro ad4 c4 _ _))) | refine yL ?_ | (refine yM ?_; intro _) | (refine yA ?_; intro _ _ _ _)) | (refine gD ?_; first | (refine yN ?_; try simp only [cAp, nAp]) | (refine gD_c_append ?_; first | ((refine JD_appL byC (tabE etab_ok (by rfl)) (by rfl) (by rfl) xA (Src.kn hu) (by decide +kernel) (by intro _; rfl) (all_one _ (by intro _ _; rfl)) (by omega) (by rfl) ?_; intro ad3 c3 _ _)) | ((refine JD_ap1 (z := Rw.mk s.kind ad3 c3 s.data) (tabE etab_ok (by rfl)) (by rfl) (by rfl) xA xA (by decide +kernel) (by rfl) (by intro _; rfl) (by rfl) (by omega) (by rfl) ?_; intro ad4 c4 _ _))) | refine yD ?_ | (refine yE ?_; intro _) | (refine yB ?_; intro _ _ _ _)) | refine yJ ?_ | refine zd27Aq2 ?_ | (refine yI ?_ ?_ <;> intro _ <;> try exact xX) | (refine yK ?_ ?_ <;> intro hgb <;> first | subst hgb | fail_if_success have : type_of% hgb := rfl) | fail))
    refine J_again ⟨o ++ [Rw.mk s.kind ad3 c3 s.data], ad4, c4⟩ (by simp; omega) ⟨by simp; omega, ?_⟩ ⟨rfl, rfl, rfl, ?_, trivial⟩ (fun w H => ?_)
    · simp only [List.length_append, List.length_cons, List.length_nil]
      rw [take_snoc hs]
      unfold oN at hsame ⊢
      rw [List.map_append, List.map_append, hsame]
      rfl
    · show some _ = some _
      simp
    · simp only [List.length_append, List.length_cons, List.length_nil]
      refine (Ow.has (M := [Ar 5 1 byC (.slice ad3 s.data.length c3) s.data, has (fun w => ∀ s ∈ o, rawV w s)]) (φ := fun w => ∀ x ∈ o ++ [Rw.mk s.kind ad3 c3 s.data], rawV w x) H xZ ?_).sel xZ
      intro w hr x hx
      rcases List.mem_append.1 hx with hx | hx
      · exact hr.has (.there .here) x hx
      · obtain rfl := List.mem_singleton.1 hx
        exact Src.ar .here w hr
  · obtain hol : o.length = d.others.length := by omega
    rw [hol, List.take_length] at hsame
    (repeat' (first | (refine gL ?_; first | refine yL0 ?_ | refine yL ?_ | (refine yM ?_; intro _) | (refine yA ?_; intro _ _ _ _)) | (refine gD ?_; first | (refine yN ?_; try simp only [cAp, nAp]) | refine yD ?_ | (refine yE ?_; intro _) | (refine yB ?_; intro _ _ _ _)) | refine yJ ?_ | refine zd27Aq2 ?_ | (refine yI ?_ ?_ <;> intro _ <;> try exact xX) | (refine yK ?_ ?_ <;> intro hgb <;> first | subst hgb | fail_if_success have : type_of% hgb := rfl) | fail))
    refine J_retC (cs := cpC d q.length a' c' ad2 c2 oa o.length oc) rfl (by rfl) xA (by rfl) fun w H => ⟨_, ⟨d.at_ q a' c' d.comms ad2 c2 o oa oc, At.at_num hd _ _ _ _ _ _ _ _ _ hs rfl hsame, d.at_nf _ _ _ _ _ _ _ _ _ hs rfl hsame, rfl, rfl⟩, ?_⟩
    refine (Ow.has (M := [has (fun w => PathV w a' c' q), Ar 22 1 u32C (.slice ad2 d.comms.length c2) d.comms, Ar 79 2 rwC (.slice oa o.length oc) o, has (fun w => ∀ s ∈ o, rawV w s)]) (φ := fun w => AtV w (d.at_ q a' c' d.comms ad2 c2 o oa oc)) H xZ ?_).sel xZ
    intro w hr
    exact ⟨hr.has .here, Src.ar (.there .here) w hr, Src.ar (.there (.there .here)) w hr, fun s hs => hr.has (.there (.there (.there .here))) s hs⟩
theorem Vw_take {w : World} {a : Option Addr} {c sz n : Nat} {α : Type} {enc : α → List Value} {es : List α} (h : Vw w (.slice a n c) sz n (flat enc es)) (hl : ∀ x, (enc x).length = sz) (hn : es.length = n) (j m : Nat) (hm : (es.take j).length = m) : Vw w (.slice a m c) sz m (flat enc (es.take j)) := by
  obtain ⟨a', cap, he, h1, h2, h3, h4, h5⟩ := h
  cases he
  have hpre : flat enc es = flat enc (es.take j) ++ flat enc (es.drop j) := by rw [← flat_append, List.take_append_drop]
  have hmn : m ≤ n := by rw [← hm, ← hn, List.length_take]; omega
  refine ⟨a, c, rfl, by rw [flat_length hl, hm], by omega, h3, fun h => ⟨by have := (h4 h).1; omega, (h4 h).2⟩, fun hne => ?_⟩
  have hne' : flat enc es ≠ [] := by
    intro h
    rw [hpre] at h
    exact hne (List.append_eq_nil_iff.1 h).1
  obtain ⟨b, off, hb, hc⟩ := h5 hne'
  refine ⟨b, off, hb, fun k u hk => hc k u ?_⟩
  rw [hpre, List.getElem?_append_left (List.getElem?_eq_some_iff.1 hk).1]
  exact hk
end Go.Proofs.YtdnokmpnemaoaaaGreat
