/-
  Ju, Jp, Aq1, Jx, Jy, Jz, J3: merged.
-/
import Derived.Test.YtnhabkipjmgaaaaGreatZRibPlays17
import Derived.Lib.AppendZeros
import Derived.Maps.RangeRun
import Derived.Shelf.SlSortCmp.NoneTotal
namespace Go.Pm
set_option linter.unusedSimpArgs false
set_option linter.unusedVariables false
open Go.RowKit

theorem beqBA (a b : ByteArray) : (a == b) = decide (a = b) := by
  show ByteArray.beq a b = _
  cases a with | mk x => cases b with | mk y =>
    rw [Bool.eq_iff_iff]
    simp [ByteArray.beq]
section
variable {κ : Type} [DecidableEq κ]
def KeyOk (P : Program) (key : TypeId) (kv : κ → Value) : Prop := ∃ kd, P.underlying key = some kd ∧ (∀ a b : κ, Instr.sameNow kd (kv a) (kv b) = some (decide (a = b))) ∧ (∀ e (a : κ) w, (Instr.checkKey e 10000 key (kv a)).run P w = .ok () w) ∧ ∀ a : κ, Instr.sameBits 10000 (kv a) (kv a) = true
def MI (P : Program) (t : TypeId) (kv : κ → Value) (zv : Value) : Prop := ∃ key elem i, P.underlying t = some (.map key elem) ∧ KeyOk P key kv ∧ P.info? elem = some i ∧ i.zero = some zv
structure Born (ents : List MapEntry) (clock : Nat) : Prop where
  lt : ∀ e ∈ ents, e.born < clock
  ne : ents.Pairwise (fun a b => a.born ≠ b.born)
def mq (kv : κ → Value) (b : Nat) (es : List (κ × Value)) : HP := fun h => ∃ ents clock, h = Hl.one b (.map ents clock) ∧ ents.toList.map (fun e => (e.key, e.val)) = es.map (fun p => (kv p.1, p.2)) ∧ Born ents.toList clock
def aG : List (κ × Value) → κ → Option Value
  | [], _ => none
  | (x, v) :: r, z => if x = z then some v else aG r z
def aP : List (κ × Value) → κ → Value → List (κ × Value)
  | [], z, v => [(z, v)]
  | (x, u) :: r, z, v => if x = z then (x, v) :: r else (x, u) :: aP r z v
def aD : List (κ × Value) → κ → List (κ × Value)
  | [], _ => []
  | (x, u) :: r, z => if x = z then r else (x, u) :: aD r z
end
theorem keyOkS {P : Program} {key : TypeId} (h : P.underlying key = some .string) : KeyOk P key Value.string := by
  refine ⟨_, h, fun a b => ?_, fun e a w => ?_, fun a => ?_⟩
  · simp only [Instr.sameNow, beqBA]
  · have : ∀ m, (Instr.checkKey e (m + 1) key (.string a)).run P w = .ok () w := fun m => by
      unfold Instr.checkKey
      simp [Sem.run_bind, run_underlying h]
    exact this 9999
  · have : ∀ m, Instr.sameBits m (.string a) (.string a) = true := fun m => by cases m <;> simp [Instr.sameBits, beqBA]
    exact this _
theorem keyOkI {P : Program} {key : TypeId} {k : IntKind} (h : P.underlying key = some (.int k)) : KeyOk P key (Value.int k) := by
  refine ⟨_, h, fun a b => ?_, fun e a w => run_checkKey h e a w, fun a => ?_⟩
  · simp only [Instr.sameNow, if_pos]
    congr 1
  · have : ∀ m, Instr.sameBits m (.int k a) (.int k a) = true := fun m => by cases m <;> simp [Instr.sameBits]
    exact this _
section
variable {κ : Type} [DecidableEq κ] {kv : κ → Value}
variable {P : Program} {n : Nat} {W : World} {K : Hl} {F : Fp} {k : List It} {tm : TM} {L L' R S M M' : List HP} {T : TypeId} {pos : String} {af : Array Edge} {gd : Option (Nat × Bool)} {ops : Array Oper} {rest nx : List Oper} {d : Tmp}
theorem findNow_aG {kd : TypeDesc} (hs : ∀ a b : κ, Instr.sameNow kd (kv a) (kv b) = some (decide (a = b))) (z : κ) : ∀ (ents : List MapEntry) (es : List (κ × Value)) (i : Nat), ents.map (fun e => (e.key, e.val)) = es.map (fun p => (kv p.1, p.2)) →
    (aG es z = none ∧ Instr.findNow kd (kv z) ents i = some none ∧ aD es z = es) ∨ (∃ j v, aG es z = some v ∧ Instr.findNow kd (kv z) ents i = some (some (i + j, v)) ∧ j < ents.length ∧ (ents[j]?).map (·.key) = some (kv z) ∧ es.length = ents.length ∧ (∀ u, aP es z u = es.set j (z, u)) ∧ aD es z = es.eraseIdx j)
  | [], [], i, _ => .inl ⟨rfl, rfl, rfl⟩
  | [], p :: _, _, h => by simp at h
  | e :: ents, [], _, h => by simp at h
  | e :: ents, (x, v) :: es, i, h => by
    simp only [List.map_cons, List.cons.injEq, Prod.mk.injEq] at h
    obtain ⟨⟨h1, h2⟩, h3⟩ := h
    have hlen : es.length = ents.length := by have := congrArg List.length h3; simpa using this.symm
    by_cases hx : x = z
    · subst hx
      refine .inr ⟨0, v, by simp [aG], ?_, by simp, by simp [h1], by simp [hlen], fun u => by simp [aP], by simp [aD]⟩
      simp [Instr.findNow, h1, h2, hs]
    · have hstep : Instr.findNow kd (kv z) (e :: ents) i = Instr.findNow kd (kv z) ents (i + 1) := by
        simp [Instr.findNow, h1, hs, Ne.symm hx]
      rw [hstep]
      rcases findNow_aG hs z ents es (i + 1) h3 with ⟨a, b, c⟩ | ⟨j, u, a, b, c, d, e, f, g⟩
      · exact .inl ⟨by simp [aG, hx, a], b, by simp [aD, hx, c]⟩
      · refine .inr ⟨j + 1, u, by simp [aG, hx, a], by rw [b]; congr 3; omega, by simp [c], by simpa using d, by simp [hlen], fun w => ?_, ?_⟩
        · simp [aP, hx, f w]
        · simp [aD, hx, g]
omit [DecidableEq κ] in
theorem mq_obj {h : Hl} {b : Nat} {es : List (κ × Value)} (hm : mq kv b es h) {w : World} (i : h.inn w) : ∃ ents clock, w.heap[b]? = some (.map ents clock) ∧ ents.toList.map (fun e => (e.key, e.val)) = es.map (fun p => (kv p.1, p.2)) ∧ Born ents.toList clock := by
  obtain ⟨ents, clock, rfl, he, hb⟩ := hm
  exact ⟨ents, clock, i b _ (by simp [Hl.one]), he, hb⟩
omit [DecidableEq κ] in
theorem run_findKeyG {key : TypeId} {kd : TypeDesc} (hk : P.underlying key = some kd) {z : κ} {es : List MapEntry} {r : Option (Nat × Value)} (h : Instr.findNow kd (kv z) es 0 = some r) (w : World) : (Instr.findKey key (kv z) es).run P w = .ok r w := by
  simp [Instr.findKey, Sem.run_bind, run_underlying hk, h]
theorem pe_lookG {od : Option Tmp} {t : TypeId} {x y : Operand} {b : Nat} {z : κ} {es : List (κ × Value)} {zv : Value} {ok : Bool} {v : Value} (ht : MI P t kv zv) (hx : evT tm x = some (.map (some b))) (hy : evT tm y = some (kv z)) (hm : Tk L (mq kv b es) R) (hq : lookV (aG es z) zv ok = v) : PE P K L ⟨od, .lookup t x y ok, T, pos, af, gd⟩ (tget tm) v := fun ρ w ha hr => by
  subst hq
  have h1 := ha x (by simp [Op.operands]) _ hx
  have h2 := ha y (by simp [Op.operands]) _ hy
  obtain ⟨key, elem, i, hu, ⟨kd, hk, hs, hck, _⟩, hi, hz⟩ := ht
  obtain ⟨q, hq, hin⟩ := hr.tk hm
  obtain ⟨ents, clock, ho, he, hbo⟩ := mq_obj hq hin
  unfold execOp
  simp only [h1, h2]
  rcases findNow_aG hs z ents.toList es 0 he with ⟨e1, e2, _⟩ | ⟨j, v', e1, e2, _⟩
  · simp only [Instr.lookup, Sem.run_bind, run_underlying hu, Result.andThen_ok, run_getObj ho, Sem.run_pure, hck, run_findKeyG hk e2, zeroValue, typeInfo, e1, lookV]
    cases ok <;> simp [hi, hz]
  · simp only [Instr.lookup, Sem.run_bind, run_underlying hu, Result.andThen_ok, run_getObj ho, Sem.run_pure, hck, run_findKeyG hk e2, e1, lookV]
    cases ok <;> simp
theorem pe_lenG {od : Option Tmp} {t : TypeId} {x : Operand} {b N : Nat} {es : List (κ × Value)} {zv : Value} (ht : MI P t kv zv) (hx : evT tm x = some (.map (some b))) (hm : Tk L (mq kv b es) R) (hN : es.length = N) : PE P K L ⟨od, .call ⟨.builtin .len, #[x], #[t]⟩, T, pos, af, gd⟩ (tget tm) (.int .i64 N) := pe_call (vs := [.map (some b)]) (by simp [hx]) fun w hr cs => by
  subst hN
  obtain ⟨key, elem, i, hu, _⟩ := ht
  obtain ⟨q, hq, hin⟩ := hr.tk hm
  obtain ⟨ents, clock, ho, he, hbo⟩ := mq_obj hq hin
  have hl : ents.size = es.length := by have := congrArg List.length he; simpa using this
  simp [builtin, Builtin.len_, Sem.run_bind, run_underlying hu, run_getObj ho, hl]
  rfl
omit [DecidableEq κ] in
theorem mq_change {W : World} {K' : Hl} {w : World} {b : Nat} {es es' : List (κ × Value)} {ents ents' : Array MapEntry} {clock clock' : Nat} (hO : Ow W K' (mq kv b es :: R) w) (ho : w.heap[b]? = some (.map ents clock)) (he' : ents'.toList.map (fun e => (e.key, e.val)) = es'.map (fun p => (kv p.1, p.2))) (hb' : Born ents'.toList clock') : Ow W K' (mq kv b es' :: R) { w with heap := w.heap.setIfInBounds b (.map ents' clock') } := by
  refine Ow.change hO rfl ((Tp.refl _).same rfl rfl) rfl (by simp) (fun h hh ih => ?_)
  obtain ⟨en, cl, rfl, _, _⟩ := hh
  have hlt : b < w.heap.size := (Array.getElem?_eq_some_iff.1 ho).1
  refine ⟨⟨Hl.one b (.map ents' clock'), ⟨ents', clock', rfl, he', hb'⟩, fun c o e => ?_, fun c hc => ?_⟩, fun c hl hc => ?_⟩
  · unfold Hl.one at e
    split at e
    · rename_i hcb; subst hcb; cases e
      simp [Array.getElem?_setIfInBounds, hlt]
    · cases e
  · left
    unfold Hl.one at hc ⊢
    split at hc <;> simp_all
  · have hcb : b ≠ c := fun e => by subst e; simp [Hl.one] at hc
    simp [Array.getElem?_setIfInBounds, hcb]
theorem born_set {ents : Array MapEntry} {clock : Nat} (hb : Born ents.toList clock) {o : Option (Option (Nat × Value))} {z v : Value} : Born (match o with | some (some (j, _)) => ents.modify j fun e => { e with key := z, val := v } | _ => ents.push { key := z, val := v, born := clock }).toList (match o with | some (some _) => clock | _ => clock + 1) := by
  have push : Born (ents.push { key := z, val := v, born := clock }).toList (clock + 1) := by
    refine ⟨fun e he => ?_, ?_⟩
    · rw [Array.toList_push] at he
      rcases List.mem_append.1 he with he | he
      · have := hb.lt e he; omega
      · obtain rfl := List.mem_singleton.1 he; exact Nat.lt_succ_self _
    · rw [Array.toList_push]
      refine List.pairwise_append.2 ⟨hb.ne, List.pairwise_singleton _ _, fun a ha b hb' => ?_⟩
      obtain rfl := List.mem_singleton.1 hb'
      have := hb.lt a ha
      dsimp only
      omega
  match o with
  | none => exact push
  | some none => exact push
  | some (some (j, _)) =>
    have hm : (ents.modify j fun e => { e with key := z, val := v }).toList.map (·.born) = ents.toList.map (·.born) := by
      apply List.ext_getElem?
      intro q
      simp only [List.getElem?_map, Array.getElem?_toList, Array.getElem?_modify]
      split
      · cases ents[q]? <;> rfl
      · rfl
    dsimp only
    refine ⟨fun e he => ?_, ?_⟩
    · have h1 : e.born ∈ (ents.modify j fun e => { e with key := z, val := v }).toList.map (·.born) := List.mem_map.2 ⟨e, he, rfl⟩
      rw [hm] at h1
      obtain ⟨e', he', h2⟩ := List.mem_map.1 h1
      rw [← h2]; exact hb.lt e' he'
    · have h1 : (ents.toList.map (·.born)).Pairwise (· ≠ ·) := List.pairwise_map.2 hb.ne
      rw [← hm] at h1
      exact List.pairwise_map.1 h1
theorem born_del {ents : Array MapEntry} {clock : Nat} (hb : Born ents.toList clock) {o : Option (Option (Nat × Value))} : Born (match o with | some (some (j, _)) => ents.eraseIdxIfInBounds j | _ => ents).toList clock := by
  match o with
  | none => exact hb
  | some none => exact hb
  | some (some (j, _)) =>
    dsimp only
    have hs : ((ents.eraseIdxIfInBounds j).toList).Sublist ents.toList := by
      unfold Array.eraseIdxIfInBounds
      split
      · simp only [Array.toList_eraseIdx]
        exact List.eraseIdx_sublist ..
      · exact List.Sublist.refl _
    exact ⟨fun e he => hb.lt e (hs.subset he), hb.ne.sublist hs⟩
theorem ae_setG {od : Option Tmp} {t : TypeId} {x y u : Operand} {b : Nat} {z : κ} {es : List (κ × Value)} {zv v : Value} (ht : MI P t kv zv) (hx : evT tm x = some (.map (some b))) (hy : evT tm y = some (kv z)) (hv : evT tm u = some v) :
    AE P n K R [mq kv b es] ⟨od, .mapUpdate t x y u, T, pos, af, gd⟩ (tget tm) (one undef [mq kv b (aP es z v)]) := fun W K' w a next hK hf hO hn => by
  obtain ⟨key, elem, i, hu, ⟨kd, hk, hs, hck, hsb⟩, hi, hz⟩ := ht
  obtain ⟨q, hq, hin⟩ := hO.part
  obtain ⟨ents, clock, ho, he, hbo⟩ := mq_obj hq hin
  refine wp_done (w' := { w with heap := w.heap.setIfInBounds b (.map (match Instr.findNow kd (kv z) ents.toList 0 with | some (some (j, _)) => ents.modify j fun e => { e with key := kv z, val := v } | _ => ents.push { key := kv z, val := v, born := clock }) (match Instr.findNow kd (kv z) ents.toList 0 with | some (some _) => clock | _ => clock + 1)) }) ?_ (hn undef _ _ ⟨rfl, rfl⟩ (mq_change hO ho ?_ ?_))
  · unfold execOp
    simp only [hf.eval hx, hf.eval hy, hf.eval hv]
    rcases findNow_aG hs z ents.toList es 0 he with ⟨e1, e2, _⟩ | ⟨j, u', e1, e2, e3, e4, _⟩
    · simp only [Instr.mapUpdate, Sem.run_bind, run_underlying hu, Result.andThen_ok, run_getObj ho, hck, run_findKeyG hk e2, e2]
      simp [setObj, Sem.run, ho]
    · have hold : ((ents[0 + j]?).map (·.key)).getD (kv z) = kv z := by
        rw [Nat.zero_add]
        have : (ents[j]?).map (·.key) = some (kv z) := by simpa using e4
        rw [this]; rfl
      have hsame : (Instr.keyThatStays (kv z) (kv z)).run P w = .ok (kv z) w := by
        simp [Instr.keyThatStays, hsb]
      simp only [Instr.mapUpdate, Sem.run_bind, run_underlying hu, Result.andThen_ok, run_getObj ho, hck, run_findKeyG hk e2, e2, hold, hsame]
      simp [setObj, Sem.run, ho]
  · rcases findNow_aG hs z ents.toList es 0 he with ⟨e1, e2, _⟩ | ⟨j, u', e1, e2, e3, e4, e6, e5, _⟩
    · rw [e2]
      have : ∀ (l : List (κ × Value)), aG l z = none → aP l z v = l ++ [(z, v)] := by
        intro l
        induction l with
        | nil => intro _; rfl
        | cons p l ih =>
          intro h
          obtain ⟨x, u⟩ := p
          simp only [aG] at h
          split at h
          · cases h
          · rename_i hx; simp [aP, hx, ih h]
      rw [this es e1]
      simp [he]
    · rw [e2]
      dsimp only
      rw [Nat.zero_add, e5 v]
      apply List.ext_getElem?
      intro q
      have hq2 := congrArg (·[q]?) he
      simp only [List.getElem?_map] at hq2
      simp only [List.getElem?_map, Array.getElem?_toList, Array.getElem?_modify, List.getElem?_set]
      by_cases hjq : j = q
      · subst hjq
        have e6 : j < es.length := by rw [e6]; exact e3
        simp only [if_pos rfl, if_pos e6]
        have : j < ents.size := by simpa using e3
        simp [Array.getElem?_eq_getElem this]
      · rw [if_neg hjq, if_neg hjq]
        simpa using hq2
  · exact born_set hbo
theorem ae_delG {od : Option Tmp} {t : TypeId} {x y : Operand} {ts : Array TypeId} {b : Nat} {z : κ} {es : List (κ × Value)} {zv : Value} (ht : MI P t kv zv) (h0 : ts[0]? = some t) (hx : evT tm x = some (.map (some b))) (hy : evT tm y = some (kv z)) :
    AE P n K R [mq kv b es] ⟨od, .call ⟨.builtin .delete, #[x, y], ts⟩, T, pos, af, gd⟩ (tget tm) (one (.tuple #[]) [mq kv b (aD es z)]) := fun W K' w a next hK hf hO hn => by
  obtain ⟨key, elem, i, hu, ⟨kd, hk, hs, hck, hsb⟩, hi, hz⟩ := ht
  obtain ⟨q, hq, hin⟩ := hO.part
  obtain ⟨ents, clock, ho, he, hbo⟩ := mq_obj hq hin
  have hr : (Builtin.delete_ ts T #[.map (some b), kv z]).run P w = .ok (.tuple #[]) { w with heap := w.heap.setIfInBounds b (.map (match Instr.findNow kd (kv z) ents.toList 0 with | some (some (j, _)) => ents.eraseIdxIfInBounds j | _ => ents) clock) } := by
    rcases findNow_aG hs z ents.toList es 0 he with ⟨e1, e2, _⟩ | ⟨j, u', e1, e2, e3, e4, _⟩
    · simp [Builtin.delete_, h0, Sem.run_bind, run_underlying hu, run_getObj ho, hck, run_findKeyG hk e2, e2, setObj, Sem.run, ho]
    · simp [Builtin.delete_, h0, Sem.run_bind, run_underlying hu, run_getObj ho, hck, run_findKeyG hk e2, e2, setObj, Sem.run, ho]
  refine wpI_of_wp ?_
  unfold Oper.wp execOp
  simp only [resolve, invoke, builtin, Sem.run_bind, Sem.run_pure, Result.andThen_ok, List.map_toArray, List.map_cons, List.map_nil, hf.eval hx, hf.eval hy, hr]
  refine hn (.tuple #[]) _ _ ⟨rfl, rfl⟩ (mq_change hO ho ?_ (born_del hbo))
  rcases findNow_aG hs z ents.toList es 0 he with ⟨e1, e2, e3⟩ | ⟨j, u', e1, e2, e3, e4, e6, e5, e7⟩
  · rw [e2, e3]
    exact he
  · rw [e2, e7]
    dsimp only
    rw [Nat.zero_add]
    have h8 : (ents.eraseIdxIfInBounds j).toList = ents.toList.eraseIdx j := by
      unfold Array.eraseIdxIfInBounds
      rw [dif_pos (by simpa using e3)]
      simp
    have h9 : ∀ {α β : Type} (f : α → β) (l : List α) (j : Nat), (l.eraseIdx j).map f = (l.map f).eraseIdx j := by
      intro α β f l
      induction l with
      | nil => intro j; simp
      | cons x l ih => intro j; cases j <;> simp [ih]
    rw [h8, h9, h9, he]
omit [DecidableEq κ] in
theorem JL_mmG {t : TypeId} (kv : κ → Value) (hn : Nat.blt d n = true) (hg : wantF ops ⟨some d, .makeMap t none, T, pos, af, gd⟩ (tget tm) = some true) (h : ∀ b, JL P n W K F ops k rest ((d, .map (some b)) :: tm) (mq kv b [] :: L)) : JL P n W K F ops k (⟨some d, .makeMap t none, T, pos, af, gd⟩ :: rest) tm L :=
  JL_m rfl hn hg al_mapNew fun b => JL_heap (fun w H => H.imp fun q hq => ⟨#[], 0, hq, rfl, by simp, by simp⟩) (h b)
theorem JD_setG {t : TypeId} {x y u : Operand} {b : Nat} {z : κ} {es : List (κ × Value)} {zv v : Value} (ht : MI P t kv zv) (hx : evT tm x = some (.map (some b))) (hy : evT tm y = some (kv z)) (hv : evT tm u = some v) (hm : Tk M (mq kv b es) R) (hg : wantF ops ⟨none, .mapUpdate t x y u, T, pos, af, gd⟩ (tget tm) = some true)
    (h : JD P n W K F ops k nx rest tm S (mq kv b (aP es z v) :: R)) : JD P n W K F ops k nx (⟨none, .mapUpdate t x y u, T, pos, af, gd⟩ :: rest) tm S M :=
  JD_a0 rfl hg rfl (.cons hm .nil) (ae_setG ht hx hy hv) (by rintro _ _ ⟨rfl, rfl⟩; exact h)
theorem JL_delG {t : TypeId} {x y : Operand} {ts : Array TypeId} {b : Nat} {z : κ} {es : List (κ × Value)} {zv : Value} (ht : MI P t kv zv) (hx : evT tm x = some (.map (some b))) (hy : evT tm y = some (kv z)) (h0 : ts[0]? = some t) (hm : Tk L (mq kv b es) R) (hg : wantF ops ⟨none, .call ⟨.builtin .delete, #[x, y], ts⟩, T, pos, af, gd⟩ (tget tm) = some true)
    (h : JL P n W K F ops k rest tm (mq kv b (aD es z) :: R)) : JL P n W K F ops k (⟨none, .call ⟨.builtin .delete, #[x, y], ts⟩, T, pos, af, gd⟩ :: rest) tm L :=
  JL_a0 rfl hg (.cons hm .nil) (ae_delG ht h0 hx hy) (by rintro _ _ ⟨rfl, rfl⟩; exact h)
theorem JD_delG {t : TypeId} {x y : Operand} {ts : Array TypeId} {b : Nat} {z : κ} {es : List (κ × Value)} {zv : Value} (ht : MI P t kv zv) (hx : evT tm x = some (.map (some b))) (hy : evT tm y = some (kv z)) (h0 : ts[0]? = some t) (hm : Tk M (mq kv b es) R) (hg : wantF ops ⟨none, .call ⟨.builtin .delete, #[x, y], ts⟩, T, pos, af, gd⟩ (tget tm) = some true)
    (h : JD P n W K F ops k nx rest tm S (mq kv b (aD es z) :: R)) : JD P n W K F ops k nx (⟨none, .call ⟨.builtin .delete, #[x, y], ts⟩, T, pos, af, gd⟩ :: rest) tm S M :=
  JD_a0 rfl hg rfl (.cons hm .nil) (ae_delG ht h0 hx hy) (by rintro _ _ ⟨rfl, rfl⟩; exact h)
end
end Go.Pm
namespace Go.Pm
set_option linter.unusedSimpArgs false
set_option linter.unusedVariables false
open Go.RowKit

section
variable {P : Program} {n : Nat} {W : World} {K : Hl} {F : Fp} {k : List It} {tm : TM} {L L' R S M C : List HP} {T : TypeId} {pos : String} {af : Array Edge} {gd : Option (Nat × Bool)} {ops : Array Oper} {rest nx : List Oper} {d : Option Tmp}

def byC (z : Int) : List Value := [.int .u8 z]
theorem flat_byC (l : List Int) : flat byC l = bys l := by
  unfold flat bys
  induction l with
  | nil => rfl
  | cons x r ih => rw [List.flatMap_cons, ih]; rfl
def isStrD : TypeDesc → Bool
  | .string => true
  | _ => false
def isBytes (P : Program) (t : TypeId) : Bool := match P.underlying t with
  | some (.slice e) => match P.underlying e with
    | some (.int .u8) => true
    | _ => false
  | _ => false
theorem isBytes_spec {t : TypeId} (h : isBytes P t = true) : ∃ e, P.underlying t = some (.slice e) ∧ P.underlying e = some (.int .u8) := by
  unfold isBytes at h
  split at h
  · rename_i e he
    split at h
    · rename_i h2; exact ⟨e, he, h2⟩
    · cases h
  · cases h
theorem pe_str {st dt : TypeId} {x : Operand} {v : Value} {m : Nat} {l : List Int} (hx : evT tm x = some v) (hs : isBytes P st = true) (hd : tyIs P dt isStrD = true) (hv : Src K L v 1 m (flat byC l)) : PE P K L ⟨d, .convert st dt x, T, pos, af, gd⟩ (tget tm) (.string (strOfNums l)) := fun ρ w ha hr => by
  have h1 := ha x (by simp [Op.operands]) _ hx
  obtain ⟨e, h2, h3⟩ := isBytes_spec hs
  obtain ⟨dd, h4, h5⟩ := tyIs_spec hd
  cases dd <;> simp [isStrD] at h5
  have h6 := hv w hr
  rw [flat_byC] at h6
  have h7 := run_string h2 h3 h4 h6
  unfold execOp
  simp only [h1]
  simp [Sem.run_bind, h7]
end
end Go.Pm
namespace Go.Proofs.YtnhabkipjmgaaaaGreat
set_option linter.unusedSimpArgs false
set_option linter.unusedVariables false
open Go.RowKit Go.Pm

def I64 (n : Int) : Prop := -9223372036854775808 ≤ n ∧ n ≤ 9223372036854775807
def U32 (n : Int) : Prop := 0 ≤ n ∧ n ≤ 4294967295
def U8 (n : Int) : Prop := 0 ≤ n ∧ n ≤ 255
def u32C (n : Int) : List Value := [.int .u32 n]
abbrev ret0 (v : Value) : Value → List HP → Prop := fun u L' => u = v ∧ L' = []
structure Sg where
  set : Bool
  a : Option Addr
  c : Nat
  as_ : List Int
def sgC (s : Sg) : List Value := [.bool s.set, .slice s.a s.as_.length s.c]
structure Rw where
  kind : Int
  a : Option Addr
  c : Nat
  data : List Int
def rwC (r : Rw) : List Value := [.int .i64 r.kind, .slice r.a r.data.length r.c]
structure At where
  origin : Int
  pa : Option Addr
  pc : Nat
  path : List Sg
  next : Int
  hasMed : Bool
  med : Int
  hasLocal : Bool
  loc : Int
  atomic : Bool
  hasMaker : Bool
  makerAS : Int
  maker : Int
  ca : Option Addr
  cc : Nat
  comms : List Int
  oa : Option Addr
  oc : Nat
  others : List Rw
def atN (c : At) (n m k : Nat) : List Value := [.int .i64 c.origin, .slice c.pa n c.pc, .int .u32 c.next, .bool c.hasMed, .int .u32 c.med, .bool c.hasLocal, .int .u32 c.loc, .bool c.atomic, .bool c.hasMaker, .int .u32 c.makerAS, .int .u32 c.maker, .slice c.ca m c.cc, .slice c.oa k c.oc]
def atC (c : At) : List Value := atN c c.path.length c.comms.length c.others.length
def segV (w : World) (s : Sg) : Prop := Vw w (.slice s.a s.as_.length s.c) 1 s.as_.length (flat u32C s.as_)
def rawV (w : World) (r : Rw) : Prop := Vw w (.slice r.a r.data.length r.c) 1 r.data.length (flat byC r.data)
structure PathV (w : World) (a : Option Addr) (c : Nat) (p : List Sg) : Prop where
  vw : Vw w (.slice a p.length c) 2 p.length (flat sgC p)
  segs : ∀ s ∈ p, segV w s
structure RawsV (w : World) (a : Option Addr) (c : Nat) (p : List Rw) : Prop where
  vw : Vw w (.slice a p.length c) 2 p.length (flat rwC p)
  raws : ∀ s ∈ p, rawV w s
structure AtV (w : World) (d : At) : Prop where
  path : PathV w d.pa d.pc d.path
  comms : Vw w (.slice d.ca d.comms.length d.cc) 1 d.comms.length (flat u32C d.comms)
  others : RawsV w d.oa d.oc d.others
def SgN (s : Sg) : Prop := s.as_.length ≤ 35184372088832 ∧ ∀ z ∈ s.as_, U32 z
def RwN (r : Rw) : Prop := I64 r.kind ∧ r.data.length ≤ 140737488355328 ∧ ∀ z ∈ r.data, U8 z
structure AtN (d : At) : Prop where
  origin : I64 d.origin
  next : U32 d.next
  med : U32 d.med
  loc : U32 d.loc
  makerAS : U32 d.makerAS
  maker : U32 d.maker
  path : ∀ s ∈ d.path, SgN s
  comms : ∀ z ∈ d.comms, U32 z
  others : ∀ r ∈ d.others, RwN r
structure AtF (d : At) : Prop where
  num : AtN d
  path : d.path.length ≤ 8
  comms : d.comms.length ≤ 40
  others : d.others.length ≤ 9
structure Nf where
  origin : Int
  path : List (Bool × List Int)
  next : Int
  med : Option Int
  loc : Option Int
  atomic : Bool
  maker : Option (Int × Int)
  comms : List Int
  others : List (Int × List Int)
deriving DecidableEq
def pN (p : List Sg) : List (Bool × List Int) := p.map fun s => (s.set, s.as_)
def oN (p : List Rw) : List (Int × List Int) := p.map fun r => (r.kind, r.data)
def At.nf (d : At) : Nf := ⟨d.origin, pN d.path, d.next, if d.hasMed then some d.med else none, if d.hasLocal then some d.loc else none, d.atomic, if d.hasMaker then some (d.makerAS, d.maker) else none, d.comms, oN d.others⟩
def At.at_ (c : At) (p : List Sg) (pa : Option Addr) (pc : Nat) (q : List Int) (ca : Option Addr) (cc : Nat) (o : List Rw) (oa : Option Addr) (oc : Nat) : At := { c with path := p, pa := pa, pc := pc, comms := q, ca := ca, cc := cc, others := o, oa := oa, oc := oc }
theorem At.at_nf (c : At) (p : List Sg) (pa : Option Addr) (pc : Nat) (q : List Int) (ca : Option Addr) (cc : Nat) (o : List Rw) (oa : Option Addr) (oc : Nat) (h1 : pN p = pN c.path) (h2 : q = c.comms) (h3 : oN o = oN c.others) : (c.at_ p pa pc q ca cc o oa oc).nf = c.nf := by
  subst h2
  simp only [At.nf, At.at_, h1, h3]
  rfl
theorem pN_len {p q : List Sg} (h : pN p = pN q) : p.length = q.length := by have := congrArg List.length h; simpa [pN] using this
theorem oN_len {p q : List Rw} (h : oN p = oN q) : p.length = q.length := by have := congrArg List.length h; simpa [oN] using this
theorem pN_num {p q : List Sg} (h : pN p = pN q) (hn : ∀ s ∈ q, SgN s) : ∀ s ∈ p, SgN s := by
  intro s hs
  have : (s.set, s.as_) ∈ pN q := h ▸ List.mem_map.2 ⟨s, hs, rfl⟩
  obtain ⟨t, ht, e⟩ := List.mem_map.1 this
  have e2 : t.as_ = s.as_ := congrArg Prod.snd e
  have := hn t ht
  unfold SgN at this ⊢
  rwa [e2] at this
theorem oN_num {p q : List Rw} (h : oN p = oN q) (hn : ∀ s ∈ q, RwN s) : ∀ s ∈ p, RwN s := by
  intro s hs
  have : (s.kind, s.data) ∈ oN q := h ▸ List.mem_map.2 ⟨s, hs, rfl⟩
  obtain ⟨t, ht, e⟩ := List.mem_map.1 this
  have e1 : t.kind = s.kind := congrArg Prod.fst e
  have e2 : t.data = s.data := congrArg Prod.snd e
  have := hn t ht
  unfold RwN at this ⊢
  rwa [e1, e2] at this
theorem At.at_num {c : At} (h : AtF c) (p : List Sg) (pa : Option Addr) (pc : Nat) (q : List Int) (ca : Option Addr) (cc : Nat) (o : List Rw) (oa : Option Addr) (oc : Nat) (h1 : pN p = pN c.path) (h2 : q = c.comms) (h3 : oN o = oN c.others) : AtF (c.at_ p pa pc q ca cc o oa oc) := by
  subst h2
  exact ⟨⟨h.num.origin, h.num.next, h.num.med, h.num.loc, h.num.makerAS, h.num.maker, pN_num h1 h.num.path, h.num.comms, oN_num h3 h.num.others⟩, (pN_len h1).symm ▸ h.path, h.comms, (oN_len h3).symm ▸ h.others⟩
theorem take_snoc {α : Type} {l : List α} {k : Nat} {x : α} (h : l[k]? = some x) : l.take (k + 1) = l.take k ++ [x] := by
  rw [List.take_add_one, h]; rfl
def CopyR (d : At) (v : Value) (L' : List HP) : Prop := ∃ d', AtF d' ∧ d'.nf = d.nf ∧ v = .agg (atC d').toArray ∧ L' = [has (fun w => AtV w d')]
end Go.Proofs.YtnhabkipjmgaaaaGreat
namespace Go.Pm
set_option linter.unusedSimpArgs false
set_option linter.unusedVariables false
open Go.RowKit
section
variable {P : Program} {n : Nat} {W : World} {K : Hl} {F : Fp} {k : List It} {tm : TM} {L L' R S M C : List HP} {T : TypeId} {pos : String} {af : Array Edge} {gd : Option (Nat × Bool)} {ops : Array Oper} {rest nx : List Oper} {d : Option Tmp}
def isMapT : TypeDesc → Bool
  | .map _ _ => true
  | _ => false
theorem run_eqM {t : TypeId} (ht : tyIs P t isMapT = true) (a : Option Nat) (w : World) : (Op.equal t (.map a) (.map none)).run P w = .ok a.isNone w := by
  obtain ⟨d, hd, hf⟩ := tyIs_spec ht
  cases d <;> simp [isMapT] at hf
  have key : ∀ m, (Op.equalIn (m + 1) t (.map a) (.map none)).run P w = .ok a.isNone w := fun m => by cases a <;> simp [Op.equalIn, Sem.run_bind, run_underlying hd]
  exact key 9999
theorem pe_neM {xt yt : TypeId} {x y : Operand} {a : Option Nat} (hx : evT tm x = some (.map a)) (hy : evT tm y = some (.map none)) (ht : tyIs P xt isMapT = true) : PE P K L ⟨d, .binOp .neq xt x y yt, T, pos, af, gd⟩ (tget tm) (.bool (decide (a ≠ none))) := pe_bin hx hy fun w => by
  cases a <;> simp [eqGuard, binOp, Sem.run_bind, run_eqM ht]
end
section
variable {κ : Type} [DecidableEq κ]
theorem mi_of {P : Program} {t key elem : TypeId} {kv : κ → Value} {zv : Value} (h1 : P.underlying t = some (.map key elem)) (hk : KeyOk P key kv) (h2 : (P.info? elem).bind (·.zero) = some zv) : MI P t kv zv := by
  rcases h : P.info? elem with _ | i
  · rw [h] at h2; cases h2
  · rw [h] at h2; exact ⟨key, elem, i, h1, hk, h, h2⟩
theorem aG_none {A : List (κ × Value)} {z : κ} (h : ∀ p ∈ A, p.1 ≠ z) : aG A z = none := by
  induction A with
  | nil => rfl
  | cons p A ih =>
    obtain ⟨x, v⟩ := p
    unfold aG
    rw [if_neg (h (x, v) (List.mem_cons_self ..))]
    exact ih fun q hq => h q (List.mem_cons_of_mem _ hq)
theorem aG_mid {A B : List (κ × Value)} {z : κ} {v : Value} (h : ∀ p ∈ A, p.1 ≠ z) : aG (A ++ (z, v) :: B) z = some v := by
  induction A with
  | nil => simp [aG]
  | cons p A ih =>
    obtain ⟨x, u⟩ := p
    show (if x = z then some u else aG (A ++ (z, v) :: B) z) = _
    rw [if_neg (h (x, u) (List.mem_cons_self ..))]
    exact ih fun q hq => h q (List.mem_cons_of_mem _ hq)
theorem aD_mid {A B : List (κ × Value)} {z : κ} {v : Value} (h : ∀ p ∈ A, p.1 ≠ z) : aD (A ++ (z, v) :: B) z = A ++ B := by
  induction A with
  | nil => simp [aD]
  | cons p A ih =>
    obtain ⟨x, u⟩ := p
    show (if x = z then A ++ (z, v) :: B else (x, u) :: aD (A ++ (z, v) :: B) z) = _
    rw [if_neg (h (x, u) (List.mem_cons_self ..)), ih fun q hq => h q (List.mem_cons_of_mem _ hq)]
    rfl
theorem aP_new {A : List (κ × Value)} {z : κ} {v : Value} (h : ∀ p ∈ A, p.1 ≠ z) : aP A z v = A ++ [(z, v)] := by
  induction A with
  | nil => rfl
  | cons p A ih =>
    obtain ⟨x, u⟩ := p
    show (if x = z then (x, v) :: A else (x, u) :: aP A z v) = _
    rw [if_neg (h (x, u) (List.mem_cons_self ..)), ih fun q hq => h q (List.mem_cons_of_mem _ hq)]
    rfl
end
theorem Ow.satsMid {α : Type} {f : α → HP} {A B : List α} {m : α} {W : World} {K : Hl} {L R : List HP} {w : World} (H : Ow W K L w) (t : Tk L (sats ((A ++ m :: B).map f)) R) : Ow W K (f m :: sats ((A ++ B).map f) :: R) w := by
  have h1 := H.flat t
  rw [List.map_append, List.map_cons] at h1
  have h2 : Ow W K ((A.map f ++ B.map f) ++ (f m :: R)) w := h1.perm (by
    refine List.Perm.trans (l₂ := f m :: ((A.map f ++ B.map f) ++ R)) ?_ ?_
    · simp
    · exact (List.perm_middle (a := f m) (l₁ := A.map f ++ B.map f) (l₂ := R)).symm)
  have h3 := h2.unflat (As := A.map f ++ B.map f) (Sb.all _ _)
  rw [List.map_append]
  exact h3.perm (.swap ..)
theorem Ow.satsBack {α : Type} {f : α → HP} {A B : List α} {m : α} {W : World} {K : Hl} {L R R' : List HP} {w : World} (H : Ow W K L w) (t1 : Tk L (f m) R) (t2 : Tk R (sats ((A ++ B).map f)) R') : Ow W K (sats ((A ++ m :: B).map f) :: R') w := by
  have h0 := H.perm (t1.perm.trans ((t2.perm.cons _).trans (.swap ..)))
  have h1 := h0.flat .here
  have h2 : Ow W K ((A ++ m :: B).map f ++ R') w := h1.perm (by
    rw [List.map_append, List.map_append, List.map_cons]
    refine List.Perm.trans (List.perm_middle (a := f m) (l₁ := A.map f ++ B.map f) (l₂ := R')) ?_
    have := (List.perm_middle (a := f m) (l₁ := A.map f) (l₂ := B.map f ++ R')).symm
    simpa using this)
  exact h2.unflat (Sb.all _ _)
end Go.Pm
namespace Go.Pm
set_option linter.unusedSimpArgs false
set_option linter.unusedVariables false
open Go.RowKit
section
variable {κ : Type} [DecidableEq κ] {kv : κ → Value}
variable {P : Program} {n : Nat} {W : World} {K : Hl} {F : Fp} {k : List It} {tm : TM} {L L' R S M M' : List HP} {T : TypeId} {pos : String} {af : Array Edge} {gd : Option (Nat × Bool)} {ops : Array Oper} {rest nx : List Oper} {d : Tmp}
omit [DecidableEq κ] in
theorem Rdw.mq {b : Nat} {es : List (κ × Value)} {w : World} (h : Rdw K L w) (t : Tk L (mq kv b es) R) : ∃ q, Pm.mq kv b es q ∧ q.inn w := h.tk t
end
end Go.Pm
namespace Go.Pm
set_option linter.unusedSimpArgs false
set_option linter.unusedVariables false
open Go.RowKit Go.Shelf Go.Lib Go.Sort
theorem only_grow {w w' : World} (h : Only [] w w') : ∃ q os, w' = grow (w.drewN q) os := by
  have hd := h.tape.drawn
  refine ⟨w'.drawn - w.drawn, w'.heap.extract w.heap.size w'.heap.size, ?_⟩
  have hh : w'.heap = w.heap ++ w'.heap.extract w.heap.size w'.heap.size := by
    apply Array.ext_getElem?
    intro k
    by_cases hk : k < w.heap.size
    · rw [Array.getElem?_append_left hk, h.block k hk (by simp)]
    · rw [Array.getElem?_append_right (by omega), Array.getElem?_extract]
      have hs := h.size
      by_cases hk2 : k < w'.heap.size
      · rw [if_pos (by omega)]
        congr 1
        omega
      · rw [if_neg (by omega), Array.getElem?_eq_none (by omega)]
  obtain ⟨h1, h2, h3, h4, h5⟩ := w'
  have e2 := h.tape.tape
  have e4 := h.os
  have e5 := h.output
  dsimp only at *
  unfold grow World.drewN
  dsimp only
  subst e2 e4 e5
  rw [show w.drawn + (h3 - w.drawn) = h3 by omega, ← hh]
theorem Kn.le {K K' : Hl} {φ : World → Prop} (h : Kn K φ) (l : K.le K') : Kn K' φ := fun w i => h w (l.inn i)
theorem Ow.allLe {W : World} {K : Hl} {L : List HP} {w : World} (H : Ow W K L w) : K.le (World.all w) := fun b x e => H.kn b x e
theorem Pact.at {P : Program} {g : FuncId} {args : Array Value} {φ : World → Prop} {v : Value} (S : Pact P g args φ [] (fun u L' => u = v ∧ L' = [])) {W : World} {K : Hl} {L : List HP} {w : World} (H : Ow W K L w) (hK : Kn K φ) :
    Calls P g args w fun e w' => e = .returned v ∧ ∃ q os, w' = grow (w.drewN q) os :=
  (S w (World.all w) w (hK.le H.allLe) (Ow.start w)).mono fun e w' ⟨u, L', ⟨h1, h2⟩, h3, h4⟩ => by
    subst h1 h2
    exact ⟨h3, only_grow h4.fin⟩
theorem putCells_id (F : Array Value) (cur : List Value) (h : F.size ≤ cur.length) : putCells id 0 F cur.toArray = (F.toList ++ cur.drop F.size).toArray := by
  apply Array.ext_getElem?
  intro k
  unfold putCells
  simp only [Array.getElem?_mapIdx, List.getElem?_toArray, Nat.zero_le, true_and, Nat.zero_add, Nat.sub_zero, id]
  by_cases hk : k < F.size
  · rw [List.getElem?_append_left (by simpa using hk), List.getElem?_eq_getElem (by omega)]
    simp [hk]
  · rw [List.getElem?_append_right (by simpa using hk)]
    simp only [Array.length_toList, List.getElem?_drop]
    rw [show F.size + (k - F.size) = k by omega]
    cases cur[k]? <;> simp [hk]
theorem Ow.putRow {W : World} {K : Hl} {R : List HP} {w : World} {g m : Nat} {cur : List Value} {e : TypeId} (H : Ow W K (pts g cur e :: R) w) (F : Array Value) (hF : F.size ≤ cur.length) (os : Array Obj) : Ow W K (pts g (F.toList ++ cur.drop F.size) e :: R) (grow (Sort.putRow id (Sort.ahead w m) g 0 F) os) := by
  have hb : Blk w g cur.toArray e := H.blk .here
  have hl := hb.lt
  have hbo : w.heap[g]? = some (.cells cur.toArray e (0, 0)) := hb
  have hh : (grow (Sort.putRow id (Sort.ahead w m) g 0 F) os).heap = w.heap.modify g (onCells (putCells id 0 F)) ++ os := rfl
  refine Ow.change H rfl ⟨rfl, Nat.le_add_right _ _⟩ rfl (by rw [hh]; simp) (fun h hA hi => ?_)
  have hA' : h = Hl.one g (.cells cur.toArray e (0, 0)) := hA
  subst hA'
  refine ⟨⟨Hl.one g (.cells (F.toList ++ cur.drop F.size).toArray e (0, 0)), rfl, fun c o eo => ?_, fun c hc => .inl ?_⟩, fun c hc hn => ?_⟩
  · unfold Hl.one at eo
    split at eo
    · rename_i hcg; subst hcg; cases eo
      rw [hh, Array.getElem?_append_left (by simpa using hl), Array.getElem?_modify, if_pos rfl, hbo]
      simp only [Option.map_some, onCells, putCells_id F cur hF]
    · cases eo
  · unfold Hl.one at hc ⊢
    split at hc <;> simp_all
  · have hcg : g ≠ c := fun e => by subst e; simp [Hl.one] at hn
    rw [hh, Array.getElem?_append_left (by simpa using hc), Array.getElem?_modify, if_neg hcg]
section
variable {P : Program} {ρ : Ren}
end
end Go.Pm
namespace Go.Pm
set_option linter.unusedSimpArgs false
set_option linter.unusedVariables false
open Go.RowKit Go.Shelf Go.Lib Go.Sort
theorem flatK_flat {α : Type} [Inhabited α] (enc : α → List Value) (k : Nat) (hk : ∀ x, (enc x).length = k) (l : List α) : (flatK enc k l.toArray).toList = flat enc l := by
  apply List.ext_getElem?
  intro t
  have hfl := flat_length hk l
  by_cases ht : t < l.length * k
  · have hk0 : 0 < k := by
      rcases Nat.eq_zero_or_pos k with h | h
      · subst h; simp at ht
      · exact h
    have hq : t / k < l.length := (Nat.div_lt_iff_lt_mul hk0).2 ht
    have hr : t % k < k := Nat.mod_lt _ hk0
    have e1 : (flatK enc k l.toArray).toList[t]? = some (flatK enc k l.toArray)[t]! := by
      rw [Array.getElem?_toList, Array.getElem?_eq_getElem (by simpa using ht), getElem!_pos (flatK enc k l.toArray) t (by simpa using ht)]
    rw [e1, get_flatK _ _ _ _ (by simpa using ht)]
    have e2 : l.toArray[t / k]! = l[t / k] := by rw [getElem!_pos l.toArray (t / k) (by simpa using hq)]; simp
    rw [e2]
    have e3 : (flat enc l)[t]? = some ((enc l[t / k])[t % k]!) := by
      have h1 : l = l.take (t / k) ++ l[t / k] :: l.drop (t / k + 1) := by rw [List.getElem_cons_drop]; exact (List.take_append_drop _ _).symm
      have h2 : flat enc l = flat enc (l.take (t / k)) ++ (enc l[t / k] ++ flat enc (l.drop (t / k + 1))) := by
        conv => lhs; rw [h1]
        rw [flat_append]
        rfl
      have h3 : (flat enc (l.take (t / k))).length = t / k * k := by rw [flat_length hk, List.length_take]; congr 1; omega
      have h4 : t = t / k * k + t % k := by have := Nat.div_add_mod t k; rw [Nat.mul_comm] at this; exact this.symm
      have h5 : t - t / k * k = t % k := by omega
      rw [h2, List.getElem?_append_right (by omega), h3, h5, List.getElem?_append_left (by rw [hk]; exact hr), List.getElem?_eq_getElem (by rw [hk]; exact hr), getElem!_pos (enc l[t / k]) (t % k) (by rw [hk]; exact hr)]
    exact e3.symm
  · rw [List.getElem?_eq_none (by rw [Array.length_toList, size_flatK]; simp; omega), List.getElem?_eq_none (by rw [hfl]; omega)]
section
variable {P : Program} {ρ : Ren} {α : Type} [Inhabited α]
theorem sortS (L : Go.Proofs.SlLaysF0.n6 P ρ) (k : Nat) (hk0 : 0 < k) (aE : ∀ w, (isAgg (ρ.t 24)).run P w = .ok true w) (zE : ∀ w, (Go.sizeOf (ρ.t 24)).run P w = .ok k w) (e : TypeId) (enc : α → List Value) (hk : ∀ x, (enc x).length = k) (h1 : ∀ x, ∀ v ∈ enc x, v.oneCell' = true) (cf : α → α → Int) (hO : SWO (Go.Proofs.ltOf cf)) (hT : ∀ x y, (Go.Proofs.ltOf cf) x y = false → (Go.Proofs.ltOf cf) y x = false → x = y) (g : Nat) (cb : Array Value) (hown : ownB P g = true) {φ : World → Prop}
    (hc : ∀ x y, Pact P g (#[.agg (enc x).toArray, .agg (enc y).toArray] ++ cb) φ [] (fun u L' => u = .int .i64 (cf x y) ∧ L' = [])) (a : Option Addr) (c : Nat) (l : List α) (hl : l.length < 4611686018427387904) :
    Pact P (ρ.f 6) #[.slice a l.length c, .func (.func g) #[] cb] φ [Ar e k enc (.slice a l.length c) l] (fun u L' => u = .tuple #[] ∧ L' = [Ar e k enc (.slice a l.length c) (l.mergeSort fun x y => !(Go.Proofs.ltOf cf) y x)]) := by
  intro W K w hK H
  by_cases h0 : l.length = 0
  · have hl0 := List.eq_nil_of_length_eq_zero h0
    subst hl0
    exact (Go.Proofs.AnyF.slices_SortFunc_none L a c _ w).mono fun e' w' ⟨h1, h2⟩ => by
      subst h2
      exact ⟨_, _, ⟨rfl, rfl⟩, h1, by simpa using H⟩
  · obtain ⟨gb, cur, rfl, H1, hcl, hct, hnc, hcm⟩ := H.slOpen (R := []) (by exact .here) h0
    have hflat := flatK_flat enc k hk l
    have hfs : (flatK enc k l.toArray).size = l.length * k := by simp
    have hH : HoldsK enc k w gb 0 l.toArray := fun j hj => by
      have hj' : j < l.length * k := by simpa using hj
      have hb : Blk w gb cur.toArray e := H1.blk .here
      have hg : cur[j]? = some (flatK enc k l.toArray)[j]! := by
        have h2 := congrArg (·[j]?) hct
        simp only [List.getElem?_take] at h2
        rw [if_pos hj'] at h2
        rw [h2, ← hflat, Array.getElem?_toList, Array.getElem?_eq_getElem hj, getElem!_pos (flatK enc k l.toArray) j hj]
      refine ⟨?_, ?_⟩
      · rw [Nat.zero_add]
        exact (hb.cell j).trans (by simpa using hg)
      · exact hb.free _
    have hlt : gb < w.heap.size := (H1.blk .here : Blk w gb cur.toArray e).lt
    have hbd : l.length * k ≤ cur.length := by rw [hcl]; exact Nat.mul_le_mul_right _ hnc
    have hcmp : Go.Proofs.CmpLays P g cb enc k cf gb 0 l.toArray.size w := fun m os dk hs x y => by
      have H2 := Ow.putRow (m := m) H1 (flatK enc k dk) (by simp at hs ⊢; rw [hs]; exact hbd) os
      exact Pact.at (hc x y) H2 hK
    have hcall := Go.Proofs.AnyQ.slices_SortFunc_total L k aE zE enc hk h1 cf hO g cb gb 0 c l.toArray w (fun args w => run_own hown args w) hcmp hH hlt (by simpa using hl) hT
    have e1 : l.toArray.size = l.length := by simp
    rw [e1] at hcall
    refine hcall.mono fun e' w' ⟨h1, n, os, h2⟩ => ?_
    refine ⟨_, _, ⟨rfl, rfl⟩, h1, ?_⟩
    rw [h2]
    have hms : (l.mergeSort fun x y => !(Go.Proofs.ltOf cf) y x).length = l.length := List.length_mergeSort _
    have H2 := Ow.putRow (m := n) H1 (flatK enc k (l.mergeSort fun x y => !(Go.Proofs.ltOf cf) y x).toArray) (by simp; exact hbd) os
    show Ow W K (Sl e k _ _ _ :: []) _
    rw [hms]
    have hfl2 := flatK_flat enc k hk (l.mergeSort fun x y => !(Go.Proofs.ltOf cf) y x)
    refine Ow.slShut H2 .here ?_ ?_ hnc hcm
    · simp; omega
    · rw [hfl2]
      have hlen : (flat enc (l.mergeSort fun x y => !(Go.Proofs.ltOf cf) y x)).length = l.length * k := by rw [flat_length hk, hms]
      rw [List.take_append_of_le_length (by omega), List.take_of_length_le (by omega)]
end
end Go.Pm
