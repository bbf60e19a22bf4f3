/-
  Maps with keys of any plain kind (numbers, strings): look, put, delete, how many.
-/
import Derived.Test.YtohahlcjkhgimaaJm
import Derived.Test.YtohahlcjkhgimaaJo
namespace Go.Pm
set_option linter.unusedSimpArgs false
set_option linter.unusedVariables false
open Go.RowKit

theorem beqBA (a b : ByteArray) : (a == b) = decide (a = b) := by
  show ByteArray.beq a b = _
  cases a with | mk x => cases b with | mk y =>
    rw [Bool.eq_iff_iff]
    simp [ByteArray.beq]
section
variable {κ : Type} [DecidableEq κ]
/-- Keys that are plain. -/
def KeyOk (P : Program) (key : TypeId) (kv : κ → Value) : Prop := ∃ kd, P.underlying key = some kd ∧ (∀ a b : κ, Instr.sameNow kd (kv a) (kv b) = some (decide (a = b))) ∧ (∀ e (a : κ) w, (Instr.checkKey e 10000 key (kv a)).run P w = .ok () w) ∧ ∀ a : κ, Instr.sameBits 10000 (kv a) (kv a) = true
/-- A map's type: its keys, its elements' zero. -/
def MI (P : Program) (t : TypeId) (kv : κ → Value) (zv : Value) : Prop := ∃ key elem i, P.underlying t = some (.map key elem) ∧ KeyOk P key kv ∧ P.info? elem = some i ∧ i.zero = some zv
/-- Each entry of a map has a stamp of its own, elder than the map's clock. -/
structure Born (ents : List MapEntry) (clock : Nat) : Prop where
  lt : ∀ e ∈ ents, e.born < clock
  ne : ents.Pairwise (fun a b => a.born ≠ b.born)
/-- A map of the call's own. -/
def mq (kv : κ → Value) (b : Nat) (es : List (κ × Value)) : HP := fun h => ∃ ents clock, h = Hl.one b (.map ents clock) ∧ ents.toList.map (fun e => (e.key, e.val)) = es.map (fun p => (kv p.1, p.2)) ∧ Born ents.toList clock
def aG : List (κ × Value) → κ → Option Value
  | [], _ => none
  | (x, v) :: r, z => if x = z then some v else aG r z
def aP : List (κ × Value) → κ → Value → List (κ × Value)
  | [], z, v => [(z, v)]
  | (x, u) :: r, z, v => if x = z then (x, v) :: r else (x, u) :: aP r z v
def aD : List (κ × Value) → κ → List (κ × Value)
  | [], _ => []
  | (x, u) :: r, z => if x = z then r else (x, u) :: aD r z
end
theorem keyOkS {P : Program} {key : TypeId} (h : P.underlying key = some .string) : KeyOk P key Value.string := by
  refine ⟨_, h, fun a b => ?_, fun e a w => ?_, fun a => ?_⟩
  · simp only [Instr.sameNow, beqBA]
  · have : ∀ m, (Instr.checkKey e (m + 1) key (.string a)).run P w = .ok () w := fun m => by
      unfold Instr.checkKey
      simp [Sem.run_bind, run_underlying h]
    exact this 9999
  · have : ∀ m, Instr.sameBits m (.string a) (.string a) = true := fun m => by cases m <;> simp [Instr.sameBits, beqBA]
    exact this _
theorem keyOkI {P : Program} {key : TypeId} {k : IntKind} (h : P.underlying key = some (.int k)) : KeyOk P key (Value.int k) := by
  refine ⟨_, h, fun a b => ?_, fun e a w => run_checkKey h e a w, fun a => ?_⟩
  · simp only [Instr.sameNow, if_pos]
    congr 1
  · have : ∀ m, Instr.sameBits m (.int k a) (.int k a) = true := fun m => by cases m <;> simp [Instr.sameBits]
    exact this _
section
variable {κ : Type} [DecidableEq κ] {kv : κ → Value}
variable {P : Program} {n : Nat} {W : World} {K : Hl} {F : Fp} {k : List It} {tm : TM} {L L' R S M M' : List HP} {T : TypeId} {pos : String} {af : Array Edge} {gd : Option (Nat × Bool)} {ops : Array Oper} {rest nx : List Oper} {d : Tmp}
theorem findNow_aG {kd : TypeDesc} (hs : ∀ a b : κ, Instr.sameNow kd (kv a) (kv b) = some (decide (a = b))) (z : κ) : ∀ (ents : List MapEntry) (es : List (κ × Value)) (i : Nat), ents.map (fun e => (e.key, e.val)) = es.map (fun p => (kv p.1, p.2)) →
    (aG es z = none ∧ Instr.findNow kd (kv z) ents i = some none ∧ aD es z = es) ∨ (∃ j v, aG es z = some v ∧ Instr.findNow kd (kv z) ents i = some (some (i + j, v)) ∧ j < ents.length ∧ (ents[j]?).map (·.key) = some (kv z) ∧ es.length = ents.length ∧ (∀ u, aP es z u = es.set j (z, u)) ∧ aD es z = es.eraseIdx j)
  | [], [], i, _ => .inl ⟨rfl, rfl, rfl⟩
  | [], p :: _, _, h => by simp at h
  | e :: ents, [], _, h => by simp at h
  | e :: ents, (x, v) :: es, i, h => by
    simp only [List.map_cons, List.cons.injEq, Prod.mk.injEq] at h
    obtain ⟨⟨h1, h2⟩, h3⟩ := h
    have hlen : es.length = ents.length := by have := congrArg List.length h3; simpa using this.symm
    by_cases hx : x = z
    · subst hx
      refine .inr ⟨0, v, by simp [aG], ?_, by simp, by simp [h1], by simp [hlen], fun u => by simp [aP], by simp [aD]⟩
      simp [Instr.findNow, h1, h2, hs]
    · have hstep : Instr.findNow kd (kv z) (e :: ents) i = Instr.findNow kd (kv z) ents (i + 1) := by
        simp [Instr.findNow, h1, hs, Ne.symm hx]
      rw [hstep]
      rcases findNow_aG hs z ents es (i + 1) h3 with ⟨a, b, c⟩ | ⟨j, u, a, b, c, d, e, f, g⟩
      · exact .inl ⟨by simp [aG, hx, a], b, by simp [aD, hx, c]⟩
      · refine .inr ⟨j + 1, u, by simp [aG, hx, a], by rw [b]; congr 3; omega, by simp [c], by simpa using d, by simp [hlen], fun w => ?_, ?_⟩
        · simp [aP, hx, f w]
        · simp [aD, hx, g]
omit [DecidableEq κ] in
theorem mq_obj {h : Hl} {b : Nat} {es : List (κ × Value)} (hm : mq kv b es h) {w : World} (i : h.inn w) : ∃ ents clock, w.heap[b]? = some (.map ents clock) ∧ ents.toList.map (fun e => (e.key, e.val)) = es.map (fun p => (kv p.1, p.2)) ∧ Born ents.toList clock := by
  obtain ⟨ents, clock, rfl, he, hb⟩ := hm
  exact ⟨ents, clock, i b _ (by simp [Hl.one]), he, hb⟩
omit [DecidableEq κ] in
theorem run_findKeyG {key : TypeId} {kd : TypeDesc} (hk : P.underlying key = some kd) {z : κ} {es : List MapEntry} {r : Option (Nat × Value)} (h : Instr.findNow kd (kv z) es 0 = some r) (w : World) : (Instr.findKey key (kv z) es).run P w = .ok r w := by
  simp [Instr.findKey, Sem.run_bind, run_underlying hk, h]
theorem pe_lookG {od : Option Tmp} {t : TypeId} {x y : Operand} {b : Nat} {z : κ} {es : List (κ × Value)} {zv : Value} {ok : Bool} {v : Value} (ht : MI P t kv zv) (hx : evT tm x = some (.map (some b))) (hy : evT tm y = some (kv z)) (hm : Tk L (mq kv b es) R) (hq : lookV (aG es z) zv ok = v) : PE P K L ⟨od, .lookup t x y ok, T, pos, af, gd⟩ (tget tm) v := fun ρ w ha hr => by
  subst hq
  have h1 := ha x (by simp [Op.operands]) _ hx
  have h2 := ha y (by simp [Op.operands]) _ hy
  obtain ⟨key, elem, i, hu, ⟨kd, hk, hs, hck, _⟩, hi, hz⟩ := ht
  obtain ⟨q, hq, hin⟩ := hr.tk hm
  obtain ⟨ents, clock, ho, he, hbo⟩ := mq_obj hq hin
  unfold execOp
  simp only [h1, h2]
  rcases findNow_aG hs z ents.toList es 0 he with ⟨e1, e2, _⟩ | ⟨j, v', e1, e2, _⟩
  · simp only [Instr.lookup, Sem.run_bind, run_underlying hu, Result.andThen_ok, run_getObj ho, Sem.run_pure, hck, run_findKeyG hk e2, zeroValue, typeInfo, e1, lookV]
    cases ok <;> simp [hi, hz]
  · simp only [Instr.lookup, Sem.run_bind, run_underlying hu, Result.andThen_ok, run_getObj ho, Sem.run_pure, hck, run_findKeyG hk e2, e1, lookV]
    cases ok <;> simp
theorem pe_lenG {od : Option Tmp} {t : TypeId} {x : Operand} {b N : Nat} {es : List (κ × Value)} {zv : Value} (ht : MI P t kv zv) (hx : evT tm x = some (.map (some b))) (hm : Tk L (mq kv b es) R) (hN : es.length = N) : PE P K L ⟨od, .call ⟨.builtin .len, #[x], #[t]⟩, T, pos, af, gd⟩ (tget tm) (.int .i64 N) := pe_call (vs := [.map (some b)]) (by simp [hx]) fun w hr cs => by
  subst hN
  obtain ⟨key, elem, i, hu, _⟩ := ht
  obtain ⟨q, hq, hin⟩ := hr.tk hm
  obtain ⟨ents, clock, ho, he, hbo⟩ := mq_obj hq hin
  have hl : ents.size = es.length := by have := congrArg List.length he; simpa using this
  simp [builtin, Builtin.len_, Sem.run_bind, run_underlying hu, run_getObj ho, hl]
  rfl
omit [DecidableEq κ] in
theorem mq_change {W : World} {K' : Hl} {w : World} {b : Nat} {es es' : List (κ × Value)} {ents ents' : Array MapEntry} {clock clock' : Nat} (hO : Ow W K' (mq kv b es :: R) w) (ho : w.heap[b]? = some (.map ents clock)) (he' : ents'.toList.map (fun e => (e.key, e.val)) = es'.map (fun p => (kv p.1, p.2))) (hb' : Born ents'.toList clock') : Ow W K' (mq kv b es' :: R) { w with heap := w.heap.setIfInBounds b (.map ents' clock') } := by
  refine Ow.change hO rfl ((Tp.refl _).same rfl rfl) rfl (by simp) (fun h hh ih => ?_)
  obtain ⟨en, cl, rfl, _, _⟩ := hh
  have hlt : b < w.heap.size := (Array.getElem?_eq_some_iff.1 ho).1
  refine ⟨⟨Hl.one b (.map ents' clock'), ⟨ents', clock', rfl, he', hb'⟩, fun c o e => ?_, fun c hc => ?_⟩, fun c hl hc => ?_⟩
  · unfold Hl.one at e
    split at e
    · rename_i hcb; subst hcb; cases e
      simp [Array.getElem?_setIfInBounds, hlt]
    · cases e
  · left
    unfold Hl.one at hc ⊢
    split at hc <;> simp_all
  · have hcb : b ≠ c := fun e => by subst e; simp [Hl.one] at hc
    simp [Array.getElem?_setIfInBounds, hcb]
theorem born_set {ents : Array MapEntry} {clock : Nat} (hb : Born ents.toList clock) {o : Option (Option (Nat × Value))} {z v : Value} : Born (match o with | some (some (j, _)) => ents.modify j fun e => { e with key := z, val := v } | _ => ents.push { key := z, val := v, born := clock }).toList (match o with | some (some _) => clock | _ => clock + 1) := by
  have push : Born (ents.push { key := z, val := v, born := clock }).toList (clock + 1) := by
    refine ⟨fun e he => ?_, ?_⟩
    · rw [Array.toList_push] at he
      rcases List.mem_append.1 he with he | he
      · have := hb.lt e he; omega
      · obtain rfl := List.mem_singleton.1 he; exact Nat.lt_succ_self _
    · rw [Array.toList_push]
      refine List.pairwise_append.2 ⟨hb.ne, List.pairwise_singleton _ _, fun a ha b hb' => ?_⟩
      obtain rfl := List.mem_singleton.1 hb'
      have := hb.lt a ha
      dsimp only
      omega
  match o with
  | none => exact push
  | some none => exact push
  | some (some (j, _)) =>
    have hm : (ents.modify j fun e => { e with key := z, val := v }).toList.map (·.born) = ents.toList.map (·.born) := by
      apply List.ext_getElem?
      intro q
      simp only [List.getElem?_map, Array.getElem?_toList, Array.getElem?_modify]
      split
      · cases ents[q]? <;> rfl
      · rfl
    dsimp only
    refine ⟨fun e he => ?_, ?_⟩
    · have h1 : e.born ∈ (ents.modify j fun e => { e with key := z, val := v }).toList.map (·.born) := List.mem_map.2 ⟨e, he, rfl⟩
      rw [hm] at h1
      obtain ⟨e', he', h2⟩ := List.mem_map.1 h1
      rw [← h2]; exact hb.lt e' he'
    · have h1 : (ents.toList.map (·.born)).Pairwise (· ≠ ·) := List.pairwise_map.2 hb.ne
      rw [← hm] at h1
      exact List.pairwise_map.1 h1
theorem born_del {ents : Array MapEntry} {clock : Nat} (hb : Born ents.toList clock) {o : Option (Option (Nat × Value))} : Born (match o with | some (some (j, _)) => ents.eraseIdxIfInBounds j | _ => ents).toList clock := by
  match o with
  | none => exact hb
  | some none => exact hb
  | some (some (j, _)) =>
    dsimp only
    have hs : ((ents.eraseIdxIfInBounds j).toList).Sublist ents.toList := by
      unfold Array.eraseIdxIfInBounds
      split
      · simp only [Array.toList_eraseIdx]
        exact List.eraseIdx_sublist ..
      · exact List.Sublist.refl _
    exact ⟨fun e he => hb.lt e (hs.subset he), hb.ne.sublist hs⟩
theorem ae_setG {od : Option Tmp} {t : TypeId} {x y u : Operand} {b : Nat} {z : κ} {es : List (κ × Value)} {zv v : Value} (ht : MI P t kv zv) (hx : evT tm x = some (.map (some b))) (hy : evT tm y = some (kv z)) (hv : evT tm u = some v) :
    AE P n K R [mq kv b es] ⟨od, .mapUpdate t x y u, T, pos, af, gd⟩ (tget tm) (one undef [mq kv b (aP es z v)]) := fun W K' w a next hK hf hO hn => by
  obtain ⟨key, elem, i, hu, ⟨kd, hk, hs, hck, hsb⟩, hi, hz⟩ := ht
  obtain ⟨q, hq, hin⟩ := hO.part
  obtain ⟨ents, clock, ho, he, hbo⟩ := mq_obj hq hin
  refine wp_done (w' := { w with heap := w.heap.setIfInBounds b (.map (match Instr.findNow kd (kv z) ents.toList 0 with | some (some (j, _)) => ents.modify j fun e => { e with key := kv z, val := v } | _ => ents.push { key := kv z, val := v, born := clock }) (match Instr.findNow kd (kv z) ents.toList 0 with | some (some _) => clock | _ => clock + 1)) }) ?_ (hn undef _ _ ⟨rfl, rfl⟩ (mq_change hO ho ?_ ?_))
  · unfold execOp
    simp only [hf.eval hx, hf.eval hy, hf.eval hv]
    rcases findNow_aG hs z ents.toList es 0 he with ⟨e1, e2, _⟩ | ⟨j, u', e1, e2, e3, e4, _⟩
    · simp only [Instr.mapUpdate, Sem.run_bind, run_underlying hu, Result.andThen_ok, run_getObj ho, hck, run_findKeyG hk e2, e2]
      simp [setObj, Sem.run, ho]
    · have hold : ((ents[0 + j]?).map (·.key)).getD (kv z) = kv z := by
        rw [Nat.zero_add]
        have : (ents[j]?).map (·.key) = some (kv z) := by simpa using e4
        rw [this]; rfl
      have hsame : (Instr.keyThatStays (kv z) (kv z)).run P w = .ok (kv z) w := by
        simp [Instr.keyThatStays, hsb]
      simp only [Instr.mapUpdate, Sem.run_bind, run_underlying hu, Result.andThen_ok, run_getObj ho, hck, run_findKeyG hk e2, e2, hold, hsame]
      simp [setObj, Sem.run, ho]
  · rcases findNow_aG hs z ents.toList es 0 he with ⟨e1, e2, _⟩ | ⟨j, u', e1, e2, e3, e4, e6, e5, _⟩
    · rw [e2]
      have : ∀ (l : List (κ × Value)), aG l z = none → aP l z v = l ++ [(z, v)] := by
        intro l
        induction l with
        | nil => intro _; rfl
        | cons p l ih =>
          intro h
          obtain ⟨x, u⟩ := p
          simp only [aG] at h
          split at h
          · cases h
          · rename_i hx; simp [aP, hx, ih h]
      rw [this es e1]
      simp [he]
    · rw [e2]
      dsimp only
      rw [Nat.zero_add, e5 v]
      apply List.ext_getElem?
      intro q
      have hq2 := congrArg (·[q]?) he
      simp only [List.getElem?_map] at hq2
      simp only [List.getElem?_map, Array.getElem?_toList, Array.getElem?_modify, List.getElem?_set]
      by_cases hjq : j = q
      · subst hjq
        have e6 : j < es.length := by rw [e6]; exact e3
        simp only [if_pos rfl, if_pos e6]
        have : j < ents.size := by simpa using e3
        simp [Array.getElem?_eq_getElem this]
      · rw [if_neg hjq, if_neg hjq]
        simpa using hq2
  · exact born_set hbo
theorem ae_delG {od : Option Tmp} {t : TypeId} {x y : Operand} {ts : Array TypeId} {b : Nat} {z : κ} {es : List (κ × Value)} {zv : Value} (ht : MI P t kv zv) (h0 : ts[0]? = some t) (hx : evT tm x = some (.map (some b))) (hy : evT tm y = some (kv z)) :
    AE P n K R [mq kv b es] ⟨od, .call ⟨.builtin .delete, #[x, y], ts⟩, T, pos, af, gd⟩ (tget tm) (one (.tuple #[]) [mq kv b (aD es z)]) := fun W K' w a next hK hf hO hn => by
  obtain ⟨key, elem, i, hu, ⟨kd, hk, hs, hck, hsb⟩, hi, hz⟩ := ht
  obtain ⟨q, hq, hin⟩ := hO.part
  obtain ⟨ents, clock, ho, he, hbo⟩ := mq_obj hq hin
  have hr : (Builtin.delete_ ts T #[.map (some b), kv z]).run P w = .ok (.tuple #[]) { w with heap := w.heap.setIfInBounds b (.map (match Instr.findNow kd (kv z) ents.toList 0 with | some (some (j, _)) => ents.eraseIdxIfInBounds j | _ => ents) clock) } := by
    rcases findNow_aG hs z ents.toList es 0 he with ⟨e1, e2, _⟩ | ⟨j, u', e1, e2, e3, e4, _⟩
    · simp [Builtin.delete_, h0, Sem.run_bind, run_underlying hu, run_getObj ho, hck, run_findKeyG hk e2, e2, setObj, Sem.run, ho]
    · simp [Builtin.delete_, h0, Sem.run_bind, run_underlying hu, run_getObj ho, hck, run_findKeyG hk e2, e2, setObj, Sem.run, ho]
  refine wpI_of_wp ?_
  unfold Oper.wp execOp
  simp only [resolve, invoke, builtin, Sem.run_bind, Sem.run_pure, Result.andThen_ok, List.map_toArray, List.map_cons, List.map_nil, hf.eval hx, hf.eval hy, hr]
  refine hn (.tuple #[]) _ _ ⟨rfl, rfl⟩ (mq_change hO ho ?_ (born_del hbo))
  rcases findNow_aG hs z ents.toList es 0 he with ⟨e1, e2, e3⟩ | ⟨j, u', e1, e2, e3, e4, e6, e5, e7⟩
  · rw [e2, e3]
    exact he
  · rw [e2, e7]
    dsimp only
    rw [Nat.zero_add]
    have h8 : (ents.eraseIdxIfInBounds j).toList = ents.toList.eraseIdx j := by
      unfold Array.eraseIdxIfInBounds
      rw [dif_pos (by simpa using e3)]
      simp
    have h9 : ∀ {α β : Type} (f : α → β) (l : List α) (j : Nat), (l.eraseIdx j).map f = (l.map f).eraseIdx j := by
      intro α β f l
      induction l with
      | nil => intro j; simp
      | cons x l ih => intro j; cases j <;> simp [ih]
    rw [h8, h9, h9, he]
omit [DecidableEq κ] in
theorem JL_mmG {t : TypeId} (kv : κ → Value) (hn : Nat.blt d n = true) (hg : wantF ops ⟨some d, .makeMap t none, T, pos, af, gd⟩ (tget tm) = some true) (h : ∀ b, JL P n W K F ops k rest ((d, .map (some b)) :: tm) (mq kv b [] :: L)) : JL P n W K F ops k (⟨some d, .makeMap t none, T, pos, af, gd⟩ :: rest) tm L :=
  JL_m rfl hn hg al_mapNew fun b => JL_heap (fun w H => H.imp fun q hq => ⟨#[], 0, hq, rfl, by simp, by simp⟩) (h b)
theorem JL_setG {t : TypeId} {x y u : Operand} {b : Nat} {z : κ} {es : List (κ × Value)} {zv v : Value} (ht : MI P t kv zv) (hx : evT tm x = some (.map (some b))) (hy : evT tm y = some (kv z)) (hv : evT tm u = some v) (hm : Tk L (mq kv b es) R) (hg : wantF ops ⟨none, .mapUpdate t x y u, T, pos, af, gd⟩ (tget tm) = some true)
    (h : JL P n W K F ops k rest tm (mq kv b (aP es z v) :: R)) : JL P n W K F ops k (⟨none, .mapUpdate t x y u, T, pos, af, gd⟩ :: rest) tm L :=
  JL_a0 rfl hg (.cons hm .nil) (ae_setG ht hx hy hv) (by rintro _ _ ⟨rfl, rfl⟩; exact h)
theorem JD_setG {t : TypeId} {x y u : Operand} {b : Nat} {z : κ} {es : List (κ × Value)} {zv v : Value} (ht : MI P t kv zv) (hx : evT tm x = some (.map (some b))) (hy : evT tm y = some (kv z)) (hv : evT tm u = some v) (hm : Tk M (mq kv b es) R) (hg : wantF ops ⟨none, .mapUpdate t x y u, T, pos, af, gd⟩ (tget tm) = some true)
    (h : JD P n W K F ops k nx rest tm S (mq kv b (aP es z v) :: R)) : JD P n W K F ops k nx (⟨none, .mapUpdate t x y u, T, pos, af, gd⟩ :: rest) tm S M :=
  JD_a0 rfl hg rfl (.cons hm .nil) (ae_setG ht hx hy hv) (by rintro _ _ ⟨rfl, rfl⟩; exact h)
theorem JL_delG {t : TypeId} {x y : Operand} {ts : Array TypeId} {b : Nat} {z : κ} {es : List (κ × Value)} {zv : Value} (ht : MI P t kv zv) (hx : evT tm x = some (.map (some b))) (hy : evT tm y = some (kv z)) (h0 : ts[0]? = some t) (hm : Tk L (mq kv b es) R) (hg : wantF ops ⟨none, .call ⟨.builtin .delete, #[x, y], ts⟩, T, pos, af, gd⟩ (tget tm) = some true)
    (h : JL P n W K F ops k rest tm (mq kv b (aD es z) :: R)) : JL P n W K F ops k (⟨none, .call ⟨.builtin .delete, #[x, y], ts⟩, T, pos, af, gd⟩ :: rest) tm L :=
  JL_a0 rfl hg (.cons hm .nil) (ae_delG ht h0 hx hy) (by rintro _ _ ⟨rfl, rfl⟩; exact h)
theorem JD_delG {t : TypeId} {x y : Operand} {ts : Array TypeId} {b : Nat} {z : κ} {es : List (κ × Value)} {zv : Value} (ht : MI P t kv zv) (hx : evT tm x = some (.map (some b))) (hy : evT tm y = some (kv z)) (h0 : ts[0]? = some t) (hm : Tk M (mq kv b es) R) (hg : wantF ops ⟨none, .call ⟨.builtin .delete, #[x, y], ts⟩, T, pos, af, gd⟩ (tget tm) = some true)
    (h : JD P n W K F ops k nx rest tm S (mq kv b (aD es z) :: R)) : JD P n W K F ops k nx (⟨none, .call ⟨.builtin .delete, #[x, y], ts⟩, T, pos, af, gd⟩ :: rest) tm S M :=
  JD_a0 rfl hg rfl (.cons hm .nil) (ae_delG ht h0 hx hy) (by rintro _ _ ⟨rfl, rfl⟩; exact h)
end
end Go.Pm
