/-
  Jk, Jm, Jn, Jr, Jo, Jq: merged.
-/
import Derived.Test.YtnhabkipjmgaaaaGreatZRibLimit3
import Derived.Laws.StructEq
namespace Go.Pm
set_option linter.unusedSimpArgs false
set_option linter.unusedVariables false
open Go.RowKit

section
variable {P : Program} {n : Nat} {W : World} {K : Hl} {F : Fp} {k : List It} {tm : TM} {L L' R S M : List HP} {T : TypeId} {pos : String} {af : Array Edge} {gd : Option (Nat × Bool)} {ops : Array Oper} {rest nx : List Oper} {d : Tmp}
variable {α : Type} {enc : α → List Value} {e : TypeId} {sz : Nat} {a : Option Addr} {m c : Nat} {es : List α} {w : World}

theorem Rdw.cell {b i : Nat} {cs : List Value} {v : Value} (h : Rdw K L w) (t : Tk L (pts b cs T) R) (hv : cs[i]? = some v) : w.cell? ⟨b, i, none⟩ = some v := by
  rw [(h.blk t).cell]; simpa using hv
theorem flat_take (hl : ∀ x, (enc x).length = sz) (es : List α) (j : Nat) (hj : j ≤ es.length) : (flat enc es).take (j * sz) = flat enc (es.take j) := by
  have h1 : flat enc es = flat enc (es.take j) ++ flat enc (es.drop j) := by rw [← flat_append, List.take_append_drop]
  rw [h1, List.take_append_of_le_length (by rw [flat_length hl]; simp [Nat.min_eq_left hj]), List.take_of_length_le (by rw [flat_length hl]; simp [Nat.min_eq_left hj])]

theorem Ow.arShape (H : Ow W K L w) (h : Tk L (Ar e sz enc (.slice a m c) es) R) : m = es.length ∧ m ≤ c ∧ c ≤ maxLen := by
  obtain ⟨_, a', c', he, h1, h2⟩ := Ow.slShape H h
  injection he with h3 h4 h5
  subst h4 h5
  exact ⟨rfl, h1, h2⟩
/-- The first j elements alone. -/
theorem Ow.arTake (H : Ow W K L w) (h : Tk L (Ar e sz enc (.slice a m c) es) R) (hl : ∀ x, (enc x).length = sz) (j : Nat) (hj : j ≤ es.length) : Ow W K (Ar e sz enc (.slice a j c) (es.take j) :: R) w := by
  obtain ⟨hm, hmc, hcm⟩ := H.arShape h
  refine (H.tk h).imp fun q hq => ?_
  have hlen : (es.take j).length = j := by simp; omega
  obtain ⟨h1, h2⟩ := hq
  show Sl e sz _ (es.take j).length _ q
  rw [hlen]
  refine ⟨by rw [flat_length hl, hlen], ?_⟩
  rcases h2 with ⟨h2, h3, h4⟩ | ⟨g, cap, cur, h2, h3, h4, h5, h6, h7⟩
  · injection h2 with h8 h9 h10
    subst h8 h10
    left
    have : j = 0 := by omega
    subst this
    exact ⟨rfl, rfl, h4⟩
  · injection h2 with h8 h9 h10
    subst h8 h10
    refine .inr ⟨g, c, cur, rfl, by omega, hcm, h5, ?_, h7⟩
    have h8 : cur.toList.take (j * sz) = (cur.toList.take (es.length * sz)).take (j * sz) := by
      rw [List.take_take, Nat.min_eq_left (Nat.mul_le_mul_right _ hj)]
    rw [h8, h6]
    exact flat_take hl es j hj

/-- What a slice expression from l on hands out, of a slice with elements behind l. -/
theorem slA_lt {b o l : Nat} (h : l < c) : slA (some ⟨b, o, none⟩) c l sz = some ⟨b, o + l * sz, none⟩ := by
  unfold slA
  rw [if_neg (by omega)]
  simp [addr_add_plain]

theorem ae_clear {od : Option Tmp} {t : TypeId} {x : Operand} {l b' q q' : Nat} {z : α} (hi : elemInfo P t = some (e, sz, b')) (hx : evT tm x = some (.slice (slA a c l sz) q q')) (hz : enc z = zeroC P e) (hz0 : zeroC P e ≠ []) (h1 : (zeroC P e).all (·.oneCell') = true) (hl : ∀ x, (enc x).length = sz) (hq : l + q = es.length) :
    AE P n K R [Ar e sz enc (.slice a m c) es] ⟨od, .call ⟨.builtin .clear, #[x], #[t]⟩, T, pos, af, gd⟩ (tget tm) (one (.tuple #[]) [Ar e sz enc (.slice a m c) (es.take l ++ List.replicate q z)]) := fun W K' w act next hK hf hO hn => by
  obtain ⟨hm, hmc, hcm⟩ := Ow.arShape hO .here
  subst hm
  obtain ⟨i, hu, hin, hsz, _⟩ := elemInfo_spec hi
  obtain ⟨zv, hzv, hzc⟩ : ∃ zv, i.zero = some zv ∧ zeroC P e = cellsL zv := by
    unfold zeroC at hz0 ⊢
    rw [hin] at hz0 ⊢
    dsimp only at hz0 ⊢
    cases hq : i.zero with
    | none => simp [hq] at hz0
    | some zv => exact ⟨zv, rfl, rfl⟩
  have hcl : cellsL zv = zv.cells.toList := by cases zv <;> rfl
  have hzl : zv.cells.size = sz := by
    have := hl z
    rw [hz, hzc, hcl] at this
    simpa using this
  have hsz0 : 0 < sz := by
    rcases Nat.eq_zero_or_pos sz with h0 | h0
    · exfalso
      have := hl z
      rw [hz, h0] at this
      exact hz0 (List.eq_nil_of_length_eq_zero this)
    · exact h0
  refine wpI_of_wp ?_
  unfold Oper.wp execOp
  by_cases hle : l = es.length
  · have hq0 : q = 0 := by omega
    subst hq0
    have hr : (Builtin.clear_ #[t] T #[.slice (slA a c l sz) 0 q']).run P w = .ok (.tuple #[]) w := by
      cases h9 : slA a c l sz <;> simp [Builtin.clear_, Sem.run_bind, run_underlying hu w]
    simp only [resolve, invoke, builtin, Sem.run_bind, Sem.run_pure, Result.andThen_ok, List.map_toArray, List.map_cons, List.map_nil, hf.eval hx, hr]
    refine hn _ _ w ⟨rfl, rfl⟩ ?_
    rw [hle]
    simpa using hO
  · have hlt : l < es.length := by omega
    obtain ⟨g, cur, rfl, H2, hcl2, hct, hnc, _⟩ := Ow.slOpen hO .here (by omega)
    have hzs : (Builtin.zeroCells zv.cells q).toList.length = q * sz := by simp [size_zeroCells, hzl]
    have hbd : l * sz + q * sz ≤ cur.length := by
      rw [← Nat.add_mul, hq, hcl2]
      exact Nat.mul_le_mul_right _ hnc
    have hth := (H2.blk .here).there (l * sz) (q * sz) (by simpa using hbd)
    have h1z : ∀ v ∈ (Builtin.zeroCells zv.cells q).toList, v.oneCell' = true := by
      intro v hv
      simp only [Builtin.zeroCells, Array.toList_map, List.mem_map] at hv
      obtain ⟨k, hk, rfl⟩ := hv
      have hlt2 := Nat.mod_lt k (show 0 < zv.cells.size by omega)
      rw [getElem!_pos zv.cells (k % zv.cells.size) hlt2]
      refine List.all_eq_true.1 h1 _ ?_
      rw [hzc, hcl]
      simp
    have hs := run_storeCells_cells (P := P) g (l * sz) (Builtin.zeroCells zv.cells q).toList 0 w (fun j hj => by simpa using (hth j (by omega)).1) (fun j hj => by simpa using (hth j (by omega)).2) h1z
    simp only [Nat.add_zero] at hs
    have hr : (Builtin.clear_ #[t] T #[.slice (slA (some ⟨g, 0, none⟩) c l sz) q q']).run P w = .ok (.tuple #[]) (w.setCells g (l * sz) (Builtin.zeroCells zv.cells q).toList) := by
      rw [slA_lt (by omega), Nat.zero_add]
      obtain ⟨m', hm'⟩ : ∃ m', q = m' + 1 := ⟨q - 1, by omega⟩
      rw [hm'] at hs ⊢
      simp [Builtin.clear_, Sem.run_bind, run_underlying hu w, zeroValue, typeInfo, hin, hzv, hs]
    simp only [resolve, invoke, builtin, Sem.run_bind, Sem.run_pure, Result.andThen_ok, List.map_toArray, List.map_cons, List.map_nil, hf.eval hx, hr]
    refine hn _ _ _ ⟨rfl, rfl⟩ ?_
    have H3 := H2.setCells (Builtin.zeroCells zv.cells q).toList (l * sz) .here (by omega)
    have hlen : (es.take l ++ List.replicate q z).length = es.length := by simp; omega
    have hx2 : (splice cur.toArray (l * sz) (Builtin.zeroCells zv.cells q).toList).toList.take (es.length * sz) = flat enc (es.take l ++ List.replicate q z) := by
      rw [← hlen]
      refine take_rows hl _ (by rw [hlen, Array.length_toList (xs := splice cur.toArray (l * sz) (Builtin.zeroCells zv.cells q).toList), splice_size]; simp; rw [hcl2]; exact Nat.mul_le_mul_right _ hnc) fun i hi => ?_
      have hi' : i < es.length := by rw [hlen] at hi; exact hi
      have e2 : (i + 1) * sz = i * sz + sz := Nat.succ_mul i sz
      have hsz4 : (i + 1) * sz ≤ es.length * sz := Nat.mul_le_mul_right _ hi'
      have hri := rows_of hl hct i hi'
      have hbd2 : es.length * sz ≤ cur.length := by rw [hcl2]; exact Nat.mul_le_mul_right _ hnc
      by_cases hil : i < l
      · have e3 : (i + 1) * sz ≤ l * sz := Nat.mul_le_mul_right _ hil
        rw [List.getElem_append_left (by simp; omega), rowOf_splice_lt (by rw [hzs]; omega) i hil, hri, List.getElem_take]
      · rw [List.getElem_append_right (by simp; omega), List.getElem_replicate]
        apply List.ext_getElem?
        intro j
        by_cases hj : j < sz
        · have e4 : l * sz ≤ i * sz := Nat.mul_le_mul_right _ (by omega)
          have e5 : l * sz + q * sz = es.length * sz := by rw [← Nat.add_mul, hq]
          rw [rowOf_get hj, Array.getElem?_toList (xs := splice cur.toArray (l * sz) (Builtin.zeroCells zv.cells q).toList), splice_get _ (l * sz) cur.toArray (i * sz + j) (by rw [hzs]; simpa using hbd), if_pos (by rw [hzs]; omega)]
          have e7 : i * sz + j - l * sz = (i - l) * sz + j := by rw [Nat.sub_mul]; omega
          have e6 : (i * sz + j - l * sz) % sz = j := by
            rw [e7, Nat.mul_comm, Nat.mul_add_mod, Nat.mod_eq_of_lt hj]
          have e8 : i * sz + j - l * sz < q * sz := by omega
          rw [hz, hzc, hcl]
          simp only [Builtin.zeroCells, Array.toList_map, List.getElem?_map, Array.toList_range, hzl]
          rw [List.getElem?_range e8]
          simp only [Option.map_some, e6]
          rw [getElem!_pos zv.cells j (by omega)]
          simp [hzl, hj]
        · rw [List.getElem?_eq_none (by unfold rowOf; rw [List.length_take]; omega), List.getElem?_eq_none (by rw [hl]; omega)]
    show Ow W K' (Sl e sz _ (es.take l ++ List.replicate q z).length _ :: R) _
    rw [hlen]
    exact H3.slShut (n := es.length) (cap := c) .here (by rw [Array.length_toList (xs := splice cur.toArray (l * sz) (Builtin.zeroCells zv.cells q).toList), splice_size]; simpa using hcl2) hx2 hnc hcm
theorem JL_clear {t : TypeId} {x : Operand} {l b' q q' : Nat} (z : α) (hi : elemInfo P t = some (e, sz, b')) (hx : evT tm x = some (.slice (slA a c l sz) q q')) (hm : Tk L (Ar e sz enc (.slice a m c) es) R) (hz : enc z = zeroC P e) (hz0 : zeroC P e ≠ []) (h1 : (zeroC P e).all (·.oneCell') = true) (hl : ∀ x, (enc x).length = sz) (hq : l + q = es.length)
    (hg : wantF ops ⟨none, .call ⟨.builtin .clear, #[x], #[t]⟩, T, pos, af, gd⟩ (tget tm) = some true) (h : JL P n W K F ops k rest tm (Ar e sz enc (.slice a m c) (es.take l ++ List.replicate q z) :: R)) : JL P n W K F ops k (⟨none, .call ⟨.builtin .clear, #[x], #[t]⟩, T, pos, af, gd⟩ :: rest) tm L :=
  JL_a0 rfl hg (.cons hm .nil) (ae_clear hi hx hz hz0 h1 hl hq) (by rintro _ _ ⟨rfl, rfl⟩; exact h)
end
end Go.Pm
namespace Go.Pm
set_option linter.unusedSimpArgs false
set_option linter.unusedVariables false
open Go.RowKit

/-- A map of the call's own: its entries, in the order that they were made. -/
def mp (k : IntKind) (b : Nat) (es : List (Int × Value)) : HP := fun h => ∃ ents clock, h = Hl.one b (.map ents clock) ∧ ents.toList.map (fun e => (e.key, e.val)) = es.map (fun p => (Value.int k p.1, p.2))
def alGet : List (Int × Value) → Int → Option Value
  | [], _ => none
  | (x, v) :: r, z => if x = z then some v else alGet r z
def alPut : List (Int × Value) → Int → Value → List (Int × Value)
  | [], z, v => [(z, v)]
  | (x, u) :: r, z, v => if x = z then (x, v) :: r else (x, u) :: alPut r z v
def mapInfo (P : Program) (t : TypeId) : Option (IntKind × Value) := match P.underlying t with
  | some (.map key elem) => match P.underlying key, P.info? elem with
    | some (.int k), some i => match i.zero with
      | some z => some (k, z)
      | none => none
    | _, _ => none
  | _ => none
theorem mapInfo_spec {P : Program} {t : TypeId} {k : IntKind} {z : Value} (h : mapInfo P t = some (k, z)) : ∃ key elem i, P.underlying t = some (.map key elem) ∧ P.underlying key = some (.int k) ∧ P.info? elem = some i ∧ i.zero = some z := by
  unfold mapInfo at h
  split at h
  · rename_i key elem hu
    split at h
    · rename_i k' i hk hi
      split at h
      · rename_i z' hz
        simp only [Option.some.injEq, Prod.mk.injEq] at h
        obtain ⟨rfl, rfl⟩ := h
        exact ⟨key, elem, i, hu, hk, hi, hz⟩
      · cases h
    · cases h
  · cases h

inductive TabM (P : Program) : List (Nat × (IntKind × Value)) → Prop
  | nil : TabM P []
  | cons {p : Nat × (IntKind × Value)} {l : List (Nat × (IntKind × Value))} : mapInfo P p.1 = some p.2 → TabM P l → TabM P (p :: l)
def tabOkM (P : Program) (l : List (Nat × (IntKind × Value))) : Prop := TabM P l
theorem tabM {P : Program} {tab : List (Nat × (IntKind × Value))} {t : Nat} {x : IntKind × Value} (h : tabOkM P tab) (g : tabGet tab t = some x) : mapInfo P t = some x := by
  have hm := tabGet_mem g
  clear g
  unfold tabOkM at h
  induction h with
  | nil => cases hm
  | cons h1 _ ih =>
    rcases List.mem_cons.1 hm with e | e
    · rw [← e] at h1; exact h1
    · exact ih e

section
variable {P : Program} {n : Nat} {W : World} {K : Hl} {F : Fp} {k : List It} {tm : TM} {L L' R S M M' : List HP} {T : TypeId} {pos : String} {af : Array Edge} {gd : Option (Nat × Bool)} {ops : Array Oper} {rest nx : List Oper} {d : Tmp}

theorem findNow_al (kd : IntKind) (z : Int) : ∀ (ents : List MapEntry) (es : List (Int × Value)) (i : Nat), ents.map (fun e => (e.key, e.val)) = es.map (fun p => (Value.int kd p.1, p.2)) →
    (alGet es z = none ∧ Instr.findNow (.int kd) (.int kd z) ents i = some none) ∨ (∃ j v, alGet es z = some v ∧ Instr.findNow (.int kd) (.int kd z) ents i = some (some (i + j, v)) ∧ j < ents.length ∧ (ents[j]?).map (·.key) = some (.int kd z) ∧ ∀ u, es.length = ents.length ∧ (alPut es z u) = (es.set j (z, u)))
  | [], [], i, _ => .inl ⟨rfl, rfl⟩
  | [], p :: _, _, h => by simp at h
  | e :: ents, [], _, h => by simp at h
  | e :: ents, (x, v) :: es, i, h => by
    simp only [List.map_cons, List.cons.injEq, Prod.mk.injEq] at h
    obtain ⟨⟨h1, h2⟩, h3⟩ := h
    have hlen : es.length = ents.length := by have := congrArg List.length h3; simpa using this.symm
    by_cases hx : x = z
    · subst hx
      refine .inr ⟨0, v, by simp [alGet], ?_, by simp, by simp [h1], fun u => ⟨by simp [hlen], by simp [alPut]⟩⟩
      simp [Instr.findNow, Instr.sameNow, h1, h2]
    · have hx' : (z == x) = false := by simp [Ne.symm hx]
      have hstep : Instr.findNow (.int kd) (.int kd z) (e :: ents) i = Instr.findNow (.int kd) (.int kd z) ents (i + 1) := by
        simp [Instr.findNow, Instr.sameNow, h1, hx']
      rw [hstep]
      rcases findNow_al kd z ents es (i + 1) h3 with ⟨a, b⟩ | ⟨j, u, a, b, c, d, e⟩
      · exact .inl ⟨by simp [alGet, hx, a], b⟩
      · refine .inr ⟨j + 1, u, by simp [alGet, hx, a], by rw [b]; congr 3; omega, by simp [c], by simpa using d, fun w => ⟨by simp [hlen], ?_⟩⟩
        simp [alPut, hx, (e w).2]

theorem mp_obj {h : Hl} {b : Nat} {kd : IntKind} {es : List (Int × Value)} (hm : mp kd b es h) {w : World} (i : h.inn w) : ∃ ents clock, w.heap[b]? = some (.map ents clock) ∧ ents.toList.map (fun e => (e.key, e.val)) = es.map (fun p => (Value.int kd p.1, p.2)) := by
  obtain ⟨ents, clock, rfl, he⟩ := hm
  exact ⟨ents, clock, i b _ (by simp [Hl.one]), he⟩
theorem run_getObj {w : World} {b : Nat} {ents : Array MapEntry} {clock : Nat} (h : w.heap[b]? = some (.map ents clock)) : (getObj b).run P w = .ok (.map ents clock) w := by
  simp [getObj, Sem.run, h]
theorem run_checkKey {key : TypeId} {kd : IntKind} (hk : P.underlying key = some (.int kd)) (e : Bool) (z : Int) (w : World) : (Instr.checkKey e 10000 key (.int kd z)).run P w = .ok () w := by
  have : ∀ m, (Instr.checkKey e (m + 1) key (.int kd z)).run P w = .ok () w := fun m => by
    unfold Instr.checkKey
    simp [Sem.run_bind, run_underlying hk]
  exact this 9999
theorem run_findKey {key : TypeId} {kd : IntKind} (hk : P.underlying key = some (.int kd)) {z : Int} {es : List MapEntry} {r : Option (Nat × Value)} (h : Instr.findNow (.int kd) (.int kd z) es 0 = some r) (w : World) : (Instr.findKey key (.int kd z) es).run P w = .ok r w := by
  simp [Instr.findKey, Sem.run_bind, run_underlying hk, h]

/-- What a lookup answers. -/
def lookV (o : Option Value) (z : Value) (ok : Bool) : Value := match ok with
  | true => .tuple [o.getD z, .bool o.isSome].toArray
  | false => o.getD z
theorem pe_lookup {od : Option Tmp} {t : TypeId} {x y : Operand} {b : Nat} {kd : IntKind} {z : Int} {es : List (Int × Value)} {zv : Value} {ok : Bool} {v : Value} (hx : evT tm x = some (.map (some b))) (hy : evT tm y = some (.int kd z)) (ht : mapInfo P t = some (kd, zv)) (hm : Tk L (mp kd b es) R) (hq : lookV (alGet es z) zv ok = v) : PE P K L ⟨od, .lookup t x y ok, T, pos, af, gd⟩ (tget tm) v := fun ρ w ha hr => by
  subst hq
  have h1 := ha x (by simp [Op.operands]) _ hx
  have h2 := ha y (by simp [Op.operands]) _ hy
  obtain ⟨key, elem, i, hu, hk, hi, hz⟩ := mapInfo_spec ht
  obtain ⟨q, hq, hin⟩ := hr.tk hm
  obtain ⟨ents, clock, ho, he⟩ := mp_obj hq hin
  unfold execOp
  simp only [h1, h2]
  rcases findNow_al kd z ents.toList es 0 he with ⟨e1, e2⟩ | ⟨j, v', e1, e2, _⟩
  · simp only [Instr.lookup, Sem.run_bind, run_underlying hu, Result.andThen_ok, run_getObj ho, Sem.run_pure, run_checkKey hk, run_findKey hk e2, zeroValue, typeInfo, e1, lookV]
    cases ok <;> simp [hi, hz]
  · simp only [Instr.lookup, Sem.run_bind, run_underlying hu, Result.andThen_ok, run_getObj ho, Sem.run_pure, run_checkKey hk, run_findKey hk e2, e1, lookV]
    cases ok <;> simp
/-- The same in known memory. -/
theorem pe_lookupK {od : Option Tmp} {t : TypeId} {x y : Operand} {b : Nat} {kd : IntKind} {z : Int} {es : List (Int × Value)} {zv : Value} {ok : Bool} {v : Value} (hx : evT tm x = some (.map (some b))) (hy : evT tm y = some (.int kd z)) (ht : mapInfo P t = some (kd, zv)) (hm : Kn K (fun w => ∃ h, mp kd b es h ∧ h.inn w)) (hq : lookV (alGet es z) zv ok = v) : PE P K L ⟨od, .lookup t x y ok, T, pos, af, gd⟩ (tget tm) v := fun ρ w ha hr => by
  subst hq
  have h1 := ha x (by simp [Op.operands]) _ hx
  have h2 := ha y (by simp [Op.operands]) _ hy
  obtain ⟨key, elem, i, hu, hk, hi, hz⟩ := mapInfo_spec ht
  obtain ⟨q, hq, hin⟩ := hm w hr.1
  obtain ⟨ents, clock, ho, he⟩ := mp_obj hq hin
  unfold execOp
  simp only [h1, h2]
  rcases findNow_al kd z ents.toList es 0 he with ⟨e1, e2⟩ | ⟨j, v', e1, e2, _⟩
  · simp only [Instr.lookup, Sem.run_bind, run_underlying hu, Result.andThen_ok, run_getObj ho, Sem.run_pure, run_checkKey hk, run_findKey hk e2, zeroValue, typeInfo, e1, lookV]
    cases ok <;> simp [hi, hz]
  · simp only [Instr.lookup, Sem.run_bind, run_underlying hu, Result.andThen_ok, run_getObj ho, Sem.run_pure, run_checkKey hk, run_findKey hk e2, e1, lookV]
    cases ok <;> simp
theorem Rdw.mp {kd : IntKind} {b : Nat} {es : List (Int × Value)} {w : World} (h : Rdw K L w) (t : Tk L (mp kd b es) R) : ∃ q, Pm.mp kd b es q ∧ q.inn w := h.tk t

theorem ae_mapSet {od : Option Tmp} {t : TypeId} {x y u : Operand} {b : Nat} {kd : IntKind} {z : Int} {es : List (Int × Value)} {zv v : Value} (hx : evT tm x = some (.map (some b))) (hy : evT tm y = some (.int kd z)) (hv : evT tm u = some v) (ht : mapInfo P t = some (kd, zv)) :
    AE P n K R [mp kd b es] ⟨od, .mapUpdate t x y u, T, pos, af, gd⟩ (tget tm) (one undef [mp kd b (alPut es z v)]) := fun W K' w a next hK hf hO hn => by
  obtain ⟨key, elem, i, hu, hk, hi, hz⟩ := mapInfo_spec ht
  obtain ⟨q, hq, hin⟩ := hO.part
  obtain ⟨ents, clock, ho, he⟩ := mp_obj hq hin
  have key2 : ∀ ents' clock', ents'.toList.map (fun e => (e.key, e.val)) = (alPut es z v).map (fun p => (Value.int kd p.1, p.2)) → Ow W K' (mp kd b (alPut es z v) :: R) { w with heap := w.heap.setIfInBounds b (.map ents' clock') } := fun ents' clock' he' => by
    refine Ow.change hO rfl ((Tp.refl _).same rfl rfl) rfl (by simp) (fun h hh ih => ?_)
    obtain ⟨en, cl, rfl, _⟩ := hh
    have hlt : b < w.heap.size := (Array.getElem?_eq_some_iff.1 ho).1
    refine ⟨⟨Hl.one b (.map ents' clock'), ⟨ents', clock', rfl, he'⟩, fun c o e => ?_, fun c hc => ?_⟩, fun c hl hc => ?_⟩
    · unfold Hl.one at e
      split at e
      · rename_i hcb; subst hcb; cases e
        simp [Array.getElem?_setIfInBounds, hlt]
      · cases e
    · left
      unfold Hl.one at hc ⊢
      split at hc <;> simp_all
    · have hcb : b ≠ c := fun e => by subst e; simp [Hl.one] at hc
      simp [Array.getElem?_setIfInBounds, hcb]
  refine wp_done (w' := { w with heap := w.heap.setIfInBounds b (.map (match Instr.findNow (.int kd) (.int kd z) ents.toList 0 with | some (some (j, _)) => ents.modify j fun e => { e with key := .int kd z, val := v } | _ => ents.push { key := .int kd z, val := v, born := clock }) (match Instr.findNow (.int kd) (.int kd z) ents.toList 0 with | some (some _) => clock | _ => clock + 1)) }) ?_ (hn undef _ _ ⟨rfl, rfl⟩ (key2 _ _ ?_))
  · unfold execOp
    simp only [hf.eval hx, hf.eval hy, hf.eval hv]
    rcases findNow_al kd z ents.toList es 0 he with ⟨e1, e2⟩ | ⟨j, u', e1, e2, e3, e4, _⟩
    · simp only [Instr.mapUpdate, Sem.run_bind, run_underlying hu, Result.andThen_ok, run_getObj ho, run_checkKey hk, run_findKey hk e2, e2]
      simp [setObj, Sem.run, ho]
    · have hold : ((ents[0 + j]?).map (·.key)).getD (.int kd z) = .int kd z := by
        rw [Nat.zero_add]
        have : (ents[j]?).map (·.key) = some (.int kd z) := by simpa using e4
        rw [this]; rfl
      have hsame : (Instr.keyThatStays (.int kd z) (.int kd z)).run P w = .ok (.int kd z) w := by
        have : ∀ m, Instr.sameBits m (.int kd z) (.int kd z) = true := fun m => by cases m <;> simp [Instr.sameBits]
        simp [Instr.keyThatStays, this]
      simp only [Instr.mapUpdate, Sem.run_bind, run_underlying hu, Result.andThen_ok, run_getObj ho, run_checkKey hk, run_findKey hk e2, e2, hold, hsame]
      simp [setObj, Sem.run, ho]
  · rcases findNow_al kd z ents.toList es 0 he with ⟨e1, e2⟩ | ⟨j, u', e1, e2, e3, e4, e5⟩
    · rw [e2]
      have : ∀ (l : List (Int × Value)), alGet l z = none → alPut l z v = l ++ [(z, v)] := by
        intro l
        induction l with
        | nil => intro _; rfl
        | cons p l ih =>
          intro h
          obtain ⟨x, u⟩ := p
          simp only [alGet] at h
          split at h
          · cases h
          · rename_i hx; simp [alPut, hx, ih h]
      rw [this es e1]
      simp [he]
    · rw [e2]
      dsimp only
      rw [Nat.zero_add, (e5 v).2]
      apply List.ext_getElem?
      intro q
      have hq2 := congrArg (·[q]?) he
      simp only [List.getElem?_map] at hq2
      simp only [List.getElem?_map, Array.getElem?_toList, Array.getElem?_modify, List.getElem?_set]
      by_cases hjq : j = q
      · subst hjq
        have hl2 := (e5 v).1
        have e6 : j < es.length := by rw [hl2]; exact e3
        simp only [if_pos rfl, if_pos e6]
        have : j < ents.size := by simpa using e3
        simp [Array.getElem?_eq_getElem this]
      · rw [if_neg hjq, if_neg hjq]
        simpa using hq2

theorem al_mapNew {od : Option Tmp} {t : TypeId} : AL P ⟨od, .makeMap t none, T, pos, af, gd⟩ (tget tm) (.map #[] 0) (fun b => .map (some b)) := fun ρ w ha => by
  unfold execOp
  simp [Instr.makeMap, Sem.run_bind, newObj, Sem.run]
theorem JL_mm {t : TypeId} {kd : IntKind} {zv : Value} (ht : mapInfo P t = some (kd, zv)) (hn : Nat.blt d n = true) (hg : wantF ops ⟨some d, .makeMap t none, T, pos, af, gd⟩ (tget tm) = some true) (h : ∀ b, JL P n W K F ops k rest ((d, .map (some b)) :: tm) (mp kd b [] :: L)) : JL P n W K F ops k (⟨some d, .makeMap t none, T, pos, af, gd⟩ :: rest) tm L :=
  JL_m rfl hn hg al_mapNew fun b => JL_heap (fun w H => H.imp fun q hq => ⟨#[], 0, hq, rfl⟩) (h b)
theorem JD_mapSet {t : TypeId} {x y u : Operand} {b : Nat} {kd : IntKind} {z : Int} {es : List (Int × Value)} {zv v : Value} (hx : evT tm x = some (.map (some b))) (hy : evT tm y = some (.int kd z)) (hv : evT tm u = some v) (ht : mapInfo P t = some (kd, zv)) (hm : Tk M (mp kd b es) R) (hg : wantF ops ⟨none, .mapUpdate t x y u, T, pos, af, gd⟩ (tget tm) = some true)
    (h : JD P n W K F ops k nx rest tm S (mp kd b (alPut es z v) :: R)) : JD P n W K F ops k nx (⟨none, .mapUpdate t x y u, T, pos, af, gd⟩ :: rest) tm S M :=
  JD_a0 rfl hg rfl (.cons hm .nil) (ae_mapSet hx hy hv ht) (by rintro _ _ ⟨rfl, rfl⟩; exact h)
end

/-! What some memory of the call's own is enough to know. -/
def has (φ : World → Prop) : HP := fun h => ∀ w, h.inn w → φ w
def noK : Hl := fun _ => none
theorem has_of {M : List HP} {φ : World → Prop} (h : ∀ w, Rdw noK M w → φ w) : ∀ k, sats M k → has φ k := by
  intro k s w i
  refine h w ⟨?_, k, s, ?_, i⟩
  · intro b o e
    exact nomatch e
  · intro b
    exact .inr rfl
theorem Rdw.has {K : Hl} {L R : List HP} {φ : World → Prop} {w : World} (h : Rdw K L w) (t : Tk L (Pm.has φ) R) : φ w := by
  obtain ⟨k, hk, i⟩ := h.tk t
  exact hk w i
theorem Ow.has {W : World} {K : Hl} {L R M : List HP} {w : World} {φ : World → Prop} (H : Ow W K L w) (t : Sb L M R) (h : ∀ w, Rdw noK M w → φ w) : Ow W K (Pm.has φ :: R) w := H.shut t (has_of h)
theorem Ow.hasTrue {W : World} {K : Hl} {L : List HP} {w : World} {φ : World → Prop} (H : Ow W K L w) (h : ∀ w, φ w) : Ow W K (Pm.has φ :: L) w := (Ow.satsNil H).imp fun _ _ w _ => h w

/-! Append onto an empty literal. -/
section
variable {P : Program} {n : Nat} {W : World} {K : Hl} {F : Fp} {k : List It} {tm : TM} {L L' R S M M' : List HP} {T : TypeId} {pos : String} {af : Array Edge} {gd : Option (Nat × Bool)} {ops : Array Oper} {rest nx : List Oper} {d : Tmp}
variable {α : Type} {enc : α → List Value} {t e : TypeId} {sz bytes m b : Nat} {s x : Operand} {v y : Value} {fs : List α}
theorem JL_appL (enc : α → List Value) {fs : List α} (hi : elemInfo P t = some (e, sz, bytes)) (hs : evT tm s = some (.slice (some ⟨b, 0, none⟩) 0 0)) (hx : evT tm x = some y) (hm : Tk L (pts b [] e) R) (hv : Src K R y sz m (flat enc fs)) (hok : elOk P t e sz bytes = true) (hl : ∀ x, (enc x).length = sz) (h1 : ∀ u ∈ flat enc fs, u.oneCell' = true) (hsz : m * bytes ≤ 140737488355328)
    (hn : Nat.blt d n = true) (hg : wantF ops ⟨some d, .call ⟨.builtin .append, #[s, x], #[t, t]⟩, T, pos, af, gd⟩ (tget tm) = some true) (h : ∀ ad c, m ≤ c → c ≤ maxLen → JL P n W K F ops k rest ((d, .slice ad m c) :: tm) (Ar e sz enc (.slice ad m c) fs :: R)) : JL P n W K F ops k (⟨some d, .call ⟨.builtin .append, #[s, x], #[t, t]⟩, T, pos, af, gd⟩ :: rest) tm L :=
  JL_a rfl hn hg (.cons hm .nil) (fun W' K' w a next hK hf hO hn => ae_app (es := []) (.ofOk hok) hs hx hv hl h1 (by simpa using hsz) W' K' w a next hK hf (Ow.arLit0 hO .here) hn) (by
    rintro _ _ ⟨ad, c, h2, h3, rfl, rfl⟩
    simp only [List.length_nil, Nat.zero_add, List.nil_append] at h2 ⊢
    exact h ad c h2 h3)
theorem JD_appL (enc : α → List Value) {fs : List α} (hi : elemInfo P t = some (e, sz, bytes)) (hs : evT tm s = some (.slice (some ⟨b, 0, none⟩) 0 0)) (hx : evT tm x = some y) (hm : Tk M (pts b [] e) R) (hv : Src K (R ++ S) y sz m (flat enc fs)) (hok : elOk P t e sz bytes = true) (hl : ∀ x, (enc x).length = sz) (h1 : ∀ u ∈ flat enc fs, u.oneCell' = true) (hsz : m * bytes ≤ 140737488355328)
    (hg : wantF ops ⟨some d, .call ⟨.builtin .append, #[s, x], #[t, t]⟩, T, pos, af, gd⟩ (tget tm) = some true) (h : ∀ ad c, m ≤ c → c ≤ maxLen → JD P n W K F ops k nx rest ((d, .slice ad m c) :: tm) S (Ar e sz enc (.slice ad m c) fs :: R)) : JD P n W K F ops k nx (⟨some d, .call ⟨.builtin .append, #[s, x], #[t, t]⟩, T, pos, af, gd⟩ :: rest) tm S M :=
  JD_a rfl hg rfl (.cons hm .nil) (fun W' K' w a next hK hf hO hn => ae_app (es := []) (.ofOk hok) hs hx hv hl h1 (by simpa using hsz) W' K' w a next hK hf (Ow.arLit0 hO .here) hn) (by
    rintro _ _ ⟨ad, c, h2, h3, rfl, rfl⟩
    simp only [List.length_nil, Nat.zero_add, List.nil_append] at h2 ⊢
    exact h ad c h2 h3)
end
end Go.Pm
namespace Go.Pm
set_option linter.unusedSimpArgs false
set_option linter.unusedVariables false
open Go.RowKit
variable {α : Type} {enc : α → List Value} {K : Hl} {L : List HP} {a : Option Addr} {c n sz : Nat} {es : List α}
theorem flat_drop (hl : ∀ x, (enc x).length = sz) (es : List α) (j : Nat) (hj : j ≤ es.length) : (flat enc es).drop (j * sz) = flat enc (es.drop j) := by
  have h : flat enc es = flat enc (es.take j) ++ flat enc (es.drop j) := by rw [← flat_append, List.take_append_drop]
  have h2 : (flat enc (es.take j)).length = j * sz := by rw [flat_length hl, List.length_take, Nat.min_eq_left hj]
  rw [h, ← h2, List.drop_left]
theorem Vw_drop {w : World} (h : Vw w (.slice a n c) sz n (flat enc es)) (hl : ∀ x, (enc x).length = sz) (hn : es.length = n) (k m : Nat) (hk : k ≤ n) (hm : m = n - k) : Vw w (.slice (slA a c k sz) m (c - k)) sz m (flat enc (es.drop k)) := by
  subst hm
  obtain ⟨a', cap, he, h1, h2, h3, h4, h5⟩ := h
  cases he
  have hlen : (es.drop k).length = n - k := by rw [List.length_drop, hn]
  unfold slA
  by_cases hck : c = k
  · rw [if_pos hck]
    refine ⟨a, c - k, rfl, by rw [flat_length hl, hlen], by omega, by omega, fun h => ⟨by have := (h4 h).1; omega, by omega⟩, fun hne => ?_⟩
    have hnil : es.drop k = [] := List.eq_nil_of_length_eq_zero (by omega)
    rw [hnil] at hne
    exact absurd rfl hne
  · rw [if_neg hck]
    refine ⟨_, c - k, rfl, by rw [flat_length hl, hlen], by omega, by omega, fun h => ?_, fun hne => ?_⟩
    · cases a with
      | none => have := h4 rfl; omega
      | some x => cases h
    · have hd := flat_drop hl es k (by omega)
      have hne' : flat enc es ≠ [] := by
        intro h
        rw [h] at hd
        exact hne (by rw [← hd]; simp)
      obtain ⟨b, off, hb, hc⟩ := h5 hne'
      subst hb
      refine ⟨b, off + k * sz, by rw [Option.map_some, addr_add_plain], fun j u hj => ?_⟩
      rw [← hd, List.getElem?_drop] at hj
      have := hc _ _ hj
      rwa [Nat.add_assoc]
theorem Vw_take' {w : World} (h : Vw w (.slice a n c) sz n (flat enc es)) (hl : ∀ x, (enc x).length = sz) (hn : es.length = n) (j : Nat) (hj : j ≤ n) : Vw w (.slice a j c) sz j (flat enc (es.take j)) := by
  obtain ⟨a', cap, he, h1, h2, h3, h4, h5⟩ := h
  cases he
  have hlen : (es.take j).length = j := by rw [List.length_take]; omega
  have hpre : flat enc es = flat enc (es.take j) ++ flat enc (es.drop j) := by rw [← flat_append, List.take_append_drop]
  refine ⟨a, c, rfl, by rw [flat_length hl, hlen], by omega, h3, fun h => ⟨by have := (h4 h).1; omega, (h4 h).2⟩, fun hne => ?_⟩
  have hne' : flat enc es ≠ [] := by
    intro h
    rw [hpre] at h
    exact hne (List.append_eq_nil_iff.1 h).1
  obtain ⟨b, off, hb, hc⟩ := h5 hne'
  refine ⟨b, off, hb, fun k u hk => hc k u ?_⟩
  rw [hpre, List.getElem?_append_left (List.getElem?_eq_some_iff.1 hk).1]
  exact hk
theorem Src.drop (h : Src K L (.slice a n c) sz n (flat enc es)) (hl : ∀ x, (enc x).length = sz) (hn : es.length = n) (k m : Nat) (hk : k ≤ n) (hm : m = n - k) : Src K L (.slice (slA a c k sz) m (c - k)) sz m (flat enc (es.drop k)) := fun w hr => Vw_drop (h w hr) hl hn k m hk hm
theorem Src.take (h : Src K L (.slice a n c) sz n (flat enc es)) (hl : ∀ x, (enc x).length = sz) (hn : es.length = n) (j : Nat) (hj : j ≤ n) : Src K L (.slice a j c) sz j (flat enc (es.take j)) := fun w hr => Vw_take' (h w hr) hl hn j hj
end Go.Pm
namespace Go.Pm
set_option linter.unusedSimpArgs false
set_option linter.unusedVariables false
open Go.RowKit

def yldV (l : Nat) : Value := .func (.yield l) #[] #[]
/-- A call of yield: with the parts C for its own. -/
def Yld (P : Program) (K0 : Hl) (l : Nat) (args : Array Value) (C : List HP) (Φ : Value → List HP → Prop) : Prop :=
  ∀ W K w, K0.le K → Ow W K C w → ∃ fn tmps assign body, (Instr.yield l args).run P w = .ok (.round l fn tmps assign body) w ∧ RoundIn Fence.wide 0 P l fn tmps assign body w (retR W K Φ)

section
variable {P : Program} {n : Nat} {W : World} {K : Hl} {F : Fp} {k : List It} {tm : TM} {L L' R S M C : List HP} {T : TypeId} {pos : String} {af : Array Edge} {gd : Option (Nat × Bool)} {ops : Array Oper} {rest nx : List Oper} {d : Tmp}

theorem ae_yield {od : Option Tmp} {c : Operand} {xs : Array Operand} {ts : Array TypeId} {l : Nat} {us : List Value} {Φ : Value → List HP → Prop} {K0 : Hl} (Y : Yld P K0 l us.toArray C Φ) (hK0 : K0.le K) (hc : evT tm c = some (yldV l)) (ha : xs.toList.mapM (evT tm) = some us) :
    AE P n K R C ⟨od, .call ⟨.value c, xs, ts⟩, T, pos, af, gd⟩ (tget tm) Φ := fun W K' w a next hK hf hO hn => by
  have e1 : xs.map a.eval = us.toArray := Array.ext' (by rw [Array.toList_map]; exact mapM_eval hf ha)
  obtain ⟨hR, sR, dR, H1, back⟩ := hO.frame
  obtain ⟨fn, tmps, assign, body, hy, hr⟩ := Y W (K'.add hR) w (hK0.trans (hK.trans (Hl.le_add _ _))) H1
  have hev : a.eval c = .func (.yield l) #[] #[] := hf.eval hc
  have hx : (execOp a.eval ⟨od, .call ⟨.value c, xs, ts⟩, T, pos, af, gd⟩).run P w = .ok (.round l fn tmps assign body) w := by
    unfold execOp
    simp only [resolve, e1, hev, Deferred.ofValue, Sem.run_bind, Sem.run_pure, Result.andThen_ok, invoke]
    simpa using hy
  refine ⟨fun _ _ => trivial, ?_⟩
  show Oper.uponIn Fence.wide 0 P _ a next _ ((execOp a.eval ⟨od, .call ⟨.value c, xs, ts⟩, T, pos, af, gd⟩).run P w)
  rw [hx]
  refine ⟨fun h => by simp [Fence.wide] at h, RoundIn.mono hr ?_⟩
  rintro e w' ⟨v, L', h1, rfl, h2⟩
  exact hn v L' w' h1 (back L' w' h2)
theorem JL_y {c : Operand} {xs : Array Operand} {ts : Array TypeId} {l : Nat} {us : List Value} {Φ : Value → List HP → Prop} {K0 : Hl} (Y : Yld P K0 l us.toArray C Φ) (hK0 : K0.le K) (hc : evT tm c = some (yldV l)) (ha : xs.toList.mapM (evT tm) = some us) (hs : Sb L C R) (hn : Nat.blt d n = true) (hg : wantF ops ⟨some d, .call ⟨.value c, xs, ts⟩, T, pos, af, gd⟩ (tget tm) = some true)
    (h : ∀ v L', Φ v L' → JL P n W K F ops k rest ((d, v) :: tm) (L' ++ R)) : JL P n W K F ops k (⟨some d, .call ⟨.value c, xs, ts⟩, T, pos, af, gd⟩ :: rest) tm L := JL_a rfl hn hg hs (ae_yield Y hK0 hc ha) h
theorem JD_y {c : Operand} {xs : Array Operand} {ts : Array TypeId} {l : Nat} {us : List Value} {Φ : Value → List HP → Prop} {K0 : Hl} (Y : Yld P K0 l us.toArray C Φ) (hK0 : K0.le K) (hc : evT tm c = some (yldV l)) (ha : xs.toList.mapM (evT tm) = some us) (hs : Sb M C R) (hg : wantF ops ⟨some d, .call ⟨.value c, xs, ts⟩, T, pos, af, gd⟩ (tget tm) = some true)
    (h : ∀ v L', Φ v L' → JD P n W K F ops k nx rest ((d, v) :: tm) S (L' ++ R)) : JD P n W K F ops k nx (⟨some d, .call ⟨.value c, xs, ts⟩, T, pos, af, gd⟩ :: rest) tm S M := JD_a rfl hg rfl hs (ae_yield Y hK0 hc ha) h

/-- What an iterator promises: that it hands out, one by one, a list that S allows; or, told to stop, a list that Sp allows. -/
def Iter {α : Type} (P : Program) (f : FuncId) (args : Nat → List Value) (φ : World → Prop) (enc : α → List Value) (N : Nat) (S Sp : List α → Prop) : Prop :=
  ∀ (K0 : Hl) (l : Nat) (Y Yx : List α → HP), (∀ pre x, pre.length < N → Yld P K0 l (enc x).toArray [Y pre] (fun v L' => (v = .bool true ∧ L' = [Y (pre ++ [x])]) ∨ (v = .bool false ∧ L' = [Yx (pre ++ [x])]))) →
    ∀ W K w, K0.le K → Kn K φ → Ow W K [Y []] w → Calls P f (args l).toArray w (retR W K (fun _ L' => (∃ xs, S xs ∧ L' = [Y xs]) ∨ ∃ pre, Sp pre ∧ L' = [Yx pre]))
/-- The same, of such Y alone as Q lets by (what the iterator itself reads lies among the parts that a round may change). -/
def IterQ {α : Type} (P : Program) (f : FuncId) (args : Nat → List Value) (φ : World → Prop) (enc : α → List Value) (G : List α → α → Prop) (S Sp : List α → Prop) (Q : (List α → HP) → Prop) : Prop :=
  ∀ (K0 : Hl) (l : Nat) (Y Yx : List α → HP), Q Y → (∀ pre x, G pre x → Yld P K0 l (enc x).toArray [Y pre] (fun v L' => (v = .bool true ∧ L' = [Y (pre ++ [x])]) ∨ (v = .bool false ∧ L' = [Yx (pre ++ [x])]))) →
    ∀ W K w, K0.le K → Kn K φ → Ow W K [Y []] w → Calls P f (args l).toArray w (retR W K (fun _ L' => (∃ xs, S xs ∧ L' = [Y xs]) ∨ ∃ pre, Sp pre ∧ L' = [Yx pre]))
theorem Iter.q {α : Type} {f : FuncId} {args : Nat → List Value} {φ : World → Prop} {enc : α → List Value} {N : Nat} {S Sp : List α → Prop} (It : Iter P f args φ enc N S Sp) : IterQ P f args φ enc (fun pre _ => pre.length < N) S Sp (fun _ => True) := fun K0 l Y Yx _ => It K0 l Y Yx
theorem iter {α : Type} {f : FuncId} {fn : Func} {c : Code} {args : Nat → List Value} {φ : World → Prop} {enc : α → List Value} {N : Nat} {St Sp : List α → Prop} (hf : P.funcs[f]? = some fn) (hb : fn.body = some c) {nt : Nat} (hn : fn.ntmps = nt) (ha : ∀ l, (Nat.ble (args l).length nt && Nat.ble nt 1000000) = true)
    (h : ∀ (K0 : Hl) (l : Nat) (Y Yx : List α → HP), (∀ pre x, pre.length < N → Yld P K0 l (enc x).toArray [Y pre] (fun v L' => (v = .bool true ∧ L' = [Y (pre ++ [x])]) ∨ (v = .bool false ∧ L' = [Yx (pre ++ [x])]))) →
      ∀ W K, K0.le K → Kn K φ → J P nt W K (fpost P fn W K (fun _ L' => (∃ xs, St xs ∧ L' = [Y xs]) ∨ ∃ pre, Sp pre ∧ L' = [Yx pre])) [.code c] (argTM 0 (args l)) [Y []]) : Iter P f args φ enc N St Sp := fun K0 l Y Yx hY W K w hK hφ H =>
  J_start hf hb hn (by have := ha l; simp at this ⊢; omega) (by have := ha l; simp at this; show nt ≤ 1000000; omega) H (fun t v e => by have := argTM_get (args l) 0 t v e; simpa using this.2) (h K0 l Y Yx hY W K hK hφ)

/-! A round. -/
def rndPost {α : Type} (W : World) (K : Hl) (I : List α → List HP) (Ix : Code → List α → List HP) (pre : List α) : Exit → Act → World → Prop
  | .normal, _, w => Ow W K (I pre) w
  | .ret, _, w => Ow W K (Ix .ret pre) w
  | .exit id, _, w => Ow W K (Ix (.exit id) pre) w
  | .goto t, _, w => Ow W K (Ix (.goto t) pre) w
  | _, _, _ => False
def noP : Exit → Act → World → Prop := fun _ _ _ => False
/-- The round's body may begin. -/
def RB {α : Type} (P : Program) (n : Nat) (W : World) (K3 K : Hl) (l : Nat) (I : List α → List HP) (Ix : Code → List α → List HP) (pre : List α) (body : Code) : Act → World → Prop := fun a w =>
  ∃ tm1 L1, Fit n (tget tm1) a ∧ Ow W K3 L1 w ∧ ∀ K4, K.le K4 → Kn K4 (fun w => ∃ r, w.heap[l]? = some (.loop r)) → J P n W K4 ⟨some l, rndPost W K4 I Ix pre⟩ [.code body] tm1 L1
theorem J_body {α : Type} {K0 : Hl} {l : Nat} {I : List α → List HP} {Ix : Code → List α → List HP} {pre : List α} {body : Code} (h : ∀ K4, K0.le K4 → Kn K4 (fun w => ∃ r, w.heap[l]? = some (.loop r)) → J P n W K4 ⟨some l, rndPost W K4 I Ix pre⟩ [.code body] tm L) : J P n W K F (.hole (RB P n W K K0 l I Ix pre body) :: k) tm L := .mk <|
  fun _ w hf hO => ⟨tm, L, hf, hO, h⟩
theorem J_rnd {α : Type} {l : Nat} {I : List α → List HP} {Ix : Code → List α → List HP} {pre : List α} (h : ∀ w, Ow W K L w → Ow W K (I pre) w) : J P n W K ⟨some l, rndPost W K I Ix pre⟩ [] tm L := .mk <| fun _ w _ hO => h w hO
theorem J_rndRet {α : Type} {l : Nat} {I : List α → List HP} {Ix : Code → List α → List HP} {pre : List α} (h : ∀ w, Ow W K L w → Ow W K (Ix .ret pre) w) : J P n W K ⟨some l, rndPost W K I Ix pre⟩ (.code .ret :: k) tm L := .mk <| fun _ w _ hO => wpIn_ret (runK_ret (h w hO))
/-- The slots at a round's start. -/
def parTM : List Tmp → List Value → TM → TM
  | p :: ps, v :: vs, tm => parTM ps vs ((p, v) :: tm)
  | _, _, tm => tm
theorem Fit.par {ds : List Deferred} : ∀ (ps : List Tmp) (vs : List Value) (tm : TM) (tmps : Array Value), ps.all (Nat.blt · n) = true → (tmps.size = n ∧ n ≤ mkK ∧ ∀ t v, t ≠ mkK → tget tm t = some v → tmps[t]? = some v) →
    let t' := (ps.zip vs).foldl (fun t (p, v) => t.setIfInBounds p v) tmps
    t'.size = n ∧ n ≤ mkK ∧ ∀ t v, t ≠ mkK → tget (parTM ps vs tm) t = some v → t'[t]? = some v
  | [], _, tm, tmps, _, h => by simpa [parTM] using h
  | p :: ps, [], tm, tmps, _, h => by simpa [parTM] using h
  | p :: ps, v :: vs, tm, tmps, hp, h => by
    simp only [List.all_cons, Bool.and_eq_true] at hp
    have hpl : p < n := by simpa using hp.1
    simp only [List.zip_cons_cons, List.foldl_cons, parTM]
    refine Fit.par (ds := ds) ps vs ((p, v) :: tm) _ hp.2 ⟨by simpa using h.1, h.2.1, fun t u ht hu => ?_⟩
    simp only [Array.getElem?_setIfInBounds]
    by_cases e : p = t
    · subst e
      simp [tget] at hu
      rw [if_pos rfl, if_pos (by rw [h.1]; exact hpl), hu]
    · rw [if_neg e]
      have : Nat.beq p t = false := by rw [Bool.eq_false_iff]; intro hb; exact e (Nat.eq_of_beq_eq_true hb)
      simp only [tget, this] at hu
      exact h.2.2 t u ht hu

theorem ob_in {D : Nat} {o : Obj} {w : World} (H : Ow W K (ob D o :: L) w) : w.heap[D]? = some o := by
  obtain ⟨h, hA, i⟩ := H.part
  obtain rfl : h = Hl.one D o := hA
  exact i D _ (by simp [Hl.one])
theorem kn_ob {hR : Hl} {D : Nat} {o : Obj} {M : List HP} (s : sats M hR) (t : Tk M (ob D o) R) (hd : hR.disj K) : Kn (K.add hR) (fun w => w.heap[D]? = some o) := fun w i => by
  obtain ⟨h1, h2, hA, _, d', rfl⟩ := sats_perm t.perm _ s
  obtain rfl : h1 = Hl.one D o := hA
  exact ((Hl.inn_add d').1 ((Hl.inn_add hd.symm).1 i).2).1 D _ (by simp [Hl.one])

/-- A range over a function, outside of rounds. -/
theorem J_rangeQ {α : Type} {enc : α → List Value} {g : Operand} {ps : List Tmp} {assign body : Code} {gf : FuncId} {first lb : List Value} {φ : World → Prop} {G : List α → α → Prop} {St Sp : List α → Prop} {Q : (List α → HP) → Prop} {Ds : List Nat}
    (It : IterQ P gf (fun l => first ++ yldV l :: lb) φ enc G St Sp Q) (hro : F.ro = none) (hm : decM (tget tm mkK) = Ds) (hg : evT tm g = some (.func (.func gf) first.toArray lb.toArray)) (ho : ownB P gf = true) (hps : ps.all (Nat.blt · n) = true) (hes : ∀ x, (enc x).length = ps.length)
    (I : List α → List HP) (Ix : Code → List α → List HP) (hQ : ∀ A B : HP, Q (fun pre => sats (A :: B :: I pre))) (hs : Sb L (I []) R) (hφ : ∀ w, Rdw K R w → φ w)
    (hround : ∀ (W : World) (K3 : Hl) (l : Nat) (pre : List α) (x : α), K.le K3 → G pre x → J P n W K3 ⟨some l, noP⟩ [.code assign, .hole (RB P n W K3 K l I Ix (pre ++ [x]) body)] (parTM ps (enc x) ((mkK, encM []) :: tm)) (I pre))
    (hdone : ∀ D xs, St xs → J P n W K F k ((mkK, encM (D :: Ds)) :: tm) (dfr D :: (I xs ++ R)))
    (hstop : ∀ D c pre, Sp pre → J P n W K F (.code c :: k) ((mkK, encM (D :: Ds)) :: tm) (dfr D :: (Ix c pre ++ R))) :
    J P n W K F (.code (.rangeFunc g ps.toArray assign body) :: k) tm L := .mk <| fun a w hf hO => by
  refine wpIn_rangeFunc fun fn _ => ?_
  rw [show (wideR F.ro).round = none from hro]
  obtain ⟨rec, hrec⟩ : ∃ rec : LoopState → Option Code → Loop, rec = fun st pe => { state := st, pending := pe, fn, tmps := a.tmps, params := ps.toArray, assign, body, defers := w.heap.size } := ⟨_, rfl⟩
  obtain ⟨D, hD⟩ : ∃ D, D = w.heap.size := ⟨_, rfl⟩
  obtain ⟨l, hl⟩ : ∃ l, l = w.heap.size + 1 := ⟨_, rfl⟩
  have H1 : Ow W K (ob l (.loop (rec .ready none)) :: dfr D :: (I [] ++ R)) ((w.alloc (.deferred (some []))).alloc (.loop (rec .ready none))) := by
    have h1 := (hO.sb hs).alloc (.deferred (some []))
    have h2 := h1.alloc (.loop (rec .ready none))
    rw [World.size_alloc, ← hl, ← hD] at h2
    exact h2
  obtain ⟨W1, hW1⟩ : ∃ W1, (w.alloc (.deferred (some []))).alloc (.loop (rec .ready none)) = W1 := ⟨_, rfl⟩
  rw [hW1] at H1
  refine ⟨l, [mark D], W1, { target := .fn (.func gf) lb.toArray, args := first.toArray ++ #[yldV l] }, W1, gf, first.toArray ++ #[yldV l] ++ lb.toArray, W1, ?_, ?_, fun _ _ => trivial, ?_, fun h => by simp [Fence.wide] at h, ?_⟩
  · rw [← hW1, hrec, hl, hD]; exact run_enterLoop_outer _ _ _ _ _
  · simp only [resolve, hf.eval hg, Deferred.ofValue]
    simp [Act.eval, yldV]
  · simp only [invoke]
    exact run_own ho _ _
  -- the iterator
  let Y : List α → HP := fun pre => sats (dfr D :: ob l (.loop (rec .ready none)) :: I pre)
  let Yx : List α → HP := fun pre h => ∃ c, sats (dfr D :: ob l (.loop (rec .done (some c))) :: Ix c pre) h
  have hY : ∀ pre x, G pre x → Yld P K l (enc x).toArray [Y pre] (fun v L' => (v = .bool true ∧ L' = [Y (pre ++ [x])]) ∨ (v = .bool false ∧ L' = [Yx (pre ++ [x])])) := by
    intro pre x hlen W2 K2 w2 hKK H2
    have H3 : Ow W2 K2 (dfr D :: ob l (.loop (rec .ready none)) :: I pre) w2 := by simpa using H2.flat (As := dfr D :: ob l (.loop (rec .ready none)) :: I pre) .here
    have H4 : Ow W2 K2 (I pre ++ [ob l (.loop (rec .ready none)), dfr D]) w2 := H3.perm (by
      refine (List.Perm.swap _ _ _).trans ?_
      exact (List.perm_append_comm (l₁ := [ob l (.loop (rec .ready none)), dfr D]) (l₂ := I pre)))
    have hl2 : w2.heap[l]? = some (.loop (rec .ready none)) := ob_in (H3.perm (List.Perm.swap _ _ _))
    have hy := run_yield (P := P) (args := (enc x).toArray) hl2 (by rw [hrec]; simpa using hes x)
    refine ⟨_, _, _, _, hy, ?_⟩
    obtain ⟨hR, sR, dR, H5, back⟩ := H4.frame
    have hfit := Fit.par (n := n) (ds := []) ps (enc x) ((mkK, encM []) :: tm) a.tmps hps ⟨hf.sz, hf.lt, fun t v ht hv => hf.v t v ht (by
      have : Nat.beq mkK t = false := by rw [Bool.eq_false_iff]; intro hb; exact ht (Nat.eq_of_beq_eq_true hb).symm
      simpa [tget, this] using hv)⟩
    have hmk : tget (parTM ps (enc x) ((mkK, encM []) :: tm)) mkK = some (encM []) := by
      have key : ∀ (ps : List Tmp) (vs : List Value) (tm : TM), ps.all (Nat.blt · n) = true → tget (parTM ps vs tm) mkK = tget tm mkK := by
        intro ps
        induction ps with
        | nil => intro vs tm _; rfl
        | cons p ps ih =>
          intro vs tm hp
          simp only [List.all_cons, Bool.and_eq_true] at hp
          cases vs with
          | nil => rfl
          | cons v vs =>
            rw [parTM, ih vs _ hp.2]
            have hpl : p < n := by simpa using hp.1
            have : Nat.beq p mkK = false := by rw [Bool.eq_false_iff]; intro hb; have := Nat.eq_of_beq_eq_true hb; have := hf.lt; subst_vars; exact absurd hpl (Nat.not_lt.2 this)
            simp [tget, this]
      rw [key _ _ _ hps]
      rfl
    have hJ := (hround W2 (K2.add hR) l pre x (Hl.le.trans hKK (Hl.le_add _ _)) hlen).h _ w2 (⟨by rw [hmk, dec_enc]; rfl, hfit.1, hfit.2.1, hfit.2.2⟩ : Fit n _ { tmps := (ps.zip (enc x)).foldl (fun t (p, v) => t.setIfInBounds p v) a.tmps, defers := [] }) H5
    have htm : ((rec .ready none).params.zip (enc x).toArray).foldl (fun tmps (t, a) => tmps.setIfInBounds t a) (rec .ready none).tmps = (ps.zip (enc x)).foldl (fun t (p, v) => t.setIfInBounds p v) a.tmps := by
      rw [hrec]
      simp
    have e1 : (rec .ready none).assign = assign := by rw [hrec]
    have e2 : (rec .ready none).body = body := by rw [hrec]
    rw [htm, e1, e2]
    refine roundIn_of_wpIn (F := Fence.wide) trivial (wpIn_mono (F := wideR (some l)) hJ ?_)
    rintro e a1 w1 he
    cases e with
    | normal =>
      obtain ⟨tm1, L1, hf1, H6, hbody⟩ := he
      have H7 : Ow W2 K2 (ob l (.loop (rec .ready none)) :: (dfr D :: L1)) w1 := (back L1 w1 H6).perm (by
        exact (List.perm_append_comm (l₁ := L1) (l₂ := [ob l (.loop (rec .ready none)), dfr D])))
      have hbr := run_beginRound (P := P) (ob_in H7) (by rw [hrec])
      have H8 := H7.putOb (.loop { rec .ready none with state := .busy })
      have H9 : Ow W2 K2 (L1 ++ [ob l (.loop { rec .ready none with state := .busy }), dfr D]) _ := H8.perm (List.perm_append_comm (l₁ := [ob l (.loop { rec .ready none with state := .busy }), dfr D]) (l₂ := L1))
      obtain ⟨hR2, sR2, dR2, H10, back2⟩ := H9.frame
      refine ⟨_, hbr, wpIn_mono (F := wideR (some l)) ((hbody (K2.add hR2) (Hl.le.trans hKK (Hl.le_add _ _)) ((kn_ob sR2 .here dR2).imp fun w h => ⟨_, h⟩)).h a1 _ hf1 H10) ?_⟩
      have fin : ∀ (jump : Option Code) (M : List HP) (w3 : World), Ow W2 (K2.add hR2) M w3 → ∃ v w4, (Instr.endRound l jump).run P w3 = .ok v w4 ∧ v = .bool jump.isNone ∧ Ow W2 K2 (dfr D :: ob l (.loop (rec (if jump.isNone then .ready else .done) jump)) :: M) w4 := fun jump M w3 H11 => by
        have H12 : Ow W2 K2 (ob l (.loop { rec .ready none with state := .busy }) :: (dfr D :: M)) w3 := (back2 M w3 H11).perm (List.perm_append_comm (l₁ := M) (l₂ := [ob l (.loop { rec .ready none with state := .busy }), dfr D]))
        have her := run_endRound (P := P) jump (ob_in H12)
        refine ⟨_, _, her, rfl, ?_⟩
        have H13 := H12.putOb (.loop (rec (if jump.isNone then .ready else .done) jump))
        have e3 : ({ rec .ready none with state := .busy } : Loop) = rec .busy none := by rw [hrec]
        have e4 : (Obj.loop { ({ rec .ready none with state := .busy } : Loop) with state := if jump.isNone then .ready else .done, pending := jump }) = .loop (rec (if jump.isNone then .ready else .done) jump) := by rw [hrec]
        rw [e4]
        exact H13.perm (List.Perm.swap _ _ _)
      rintro e3 a3 w3 hp
      cases e3 with
      | normal =>
        obtain ⟨v, w4, h1, h2, h3⟩ := fin none _ w3 hp
        exact ⟨v, w4, h1, v, _, .inl ⟨h2, rfl⟩, rfl, (h3.shut (M := dfr D :: ob l (.loop (rec .ready none)) :: I (pre ++ [x])) (R := []) (A := Y (pre ++ [x])) (by simpa using Sb.all (dfr D :: ob l (.loop (rec .ready none)) :: I (pre ++ [x])) []) (fun k hk => hk))⟩
      | ret =>
        obtain ⟨v, w4, h1, h2, h3⟩ := fin (some .ret) _ w3 hp
        exact ⟨v, w4, h1, v, _, .inr ⟨h2, rfl⟩, rfl, (h3.shut (M := dfr D :: ob l (.loop (rec .done (some .ret))) :: Ix .ret (pre ++ [x])) (R := []) (A := Yx (pre ++ [x])) (by simpa using Sb.all (dfr D :: ob l (.loop (rec .done (some .ret))) :: Ix .ret (pre ++ [x])) []) (fun k hk => ⟨_, hk⟩))⟩
      | exit id =>
        obtain ⟨v, w4, h1, h2, h3⟩ := fin (some (.exit id)) _ w3 hp
        exact ⟨v, w4, h1, v, _, .inr ⟨h2, rfl⟩, rfl, (h3.shut (M := dfr D :: ob l (.loop (rec .done (some (.exit id)))) :: Ix (.exit id) (pre ++ [x])) (R := []) (A := Yx (pre ++ [x])) (by simpa using Sb.all (dfr D :: ob l (.loop (rec .done (some (.exit id)))) :: Ix (.exit id) (pre ++ [x])) []) (fun k hk => ⟨_, hk⟩))⟩
      | goto t =>
        obtain ⟨v, w4, h1, h2, h3⟩ := fin (some (.goto t)) _ w3 hp
        exact ⟨v, w4, h1, v, _, .inr ⟨h2, rfl⟩, rfl, (h3.shut (M := dfr D :: ob l (.loop (rec .done (some (.goto t)))) :: Ix (.goto t) (pre ++ [x])) (R := []) (A := Yx (pre ++ [x])) (by simpa using Sb.all (dfr D :: ob l (.loop (rec .done (some (.goto t)))) :: Ix (.goto t) (pre ++ [x])) []) (fun k hk => ⟨_, hk⟩))⟩
      | panic c => exact hp.elim
      | outgrown => exact hp.elim
    | exit id => exact he.elim
    | goto t => exact he.elim
    | ret => exact he.elim
    | panic c => exact he.elim
    | outgrown => exact he.elim
  have H2 : Ow W K ([Y []] ++ R) W1 := by
    have H3 : Ow W K ((dfr D :: ob l (.loop (rec .ready none)) :: I []) ++ R) W1 := H1.perm (List.Perm.swap _ _ _)
    exact H3.shut (M := dfr D :: ob l (.loop (rec .ready none)) :: I []) (R := R) (A := Y []) (Sb.all _ _) (fun k hk => hk)
  obtain ⟨hR, sR, dR, H3, back⟩ := H2.frame
  have hcall := It K l Y Yx (hQ _ _) hY W (K.add hR) W1 (Hl.le_add _ _) (fun w i => hφ w ⟨((Hl.inn_add dR.symm).1 i).1, hR, sR, dR, ((Hl.inn_add dR.symm).1 i).2⟩) H3
  have hcall2 : CallsIn (wideR F.ro) (0 - 1) P gf (first ++ yldV l :: lb).toArray W1 _ := callsIn_wide.2 hcall
  have eargs : first.toArray ++ #[yldV l] ++ lb.toArray = (first ++ yldV l :: lb).toArray := by simp
  rw [eargs]
  refine hcall2.mono ?_
  rintro e w3 ⟨v, L', hL', rfl, H4⟩
  have hfitD : Fit n (tget ((mkK, encM (D :: Ds)) :: tm)) { a with defers := [mark D] ++ a.defers } := ⟨by
    show [mark D] ++ a.defers = (decM (some (encM (D :: Ds)))).map mark
    rw [dec_enc, hf.d, hm]
    rfl, hf.sz, hf.lt, fun t v ht hv => hf.v t v ht (by
      have : Nat.beq mkK t = false := by rw [Bool.eq_false_iff]; intro hb; exact ht (Nat.eq_of_beq_eq_true hb).symm
      simpa [tget, this] using hv)⟩
  have fin : ∀ (st : LoopState) (pe : Option Code) (M : List HP), st ≠ .busy → Ow W K (dfr D :: ob l (.loop (rec st pe)) :: (M ++ R)) w3 → ∃ w4, (Instr.endLoop l).run P w3 = .ok pe w4 ∧ Ow W K (dfr D :: (M ++ R)) w4 := fun st pe M hb H5 => by
    have H6 := H5.perm (List.Perm.swap _ _ _)
    have hel := run_endLoop (P := P) (ob_in H6) (by rw [hrec]; exact hb)
    have e3 : (rec st pe).pending = pe := by rw [hrec]
    rw [e3] at hel
    exact ⟨_, hel, (H6.putOb _).drop⟩
  rcases hL' with ⟨xs, hx, rfl⟩ | ⟨pre, hx, rfl⟩
  · have H5 : Ow W K ((dfr D :: ob l (.loop (rec .ready none)) :: I xs) ++ R) w3 := (back [Y xs] w3 H4).flat (As := dfr D :: ob l (.loop (rec .ready none)) :: I xs) .here
    obtain ⟨w4, h1, h2⟩ := fin .ready none (I xs) (by simp) H5
    exact ⟨none, w4, h1, (hdone D xs hx).h _ w4 hfitD h2⟩
  · obtain ⟨c, H5⟩ := (back [Yx pre] w3 H4).open (A := Yx pre) .here (Bs := fun c => dfr D :: ob l (.loop (rec .done (some c))) :: Ix c pre) (fun _ h => h)
    obtain ⟨w4, h1, h2⟩ := fin .done (some c) (Ix c pre) (by simp) H5
    exact ⟨some c, w4, h1, (hstop D c pre hx).h _ w4 hfitD h2⟩
/-- A range over a function, outside of rounds. -/
theorem J_range {α : Type} {enc : α → List Value} {g : Operand} {ps : List Tmp} {assign body : Code} {gf : FuncId} {first lb : List Value} {φ : World → Prop} {N : Nat} {St Sp : List α → Prop} {Ds : List Nat}
    (It : Iter P gf (fun l => first ++ yldV l :: lb) φ enc N St Sp) (hro : F.ro = none) (hm : decM (tget tm mkK) = Ds) (hg : evT tm g = some (.func (.func gf) first.toArray lb.toArray)) (ho : ownB P gf = true) (hps : ps.all (Nat.blt · n) = true) (hes : ∀ x, (enc x).length = ps.length)
    (I : List α → List HP) (Ix : Code → List α → List HP) (hs : Sb L (I []) R) (hφ : ∀ w, Rdw K R w → φ w)
    (hround : ∀ (W : World) (K3 : Hl) (l : Nat) (pre : List α) (x : α), K.le K3 → pre.length < N → J P n W K3 ⟨some l, noP⟩ [.code assign, .hole (RB P n W K3 K l I Ix (pre ++ [x]) body)] (parTM ps (enc x) ((mkK, encM []) :: tm)) (I pre))
    (hdone : ∀ D xs, St xs → J P n W K F k ((mkK, encM (D :: Ds)) :: tm) (dfr D :: (I xs ++ R)))
    (hstop : ∀ D c pre, Sp pre → J P n W K F (.code c :: k) ((mkK, encM (D :: Ds)) :: tm) (dfr D :: (Ix c pre ++ R))) :
    J P n W K F (.code (.rangeFunc g ps.toArray assign body) :: k) tm L :=
  J_rangeQ (G := fun pre _ => pre.length < N) (Q := fun _ => True) It.q hro hm hg ho hps hes I Ix (fun _ _ => trivial) hs hφ hround hdone hstop
end
end Go.Pm
namespace Go.Pm
set_option linter.unusedSimpArgs false
set_option linter.unusedVariables false
open Go.RowKit

section
variable {P : Program} {n : Nat} {W : World} {K : Hl} {F : Fp} {k : List It} {tm : TM} {L L' R S M C : List HP} {T : TypeId} {pos : String} {af : Array Edge} {gd : Option (Nat × Bool)} {ops : Array Oper} {rest nx : List Oper} {d : Option Tmp}

/-- A struct of two numbers. -/
def eq2 (P : Program) (t : TypeId) (k j : IntKind) : Bool := !P.stoodInHeld t && !P.eqGuardType P.depth t && (match P.underlying t with
  | some (.struct fs) => match fs.toList with
    | [f, g] => f.name != "_" && g.name != "_" && f.offset == 0 && g.offset == 1 && decide (intTy P f.type = some k) && decide (intTy P g.type = some j)
    | _ => false
  | _ => false)
theorem intTy_spec {t : TypeId} {k : IntKind} (h : intTy P t = some k) : P.underlying t = some (.int k) := by
  unfold intTy at h
  split at h
  · rename_i k' hu; cases h; exact hu
  · cases h
theorem run_eq2 {t : TypeId} {k j : IntKind} (h : eq2 P t k j = true) (a b a' b' : Int) (w : World) : (Op.equalIn 10000 t (.agg #[.int k a, .int j b]) (.agg #[.int k a', .int j b'])).run P w = .ok (decide (a = a' ∧ b = b')) w := by
  simp only [eq2, Bool.and_eq_true, Bool.not_eq_true'] at h
  obtain ⟨⟨h1, _⟩, h2⟩ := h
  split at h2
  · rename_i fs hu
    split at h2
    · rename_i f g hfg
      simp only [Bool.and_eq_true, bne_iff_ne, ne_eq, beq_iff_eq, decide_eq_true_eq] at h2
      obtain ⟨⟨⟨⟨⟨n1, n2⟩, o1⟩, o2⟩, i1⟩, i2⟩ := h2
      have e1 := intTy_spec i1
      have e2 := intTy_spec i2
      have hf : P.fieldsOf t = fs := by simp [Program.fieldsOf, hu]
      rw [run_equalIn_struct w 9999 t _ _ (by rw [hf]; exact hu) h1, hf, hfg]
      have p1 : ∀ (x y : Value) w, (part f.type #[x, y] f.offset).run P w = .ok x w := fun x y w => by
        simp [part, Sem.run_bind, run_agg e1, TypeDesc.isRow, o1]
      have p2 : ∀ (x y : Value) w, (part g.type #[x, y] g.offset).run P w = .ok y w := fun x y w => by
        simp [part, Sem.run_bind, run_agg e2, TypeDesc.isRow, o2]
      simp only [Op.eqFields, if_pos (show f.name ≠ "_" from n1), if_pos (show g.name ≠ "_" from n2), Sem.run_bind, p1, p2, Result.andThen_ok, run_equalIn_int w 9998 _ _ _ _ _ e1]
      by_cases ha : a = a'
      · subst ha
        simp only [beq_self_eq_true, Bool.not_true, Bool.false_eq_true, if_false, Sem.run_bind, p2, Result.andThen_ok, run_equalIn_int w 9998 _ _ _ _ _ e2]
        by_cases hb : b = b'
        · subst hb; simp
        · simp [hb]
      · simp [ha]
    · cases h2
  · cases h2
theorem run_g2 {op : BinOp} {t : TypeId} {k j : IntKind} (h : eq2 P t k j = true) (x y : Operand) (xs ys : Array Value) (w : World) : (eqGuard op t x y (.agg xs) (.agg ys)).run P w = .ok () w := by
  simp only [eq2, Bool.and_eq_true, Bool.not_eq_true'] at h
  exact run_eqGuard_agg w op t x y xs ys h.1.2
theorem pe_eq2 {xt yt : TypeId} {x y : Operand} {k j : IntKind} {a b a' b' : Int} (hx : evT tm x = some (.agg [.int k a, .int j b].toArray)) (hy : evT tm y = some (.agg [.int k a', .int j b'].toArray)) (h : eq2 P xt k j = true) : PE P K L ⟨d, .binOp .eql xt x y yt, T, pos, af, gd⟩ (tget tm) (.bool (decide (a = a' ∧ b = b'))) := pe_bin hx hy fun w => by
  simp only [Sem.run_bind, run_g2 h, Result.andThen_ok, run_eql_struct]
  rw [run_eq2 h]
  rfl
theorem pe_ne2 {xt yt : TypeId} {x y : Operand} {k j : IntKind} {a b a' b' : Int} (hx : evT tm x = some (.agg [.int k a, .int j b].toArray)) (hy : evT tm y = some (.agg [.int k a', .int j b'].toArray)) (h : eq2 P xt k j = true) : PE P K L ⟨d, .binOp .neq xt x y yt, T, pos, af, gd⟩ (tget tm) (.bool (decide (¬ (a = a' ∧ b = b')))) := pe_bin hx hy fun w => by
  simp only [Sem.run_bind, run_g2 h, Result.andThen_ok, run_neq_struct]
  rw [run_eq2 h]
  by_cases hp : a = a' ∧ b = b' <;> simp [hp, Result.andThen]

theorem pe_indexA {t : TypeId} {x i : Operand} {cs : List Value} {m j : Nat} {kk : IntKind} {z : Int} {v : Value} (hx : evT tm x = some (.agg cs.toArray)) (hi : evT tm i = some (.int kk z)) (ht : arrInfo P t = some (m, 1, false)) (hz : z = (j : Int)) (hj : j < m) (hv : cs[j]? = some v) : PE P K L ⟨d, .index t x i, T, pos, af, gd⟩ (tget tm) v := fun ρ w ha _ => by
  have h1 := ha x (by simp [Op.operands]) _ hx
  have h2 := ha i (by simp [Op.operands]) _ hi
  obtain ⟨e, inf, de, hu, hin, hsz, hd, hr⟩ := arrInfo_spec ht
  subst hz
  unfold execOp
  simp only [h1, h2]
  have h3 : (0 : Int) ≤ (j : Int) ∧ (j : Int) < (m : Int) := by omega
  simp [Instr.index, Sem.run_bind, run_underlying hu, asIntOf, h3, hj, run_sz hin, hsz, part, run_agg hd, hr, hv]

/-- A cell of which the world is known to hold v. -/
theorem pe_ldH {ty : TypeId} {x : Operand} {p : Addr} {v : Value} (hx : evT tm x = some (.pointer (some p))) (ht : cellTy P ty = true) (h : ∀ w, Rdw K L w → w.cell? p = some v) : PE P K L ⟨d, .load ty x, T, pos, af, gd⟩ (tget tm) v :=
  pe_ldG hx fun w hr => run_load_cell ht (h w hr)
/-- A row that the known memory holds. -/
theorem pe_ldKR {ty : TypeId} {x : Operand} {b i : Nat} {cs : List Value} (hx : evT tm x = some (.pointer (some ⟨b, i, none⟩))) (h : Kn K (fun w => w.rangeAt b i cs)) (ht : rowTy P ty cs.length = true) : PE P K L ⟨d, .load ty x, T, pos, af, gd⟩ (tget tm) (.agg cs.toArray) :=
  pe_ldG hx fun w hr => run_load_row ht (h w hr.1)
theorem pe_ldKS {ty : TypeId} {x : Operand} {b i m : Nat} {T' : TypeId} {cs vs : List Value} (hx : evT tm x = some (.pointer (some ⟨b, i, none⟩))) (h : Kn K (fun w => Blk w b cs.toArray T')) (_hn : (P.info? ty).map (·.size) = some m) (hs : Seg cs i m vs) (ht : rowTy P ty m = true) : PE P K L ⟨d, .load ty x, T, pos, af, gd⟩ (tget tm) (.agg vs.toArray) :=
  pe_ldKR hx (fun w i j v hv => by rw [(h w i).cell]; simpa using hs.get j v hv) (by rw [hs.len]; exact ht)
theorem pe_ldKC {ty : TypeId} {x : Operand} {b i : Nat} {T' : TypeId} {cs : List Value} {v : Value} (hx : evT tm x = some (.pointer (some ⟨b, i, none⟩))) (h : Kn K (fun w => Blk w b cs.toArray T')) (hs : cs[i]? = some v) (ht : cellTy P ty = true) : PE P K L ⟨d, .load ty x, T, pos, af, gd⟩ (tget tm) v :=
  pe_ldG hx fun w hr => run_load_cell ht (by rw [(h w hr.1).cell]; simpa using hs)
/-- A cell that lies within a part. -/
theorem ae_stH {A B : HP} {od : Option Tmp} {t : TypeId} {x y : Operand} {p : Addr} {v : Value} (hx : evT tm x = some (.pointer (some p))) (hy : evT tm y = some v) (ht : cellTy P t = true) (h1 : v.oneCell' = true)
    (h : ∀ W K' w, Ow W K' (A :: R) w → ∃ u, w.cell? p = some u ∧ w.frozen? p = false ∧ Ow W K' (B :: R) (w.setCell p v)) : AE P n K R [A] ⟨od, .store t x y, T, pos, af, gd⟩ (tget tm) (one undef [B]) :=
  ae_stG hx hy fun W K' w _ hO => by
    obtain ⟨u, h2, h3, h4⟩ := h W K' w hO
    exact ⟨_, run_store_cell ht h2 h3 h1, h4⟩
theorem JL_stH {A B : HP} {t : TypeId} {x y : Operand} {p : Addr} {v : Value} (hx : evT tm x = some (.pointer (some p))) (hy : evT tm y = some v) (ht : cellTy P t = true) (h1 : v.oneCell' = true) (hm : Tk L A R)
    (h : ∀ W K' w, Ow W K' (A :: R) w → ∃ u, w.cell? p = some u ∧ w.frozen? p = false ∧ Ow W K' (B :: R) (w.setCell p v)) (hg : wantF ops ⟨none, .store t x y, T, pos, af, gd⟩ (tget tm) = some true) (hk : JL P n W K F ops k rest tm (B :: R)) : JL P n W K F ops k (⟨none, .store t x y, T, pos, af, gd⟩ :: rest) tm L :=
  JL_a0 rfl hg (.cons hm .nil) (ae_stH hx hy ht h1 h) (by rintro _ _ ⟨rfl, rfl⟩; exact hk)
end

/-! Calls, with what is found by the same means every time. -/
section
variable {P : Program} {n : Nat} {W : World} {K : Hl} {F : Fp} {k : List It} {tm : TM} {L R S M C : List HP} {T : TypeId} {pos : String} {af : Array Edge} {gd : Option (Nat × Bool)} {ops : Array Oper} {rest nx : List Oper} {d : Tmp}
variable {c : Operand} {xs : Array Operand} {ts : Array TypeId} {f : FuncId} {first caps : Array Value} {us vs : List Value} {φ : World → Prop} {Rr : Value → List HP → Prop}
theorem JL_goq (Sp : Pact P f vs.toArray φ C Rr) (hc : evT tm c = some (.func (.func f) first caps) := by rfl) (ha : xs.toList.mapM (evT tm) = some us := by rfl) (hv : (first ++ us.toArray ++ caps).toList = vs := by first | rfl | (simp; done) | fail) (hs : Sb L C R := by first | ((with_reducible (repeat (first | exact Sb.nil | apply Sb.cons | exact Tk.here | apply Tk.there))); done) | fail) (hφ : ∀ w, Rdw K R w → φ w) (h : ∀ v L', Rr v L' → JL P n W K F ops k rest ((d, v) :: tm) (L' ++ R)) (ho : ownB P f = true := by first | assumption | decide +kernel) (hn : Nat.blt d n = true := by rfl) (hg : wantF ops ⟨some d, .call ⟨.value c, xs, ts⟩, T, pos, af, gd⟩ (tget tm) = some true := by rfl) :
    JL P n W K F ops k (⟨some d, .call ⟨.value c, xs, ts⟩, T, pos, af, gd⟩ :: rest) tm L := JL_a rfl hn hg hs (ae_go hc ha hv ho Sp hφ) h
theorem JD_goq (Sp : Pact P f vs.toArray φ C Rr) (hc : evT tm c = some (.func (.func f) first caps) := by rfl) (ha : xs.toList.mapM (evT tm) = some us := by rfl) (hv : (first ++ us.toArray ++ caps).toList = vs := by first | rfl | (simp; done) | fail) (hs : Sb M C R := by first | ((with_reducible (repeat (first | exact Sb.nil | apply Sb.cons | exact Tk.here | apply Tk.there))); done) | fail) (hφ : ∀ w, Rdw K (R ++ S) w → φ w) (h : ∀ v L', Rr v L' → JD P n W K F ops k nx rest ((d, v) :: tm) S (L' ++ R)) (ho : ownB P f = true := by first | assumption | decide +kernel) (hg : wantF ops ⟨some d, .call ⟨.value c, xs, ts⟩, T, pos, af, gd⟩ (tget tm) = some true := by rfl) :
    JD P n W K F ops k nx (⟨some d, .call ⟨.value c, xs, ts⟩, T, pos, af, gd⟩ :: rest) tm S M := JD_a rfl hg rfl hs (ae_go hc ha hv ho Sp hφ) h
end
/-- Ahead of a step that acts, where the order is drawn: the parts said otherwise. -/
theorem JD_heapA {P : Program} {n : Nat} {W : World} {K : Hl} {F : Fp} {ops : Array Oper} {k : List It} {nx rest : List Oper} {o : Oper} {tm : TM} {S M M' : List HP} (hg : wantF ops o (tget tm) = some true) (hk : kindOp o.op = 2) (hh : ∀ W K w, Ow W K M w → Ow W K M' w) (h : JD P n W K F ops k nx (o :: rest) tm S M') : JD P n W K F ops k nx (o :: rest) tm S M := .mk <| fun W2 K' w a hK hf hO => by
  obtain ⟨hR, sR, dR, H1, back⟩ := hO.frame (L := M) (R := S)
  have hO' : Ow W2 K' (M' ++ S) w := back M' w (hh W2 (K'.add hR) w H1)
  rcases h.h W2 K' w a hK hf hO' with ⟨hg', _⟩ | ⟨_, h2⟩
  · rw [hg] at hg'; cases hg'
  · refine .inr ⟨hg, .inr (.inr ⟨hk, ?_⟩)⟩
    rcases h2 with ⟨k0, _⟩ | ⟨k0, _⟩ | ⟨_, h3⟩
    · rw [hk] at k0; cases k0
    · rw [hk] at k0; cases k0
    · exact h3

/-! Numbers. -/
theorem bits_andNot {a : Int} {m : Nat} (h0 : 0 ≤ a) (h1 : a < 4294967296) (hm : m ≤ 32) : bits .andNot .u32 a (2 ^ m - 1) = a - a % 2 ^ m := by
  obtain ⟨x, rfl⟩ : ∃ x : Nat, a = x := ⟨a.toNat, by omega⟩
  have hx : x < 2 ^ 32 := by omega
  have hpm : 2 ^ m ≤ 2 ^ 32 := Nat.pow_le_pow_right (by omega) hm
  have hp0 : 0 < 2 ^ m := Nat.pow_pos (by omega)
  have e0 : ((2 : Int) ^ m - 1) = ((2 ^ m - 1 : Nat) : Int) := by
    rw [Int.ofNat_sub hp0]; simp
  have e1 : (x : Int) - (x : Int) % 2 ^ m = ((x - x % 2 ^ m : Nat) : Int) := by
    rw [Int.ofNat_sub (Nat.mod_le _ _)]; simp
  rw [e0, e1]
  have key : (BitVec.ofInt 32 (x : Int) &&& ~~~ BitVec.ofInt 32 ((2 ^ m - 1 : Nat) : Int)).toNat = x - x % 2 ^ m := by
    rw [BitVec.toNat_and, BitVec.toNat_not]
    simp only [BitVec.toNat_ofInt]
    have e2 : ((x : Int) % (2 ^ 32 : Nat)).toNat = x := by omega
    have e3 : (((2 ^ m - 1 : Nat) : Int) % (2 ^ 32 : Nat)).toNat = 2 ^ m - 1 := by
      have : (2 ^ m - 1 : Nat) < 2 ^ 32 := by omega
      rw [← Int.natCast_emod, Nat.mod_eq_of_lt this]; simp
    rw [e2, e3]
    apply Nat.eq_of_testBit_eq
    intro i
    rw [Nat.testBit_and]
    have e4 : x - x % 2 ^ m = 2 ^ m * (x / 2 ^ m) := by have := Nat.div_add_mod x (2 ^ m); omega
    rw [e4, Nat.testBit_two_pow_mul, Nat.testBit_div_two_pow]
    have e5 : (2 ^ 32 - 1 - (2 ^ m - 1)).testBit i = (decide (i < 32) && !decide (i < m)) := by
      rw [show 2 ^ 32 - 1 - (2 ^ m - 1) = 2 ^ 32 - ((2 ^ m - 1) + 1) by omega, Nat.testBit_two_pow_sub_succ (by omega), Nat.testBit_two_pow_sub_one]
    rw [e5]
    by_cases hi : i < 32
    · by_cases hmi : m ≤ i
      · simp [hi, hmi, Nat.not_lt.2 hmi]
      · simp [hi, hmi, Nat.lt_of_not_le hmi]
    · have : x.testBit i = false := Nat.testBit_lt_two_pow (Nat.lt_of_lt_of_le hx (Nat.pow_le_pow_right (by omega) (by omega)))
      by_cases hmi : m ≤ i <;> simp [hi, this, hmi]
  show IntKind.u32.wrap ((BitVec.ofInt 32 (x : Int) &&& ~~~ BitVec.ofInt 32 ((2 ^ m - 1 : Nat) : Int)).toNat : Int) = _
  rw [key, w_u32 (by omega) (by omega)]
theorem bits_and1 {a : Int} (h0 : 0 ≤ a) (h1 : a < 9223372036854775808) : bits .and .i64 a 1 = a % 2 := by
  obtain ⟨x, rfl⟩ : ∃ x : Nat, a = x := ⟨a.toNat, by omega⟩
  have key : (BitVec.ofInt 64 (x : Int) &&& BitVec.ofInt 64 1).toNat = x % 2 := by
    rw [BitVec.toNat_and]
    simp only [BitVec.toNat_ofInt]
    have e2 : ((x : Int) % (2 ^ 64 : Nat)).toNat = x := by omega
    rw [e2]
    exact Nat.and_one_is_mod x
  show IntKind.i64.wrap ((BitVec.ofInt 64 (x : Int) &&& BitVec.ofInt 64 1).toNat : Int) = _
  rw [key, w_i64 (by omega) (by omega)]
  simp
end Go.Pm
namespace Go.Pm
set_option linter.unusedSimpArgs false
set_option linter.unusedVariables false
open Go.RowKit
theorem xR {p : Prop} (h : p := by rfl) : p := h
theorem xC {p : Prop} (h : p := by decide +kernel) : p := h
theorem xW {p : Prop} (h : p := by first | decide +kernel | rfl) : p := h
theorem xT {p : Prop} (h : p := by first | ((with_reducible (repeat (first | exact Tk.here | apply Tk.there))); done) | fail) : p := h
theorem xA {p : Prop} (h : p := by first | ((with_reducible (repeat (first | exact Tk.here | apply Tk.there))); done) | ((simp only [List.cons_append, List.nil_append]); (with_reducible (repeat (first | exact Tk.here | apply Tk.there))); done) | fail) : p := h
theorem xS {p : Prop} (h : p := by first | ((with_reducible (repeat (first | exact Sb.nil | apply Sb.cons | exact Tk.here | apply Tk.there))); done) | fail) : p := h
theorem xG {p : Prop} (h : p := by first | ((repeat (first | exact Seg.e | apply Seg.t | apply Seg.s)); done) | fail) : p := h
theorem xE {p : Prop} (h : p := by first | ((repeat (first | exact SetAt.z | apply SetAt.s)); done) | fail) : p := h
theorem xP {p : Prop} (h : p := by first | ((repeat (first | exact Put.e | apply Put.t | apply Put.s)); done) | fail) : p := h
theorem xN {p : Prop} (h : p := by first | ((repeat (first | exact Nrm.nil | apply Nrm.cons)); done) | fail) : p := h
theorem xI {p : Prop} (h : p := by first | exact il0 | exact il1 | exact il2 | exact il3 | exact ic_succ _ | rfl | exact (Int.toNat_of_nonneg (by omega)).symm) : p := h
theorem xV {p : Prop} (h : p := by first | exact Src.kn (by assumption) | exact Src.ar xA | exact Src.vr xA | exact Src.sl xA | exact Src.ofV xA) : p := h
theorem xO {p : Prop} (h : p := by omega) : p := h
theorem xL {p : Prop} (h : p := by intro _; rfl) : p := h
theorem xK {p : Prop} (h : p := by intro _; kernel_rfl) : p := h
theorem xU {p : Prop} (h : p := by exact all_one _ (by intro _ _; rfl)) : p := h
theorem xD {p : Prop} (h : p := by first | ((repeat (first | exact Pick.nil | apply Pick.cons rfl)); done) | fail) : p := h
theorem xH {p : Prop} (h : p := by assumption) : p := h
theorem xF {p : Prop} (h : p := by exact fun _ _ => trivial) : p := h
theorem xZ {p : Prop} (h : p := by first | ((with_reducible (repeat (first | exact Sb.nil | apply Sb.cons | exact Tk.here | apply Tk.there))); done) | ((repeat (first | exact Sb.nil | apply Sb.cons | exact Tk.here | apply Tk.there)); done)) : p := h
end Go.Pm
