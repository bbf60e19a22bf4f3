/-
  Jf, Jg: merged.
-/
import Derived.Test.YtdnokmpnemaoaaaGreatZViewChooses6
namespace Go.Pm
set_option linter.unusedSimpArgs false
set_option linter.unusedVariables false
open Go.RowKit

/-! A list is written out. -/
inductive Nrm : List Value → List Value → Prop
  | nil : Nrm [] []
  | cons {v : Value} {r r' : List Value} : Nrm r r' → Nrm (v :: r) (v :: r')
theorem Nrm.eq {l r : List Value} (h : Nrm l r) : l = r := by
  induction h with
  | nil => rfl
  | cons _ ih => rw [ih]
def cellsL (v : Value) : List Value := match v with
  | .agg cs => cs.toList
  | v => [v]
def fillL (pl : List (Nat × Nat)) : List Value → List (Nat × Value) → List Value
  | cs, [] => cs
  | cs, (i, v) :: r => match pl[i]? with
    | some (off, sz) => fillL pl (cs.take off ++ (cellsL v ++ cs.drop (off + sz))) r
    | none => []
def zeroC (P : Program) (t : TypeId) : List Value := match P.info? t with
  | some i => match i.zero with
    | some z => cellsL z
    | none => []
  | none => []
def cellsIn (P : Program) (t : TypeId) : Nat := ((P.info? t).map (·.size)).getD 0
def placesL (P : Program) (t : TypeId) : List (Nat × Nat) := match P.underlying t with
  | some (.struct fs) => fs.toList.map fun f => (f.offset, cellsIn P f.type)
  | some (.array n e) => (List.range n).map fun i => (i * cellsIn P e, cellsIn P e)
  | _ => []
def bldC (P : Program) (t : TypeId) (vals : List (Nat × Value)) : List Value := fillL (placesL P t) (zeroC P t) vals
def rep (n : Nat) (l : List Value) : List Value := match n with
  | 0 => []
  | n + 1 => l ++ rep n l
def bslC (P : Program) (t : TypeId) (n : Nat) (vals : List (Nat × Value)) : List Value := match P.underlying t with
  | some (.slice e) => fillL ((List.range n).map fun i => (i * cellsIn P e, cellsIn P e)) (rep n (zeroC P e)) vals
  | _ => []
def evP (tm : TM) : List (Nat × Operand) → Option (List (Nat × Value))
  | [] => some []
  | (i, x) :: r => match evT tm x, evP tm r with
    | some v, some vs => some ((i, v) :: vs)
    | _, _ => none
theorem evP_map {tm : TM} {ρ : Operand → Value} : ∀ {l : List (Nat × Operand)} {r : List (Nat × Value)}, (∀ p ∈ l, ∀ v, evT tm p.2 = some v → ρ p.2 = v) → evP tm l = some r → l.map (fun (i, x) => (i, ρ x)) = r
  | [], r, _, h => by simpa [evP] using h
  | (i, x) :: l, r, ha, h => by
    simp only [evP] at h
    split at h
    · rename_i v vs hv hvs
      cases h
      have h1 := ha (i, x) (by simp) v hv
      simp only at h1
      simp only [List.map_cons, h1, evP_map (fun p hp => ha p (by simp [hp])) hvs]
    · cases h

section
variable {P : Program} {n : Nat} {W : World} {K : Hl} {F : Fp} {k : List It} {tm : TM} {L L' R S M : List HP} {T : TypeId} {pos : String} {af : Array Edge} {gd : Option (Nat × Bool)} {ops : Array Oper} {rest nx : List Oper} {d : Tmp}

theorem pe_build {od : Option Tmp} {t : TypeId} {ps : Array (Nat × Operand)} {vals : List (Nat × Value)} {cs : List Value} (h1 : evP tm ps.toList = some vals) (h2 : Nrm (bldC P t vals) cs) (h3 : ∀ w, (Instr.build t vals.toArray).run P w = .ok (.agg cs.toArray) w) : PE P K L ⟨od, .build t ps, T, pos, af, gd⟩ (tget tm) (.agg cs.toArray) := fun ρ w ha _ => by
  have e1 := evP_map (ρ := ρ) (fun p hp v hv => ha p.2 (by simp only [Op.operands, List.toList_toArray, List.mem_map]; exact ⟨p, hp, rfl⟩) v hv) h1
  have e2 : (ps.map fun (i, x) => (i, ρ x)) = vals.toArray := Array.ext' (by rw [Array.toList_map]; exact e1)
  unfold execOp
  simp only [e2]
  simp [Sem.run_bind, h3 w]

/-! A block is made. -/
theorem al_alloc {od : Option Tmp} {t : TypeId} {cs : List Value} (h1 : Nrm (zeroC P t) cs) (h2 : ∀ w, (Instr.alloc t true (.tuple #[])).run P w = .ok (.pointer (some ⟨w.heap.size, 0, none⟩)) (w.alloc (.cells cs.toArray t))) : AL P ⟨od, .alloc t, T, pos, af, gd⟩ (tget tm) (.cells cs.toArray t) (fun b => .pointer (some ⟨b, 0, none⟩)) := fun ρ w ha => by
  unfold execOp
  simp [Sem.run_bind, h2 w]
theorem al_boxA {od : Option Tmp} {t : TypeId} {x : Operand} {cs : List Value} (hx : evT tm x = some (.agg cs.toArray)) : AL P ⟨od, .box t x, T, pos, af, gd⟩ (tget tm) (.cells cs.toArray t) (fun b => .pointer (some ⟨b, 0, none⟩)) := fun ρ w ha => by
  have h1 := ha x (by simp [Op.operands]) _ hx
  unfold execOp
  simp only [h1]
  rfl
theorem al_boxC {od : Option Tmp} {t : TypeId} {x : Operand} {v : Value} (hx : evT tm x = some v) (h1 : v.oneCell' = true) : AL P ⟨od, .box t x, T, pos, af, gd⟩ (tget tm) (.cells [v].toArray t) (fun b => .pointer (some ⟨b, 0, none⟩)) := fun ρ w ha => by
  have h2 := ha x (by simp [Op.operands]) _ hx
  have hv : v.cells = #[v] := by cases v <;> first | rfl | (simp [Value.oneCell'] at h1)
  unfold execOp
  simp only [h2, Instr.box, newVar, hv]
  rfl
theorem al_bs {od : Option Tmp} {t e : TypeId} {m sz b' : Nat} {ps : Array (Nat × Operand)} {vals : List (Nat × Value)} {cs : List Value} (h1 : evP tm ps.toList = some vals) (_ht : elemInfo P t = some (e, sz, b')) (h2 : Nrm (bslC P t m vals) cs) (h3 : ∀ w, (Instr.buildSlice t m vals.toArray).run P w = .ok (.slice (some ⟨w.heap.size, 0, none⟩) m m) (w.alloc (.cells cs.toArray e))) :
    AL P ⟨od, .buildSlice t m ps, T, pos, af, gd⟩ (tget tm) (.cells cs.toArray e) (fun b => .slice (some ⟨b, 0, none⟩) m m) := fun ρ w ha => by
  have e1 := evP_map (ρ := ρ) (fun p hp v hv => ha p.2 (by simp only [Op.operands, List.toList_toArray, List.mem_map]; exact ⟨p, hp, rfl⟩) v hv) h1
  have e2 : (ps.map fun (i, x) => (i, ρ x)) = vals.toArray := Array.ext' (by rw [Array.toList_map]; exact e1)
  unfold execOp
  simp only [e2]
  simp [Sem.run_bind, h3 w]
theorem al_bs1 {od : Option Tmp} {t e : TypeId} {sz b' : Nat} {x : Operand} {cs : List Value} (hx : evT tm x = some (.agg cs.toArray)) (_ht : elemInfo P t = some (e, sz, b')) (h3 : ∀ w, (Instr.buildSlice t 1 #[(0, .agg cs.toArray)]).run P w = .ok (.slice (some ⟨w.heap.size, 0, none⟩) 1 1) (w.alloc (.cells cs.toArray e))) :
    AL P ⟨od, .buildSlice t 1 #[(0, x)], T, pos, af, gd⟩ (tget tm) (.cells cs.toArray e) (fun b => .slice (some ⟨b, 0, none⟩) 1 1) := fun ρ w ha => by
  have h1 := ha x (by simp [Op.operands]) _ hx
  unfold execOp
  simp only [List.map_toArray, List.map_cons, List.map_nil, h1]
  simp [Sem.run_bind, h3 w]
theorem JL_mc {o : Oper} {cs : List Value} {t : TypeId} {g : Nat → Value} (hd : o.dst = some d) (hn : Nat.blt d n = true) (hg : wantF ops o (tget tm) = some true) (hp : AL P o (tget tm) (.cells cs.toArray t) g) (h : ∀ b, JL P n W K F ops k rest ((d, g b) :: tm) (pts b cs t :: L)) : JL P n W K F ops k (o :: rest) tm L := JL_m hd hn hg hp h
theorem JD_mc {o : Oper} {cs : List Value} {t : TypeId} {g : Nat → Value} (hd : o.dst = some d) (hg : wantF ops o (tget tm) = some true) (hk : kindOp o.op = 1) (hp : AL P o (tget tm) (.cells cs.toArray t) g) (h : ∀ b, JD P n W K F ops k nx rest ((d, g b) :: tm) S (pts b cs t :: M)) : JD P n W K F ops k nx (o :: rest) tm S M := JD_m hd hg hk hp h

/-! Writes. -/
theorem wp_done {o : Oper} {a : Act} {w w' : World} {next : Act → World → Prop} (hr : (execOp a.eval o).run P w = .ok .skip w') (h : next (a.put o.dst undef) w') : wpI P o a w next := wpI_of_wp (by
  unfold Oper.wp
  rw [hr]
  exact h)
def one (v : Value) (L0 : List HP) : Value → List HP → Prop := fun u L' => u = v ∧ L' = L0
theorem ae_stG {od : Option Tmp} {t : TypeId} {x y : Operand} {p : Addr} {v : Value} {C L0 : List HP} (hx : evT tm x = some (.pointer (some p))) (hy : evT tm y = some v) (h : ∀ W K' w, K.le K' → Ow W K' (C ++ R) w → ∃ w', (storeVar t p v).run P w = .ok () w' ∧ Ow W K' (L0 ++ R) w') : AE P n K R C ⟨od, .store t x y, T, pos, af, gd⟩ (tget tm) (one undef L0) := fun W K' w a next hK hf hO hn => by
  obtain ⟨w', h1, h2⟩ := h W K' w hK hO
  refine wp_done (w' := w') ?_ (hn undef L0 w' ⟨rfl, rfl⟩ h2)
  unfold execOp
  simp only [hf.eval hx, hf.eval hy]
  simp [Instr.storeAt, Instr.sureAddr, Sem.run_bind, h1]
theorem ae_st {od : Option Tmp} {t T' : TypeId} {x y : Operand} {b i : Nat} {cs cs' : List Value} {v : Value} (hx : evT tm x = some (.pointer (some ⟨b, i, none⟩))) (hy : evT tm y = some v) (ht : cellTy P t = true) (h1 : v.oneCell' = true) (hs : SetAt cs i v cs') : AE P n K R [pts b cs T'] ⟨od, .store t x y, T, pos, af, gd⟩ (tget tm) (one undef [pts b cs' T']) :=
  ae_stG hx hy fun W K' w _ hO => by
    have hb := hO.blk .here
    have hl := hs.eq.2
    exact ⟨_, run_store_cell ht (show w.cell? ⟨b, i, none⟩ = some cs[i] by rw [hb.cell]; simp [hl]) (hb.free i) h1, hO.set .here hs⟩
theorem run_store_row {t : TypeId} {w : World} {b o : Nat} {cs vs : List Value} {T' : TypeId} {W : World} {K : Hl} {R : List HP} (hO : Ow W K (pts b cs T' :: R) w) (ht : rowTy P t vs.length = true) (hl : o + vs.length ≤ cs.length) (h1 : vs.all (·.oneCell') = true) : ∃ w', (storeVar t ⟨b, o, none⟩ (.agg vs.toArray)).run P w = .ok () w' ∧ Ow W K (pts b (splice cs.toArray o vs).toList T' :: R) w' := by
  have hr : ∃ i, P.info? t = some i ∧ i.size = vs.length := by
    unfold rowTy at ht
    cases hu : P.underlying t with
    | none => simp [hu] at ht
    | some d =>
      cases hi : P.info? t with
      | none => simp [hu, hi] at ht
      | some i => simp [hu, hi] at ht; exact ⟨i, rfl, ht.2⟩
  obtain ⟨i, hi, hsz⟩ := hr
  have hth := (hO.blk .here).there o vs.length (by simpa using hl)
  have hs := run_storeCells_cells (P := P) b o vs 0 w (fun j hj => by simpa using (hth j hj).1) (fun j hj => by simpa using (hth j hj).2) (by simpa using h1)
  simp only [Nat.add_zero] at hs
  refine ⟨w.setCells b o vs, ?_, hO.setCells vs o .here hl⟩
  simp [storeVar, Sem.run_bind, run_sz hi, Value.cells, hsz, hs]
theorem ae_stW {od : Option Tmp} {t T' : TypeId} {x y : Operand} {b : Nat} {cs vs : List Value} (hx : evT tm x = some (.pointer (some ⟨b, 0, none⟩))) (hy : evT tm y = some (.agg vs.toArray)) (ht : rowTy P t vs.length = true) (hl : vs.length = cs.length) (h1 : vs.all (·.oneCell') = true) : AE P n K R [pts b cs T'] ⟨od, .store t x y, T, pos, af, gd⟩ (tget tm) (one undef [pts b vs T']) :=
  ae_stG hx hy fun W K' w _ hO => by
    obtain ⟨w', h2, h3⟩ := run_store_row (t := t) hO ht (o := 0) (by omega) h1
    rw [splice_full cs.toArray vs (by simpa using hl)] at h3
    exact ⟨w', h2, by simpa using h3⟩
inductive Put : List Value → Nat → List Value → List Value → Prop
  | e {r : List Value} : Put r 0 [] r
  | t {x v : Value} {r vs r' : List Value} : Put r 0 vs r' → Put (x :: r) 0 (v :: vs) (v :: r')
  | s {x : Value} {r vs r' : List Value} {i : Nat} : Put r i vs r' → Put (x :: r) (i + 1) vs (x :: r')
theorem Put.eq {r vs r' : List Value} {i : Nat} (h : Put r i vs r') : r' = (splice r.toArray i vs).toList ∧ i + vs.length ≤ r.length := by
  have key : i + vs.length ≤ r.length ∧ r'.length = r.length ∧ ∀ j, r'[j]? = if i ≤ j ∧ j < i + vs.length then vs[j - i]? else r[j]? := by
    induction h with
    | e => exact ⟨by simp, rfl, fun j => by rw [if_neg (by simp)]⟩
    | t _ ih =>
      obtain ⟨h1, h2, h3⟩ := ih
      refine ⟨by simp at h1 ⊢; omega, by simp [h2], fun j => ?_⟩
      cases j with
      | zero => simp
      | succ j =>
        have := h3 j
        simp only [Nat.zero_le, true_and, Nat.zero_add, Nat.sub_zero] at this
        simp only [List.getElem?_cons_succ, this, List.length_cons, Nat.zero_le, true_and, Nat.zero_add, Nat.sub_zero]
        split
        · rw [if_pos (by omega)]
        · rw [if_neg (by omega)]
    | s _ ih =>
      obtain ⟨h1, h2, h3⟩ := ih
      refine ⟨by simp at h1 ⊢; omega, by simp [h2], fun j => ?_⟩
      cases j with
      | zero => rw [if_neg (by omega)]; rfl
      | succ j =>
        simp only [List.getElem?_cons_succ, h3 j]
        split
        · rename_i hj
          rw [if_pos (by omega)]
          congr 1
          omega
        · rename_i hj
          rw [if_neg (by omega)]
  refine ⟨?_, key.1⟩
  apply List.ext_getElem?
  intro j
  have h2 := splice_get vs i r.toArray j (by simpa using key.1)
  rw [key.2.2 j, Array.getElem?_toList (xs := splice r.toArray i vs), h2]
  simp
theorem ae_stS {od : Option Tmp} {t T' : TypeId} {x y : Operand} {b i : Nat} {cs vs cs' : List Value} (hx : evT tm x = some (.pointer (some ⟨b, i, none⟩))) (hy : evT tm y = some (.agg vs.toArray)) (ht : rowTy P t vs.length = true) (hp : Put cs i vs cs') (h1 : vs.all (·.oneCell') = true) : AE P n K R [pts b cs T'] ⟨od, .store t x y, T, pos, af, gd⟩ (tget tm) (one undef [pts b cs' T']) :=
  ae_stG hx hy fun W K' w _ hO => by
    obtain ⟨w', h2, h3⟩ := run_store_row (t := t) hO ht hp.eq.2 h1
    rw [hp.eq.1]
    exact ⟨w', h2, h3⟩
theorem ae_stE {α : Type} {enc : α → List Value} {od : Option Tmp} {t e : TypeId} {x y : Operand} {a : Option Addr} {m c j off sz : Nat} {es : List α} {z z' : α} {vs : List Value} {v : Value} (hx : evT tm x = some (.pointer (some (elA a j sz off)))) (hy : evT tm y = some v) (hv : cellsL v = vs) (hl : ∀ x, (enc x).length = sz) (hz : Nat.blt 0 sz = true) (hj : es[j]? = some z) (ht : (P.info? t).map (·.size) = some vs.length) (hp : enc z' = (splice (enc z).toArray off vs).toList) (ho : off + vs.length ≤ sz) (h1 : vs.all (·.oneCell') = true) :
    AE P n K R [Ar e sz enc (.slice a m c) es] ⟨od, .store t x y, T, pos, af, gd⟩ (tget tm) (one undef [Ar e sz enc (.slice a m c) (es.set j z')]) :=
  ae_stG hx hy fun W K' w _ hO => by
    have hlt := (List.getElem?_eq_some_iff.1 hj).1
    have hmm : m = es.length := by
      obtain ⟨_, a', c', he, _⟩ := Ow.slShape hO .here
      injection he
    subst hmm
    have hzz : 0 < sz := by simpa using hz
    obtain ⟨g, cur, rfl, H2, hcl, hct, hnc, hcm⟩ := hO.slOpen .here (by omega)
    have hsz1 : (j + 1) * sz ≤ es.length * sz := Nat.mul_le_mul_right _ hlt
    have hsz2 : es.length * sz ≤ cur.length := by rw [hcl]; exact Nat.mul_le_mul_right _ hnc
    have e1 : (j + 1) * sz = j * sz + sz := Nat.succ_mul j sz
    obtain ⟨inf, hi, hs⟩ : ∃ i, P.info? t = some i ∧ i.size = vs.length := by
      cases hq : P.info? t with
      | none => simp [hq] at ht
      | some i => exact ⟨i, rfl, by simpa [hq] using ht⟩
    have hth := (H2.blk .here).there (j * sz + off) vs.length (by simp; omega)
    have hst := run_storeCells_cells (P := P) g (j * sz + off) vs 0 w (fun j hj => by simpa using (hth j hj).1) (fun j hj => by simpa using (hth j hj).2) (by simpa using h1)
    simp only [Nat.add_zero] at hst
    have hvc : v.cells.toList = vs := by rw [← hv]; cases v <;> rfl
    refine ⟨w.setCells g (j * sz + off) vs, ?_, ?_⟩
    · have hsz3 : v.cells.size = vs.length := by rw [← hvc]; simp
      rw [elA_some, Nat.zero_add]
      simp [storeVar, Sem.run_bind, run_sz hi, hsz3, hs, hvc, hst]
    · have H3 := H2.setCells vs (j * sz + off) .here (by omega)
      have hset : ∀ i u, (es.set j z')[i]? = some u → u = if i = j then z' else (es[i]?).getD u := by
        intro i u hu
        rw [List.getElem?_set] at hu
        by_cases hij : j = i
        · subst hij; simp [hlt] at hu; simp [hu]
        · rw [if_neg hij] at hu; simp [Ne.symm hij, hu]
      have hlen : (es.set j z').length = es.length := by simp
      have hx : (splice cur.toArray (j * sz + off) vs).toList.take (es.length * sz) = flat enc (es.set j z') := by
        rw [← hlen]
        refine take_rows hl (es.set j z') (by rw [hlen, Array.length_toList (xs := splice cur.toArray (j * sz + off) vs), splice_size]; simpa using hsz2) fun i hi => ?_
        have hi' : i < es.length := by simpa using hi
        have hri := rows_of hl hct i hi'
        have e2 : (i + 1) * sz = i * sz + sz := Nat.succ_mul i sz
        have hsz4 : (i + 1) * sz ≤ es.length * sz := Nat.mul_le_mul_right _ hi'
        apply List.ext_getElem?
        intro q
        by_cases hq : q < sz
        · rw [rowOf_get hq, Array.getElem?_toList (xs := splice cur.toArray (j * sz + off) vs), splice_get vs (j * sz + off) cur.toArray (i * sz + q) (by simp; omega)]
          by_cases hij : i = j
          · subst hij
            rw [List.getElem_set_self, hp, Array.getElem?_toList (xs := splice (enc z).toArray off vs), splice_get vs off (enc z).toArray q (by simp [hl]; omega)]
            have hz2 : enc z = rowOf sz cur i := by
              rw [hri]
              rw [List.getElem?_eq_getElem hi'] at hj
              cases hj; rfl
            by_cases hoff : off ≤ q ∧ q < off + vs.length
            · rw [if_pos (by omega), if_pos hoff, show i * sz + q - (i * sz + off) = q - off by omega]
            · rw [if_neg (by omega), if_neg hoff, hz2]
              simp [rowOf_get hq]
          · have hne : ¬ (j * sz + off ≤ i * sz + q ∧ i * sz + q < j * sz + off + vs.length) := by
              rintro ⟨h2, h3⟩
              rcases Nat.lt_or_ge i j with h4 | h4
              · have : (i + 1) * sz ≤ j * sz := Nat.mul_le_mul_right _ h4
                omega
              · have : (j + 1) * sz ≤ i * sz := Nat.mul_le_mul_right _ (by omega)
                omega
            rw [if_neg hne, List.getElem_set_ne (Ne.symm hij), ← hri, rowOf_get hq]
            simp
        · have l1 : (rowOf sz (splice cur.toArray (j * sz + off) vs).toList i).length ≤ sz := by unfold rowOf; rw [List.length_take]; omega
          rw [List.getElem?_eq_none (by omega), List.getElem?_eq_none (by rw [hl]; omega)]
      have H4 := H3.slShut (n := es.length) (cap := c) .here (by rw [Array.length_toList (xs := splice cur.toArray (j * sz + off) vs), splice_size]; simpa using hcl) hx hnc hcm
      show Ow W K' (Sl e sz _ (es.set j z').length (flat enc (es.set j z')) :: R) _
      rw [hlen]
      exact H4
end
end Go.Pm
namespace Go.Pm
set_option linter.unusedSimpArgs false
set_option linter.unusedVariables false
open Go.RowKit

section
variable {P : Program} {n : Nat} {W : World} {K : Hl} {F : Fp} {k : List It} {tm : TM} {L L' R S M C : List HP} {T : TypeId} {pos : String} {af : Array Edge} {gd : Option (Nat × Bool)} {ops : Array Oper} {rest : List Oper} {d : Tmp}

/-! Append. -/
def AppR {α : Type} (e : TypeId) (sz : Nat) (enc : α → List Value) (m : Nat) (es : List α) (l : Nat) : Value → List HP → Prop := fun u L' => ∃ ad c, l + m ≤ c ∧ c ≤ maxLen ∧ u = .slice ad (l + m) c ∧ L' = [Ar e sz enc (.slice ad (l + m) c) es]
theorem ae_app {α : Type} {enc : α → List Value} {od : Option Tmp} {t e : TypeId} {sz bytes m : Nat} {s x : Operand} {v y : Value} {es fs : List α} (E : El P t e sz bytes) (hs : evT tm s = some v) (hx : evT tm x = some y) (hv : Src K R y sz m (flat enc fs)) (hl : ∀ x, (enc x).length = sz) (h1 : ∀ u ∈ flat enc fs, u.oneCell' = true) (hb : (es.length + m) * bytes ≤ 140737488355328) :
    AE P n K R [Ar e sz enc v es] ⟨od, .call ⟨.builtin .append, #[s, x], #[t, t]⟩, T, pos, af, gd⟩ (tget tm) (AppR e sz enc m (es ++ fs) es.length) := fun W K' w a next hK hf hO hn => by
  have hown : w.ownsRow 0 e sz v es.length (flat enc es) := Ow.owns hO .here
  have hv := hv w ((Ow.rdw (M := [Ar e sz enc v es]) hO).le hK)
  obtain ⟨ad, cap, rfl, hlen, hnc, hcm, hnn, hvv⟩ := hv
  have hm : fs.length = m := Nat.eq_of_mul_eq_mul_right E.pos (by rw [flat_length hl] at hlen; exact hlen)
  have key : ∀ v' w', Bld e sz 0 w w' v v' (es.length + m) (flat enc es ++ flat enc fs) → next (a.put od v') w' := fun v' w' hbld => by
    have H2 : Ow W K' (Sl e sz v' (es.length + m) (flat enc es ++ flat enc fs) :: R) w' := Ow.bld hO hbld
    obtain ⟨_, ad', c', rfl, h3, h4⟩ := H2.slShape .here
    refine hn _ _ w' ⟨ad', c', h3, h4, rfl, rfl⟩ ?_
    show Ow W K' (Sl e sz _ (es ++ fs).length (flat enc (es ++ fs)) :: R) w'
    rw [List.length_append, hm, flat_append]
    exact H2
  refine wpI_of_wp ?_
  unfold Oper.wp execOp
  cases ad with
  | none =>
    obtain ⟨rfl, rfl⟩ := hnn rfl
    have hfs : fs = [] := List.eq_nil_of_length_eq_zero hm
    subst hfs
    obtain ⟨i, z, hi, _⟩ := E.inf
    have hrun := run_append_owned_none (P := P) (w := w) 0 t T e i sz E.sl hi v es.length (flat enc es) hown
    simp only [resolve, invoke, builtin, Sem.run_bind, Sem.run_pure, Result.andThen_ok, List.map_toArray, List.map_cons, List.map_nil, hf.eval hs, hf.eval hx, hrun]
    exact key v w (by have := Bld.refl hown; simpa [flat] using this)
  | some ad =>
    have hcells : ∀ j u, (flat enc fs)[j]? = some u → w.cell? (ad.add j) = some u := by
      intro j u hu
      obtain ⟨b, off, he, hc⟩ := hvv (by intro h0; rw [h0] at hu; simp at hu)
      cases he
      rw [addr_add_plain]
      exact hc j u hu
    obtain ⟨v', w', hr, hbld⟩ := run_app E T hown ad m cap (flat enc fs) hlen hcells h1 hb (Nat.zero_le _)
    simp only [resolve, invoke, builtin, Sem.run_bind, Sem.run_pure, Result.andThen_ok, List.map_toArray, List.map_cons, List.map_nil, hf.eval hs, hf.eval hx, hr]
    exact key v' w' hbld
theorem flat_one {α : Type} (enc : α → List Value) (y : α) : flat enc [y] = enc y := by simp [flat]
theorem all_one {α : Type} {enc : α → List Value} (fs : List α) (h : ∀ y ∈ fs, (enc y).all (·.oneCell') = true) : ∀ u ∈ flat enc fs, u.oneCell' = true := by
  intro u hu
  obtain ⟨y, hy, hu⟩ := List.mem_flatMap.1 hu
  exact List.all_eq_true.1 (h y hy) u hu
theorem ae_ap1 {α : Type} {enc : α → List Value} {od : Option Tmp} {t e T' : TypeId} {sz bytes g : Nat} {s x : Operand} {v : Value} {es : List α} {y : α} {cs : List Value} {R' : List HP} (E : El P t e sz bytes) (hs : evT tm s = some v) (hx : evT tm x = some (.slice (some ⟨g, 0, none⟩) 1 1)) (hg : Tk R (pts g cs T') R') (hy : cs = enc y) (hl : ∀ x, (enc x).length = sz) (h1 : cs.all (·.oneCell') = true) (hb : (es.length + 1) * bytes ≤ 140737488355328) :
    AE P n K R [Ar e sz enc v es] ⟨od, .call ⟨.builtin .append, #[s, x], #[t, t]⟩, T, pos, af, gd⟩ (tget tm) (AppR e sz enc 1 (es ++ [y]) es.length) :=
  ae_app E hs hx (by rw [flat_one, ← hy]; exact Src.lit hg (by rw [hy, hl]; omega) (by simp [maxLen])) hl (by rw [flat_one, ← hy]; exact List.all_eq_true.1 h1) hb
def elOk (P : Program) (t e : TypeId) (sz bytes : Nat) : Bool := match elemInfo P t with
  | some (e', s', b') => e' == e && s' == sz && b' == bytes && Nat.blt 0 sz && Nat.blt 0 bytes && (match P.info? e with
    | some i => match i.zero with
      | some z => z.cells.size == sz
      | none => false
    | none => false)
  | none => false
theorem El.ofOk {t e : TypeId} {sz bytes : Nat} (h : elOk P t e sz bytes = true) : El P t e sz bytes := by
  unfold elOk at h
  split at h
  · rename_i e' s' b' he
    simp only [Bool.and_eq_true, beq_iff_eq] at h
    obtain ⟨⟨⟨⟨⟨rfl, rfl⟩, rfl⟩, h0⟩, h1⟩, h2⟩ := h
    split at h2
    · rename_i i hi
      split at h2
      · rename_i z hz
        obtain ⟨i', hu, hi', hs, hb⟩ := elemInfo_spec he
        rw [hi] at hi'
        cases hi'
        exact ⟨hu, ⟨i, z, hi, hz, hs, hb, by simpa using h2⟩, by simpa using h0, by simpa using h1⟩
      · cases h2
    · cases h2
  · cases h

/-! Calls. -/
theorem Sb.all : ∀ (A R : List HP), Sb (A ++ R) A R
  | [], _ => .nil
  | _ :: A, R => .cons .here (Sb.all A R)
def ownB (P : Program) (f : FuncId) : Bool := match P.funcs[f]? with
  | some fn => fn.name != "runtime.NumGoroutine" && fn.body.isSome
  | none => false
theorem run_own {f : FuncId} (h : ownB P f = true) (args : Array Value) (w : World) : (callFunc f args).run P w = .ok (.enter f args) w := by
  unfold ownB at h
  split at h
  · rename_i fn hfn
    simp only [Bool.and_eq_true, bne_iff_ne, ne_eq] at h
    obtain ⟨b, hb⟩ := Option.isSome_iff_exists.1 h.2
    simp [callFunc, Sem.run_bind, hfn, h.1, hb]
  · cases h
theorem Kr.of {φ : World → Prop} (h : ∀ w, Rdw K R w → φ w) : Kr K R φ := fun x s d w i => h w ⟨((Hl.inn_add d.symm).1 i).1, x, s, d, ((Hl.inn_add d.symm).1 i).2⟩
theorem mapM_eval {a : Act} {f : TF} (hf : Fit n f a) : ∀ {l : List Operand} {r : List Value}, l.mapM (evF f) = some r → l.map a.eval = r
  | [], r, h => by simpa using h
  | x :: l, r, h => by
    simp only [List.mapM_cons, Option.pure_def, Option.bind_eq_bind, Option.bind_eq_some_iff, Option.some.injEq] at h
    obtain ⟨v, hv, r', hr, rfl⟩ := h
    simp [hf.eval hv, mapM_eval hf hr]
theorem ae_go {od : Option Tmp} {c : Operand} {xs : Array Operand} {ts : Array TypeId} {f : FuncId} {first caps : Array Value} {us vs : List Value} {φ : World → Prop} {Rr : Value → List HP → Prop} (hc : evT tm c = some (.func (.func f) first caps)) (ha : xs.toList.mapM (evT tm) = some us) (hv : (first ++ us.toArray ++ caps).toList = vs) (ho : ownB P f = true) (Sp : Pact P f vs.toArray φ C Rr) (hφ : ∀ w, Rdw K R w → φ w) :
    AE P n K R C ⟨od, .call ⟨.value c, xs, ts⟩, T, pos, af, gd⟩ (tget tm) Rr := fun W K' w a next hK hf hO hn => by
  have e1 : xs.map a.eval = us.toArray := Array.ext' (by rw [Array.toList_map]; exact mapM_eval hf ha)
  have e2 : first ++ us.toArray ++ caps = vs.toArray := Array.ext' hv
  refine wpI_of_wp ?_
  unfold Oper.wp execOp
  simp only [resolve, e1, hf.eval hc, Deferred.ofValue, Sem.run_bind, Sem.run_pure, Result.andThen_ok, invoke, e2, run_own ho]
  refine Sp.call hO (Sb.all _ _) (Kr.of fun w h => hφ w (h.le hK)) fun v L' hr w' H' => hn v L' w' hr H'
end
end Go.Pm
