/-
  Jy, Jz, J3, Rb1, Rb2, Rb3, Aq2, Aq3, Jv, Aq4, Aq5, Aq6, Aq7, Jw, Aq8, Aq9: merged.
-/
import Derived.Test.YtnhabkipjmgaaaaGreatZRibVoid4
import Derived.Maps.RangeRun
import Derived.Shelf.SlSortCmp.NoneTotal
import Derived.Laws.Concat
import Derived.Laws.Strings2
import Derived.WalkSpells
import Derived.WalkLawsBesides
import Derived.BigRegion
namespace Go.Pm
set_option linter.unusedSimpArgs false
set_option linter.unusedVariables false
open Go.RowKit
section
variable {κ : Type} [DecidableEq κ] {kv : κ → Value}
def bornAt (ents : Array MapEntry) (i : Nat) : Nat := ((ents[i]?).map (·.born)).getD 0
/-- A map and a range over it: what was handed out. -/
def rg (kv : κ → Value) (b r : Nat) (es : List (κ × Value)) (done : List Nat) : HP := fun h => ∃ ents clock seen, r ≠ b ∧ h = (Hl.one b (.map ents clock)).add (Hl.one r (.mapIter (some b) clock seen clock)) ∧
  ents.toList.map (fun e => (e.key, e.val)) = es.map (fun p => (kv p.1, p.2)) ∧ Born ents.toList clock ∧ seen.toList = done.map (bornAt ents) ∧ (∀ i ∈ done, i < ents.size) ∧ done.Nodup
theorem hl_one_disj {b r : Nat} (h : r ≠ b) (o p : Obj) : (Hl.one b o).disj (Hl.one r p) := fun c => by
  unfold Hl.one
  by_cases hc : c = b
  · right; rw [if_neg (by omega)]
  · left; rw [if_neg hc]
omit [DecidableEq κ] in
theorem rg_obj {h : Hl} {b r : Nat} {es : List (κ × Value)} {done : List Nat} (hm : rg kv b r es done h) {w : World} (i : h.inn w) : ∃ ents clock seen, r ≠ b ∧ w.heap[b]? = some (.map ents clock) ∧ w.heap[r]? = some (.mapIter (some b) clock seen clock) ∧
    ents.toList.map (fun e => (e.key, e.val)) = es.map (fun p => (kv p.1, p.2)) ∧ Born ents.toList clock ∧ seen.toList = done.map (bornAt ents) ∧ (∀ i ∈ done, i < ents.size) ∧ done.Nodup := by
  obtain ⟨ents, clock, seen, hne, rfl, h1, h2, h3, h4, h5⟩ := hm
  obtain ⟨i1, i2⟩ := (Hl.inn_add (hl_one_disj hne _ _)).1 i
  exact ⟨ents, clock, seen, hne, i1 b _ (by simp [Hl.one]), i2 r _ (by simp [Hl.one]), h1, h2, h3, h4, h5⟩
variable {P : Program} {n : Nat} {W : World} {K : Hl} {F : Fp} {k : List It} {tm : TM} {L L' R S M M' : List HP} {T : TypeId} {pos : String} {af : Array Edge} {gd : Option (Nat × Bool)} {ops : Array Oper} {rest nx : List Oper} {d : Tmp}
omit [DecidableEq κ] in
theorem wpI_value {o : Oper} {a : Act} {w w' : World} {next : Act → World → Prop} {v : Value} (hr : (execOp a.eval o).run P w = .ok (.value v) w') (h : next (a.put o.dst v) w') : wpI P o a w next := wpI_of_wp (by
  unfold Oper.wp
  rw [hr]
  exact h)
omit [DecidableEq κ] in
theorem ae_range {od : Option Tmp} {t kt et : TypeId} {x : Operand} {b : Nat} {es : List (κ × Value)} (ht : P.underlying t = some (.map kt et)) (hx : evT tm x = some (.map (some b))) :
    AE P n K R [mq kv b es] ⟨od, .range t x, T, pos, af, gd⟩ (tget tm) (fun v L' => ∃ r, v = .pointer (some ⟨r, 0, none⟩) ∧ L' = [rg kv b r es []]) := fun W K' w a next hK hf hO hn => by
  obtain ⟨q, hq, hin⟩ := hO.part
  obtain ⟨ents, clock, ho, he, hbo⟩ := mq_obj hq hin
  have hlt : b < w.heap.size := (Array.getElem?_eq_some_iff.1 ho).1
  refine wpI_value (v := .pointer (some ⟨w.heap.size, 0, none⟩)) (w' := w.alloc (.mapIter (some b) clock #[] clock)) ?_ (hn _ [rg kv b w.heap.size es []] _ ⟨_, rfl, rfl⟩ ?_)
  · unfold execOp
    simp only [hf.eval hx, Sem.run_bind, run_range_map (P := P) w t kt et b ents clock ht ho, Result.andThen_ok, Sem.run_pure]
  · refine Ow.change (show Ow W K' (mq kv b es :: R) w from hO) rfl ((Tp.refl _).same rfl rfl) rfl (by simp) (fun h hh ih => ?_)
    obtain ⟨en, cl, rfl, h1, h2⟩ := hh
    have hh2 := ih b (.map en cl) (by simp [Hl.one])
    rw [ho] at hh2
    cases hh2
    have hne : w.heap.size ≠ b := by omega
    refine ⟨⟨(Hl.one b (.map ents clock)).add (Hl.one w.heap.size (.mapIter (some b) clock #[] clock)), ⟨ents, clock, #[], hne, rfl, h1, h2, rfl, by simp, .nil⟩, (Hl.inn_add (hl_one_disj hne _ _)).2 ⟨fun c o e => ?_, fun c o e => ?_⟩, fun c hc => ?_⟩, fun c hl _ => Below.heap_alloc _ _ _ hl⟩
    · unfold Hl.one at e
      split at e
      · rename_i hc; subst hc; cases e
        rw [Below.heap_alloc _ _ _ hlt]
        exact ho
      · cases e
    · unfold Hl.one at e
      split at e
      · rename_i hc; subst hc; cases e
        show (w.heap.push _)[w.heap.size]? = _
        simp
      · cases e
    · by_cases hcb : c = b
      · left; simp [Hl.one, hcb]
      · right
        by_cases hcw : c = w.heap.size
        · omega
        · exact absurd (by simp [Hl.add, Hl.one, hcb, hcw]) hc
omit [DecidableEq κ] in
theorem born_inj {ents : Array MapEntry} {clock : Nat} (hb : Born ents.toList clock) {i j : Nat} (hi : i < ents.size) (hj : j < ents.size) (h : bornAt ents i = bornAt ents j) : i = j := by
  unfold bornAt at h
  rw [Array.getElem?_eq_getElem hi, Array.getElem?_eq_getElem hj] at h
  simp only [Option.map_some, Option.getD_some] at h
  have hp := List.pairwise_iff_getElem.1 hb.ne
  rcases Nat.lt_trichotomy i j with hl | hl | hl
  · exact absurd h (hp i j (by simpa using hi) (by simpa using hj) hl)
  · exact hl
  · exact absurd h.symm (hp j i (by simpa using hj) (by simpa using hi) hl)
/-- A step: nothing is left, or any one that is left. -/
def NextR (kv : κ → Value) (b r : Nat) (es : List (κ × Value)) (done : List Nat) (v : Value) (L' : List HP) : Prop :=
  (v = .tuple #[.bool false] ∧ (∀ i, i < es.length → i ∈ done) ∧ L' = [rg kv b r es done]) ∨
  (∃ i p, es[i]? = some p ∧ i ∉ done ∧ v = .tuple #[.bool true, kv p.1, p.2] ∧ L' = [rg kv b r es (done ++ [i])])
omit [DecidableEq κ] in
theorem ae_next {od : Option Tmp} {x : Operand} {b r : Nat} {es : List (κ × Value)} {done : List Nat} (hx : evT tm x = some (.pointer (some ⟨r, 0, none⟩))) :
    AE P n K R [rg kv b r es done] ⟨od, .next x false, T, pos, af, gd⟩ (tget tm) (NextR kv b r es done) := fun W K' w a next hK hf hO hn => by
  obtain ⟨q, hq, hin⟩ := hO.part
  obtain ⟨ents, clock, seen, hne, ho, hr, he, hbo, hs, hd, hnd⟩ := rg_obj hq hin
  have hlen : es.length = ents.size := by have := congrArg List.length he; simpa using this.symm
  rcases run_next_at (P := P) w T r b clock clock seen ents clock hr ho hbo.lt (Nat.le_refl _) with ⟨h0, hrun⟩ | ⟨e, hel, w1, hw1, hrun⟩
  · refine wpI_value (v := .tuple #[.bool false]) (w' := w) ?_ (hn _ _ _ (.inl ⟨rfl, fun i hi => ?_, rfl⟩) hO)
    · unfold execOp
      simp only [hf.eval hx, Sem.run_bind, hrun, Result.andThen_ok, Sem.run_pure]
    · rw [hlen] at hi
      have hempty : leftOf ents seen = #[] := Array.eq_empty_of_size_eq_zero h0
      unfold leftOf at hempty
      rw [Array.filter_eq_empty_iff] at hempty
      have hc := hempty ents[i] (by simp)
      simp only [Bool.not_eq_true', Bool.not_eq_false, Array.contains_iff_mem] at hc
      have hc2 : ents[i].born ∈ seen.toList := by simpa using hc
      rw [hs] at hc2
      obtain ⟨j, hj, hje⟩ := List.mem_map.1 hc2
      have : i = j := born_inj hbo hi (hd j hj) (by rw [hje]; unfold bornAt; rw [Array.getElem?_eq_getElem hi]; rfl)
      rw [this]; exact hj
  · unfold leftOf at hel
    rw [Array.toList_filter] at hel
    obtain ⟨hem, hns⟩ := List.mem_filter.1 hel
    obtain ⟨i, hi, hei⟩ := List.getElem_of_mem hem
    have hi' : i < ents.size := by simpa using hi
    have hei' : ents[i] = e := by simpa using hei
    have hnd2 : i ∉ done := fun hmem => by
      have : e.born ∈ seen.toList := by
        rw [hs]
        exact List.mem_map.2 ⟨i, hmem, by unfold bornAt; rw [Array.getElem?_eq_getElem hi', hei']; rfl⟩
      simp at hns
      exact hns (by simpa using this)
    obtain ⟨p, hp⟩ : ∃ p, es[i]? = some p := ⟨_, List.getElem?_eq_getElem (by omega)⟩
    have hkv : e.key = kv p.1 ∧ e.val = p.2 := by
      have := congrArg (·[i]?) he
      simp only [List.getElem?_map, hp, Option.map_some] at this
      rw [List.getElem?_eq_getElem hi] at this
      simp only [Option.map_some, Option.some.injEq, Prod.mk.injEq] at this
      rw [← hei']
      simpa using this
    refine wpI_value (v := .tuple #[.bool true, kv p.1, p.2]) (w' := ChangeMaps.setBlock w1 r (.mapIter (some b) clock (seen.push e.born) clock)) ?_ (hn _ _ _ (.inr ⟨i, p, hp, hnd2, rfl, rfl⟩) ?_)
    · unfold execOp
      simp only [hf.eval hx, Sem.run_bind, hrun, Result.andThen_ok, Sem.run_pure, hkv.1, hkv.2]
    · have hO1 : Ow W K' (rg kv b r es done :: R) w1 := by
        rcases hw1 with rfl | rfl
        · exact hO
        · exact Ow.drew hO
      have hh1 : w1.heap = w.heap := by rcases hw1 with rfl | rfl <;> rfl
      refine Ow.change hO1 rfl ((Tp.refl _).same rfl rfl) rfl (by simp [ChangeMaps.setBlock]) (fun h hh ih => ?_)
      obtain ⟨en, cl, se, _, rfl, g1, g2, g3, g4, g5⟩ := hh
      obtain ⟨i1, i2⟩ := (Hl.inn_add (hl_one_disj hne _ _)).1 ih
      have hh2 := i1 b (.map en cl) (by simp [Hl.one])
      rw [hh1, ho] at hh2
      cases hh2
      have hh3 := i2 r (.mapIter (some b) clock se clock) (by simp [Hl.one])
      rw [hh1, hr] at hh3
      cases hh3
      have hrlt : r < w1.heap.size := by rw [hh1]; exact (Array.getElem?_eq_some_iff.1 hr).1
      refine ⟨⟨(Hl.one b (.map ents clock)).add (Hl.one r (.mapIter (some b) clock (seen.push e.born) clock)), ⟨ents, clock, seen.push e.born, hne, rfl, he, hbo, ?_, ?_, ?_⟩, (Hl.inn_add (hl_one_disj hne _ _)).2 ⟨fun c o e => ?_, fun c o e => ?_⟩, fun c hc => ?_⟩, fun c hl hc => ?_⟩
      · rw [Array.toList_push, hs, List.map_append]
        congr 1
        simp only [List.map_cons, List.map_nil, bornAt, Array.getElem?_eq_getElem hi', Option.map_some, Option.getD_some, hei']
      · intro j hj
        rcases List.mem_append.1 hj with hj | hj
        · exact hd j hj
        · obtain rfl := List.mem_singleton.1 hj; exact hi'
      · refine List.nodup_append.2 ⟨hnd, by simp, fun a ha b hb => ?_⟩
        obtain rfl := List.mem_singleton.1 hb
        rintro rfl
        exact hnd2 ha
      · unfold Hl.one at e
        split at e
        · rename_i hc; subst hc; cases e
          simp only [ChangeMaps.setBlock, Array.getElem?_setIfInBounds, if_neg hne]
          rw [hh1]; exact ho
        · cases e
      · unfold Hl.one at e
        split at e
        · rename_i hc; subst hc; cases e
          simp [ChangeMaps.setBlock, Array.getElem?_setIfInBounds, hrlt]
        · cases e
      · left
        unfold Hl.add Hl.one at hc ⊢
        by_cases h1 : c = b
        · simp [h1]
        · by_cases h2 : c = r
          · simp [h2, hne]
          · simp [h1, h2] at hc
      · have hcr : r ≠ c := fun e => by
          subst e
          simp [Hl.add, Hl.one, hne] at hc
        simp [ChangeMaps.setBlock, Array.getElem?_setIfInBounds, hcr]
omit [DecidableEq κ] in
theorem pe_entry {od : Option Tmp} {x : Operand} {b r i : Nat} {es : List (κ × Value)} {done : List Nat} {p : κ × Value} (hx : evT tm x = some (.pointer (some ⟨r, 0, none⟩))) (hm : Tk L (rg kv b r es (done ++ [i])) R) (hp : es[i]? = some p) :
    PE P K L ⟨od, .entry x, T, pos, af, gd⟩ (tget tm) (.tuple #[kv p.1, p.2]) := fun ρ w ha hr => by
  have h1 := ha x (by simp [Op.operands]) _ hx
  obtain ⟨q, hq, hin⟩ := hr.tk hm
  obtain ⟨ents, clock, seen, hne, ho, hri, he, hbo, hs, hd, hnd⟩ := rg_obj hq hin
  have hi : i < ents.size := hd i (by simp)
  have hsn : seen = (seen.pop).push ents[i].born := by
    have h2 : seen.toList = done.map (bornAt ents) ++ [ents[i].born] := by
      rw [hs, List.map_append]
      congr 1
      simp [bornAt, Array.getElem?_eq_getElem hi]
    apply Array.ext'
    rw [Array.toList_push, Array.toList_pop, h2, List.dropLast_concat]
  rw [hsn] at hri
  have hn : (ents.toList.map (·.born)).Nodup := List.pairwise_map.2 hbo.ne
  have hkv : ents[i].key = kv p.1 ∧ ents[i].val = p.2 := by
    have := congrArg (·[i]?) he
    simp only [List.getElem?_map, hp, Option.map_some] at this
    rw [List.getElem?_eq_getElem (by simpa using hi)] at this
    simp only [Option.map_some, Option.some.injEq, Prod.mk.injEq] at this
    simpa using this
  unfold execOp
  simp only [h1, Sem.run_bind, run_entry_at (P := P) w r b clock seen.pop ents clock ents[i] hri ho (by simp) hn, Result.andThen_ok, Sem.run_pure, hkv.1, hkv.2]
omit [DecidableEq κ] in
/-- The range is over: the map is as it was. -/
theorem Ow.rgOver {w : World} {b r : Nat} {es : List (κ × Value)} {done : List Nat} (H : Ow W K L w) (t : Tk L (rg kv b r es done) R) : Ow W K (mq kv b es :: R) w := by
  have H1 := (H.tk t).imp (B := sats [mq kv b es, fun _ => True]) (fun h hh => by
    obtain ⟨ents, clock, seen, hne, rfl, h1, h2, _⟩ := hh
    exact ⟨Hl.one b (.map ents clock), Hl.one r (.mapIter (some b) clock seen clock), ⟨ents, clock, rfl, h1, h2⟩, ⟨Hl.one r (.mapIter (some b) clock seen clock), fun _ => none, trivial, fun _ => rfl, fun _ => .inr rfl, by funext c; simp [Hl.add]⟩, hl_one_disj hne _ _, rfl⟩)
  have H2 := H1.flat .here
  exact (H2.perm (.swap ..)).drop
omit [DecidableEq κ] in
theorem JL_range (kv : κ → Value) {t kt et : TypeId} {x : Operand} {b : Nat} {es : List (κ × Value)} (ht : P.underlying t = some (.map kt et)) (hx : evT tm x = some (.map (some b))) (hm : Tk L (mq kv b es) R) (hn : Nat.blt d n = true) (hg : wantF ops ⟨some d, .range t x, T, pos, af, gd⟩ (tget tm) = some true)
    (h : ∀ r, JL P n W K F ops k rest ((d, .pointer (some ⟨r, 0, none⟩)) :: tm) (rg kv b r es [] :: R)) : JL P n W K F ops k (⟨some d, .range t x, T, pos, af, gd⟩ :: rest) tm L :=
  JL_a rfl hn hg (.cons hm .nil) (ae_range ht hx) (by rintro _ _ ⟨r, rfl, rfl⟩; exact h r)
omit [DecidableEq κ] in
theorem JL_next (kv : κ → Value) {x : Operand} {b r : Nat} {es : List (κ × Value)} {done : List Nat} (hx : evT tm x = some (.pointer (some ⟨r, 0, none⟩))) (hm : Tk L (rg kv b r es done) R) (hn : Nat.blt d n = true) (hg : wantF ops ⟨some d, .next x false, T, pos, af, gd⟩ (tget tm) = some true)
    (h1 : (∀ i, i < es.length → i ∈ done) → JL P n W K F ops k rest ((d, .tuple #[.bool false]) :: tm) (rg kv b r es done :: R))
    (h2 : ∀ i p, es[i]? = some p → i ∉ done → JL P n W K F ops k rest ((d, .tuple #[.bool true, kv p.1, p.2]) :: tm) (rg kv b r es (done ++ [i]) :: R)) : JL P n W K F ops k (⟨some d, .next x false, T, pos, af, gd⟩ :: rest) tm L :=
  JL_a rfl hn hg (.cons hm .nil) (ae_next hx) (by
    rintro _ _ (⟨rfl, h, rfl⟩ | ⟨i, p, h, h', rfl, rfl⟩)
    · exact h1 h
    · exact h2 i p h h')
theorem pe_lookGK {od : Option Tmp} {t : TypeId} {x y : Operand} {b : Nat} {z : κ} {es : List (κ × Value)} {zv : Value} {ok : Bool} {v : Value} (ht : MI P t kv zv) (hx : evT tm x = some (.map (some b))) (hy : evT tm y = some (kv z)) (hm : Kn K (fun w => ∃ h, mq kv b es h ∧ h.inn w)) (hq : lookV (aG es z) zv ok = v) : PE P K L ⟨od, .lookup t x y ok, T, pos, af, gd⟩ (tget tm) v := fun ρ w ha hr => by
  subst hq
  have h1 := ha x (by simp [Op.operands]) _ hx
  have h2 := ha y (by simp [Op.operands]) _ hy
  obtain ⟨key, elem, i, hu, ⟨kd, hk, hs, hck, _⟩, hi, hz⟩ := ht
  obtain ⟨q, hq, hin⟩ := hm w hr.1
  obtain ⟨ents, clock, ho, he, hbo⟩ := mq_obj hq hin
  unfold execOp
  simp only [h1, h2]
  rcases findNow_aG hs z ents.toList es 0 he with ⟨e1, e2, _⟩ | ⟨j, v', e1, e2, _⟩
  · simp only [Instr.lookup, Sem.run_bind, run_underlying hu, Result.andThen_ok, run_getObj ho, Sem.run_pure, hck, run_findKeyG hk e2, zeroValue, typeInfo, e1, lookV]
    cases ok <;> simp [hi, hz]
  · simp only [Instr.lookup, Sem.run_bind, run_underlying hu, Result.andThen_ok, run_getObj ho, Sem.run_pure, hck, run_findKeyG hk e2, e1, lookV]
    cases ok <;> simp
omit [DecidableEq κ] in
theorem Rdw.mq {b : Nat} {es : List (κ × Value)} {w : World} (h : Rdw K L w) (t : Tk L (mq kv b es) R) : ∃ q, Pm.mq kv b es q ∧ q.inn w := h.tk t
theorem gL_range {od : Option Tmp} {t : TypeId} {x : Operand} (h : JL P n W K F ops k (⟨od, .range t x, T, pos, af, gd⟩ :: rest) tm L) : JL P n W K F ops k (⟨od, .range t x, T, pos, af, gd⟩ :: rest) tm L := h
theorem gL_next {od : Option Tmp} {x : Operand} {bb : Bool} (h : JL P n W K F ops k (⟨od, .next x bb, T, pos, af, gd⟩ :: rest) tm L) : JL P n W K F ops k (⟨od, .next x bb, T, pos, af, gd⟩ :: rest) tm L := h
theorem gL_entry {od : Option Tmp} {x : Operand} (h : JL P n W K F ops k (⟨od, .entry x, T, pos, af, gd⟩ :: rest) tm L) : JL P n W K F ops k (⟨od, .entry x, T, pos, af, gd⟩ :: rest) tm L := h
end
end Go.Pm
namespace Go.Pm
set_option linter.unusedSimpArgs false
set_option linter.unusedVariables false
open Go.RowKit Go.Shelf Go.Lib Go.Sort
/-- What lies behind is blocks and answers drawn. -/
theorem only_grow {w w' : World} (h : Only [] w w') : ∃ q os, w' = grow (w.drewN q) os := by
  have hd := h.tape.drawn
  refine ⟨w'.drawn - w.drawn, w'.heap.extract w.heap.size w'.heap.size, ?_⟩
  have hh : w'.heap = w.heap ++ w'.heap.extract w.heap.size w'.heap.size := by
    apply Array.ext_getElem?
    intro k
    by_cases hk : k < w.heap.size
    · rw [Array.getElem?_append_left hk, h.block k hk (by simp)]
    · rw [Array.getElem?_append_right (by omega), Array.getElem?_extract]
      have hs := h.size
      by_cases hk2 : k < w'.heap.size
      · rw [if_pos (by omega)]
        congr 1
        omega
      · rw [if_neg (by omega), Array.getElem?_eq_none (by omega)]
  obtain ⟨h1, h2, h3, h4, h5⟩ := w'
  have e2 := h.tape.tape
  have e4 := h.os
  have e5 := h.output
  dsimp only at *
  unfold grow World.drewN
  dsimp only
  subst e2 e4 e5
  rw [show w.drawn + (h3 - w.drawn) = h3 by omega, ← hh]
theorem Kn.le {K K' : Hl} {φ : World → Prop} (h : Kn K φ) (l : K.le K') : Kn K' φ := fun w i => h w (l.inn i)
theorem Ow.allLe {W : World} {K : Hl} {L : List HP} {w : World} (H : Ow W K L w) : K.le (World.all w) := fun b x e => H.kn b x e
/-- A contract that takes nothing, anywhere. -/
theorem Pact.at {P : Program} {g : FuncId} {args : Array Value} {φ : World → Prop} {v : Value} (S : Pact P g args φ [] (fun u L' => u = v ∧ L' = [])) {W : World} {K : Hl} {L : List HP} {w : World} (H : Ow W K L w) (hK : Kn K φ) :
    Calls P g args w fun e w' => e = .returned v ∧ ∃ q os, w' = grow (w.drewN q) os :=
  (S w (World.all w) w (hK.le H.allLe) (Ow.start w)).mono fun e w' ⟨u, L', ⟨h1, h2⟩, h3, h4⟩ => by
    subst h1 h2
    exact ⟨h3, only_grow h4.fin⟩
theorem putCells_id (F : Array Value) (cur : List Value) (h : F.size ≤ cur.length) : putCells id 0 F cur.toArray = (F.toList ++ cur.drop F.size).toArray := by
  apply Array.ext_getElem?
  intro k
  unfold putCells
  simp only [Array.getElem?_mapIdx, List.getElem?_toArray, Nat.zero_le, true_and, Nat.zero_add, Nat.sub_zero, id]
  by_cases hk : k < F.size
  · rw [List.getElem?_append_left (by simpa using hk), List.getElem?_eq_getElem (by omega)]
    simp [hk]
  · rw [List.getElem?_append_right (by simpa using hk)]
    simp only [Array.length_toList, List.getElem?_drop]
    rw [show F.size + (k - F.size) = k by omega]
    cases cur[k]? <;> simp [hk]
theorem Ow.putRow {W : World} {K : Hl} {R : List HP} {w : World} {g m : Nat} {cur : List Value} {e : TypeId} (H : Ow W K (pts g cur e :: R) w) (F : Array Value) (hF : F.size ≤ cur.length) (os : Array Obj) : Ow W K (pts g (F.toList ++ cur.drop F.size) e :: R) (grow (Sort.putRow id (Sort.ahead w m) g 0 F) os) := by
  have hb : Blk w g cur.toArray e := H.blk .here
  have hl := hb.lt
  have hbo : w.heap[g]? = some (.cells cur.toArray e (0, 0)) := hb
  have hh : (grow (Sort.putRow id (Sort.ahead w m) g 0 F) os).heap = w.heap.modify g (onCells (putCells id 0 F)) ++ os := rfl
  refine Ow.change H rfl ⟨rfl, Nat.le_add_right _ _⟩ rfl (by rw [hh]; simp) (fun h hA hi => ?_)
  have hA' : h = Hl.one g (.cells cur.toArray e (0, 0)) := hA
  subst hA'
  refine ⟨⟨Hl.one g (.cells (F.toList ++ cur.drop F.size).toArray e (0, 0)), rfl, fun c o eo => ?_, fun c hc => .inl ?_⟩, fun c hc hn => ?_⟩
  · unfold Hl.one at eo
    split at eo
    · rename_i hcg; subst hcg; cases eo
      rw [hh, Array.getElem?_append_left (by simpa using hl), Array.getElem?_modify, if_pos rfl, hbo]
      simp only [Option.map_some, onCells, putCells_id F cur hF]
    · cases eo
  · unfold Hl.one at hc ⊢
    split at hc <;> simp_all
  · have hcg : g ≠ c := fun e => by subst e; simp [Hl.one] at hn
    rw [hh, Array.getElem?_append_left (by simpa using hc), Array.getElem?_modify, if_neg hcg]
theorem putRow_map {enc : Int → Value} (w : World) (blk : Nat) (d : Array Int) : Sort.putRow enc w blk 0 d = Sort.putRow id w blk 0 (d.map enc) := by
  unfold Sort.putRow
  refine mapBlock_congr _ _ _ _ (fun c e fr _ => ?_)
  unfold putCells
  simp only [Nat.zero_le, true_and, Nat.zero_add, Nat.sub_zero, Array.size_map, id]
  apply Array.ext (by simp)
  intro k h1 h2
  simp only [Array.getElem_mapIdx]
  split
  · rename_i hk
    rw [getElem!_pos d k hk, getElem!_pos (d.map enc) k (by simpa using hk), Array.getElem_map]
  · rfl
theorem flat_map1 {α : Type} (f : α → Value) (q : List α) : flat (fun z => [f z]) q = q.map f := by
  unfold flat
  induction q with
  | nil => rfl
  | cons x r ih => rw [List.flatMap_cons, List.map_cons, ih]; rfl
section
variable {P : Program} {ρ : Ren}
/-- A sort of numbers of one kind, under a comparison that is a total order. -/
theorem sort1 (L : Go.Proofs.SlLaysF.n6 P ρ) (kd : IntKind) (e : TypeId) (cf : Int → Int → Int) (hO : SWO (Go.Proofs.ltOf cf)) (hT : ∀ x y, (Go.Proofs.ltOf cf) x y = false → (Go.Proofs.ltOf cf) y x = false → x = y) (g : Nat) (cb : Array Value) (hown : ownB P g = true) {φ : World → Prop}
    (hc : ∀ x y, Pact P g (#[.int kd x, .int kd y] ++ cb) φ [] (fun u L' => u = .int .i64 (cf x y) ∧ L' = [])) (a : Option Addr) (c : Nat) (l : List Int) (hl : l.length < 4611686018427387904) :
    Pact P (ρ.f 6) #[.slice a l.length c, .func (.func g) #[] cb] φ [Ar e 1 (fun z => [Value.int kd z]) (.slice a l.length c) l] (fun u L' => u = .tuple #[] ∧ L' = [Ar e 1 (fun z => [Value.int kd z]) (.slice a l.length c) (l.mergeSort fun x y => !(Go.Proofs.ltOf cf) y x)]) := by
  intro W K w hK H
  by_cases h0 : l.length = 0
  · have hl0 := List.eq_nil_of_length_eq_zero h0
    subst hl0
    exact (Go.Proofs.AnyF.slices_SortFunc_none { L with } a c _ w).mono fun e' w' ⟨h1, h2⟩ => by
      subst h2
      exact ⟨_, _, ⟨rfl, rfl⟩, h1, by simpa using H⟩
  · obtain ⟨gb, cur, rfl, H1, hcl, hct, hnc, hcm⟩ := H.slOpen (R := []) (by exact .here) h0
    have hflat := flat_map1 (Value.int kd) l
    rw [hflat] at hct
    have hH : Holds (Value.int kd) w gb 0 l.toArray := fun j hj => by
      have hj' : j < l.length := by simpa using hj
      have hg : cur[j]? = some (Value.int kd l[j]) := by
        have := congrArg (·[j]?) hct
        simp only [List.getElem?_take, List.getElem?_map, List.getElem?_eq_getElem hj', Option.map_some] at this
        rwa [if_pos (by omega)] at this
      have hb : Blk w gb cur.toArray e := H1.blk .here
      refine ⟨?_, ?_⟩
      · rw [Nat.zero_add, getElem!_pos l.toArray j hj]
        exact (hb.cell j).trans (by simpa using hg)
      · exact hb.free _
    have hlt : gb < w.heap.size := (H1.blk .here : Blk w gb cur.toArray e).lt
    have hcmp : Go.Proofs.CmpLays1 P g cb (Value.int kd) cf gb 0 l.toArray.size w := fun m os dk hs x y => by
      have H2 := Ow.putRow (m := m) H1 (dk.map (Value.int kd)) (by simp at hs ⊢; omega) os
      rw [← putRow_map] at H2
      exact Pact.at (hc x y) H2 hK
    have hcall := Go.Proofs.Any.slices_SortFunc_total L (Value.int kd) (fun _ => rfl) cf hO g cb gb 0 c l.toArray w (fun args w => run_own hown args w) hcmp hH hlt (by simpa using hl) hT
    have e1 : l.toArray.size = l.length := by simp
    rw [e1] at hcall
    refine hcall.mono fun e' w' ⟨h1, n, os, h2⟩ => ?_
    refine ⟨_, _, ⟨rfl, rfl⟩, h1, ?_⟩
    rw [h2]
    have hms : (l.mergeSort fun x y => !(Go.Proofs.ltOf cf) y x).length = l.length := List.length_mergeSort _
    have H2 := Ow.putRow (m := n) H1 ((l.mergeSort fun x y => !(Go.Proofs.ltOf cf) y x).toArray.map (Value.int kd)) (by simp; omega) os
    rw [← putRow_map] at H2
    show Ow W K (Sl e 1 _ _ _ :: []) _
    rw [hms]
    refine Ow.slShut H2 .here ?_ ?_ hnc hcm
    · simp; omega
    · rw [flat_map1]
      simp only [Array.toList_map, List.take_append, List.length_map, hms, Nat.mul_one, Nat.sub_self, List.take_zero, List.append_nil]
      rw [List.take_of_length_le (by simp)]
end
end Go.Pm
namespace Go.Pm
set_option linter.unusedSimpArgs false
set_option linter.unusedVariables false
open Go.RowKit Go.Shelf Go.Lib Go.Sort
theorem flatK_flat {α : Type} [Inhabited α] (enc : α → List Value) (k : Nat) (hk : ∀ x, (enc x).length = k) (l : List α) : (flatK enc k l.toArray).toList = flat enc l := by
  apply List.ext_getElem?
  intro t
  have hfl := flat_length hk l
  by_cases ht : t < l.length * k
  · have hk0 : 0 < k := by
      rcases Nat.eq_zero_or_pos k with h | h
      · subst h; simp at ht
      · exact h
    have hq : t / k < l.length := (Nat.div_lt_iff_lt_mul hk0).2 ht
    have hr : t % k < k := Nat.mod_lt _ hk0
    have e1 : (flatK enc k l.toArray).toList[t]? = some (flatK enc k l.toArray)[t]! := by
      rw [Array.getElem?_toList, Array.getElem?_eq_getElem (by simpa using ht), getElem!_pos (flatK enc k l.toArray) t (by simpa using ht)]
    rw [e1, get_flatK _ _ _ _ (by simpa using ht)]
    have e2 : l.toArray[t / k]! = l[t / k] := by rw [getElem!_pos l.toArray (t / k) (by simpa using hq)]; simp
    rw [e2]
    have e3 : (flat enc l)[t]? = some ((enc l[t / k])[t % k]!) := by
      have h1 : l = l.take (t / k) ++ l[t / k] :: l.drop (t / k + 1) := by rw [List.getElem_cons_drop]; exact (List.take_append_drop _ _).symm
      have h2 : flat enc l = flat enc (l.take (t / k)) ++ (enc l[t / k] ++ flat enc (l.drop (t / k + 1))) := by
        conv => lhs; rw [h1]
        rw [flat_append]
        rfl
      have h3 : (flat enc (l.take (t / k))).length = t / k * k := by rw [flat_length hk, List.length_take]; congr 1; omega
      have h4 : t = t / k * k + t % k := by have := Nat.div_add_mod t k; rw [Nat.mul_comm] at this; exact this.symm
      have h5 : t - t / k * k = t % k := by omega
      rw [h2, List.getElem?_append_right (by omega), h3, h5, List.getElem?_append_left (by rw [hk]; exact hr), List.getElem?_eq_getElem (by rw [hk]; exact hr), getElem!_pos (enc l[t / k]) (t % k) (by rw [hk]; exact hr)]
    exact e3.symm
  · rw [List.getElem?_eq_none (by rw [Array.length_toList, size_flatK]; simp; omega), List.getElem?_eq_none (by rw [hfl]; omega)]
section
variable {P : Program} {ρ : Ren} {α : Type} [Inhabited α]
/-- A sort of structs, under a comparison that is a total order. -/
theorem sortS (L : Go.Proofs.SlLaysF0.n6 P ρ) (k : Nat) (hk0 : 0 < k) (aE : ∀ w, (isAgg (ρ.t 24)).run P w = .ok true w) (zE : ∀ w, (Go.sizeOf (ρ.t 24)).run P w = .ok k w) (e : TypeId) (enc : α → List Value) (hk : ∀ x, (enc x).length = k) (h1 : ∀ x, ∀ v ∈ enc x, v.oneCell' = true) (cf : α → α → Int) (hO : SWO (Go.Proofs.ltOf cf)) (hT : ∀ x y, (Go.Proofs.ltOf cf) x y = false → (Go.Proofs.ltOf cf) y x = false → x = y) (g : Nat) (cb : Array Value) (hown : ownB P g = true) {φ : World → Prop}
    (hc : ∀ x y, Pact P g (#[.agg (enc x).toArray, .agg (enc y).toArray] ++ cb) φ [] (fun u L' => u = .int .i64 (cf x y) ∧ L' = [])) (a : Option Addr) (c : Nat) (l : List α) (hl : l.length < 4611686018427387904) :
    Pact P (ρ.f 6) #[.slice a l.length c, .func (.func g) #[] cb] φ [Ar e k enc (.slice a l.length c) l] (fun u L' => u = .tuple #[] ∧ L' = [Ar e k enc (.slice a l.length c) (l.mergeSort fun x y => !(Go.Proofs.ltOf cf) y x)]) := by
  intro W K w hK H
  by_cases h0 : l.length = 0
  · have hl0 := List.eq_nil_of_length_eq_zero h0
    subst hl0
    exact (Go.Proofs.AnyF.slices_SortFunc_none L a c _ w).mono fun e' w' ⟨h1, h2⟩ => by
      subst h2
      exact ⟨_, _, ⟨rfl, rfl⟩, h1, by simpa using H⟩
  · obtain ⟨gb, cur, rfl, H1, hcl, hct, hnc, hcm⟩ := H.slOpen (R := []) (by exact .here) h0
    have hflat := flatK_flat enc k hk l
    have hfs : (flatK enc k l.toArray).size = l.length * k := by simp
    have hH : HoldsK enc k w gb 0 l.toArray := fun j hj => by
      have hj' : j < l.length * k := by simpa using hj
      have hb : Blk w gb cur.toArray e := H1.blk .here
      have hg : cur[j]? = some (flatK enc k l.toArray)[j]! := by
        have h2 := congrArg (·[j]?) hct
        simp only [List.getElem?_take] at h2
        rw [if_pos hj'] at h2
        rw [h2, ← hflat, Array.getElem?_toList, Array.getElem?_eq_getElem hj, getElem!_pos (flatK enc k l.toArray) j hj]
      refine ⟨?_, ?_⟩
      · rw [Nat.zero_add]
        exact (hb.cell j).trans (by simpa using hg)
      · exact hb.free _
    have hlt : gb < w.heap.size := (H1.blk .here : Blk w gb cur.toArray e).lt
    have hbd : l.length * k ≤ cur.length := by rw [hcl]; exact Nat.mul_le_mul_right _ hnc
    have hcmp : Go.Proofs.CmpLays P g cb enc k cf gb 0 l.toArray.size w := fun m os dk hs x y => by
      have H2 := Ow.putRow (m := m) H1 (flatK enc k dk) (by simp at hs ⊢; rw [hs]; exact hbd) os
      exact Pact.at (hc x y) H2 hK
    have hcall := Go.Proofs.AnyQ.slices_SortFunc_total L k aE zE enc hk h1 cf hO g cb gb 0 c l.toArray w (fun args w => run_own hown args w) hcmp hH hlt (by simpa using hl) hT
    have e1 : l.toArray.size = l.length := by simp
    rw [e1] at hcall
    refine hcall.mono fun e' w' ⟨h1, n, os, h2⟩ => ?_
    refine ⟨_, _, ⟨rfl, rfl⟩, h1, ?_⟩
    rw [h2]
    have hms : (l.mergeSort fun x y => !(Go.Proofs.ltOf cf) y x).length = l.length := List.length_mergeSort _
    have H2 := Ow.putRow (m := n) H1 (flatK enc k (l.mergeSort fun x y => !(Go.Proofs.ltOf cf) y x).toArray) (by simp; exact hbd) os
    show Ow W K (Sl e k _ _ _ :: []) _
    rw [hms]
    have hfl2 := flatK_flat enc k hk (l.mergeSort fun x y => !(Go.Proofs.ltOf cf) y x)
    refine Ow.slShut H2 .here ?_ ?_ hnc hcm
    · simp; omega
    · rw [hfl2]
      have hlen : (flat enc (l.mergeSort fun x y => !(Go.Proofs.ltOf cf) y x)).length = l.length * k := by rw [flat_length hk, hms]
      rw [List.take_append_of_le_length (by omega), List.take_of_length_le (by omega)]
end
end Go.Pm
namespace Go.Proofs.YtnhabkipjmgaaaaGreat
set_option linter.unusedSimpArgs false
set_option linter.unusedVariables false
set_option maxRecDepth 20000
set_option maxHeartbeats 4000000
open Go.RowKit Go.Pm Go.Sort Go.Shelf

def sortLays_ren : Go.Shelf.Ren := ⟨fun | 6 => 42 | 15 => 76 | 14 => 75 | 28 => 104 | 29 => 105 | 20 => 96 | 21 => 97 | 22 => 98 | 23 => 99 | 24 => 100 | 25 => 101 | 26 => 102 | 27 => 103 | 46 => 125 | 47 => 126 | 48 => 127 | 49 => 128 | 50 => 129 | 57 => 142 | n => n, fun | 22 => 22 | 24 => 41 | 25 => 91 | 3 => 3 | 39 => 125 | 0 => 0 | 53 => 24 | 55 => 78 | 4 => 4 | 46 => 151 | 45 => 150 | 50 => 119 | 5 => 5 | 9 => 9 | 66 => 185 | 70 => 189 | 76 => 202 | 77 => 203 | n => n, fun | n => n⟩
theorem sortLays : Go.Proofs.SlLaysF0.n6 Tryz.prog sortLays_ren := {
  mixed := by kernel_rfl
  f6 := ⟨ "slices.SortFunc[[]pointsman/api.Prefix,pointsman/api.Prefix]", by decide, Tryz.func42.trans (congrArg some (by kernel_rfl))⟩
  f14 := ⟨ "slices.pdqsortCmpFunc[pointsman/api.Prefix]", by decide, Tryz.func75.trans (congrArg some (by kernel_rfl))⟩
  f15 := Tryz.func76.trans (congrArg some (by kernel_rfl))
  f20 := ⟨ "slices.insertionSortCmpFunc[pointsman/api.Prefix]", by decide, Tryz.func96.trans (congrArg some (by kernel_rfl))⟩
  f21 := ⟨ "slices.heapSortCmpFunc[pointsman/api.Prefix]", by decide, Tryz.func97.trans (congrArg some (by kernel_rfl))⟩
  f22 := ⟨ "slices.breakPatternsCmpFunc[pointsman/api.Prefix]", by decide, Tryz.func98.trans (congrArg some (by kernel_rfl))⟩
  f23 := ⟨ "slices.choosePivotCmpFunc[pointsman/api.Prefix]", by decide, Tryz.func99.trans (congrArg some (by kernel_rfl))⟩
  f24 := ⟨ "slices.reverseRangeCmpFunc[pointsman/api.Prefix]", by decide, Tryz.func100.trans (congrArg some (by kernel_rfl))⟩
  f25 := ⟨ "slices.partialInsertionSortCmpFunc[pointsman/api.Prefix]", by decide, Tryz.func101.trans (congrArg some (by kernel_rfl))⟩
  f26 := ⟨ "slices.partitionEqualCmpFunc[pointsman/api.Prefix]", by decide, Tryz.func102.trans (congrArg some (by kernel_rfl))⟩
  f27 := ⟨ "slices.partitionCmpFunc[pointsman/api.Prefix]", by decide, Tryz.func103.trans (congrArg some (by kernel_rfl))⟩
  f28 := Tryz.func104.trans (congrArg some (by kernel_rfl))
  f29 := Tryz.func105.trans (congrArg some (by kernel_rfl))
  f46 := ⟨ "slices.siftDownCmpFunc[pointsman/api.Prefix]", by decide, Tryz.func125.trans (congrArg some (by kernel_rfl))⟩
  f47 := Tryz.func126.trans (congrArg some (by kernel_rfl))
  f48 := Tryz.func127.trans (congrArg some (by kernel_rfl))
  f49 := ⟨ "slices.medianAdjacentCmpFunc[pointsman/api.Prefix]", by decide, Tryz.func128.trans (congrArg some (by kernel_rfl))⟩
  f50 := ⟨ "slices.medianCmpFunc[pointsman/api.Prefix]", by decide, Tryz.func129.trans (congrArg some (by kernel_rfl))⟩
  f57 := ⟨ "slices.order2CmpFunc[pointsman/api.Prefix]", by decide, Tryz.func142.trans (congrArg some (by kernel_rfl))⟩
  t0 := Tryz.underlying0
  a0 := Tryz.isAgg0
  z0 := Tryz.sizeOf0
  v0 := Tryz.zeroValue0
  t3 := Tryz.underlying3
  a3 := Tryz.isAgg3
  z3 := Tryz.sizeOf3
  v3 := Tryz.zeroValue3
  t4 := Tryz.underlying4
  a4 := Tryz.isAgg4
  z4 := Tryz.sizeOf4
  v4 := Tryz.zeroValue4
  t5 := Tryz.underlying5
  a5 := Tryz.isAgg5
  z5 := Tryz.sizeOf5
  v5 := Tryz.zeroValue5
  t9 := Tryz.underlying9
  a9 := Tryz.isAgg9
  z9 := Tryz.sizeOf9
  v9 := Tryz.zeroValue9
  t22 := Tryz.underlying22
  a22 := Tryz.isAgg22
  z22 := Tryz.sizeOf22
  v22 := Tryz.zeroValue22
  t25 := Tryz.underlying91
  a25 := Tryz.isAgg91
  z25 := Tryz.sizeOf91
  v25 := Tryz.zeroValue91
  t39 := Tryz.underlying125
  a39 := Tryz.isAgg125
  z39 := Tryz.sizeOf125
  v39 := Tryz.zeroValue125
  t45 := Tryz.underlying150
  a45 := Tryz.isAgg150
  z45 := Tryz.sizeOf150
  v45 := Tryz.zeroValue150
  t46 := Tryz.underlying151
  a46 := Tryz.isAgg151
  z46 := Tryz.sizeOf151
  v46 := Tryz.zeroValue151
  t50 := Tryz.underlying119
  a50 := Tryz.isAgg119
  z50 := Tryz.sizeOf119
  v50 := Tryz.zeroValue119
  t53 := Tryz.underlying24
  a53 := Tryz.isAgg24
  z53 := Tryz.sizeOf24
  v53 := Tryz.zeroValue24
  t55 := Tryz.underlying78
  a55 := Tryz.isAgg78
  z55 := Tryz.sizeOf78
  v55 := Tryz.zeroValue78
  t66 := Tryz.underlying185
  a66 := Tryz.isAgg185
  z66 := Tryz.sizeOf185
  v66 := Tryz.zeroValue185
  t70 := Tryz.underlying189
  a70 := Tryz.isAgg189
  z70 := Tryz.sizeOf189
  v70 := Tryz.zeroValue189
  t76 := Tryz.underlying202
  a76 := Tryz.isAgg202
  z76 := Tryz.sizeOf202
  v76 := Tryz.zeroValue202
  t77 := Tryz.underlying203
  a77 := Tryz.isAgg203
  z77 := Tryz.sizeOf203
  v77 := Tryz.zeroValue203 }

open T (Pf PfN Rt Ah pfC)
def cmpP (p q : Pf) : Int := if p = q then 0 else if Ah p q then -1 else 1
theorem ltP (p q : Pf) : Go.Proofs.ltOf cmpP p q = decide (Ah p q) := by
  unfold Go.Proofs.ltOf cmpP
  rw [Bool.eq_iff_iff]
  simp only [decide_eq_true_eq]
  by_cases h : p = q
  · subst h
    simp [T.Ah.irrefl]
  · rw [if_neg h]
    by_cases ha : Ah p q <;> simp [ha]
theorem compare_s (p q : Pf) : Pact Tryz.prog 43 #[.agg (pfC p).toArray, .agg (pfC q).toArray] (fun _ => True) [] (ret0 (.int .i64 (cmpP p q))) := by
  refine pact Tryz.func43 rfl Tryz.ntmps43 rfl ?_
  intro W K _
  have ha := T.ahead_s p q
  by_cases h : p.1 = q.1 ∧ p.2 = q.2
  · obtain rfl : p = q := Prod.ext h.1 h.2
    have e : cmpP p p = 0 := if_pos rfl
    rw [e]
    (repeat' (first | ((with_reducible apply gL); (first | refine yL0 ?_ | refine yL ?_ | (refine yM ?_; intro _) | fail)) | refine yJ ?_ | ((with_reducible apply gJ_if); (first | (refine J_if xR ?_ ?_ <;> intro _ <;> (try (exfalso; first | contradiction | omega))) | (refine J_ifb xR ?_ ?_ <;> (intro hgb; subst hgb)) | (refine J_ifb xR ?_ ?_ <;> intro _) | fail)) | fail))
    all_goals (first | (exfalso; simp_all; done) | skip)
    all_goals exact J_ret1 rfl (by rfl) fun w H => ⟨_, ⟨rfl, rfl⟩, H.sel .nil⟩
  · have hne : p ≠ q := fun e => h ⟨by rw [e], by rw [e]⟩
    rcases hb : decide (Ah p q) with _ | _
    · have e : cmpP p q = 1 := by unfold cmpP; rw [if_neg hne, if_neg (of_decide_eq_false hb)]
      rw [e]
      rw [hb] at ha
      (repeat' (first | ((with_reducible apply gL); (first | refine yL0 ?_ | refine yL ?_ | ((with_reducible apply gL_go); (first | (refine JL_goq (ha) (hφ := xF) (h := ?_); rintro _ _ ⟨rfl, rfl⟩; try simp only [List.cons_append, List.nil_append]) | fail)) | (refine yM ?_; intro _) | fail)) | refine yJ ?_ | ((with_reducible apply gJ_if); (first | (refine J_if xR ?_ ?_ <;> intro _ <;> (try (exfalso; first | contradiction | omega))) | (refine J_ifb xR ?_ ?_ <;> (intro hgb; subst hgb)) | (refine J_ifb xR ?_ ?_ <;> intro _) | fail)) | fail))
      all_goals exact J_ret1 rfl (by rfl) fun w H => ⟨_, ⟨rfl, rfl⟩, H.sel .nil⟩
    · have e : cmpP p q = -1 := by unfold cmpP; rw [if_neg hne, if_pos (of_decide_eq_true hb)]
      rw [e]
      rw [hb] at ha
      (repeat' (first | ((with_reducible apply gL); (first | refine yL0 ?_ | refine yL ?_ | ((with_reducible apply gL_go); (first | (refine JL_goq (ha) (hφ := xF) (h := ?_); rintro _ _ ⟨rfl, rfl⟩; try simp only [List.cons_append, List.nil_append]) | fail)) | (refine yM ?_; intro _) | fail)) | refine yJ ?_ | ((with_reducible apply gJ_if); (first | (refine J_if xR ?_ ?_ <;> intro _ <;> (try (exfalso; first | contradiction | omega))) | (refine J_ifb xR ?_ ?_ <;> (intro hgb; subst hgb)) | (refine J_ifb xR ?_ ?_ <;> intro _) | fail)) | fail))
      all_goals exact J_ret1 rfl (by rfl) fun w H => ⟨_, ⟨rfl, rfl⟩, H.sel .nil⟩
theorem swoP : SWO (Go.Proofs.ltOf cmpP) where
  irrefl x := by rw [ltP]; exact decide_eq_false T.Ah.irrefl
  trans x y z h1 h2 := by rw [ltP] at *; exact decide_eq_true ((of_decide_eq_true h1).trans (of_decide_eq_true h2))
  ntrans x y z h1 h2 := by
    rw [ltP] at *
    have a := of_decide_eq_false h1
    have b := of_decide_eq_false h2
    refine decide_eq_false fun c => ?_
    unfold Ah at *
    omega
theorem totP (x y : Pf) (h1 : Go.Proofs.ltOf cmpP x y = false) (h2 : Go.Proofs.ltOf cmpP y x = false) : x = y := by
  rw [ltP] at *
  have a := of_decide_eq_false h1
  have b := of_decide_eq_false h2
  by_cases h : x = y
  · exact h
  · exact absurd (T.Ah.total a h) b
def srtP (l : List Pf) : List Pf := l.mergeSort fun x y => !(Go.Proofs.ltOf cmpP) y x
theorem sort_s (a : Option Addr) (c n : Nat) (l : List Pf) (hn : l.length = n) (hl : n < 4611686018427387904) : Pact Tryz.prog 42 #[.slice a n c, .func (.func 43) #[] #[]] (fun _ => True) [Ar 41 2 pfC (.slice a n c) l] (fun u L' => u = .tuple #[] ∧ L' = [Ar 41 2 pfC (.slice a n c) (srtP l)]) := by
  subst hn
  exact sortS sortLays 2 (by decide) (fun w => Tryz.isAgg41 w) (fun w => Tryz.sizeOf41 w) 41 pfC (fun _ => rfl) (fun x v hv => by
    simp only [pfC, List.mem_cons, List.not_mem_nil, or_false] at hv
    rcases hv with rfl | rfl <;> rfl) cmpP swoP totP 43 #[] (by decide +kernel) (fun x y => compare_s x y) a c l hl
theorem srtP_perm (l : List Pf) : (srtP l).Perm l := List.mergeSort_perm l _
theorem srtP_len (l : List Pf) : (srtP l).length = l.length := List.length_mergeSort _
theorem srtP_srt (l : List Pf) : (srtP l).Pairwise fun x y => ¬ Ah y x := by
  have tr : ∀ a b c : Pf, (!(Go.Proofs.ltOf cmpP) b a) = true → (!(Go.Proofs.ltOf cmpP) c b) = true → (!(Go.Proofs.ltOf cmpP) c a) = true := fun a b c h1 h2 => by
    simp only [Bool.not_eq_true'] at *
    exact swoP.ntrans c b a h2 h1
  have to : ∀ a b : Pf, ((!(Go.Proofs.ltOf cmpP) b a) || (!(Go.Proofs.ltOf cmpP) a b)) = true := fun a b => by
    rw [ltP, ltP]
    simp only [Bool.or_eq_true, Bool.not_eq_true', decide_eq_false_iff_not]
    unfold Ah
    omega
  refine (List.pairwise_mergeSort tr to l).imp fun {a b} h => ?_
  rw [ltP] at h
  simpa using h
theorem clone_p (a : Option Addr) (c : Nat) (l : List Pf) (hl : l.length ≤ 1000000) : Pact Tryz.prog 65 #[.slice a l.length c] (fun w => Vw w (.slice a l.length c) 2 l.length (flat pfC l)) [] (fun u L' => ∃ a c, u = .slice a l.length c ∧ L' = [Ar 41 2 pfC (.slice a l.length c) l]) := by
  refine pact Tryz.func65 rfl Tryz.ntmps65 rfl ?_
  intro W K hK
  cases a with
  | none =>
    refine J_fact (φ := l = []) (fun w H => ?_) ?_
    · obtain ⟨a', c', he, _, _, _, h4, _⟩ := hK.of H
      cases he
      exact List.eq_nil_of_length_eq_zero (h4 rfl).1
    · rintro rfl
      (repeat' (first | ((with_reducible apply gL); (first | refine yL0 ?_ | refine yL ?_ | (refine yM ?_; intro _) | (refine yA ?_; intro _ _ _ _) | fail)) | refine yJ ?_ | ((with_reducible apply gJ_if); (first | (refine J_if xR ?_ ?_ <;> intro _ <;> (try (exfalso; first | contradiction | omega))) | (refine J_ifb xR ?_ ?_ <;> (intro hgb; subst hgb)) | (refine J_ifb xR ?_ ?_ <;> intro _) | fail)) | fail))
      exact J_ret1 rfl (by rfl) fun w H => ⟨_, ⟨none, 0, rfl, rfl⟩, (Ow.arNil (e := 41) (sz := 2) (enc := pfC) H).sel xZ⟩
  | some p =>
    (repeat' (first | ((with_reducible apply gL); (first | refine yL0 ?_ | ((with_reducible apply gL_c_append); (first | (refine JL_appL pfC (fs := l) (tabE etab_ok xR) xR xR xA (Src.kn hK) xC xL (all_one _ (by intro _ _; rfl)) (by omega) xR xR ?_; intro ad c2 _ _) | fail)) | refine yL ?_ | (refine yM ?_; intro _) | (refine yA ?_; intro _ _ _ _) | fail)) | refine yJ ?_ | ((with_reducible apply gJ_if); (first | (refine J_if xR ?_ ?_ <;> intro _ <;> (try (exfalso; first | contradiction | omega))) | (refine J_ifb xR ?_ ?_ <;> (intro hgb; subst hgb)) | (refine J_ifb xR ?_ ?_ <;> intro _) | fail)) | fail))
    exact J_ret1 rfl (by rfl) fun w H => ⟨_, ⟨ad, c2, rfl, rfl⟩, H.sel xZ⟩
end Go.Proofs.YtnhabkipjmgaaaaGreat
namespace Go.Proofs.YtnhabkipjmgaaaaGreat
set_option linter.unusedSimpArgs false
set_option linter.unusedVariables false
set_option maxRecDepth 20000
set_option maxHeartbeats 4000000
open Go.RowKit Go.Pm

open T (Pf PfN Rt Ah pfC)
/-- A test of prefixes, that reads a part and leaves it. -/
def TstP (F : FuncId) (caps : List Value) (q : Pf → Bool) (φ : World → Prop) (A : HP) : Prop := ownB Tryz.prog F = true ∧ ∀ p, PfN p → Pact Tryz.prog F (.agg (pfC p).toArray :: caps).toArray φ [A] (fun u L' => u = .bool (q p) ∧ L' = [A])
def idxP (q : Pf → Bool) : List Pf → Nat → Int
  | [], _ => -1
  | o :: r, k => if q o then k else idxP q r (k + 1)
theorem idxP_drop (q : Pf → Bool) {es : List Pf} {k : Nat} {o : Pf} (h : es[k]? = some o) : idxP q (es.drop k) k = if q o then (k : Int) else idxP q (es.drop (k + 1)) (k + 1) := by
  obtain ⟨hk, rfl⟩ := List.getElem?_eq_some_iff.1 h
  rw [List.drop_eq_getElem_cons hk]; rfl
def keepP (q : Pf → Bool) (es : List Pf) : List Pf := es.filter (fun o => !q o)
theorem keepP_snoc (q : Pf → Bool) {es : List Pf} {j : Nat} {o : Pf} (h : es[j]? = some o) : keepP q (es.take (j + 1)) = keepP q (es.take j) ++ (if q o then [] else [o]) := by
  rw [take_snoc h]
  unfold keepP
  rw [List.filter_append]
  congr 1
  cases hD : q o <;> simp [List.filter_cons, hD]
theorem keepP_len (q : Pf → Bool) (es : List Pf) : (keepP q es).length ≤ es.length := List.length_filter_le _ _
theorem idxP_none (q : Pf → Bool) : ∀ (es : List Pf) (k : Nat), idxP q es k = -1 → keepP q es = es
  | [], _, _ => rfl
  | o :: r, k, h => by
    unfold idxP at h
    cases hD : q o
    · rw [hD] at h
      have := idxP_none q r (k + 1) h
      unfold keepP at this ⊢
      simp [List.filter_cons, hD, this]
    · rw [hD] at h; simp at h
theorem idxP_some (q : Pf → Bool) : ∀ (es : List Pf) (k : Nat), idxP q es k ≠ -1 → ∃ i, ∃ (hi : i < es.length), idxP q es k = (k : Int) + i ∧ q es[i] = true ∧ keepP q (es.take i) = es.take i
  | [], k, h => (h rfl).elim
  | o :: r, k, h => by
    cases hD : q o
    · have he : idxP q (o :: r) k = idxP q r (k + 1) := by show (if q o then _ else _) = _; rw [hD]; rfl
      rw [he] at h
      obtain ⟨i, hi, h1, h2, h3⟩ := idxP_some q r (k + 1) h
      refine ⟨i + 1, by simp; exact hi, by rw [he, h1]; omega, by simpa using h2, ?_⟩
      unfold keepP at h3 ⊢
      simp [List.filter_cons, hD, h3]
    · refine ⟨0, by simp, ?_, by simpa using hD, rfl⟩
      show (if q o then _ else _) = _
      rw [hD]; simp
theorem index_p (a : Option Addr) (c : Nat) (es : List Pf) (F : FuncId) (caps : List Value) (q : Pf → Bool) (φ : World → Prop) (A : HP) (hT : TstP F caps q φ A) (hn : ∀ o ∈ es, PfN o) (hl : es.length ≤ 1000000) :
    Pact Tryz.prog 90 #[.slice a es.length c, .func (.func F) #[] caps.toArray] (fun w => Vw w (.slice a es.length c) 2 es.length (flat pfC es) ∧ φ w) [A] (fun u L' => u = .int .i64 (idxP q es 0) ∧ L' = [A]) := by
  have ho := hT.1
  refine pact Tryz.func90 rfl Tryz.ntmps90 rfl ?_
  intro W K hK
  have hv := hK.left
  (repeat' (first | ((with_reducible apply gL); (first | refine yL0 ?_ | refine yL ?_ | fail)) | refine yJ ?_ | ((with_reducible apply gJ_if); (first | (refine J_if xR ?_ ?_ <;> intro _ <;> (try (exfalso; first | contradiction | omega))) | (refine J_ifb xR ?_ ?_ <;> (intro hgb; subst hgb)) | (refine J_ifb xR ?_ ?_ <;> intro _) | fail)) | fail))
  refine J_loop (α := Nat) 0 (fun k => es.length - k) (fun k => k ≤ es.length ∧ idxP q es 0 = idxP q (es.drop k) k) (fun k => [(0, .slice a es.length c), (1, .func (.func F) #[] caps.toArray), (7, .int .i64 es.length), (8, .int .i64 k)]) (fun _ => [A]) ⟨Nat.zero_le _, rfl⟩ ⟨rfl, rfl, rfl, rfl, trivial⟩ (fun w H => H) ?_
  rintro k ⟨hk, he⟩
  by_cases hlt : k < es.length
  · obtain ⟨o, hs⟩ : ∃ o, es[k]? = some o := ⟨_, List.getElem?_eq_getElem hlt⟩
    have hm := List.mem_of_getElem? hs
    rw [idxP_drop q hs] at he
    have ht := hT.2 o (hn o hm)
    rcases hqo : q o with _ | _
    · rw [hqo] at ht he
      (repeat' (first | ((with_reducible apply gL); (first | refine yL0 ?_ | refine yL ?_ | ((with_reducible apply gL_go); (first | (refine JL_goq (ht) (hφ := (by (try simp only [List.cons_append, List.nil_append]); exact fun w hr => (hK w hr.1).2)) (h := ?_); rintro _ _ ⟨rfl, rfl⟩; try simp only [List.cons_append, List.nil_append]) | fail)) | fail)) | refine yJ ?_ | ((with_reducible apply gJ_if); (first | (refine J_if xR ?_ ?_ <;> intro _ <;> (try (exfalso; first | contradiction | omega))) | (refine J_ifb xR ?_ ?_ <;> (intro hgb; subst hgb)) | (refine J_ifb xR ?_ ?_ <;> intro _) | fail)) | fail))
      exact J_again (k + 1) (by omega) ⟨by omega, he⟩ ⟨rfl, rfl, rfl, rfl, trivial⟩ (fun w H => H.sel xZ)
    · rw [hqo] at ht he
      (repeat' (first | ((with_reducible apply gL); (first | refine yL0 ?_ | refine yL ?_ | ((with_reducible apply gL_go); (first | (refine JL_goq (ht) (hφ := (by (try simp only [List.cons_append, List.nil_append]); exact fun w hr => (hK w hr.1).2)) (h := ?_); rintro _ _ ⟨rfl, rfl⟩; try simp only [List.cons_append, List.nil_append]) | fail)) | fail)) | refine yJ ?_ | ((with_reducible apply gJ_if); (first | (refine J_if xR ?_ ?_ <;> intro _ <;> (try (exfalso; first | contradiction | omega))) | (refine J_ifb xR ?_ ?_ <;> (intro hgb; subst hgb)) | (refine J_ifb xR ?_ ?_ <;> intro _) | fail)) | fail))
      exact J_ret1 rfl (by rfl) fun w H => ⟨_, ⟨by rw [he]; rfl, rfl⟩, H.sel xZ⟩
  · obtain rfl : k = es.length := by omega
    (repeat' (first | ((with_reducible apply gL); (first | refine yL0 ?_ | refine yL ?_ | fail)) | refine yJ ?_ | ((with_reducible apply gJ_if); (first | (refine J_if xR ?_ ?_ <;> intro _ <;> (try (exfalso; first | contradiction | omega))) | (refine J_ifb xR ?_ ?_ <;> (intro hgb; subst hgb)) | (refine J_ifb xR ?_ ?_ <;> intro _) | fail)) | fail))
    refine J_ret1 rfl (by rfl) fun w H => ⟨_, ⟨?_, rfl⟩, H.sel xZ⟩
    rw [he, List.drop_length]; rfl
def DelR (A : HP) (q : Pf → Bool) (es : List Pf) (v : Value) (L' : List HP) : Prop := ∃ a' c', v = .slice a' (keepP q es).length c' ∧ L' = [A, Ar 41 2 pfC (.slice a' (keepP q es).length c') (keepP q es)]
structure Lp where
  j : Nat
  xs : List Pf
theorem delete_p (a : Option Addr) (c : Nat) (es : List Pf) (F : FuncId) (caps : List Value) (q : Pf → Bool) (φ : World → Prop) (A : HP) (hT : TstP F caps q φ A) (hn : ∀ o ∈ es, PfN o) (hl : es.length ≤ 1000000) :
    Pact Tryz.prog 64 #[.slice a es.length c, .func (.func F) #[] caps.toArray] φ [A, Ar 41 2 pfC (.slice a es.length c) es] (DelR A q es) := by
  have ho := hT.1
  refine pact Tryz.func64 rfl Tryz.ntmps64 rfl ?_
  intro W K hK
  refine J_fact (φ := es.length ≤ c ∧ c ≤ maxLen) (fun w H => (H.arShape (.there .here)).2) ?_
  rintro ⟨hnc, hcm⟩
  unfold maxLen at hcm
  by_cases hi : idxP q es 0 = -1
  · (repeat' (first | ((with_reducible apply gL); (first | refine yL0 ?_ | refine yL ?_ | ((with_reducible apply gL_go); (first | (refine JL_goq (index_p a c es F caps q φ A hT hn hl) (hφ := (by (try simp only [List.cons_append, List.nil_append]); exact fun w hr => ⟨Src.ar .here w hr, hK w hr.1⟩)) (h := ?_); rintro _ _ ⟨rfl, rfl⟩; try simp only [List.cons_append, List.nil_append]) | fail)) | (refine yM ?_; intro _) | fail)) | refine yJ ?_ | ((with_reducible apply gJ_if); (first | (refine J_if xR ?_ ?_ <;> intro _ <;> (try (exfalso; first | contradiction | omega))) | (refine J_ifb xR ?_ ?_ <;> (intro hgb; subst hgb)) | (refine J_ifb xR ?_ ?_ <;> intro _) | fail)) | fail))
    refine J_ret1 rfl (by rfl) fun w H => ⟨_, ⟨a, c, ?_, rfl⟩, ?_⟩ <;> rw [idxP_none q es 0 hi]
    exact H.sel xZ
  · obtain ⟨i, hil, hie, hD, hkeep⟩ := idxP_some q es 0 hi
    have hx := index_p a c es F caps q φ A hT hn hl
    rw [hie, Int.natCast_zero, Int.zero_add] at hx
    have hk1 : keepP q (es.take (i + 1)) = es.take i := by rw [keepP_snoc q (List.getElem?_eq_getElem hil), hkeep, hD]; simp
    have hkl : (es.take i).length = i := by simp; omega
    (repeat' (first | ((with_reducible apply gL); (first | refine yL0 ?_ | refine yL ?_ | ((with_reducible apply gL_go); (first | (refine JL_goq (hx) (hφ := (by (try simp only [List.cons_append, List.nil_append]); exact fun w hr => ⟨Src.ar .here w hr, hK w hr.1⟩)) (h := ?_); rintro _ _ ⟨rfl, rfl⟩; try simp only [List.cons_append, List.nil_append]) | fail)) | (refine yM ?_; intro _) | fail)) | refine yJ ?_ | ((with_reducible apply gJ_if); (first | (refine J_if xR ?_ ?_ <;> intro _ <;> (try (exfalso; first | contradiction | omega))) | (refine J_ifb xR ?_ ?_ <;> (intro hgb; subst hgb)) | (refine J_ifb xR ?_ ?_ <;> intro _) | fail)) | fail))
    refine J_loop (α := Lp) ⟨i + 1, es⟩ (fun x => es.length - x.j) (fun x => x.j ≤ es.length ∧ x.xs.length = es.length ∧ (keepP q (es.take x.j)).length < x.j ∧ x.xs.take (keepP q (es.take x.j)).length = keepP q (es.take x.j) ∧ x.xs.drop x.j = es.drop x.j)
      (fun x => [(0, .slice a es.length c), (1, .func (.func F) #[] caps.toArray), (5, .int .i64 (keepP q (es.take x.j)).length), (6, .int .i64 x.j)]) (fun x => [A, Ar 41 2 pfC (.slice a es.length c) x.xs]) ?_ ?_ (fun w H => H.sel xZ) ?_
    · dsimp only; rw [hk1, hkl]; exact ⟨hil, rfl, by omega, rfl, rfl⟩
    · dsimp only; rw [hk1, hkl]; exact ⟨rfl, rfl, rfl, rfl, trivial⟩
    rintro ⟨j, xs⟩ ⟨hj, hxl, hkj, hxt, hxd⟩
    dsimp only at hj hxl hkj hxt hxd ⊢
    by_cases hlt : j < es.length
    · obtain ⟨o, hs⟩ : ∃ o, es[j]? = some o := ⟨_, List.getElem?_eq_getElem hlt⟩
      have hm := List.mem_of_getElem? hs
      have hxs : xs[j]? = some o := by have := congrArg (·[0]?) hxd; simpa [hs] using this
      have hke := keepP_snoc q hs
      have ht := hT.2 o (hn o hm)
      rcases hqo : q o with _ | _
      · rw [hqo] at ht
        have hke2 : keepP q (es.take (j + 1)) = keepP q (es.take j) ++ [o] := by rw [hke, hqo]; rfl
        have hil2 : (keepP q (es.take j)).length < xs.length := by omega
        (repeat' (first | ((with_reducible apply gL); (first | refine yL0 ?_ | refine yL ?_ | ((with_reducible apply gL_go); (first | (refine JL_goq (ht) (hφ := (by (try simp only [List.cons_append, List.nil_append]); exact fun w hr => hK w hr.1)) (h := ?_); rintro _ _ ⟨rfl, rfl⟩; try simp only [List.cons_append, List.nil_append]) | fail)) | (refine yM ?_; intro _) | fail)) | refine yJ ?_ | ((with_reducible apply gJ_if); (first | (refine J_if xR ?_ ?_ <;> intro _ <;> (try (exfalso; first | contradiction | omega))) | (refine J_ifb xR ?_ ?_ <;> (intro hgb; subst hgb)) | (refine J_ifb xR ?_ ?_ <;> intro _) | fail)) | fail))
        refine J_again ⟨j + 1, xs.set (keepP q (es.take j)).length o⟩ (by dsimp only; omega) ?_ ?_ (fun w H => H.sel xZ)
        · dsimp only
          rw [hke2]
          refine ⟨hlt, by simp [hxl], by simp; omega, ?_, ?_⟩
          · rw [List.length_append, List.length_singleton, List.take_add_one, List.getElem?_set_self hil2, List.take_set_of_le (Nat.le_refl _), hxt]
            rfl
          · rw [List.drop_set_of_lt (by omega), ← List.drop_drop, hxd, List.drop_drop]
        · refine ⟨rfl, rfl, ?_, rfl, trivial⟩
          show some _ = some _
          rw [hke2, List.length_append]
          rfl
      · rw [hqo] at ht
        have hke2 : keepP q (es.take (j + 1)) = keepP q (es.take j) := by rw [hke, hqo]; simp
        (repeat' (first | ((with_reducible apply gL); (first | refine yL0 ?_ | refine yL ?_ | ((with_reducible apply gL_go); (first | (refine JL_goq (ht) (hφ := (by (try simp only [List.cons_append, List.nil_append]); exact fun w hr => hK w hr.1)) (h := ?_); rintro _ _ ⟨rfl, rfl⟩; try simp only [List.cons_append, List.nil_append]) | fail)) | (refine yM ?_; intro _) | fail)) | refine yJ ?_ | ((with_reducible apply gJ_if); (first | (refine J_if xR ?_ ?_ <;> intro _ <;> (try (exfalso; first | contradiction | omega))) | (refine J_ifb xR ?_ ?_ <;> (intro hgb; subst hgb)) | (refine J_ifb xR ?_ ?_ <;> intro _) | fail)) | fail))
        refine J_again ⟨j + 1, xs⟩ (by dsimp only; omega) ?_ ?_ (fun w H => H.sel xZ)
        · dsimp only
          rw [hke2]
          exact ⟨hlt, hxl, by omega, hxt, by rw [← List.drop_drop, hxd, List.drop_drop]⟩
        · refine ⟨rfl, rfl, ?_, rfl, trivial⟩
          show some _ = some _
          rw [hke2]
    · obtain rfl : j = es.length := by omega
      rw [List.take_length] at *
      (repeat' (first | ((with_reducible apply gL); (first | refine yL0 ?_ | ((with_reducible apply gL_c_clear); (first | refine JL_clear ((0, 0) : Pf) (tabE etab_ok (by rfl)) (by rfl) (by with_reducible exact Tk.there Tk.here) (by rfl) (by decide +kernel) (by decide +kernel) (by intro _; rfl) (by omega) (by rfl) ?_ | fail)) | refine yL ?_ | (refine yM ?_; intro _) | fail)) | refine yJ ?_ | ((with_reducible apply gJ_if); (first | (refine J_if xR ?_ ?_ <;> intro _ <;> (try (exfalso; first | contradiction | omega))) | (refine J_ifb xR ?_ ?_ <;> (intro hgb; subst hgb)) | (refine J_ifb xR ?_ ?_ <;> intro _) | fail)) | fail))
      refine J_ret1 rfl (by rfl) fun w H => ⟨_, ⟨a, c, rfl, rfl⟩, ?_⟩
      have hkl2 := keepP_len q es
      have H2 := H.arTake xA (by intro _; rfl) (keepP q es).length (by simp; omega)
      rw [List.take_append_of_le_length (by simp; omega), List.take_take, Nat.min_self, hxt] at H2
      exact H2.sel xZ
/-! Compact. -/
def ddF : Option Pf → List Pf → List Pf
  | _, [] => []
  | o, x :: r => if o = some x then ddF (some x) r else x :: ddF (some x) r
def lastO : Option Pf → List Pf → Option Pf
  | o, [] => o
  | _, x :: r => lastO (some x) r
theorem ddF_snoc (x : Pf) : ∀ (l : List Pf) (o : Option Pf), ddF o (l ++ [x]) = ddF o l ++ if lastO o l = some x then [] else [x]
  | [], o => by
    show (if o = some x then [] else [x]) = _
    rfl
  | y :: r, o => by
    simp only [List.cons_append, ddF, lastO]
    split
    · exact ddF_snoc x r _
    · rw [ddF_snoc x r]; rfl
abbrev ddP (l : List Pf) : List Pf := ddF none l
theorem lastO_snoc (x : Pf) : ∀ (l : List Pf) (o : Option Pf), lastO o (l ++ [x]) = some x
  | [], _ => rfl
  | y :: r, _ => lastO_snoc x r _
theorem ddP_take {es : List Pf} {m : Nat} {x y : Pf} (hx : es[m + 1]? = some x) (hy : es[m]? = some y) : ddP (es.take (m + 1 + 1)) = ddP (es.take (m + 1)) ++ if y = x then [] else [x] := by
  rw [take_snoc hx]
  unfold ddP
  rw [ddF_snoc, take_snoc hy, lastO_snoc]
  simp
theorem ddF_len : ∀ (l : List Pf) (o : Option Pf), (ddF o l).length ≤ l.length
  | [], _ => Nat.le_refl _
  | x :: r, o => by
    simp only [ddF]
    have := ddF_len r (some x)
    split
    · simp only [List.length_cons]; omega
    · simp only [List.length_cons]; omega
theorem ddF_mem : ∀ (l : List Pf) (o : Option Pf) (z : Pf), (z ∈ ddF o l → z ∈ l) ∧ (z ∈ l → z ∈ ddF o l ∨ o = some z)
  | [], _, _ => ⟨id, fun h => absurd h List.not_mem_nil⟩
  | x :: r, o, z => by
    obtain ⟨h1, h2⟩ := ddF_mem r (some x) z
    simp only [ddF]
    split
    · rename_i e
      refine ⟨fun h => List.mem_cons_of_mem _ (h1 h), fun h => ?_⟩
      rcases List.mem_cons.1 h with rfl | h
      · exact .inr e
      · rcases h2 h with h | h
        · exact .inl h
        · cases h; exact .inr e
    · refine ⟨fun h => ?_, fun h => ?_⟩
      · rcases List.mem_cons.1 h with rfl | h
        · exact List.mem_cons_self ..
        · exact List.mem_cons_of_mem _ (h1 h)
      · rcases List.mem_cons.1 h with rfl | h
        · exact .inl (List.mem_cons_self ..)
        · rcases h2 h with h | h
          · exact .inl (List.mem_cons_of_mem _ h)
          · cases h; exact .inl (List.mem_cons_self ..)
theorem ddP_mem (l : List Pf) (z : Pf) : z ∈ ddP l ↔ z ∈ l := ⟨(ddF_mem l none z).1, fun h => by
  rcases (ddF_mem l none z).2 h with h | h
  · exact h
  · cases h⟩
theorem ddF_srt : ∀ (l : List Pf) (o : Option Pf), l.Pairwise (fun x y => ¬ Ah y x) → (∀ y, o = some y → ∀ x ∈ l, ¬ Ah x y) → (ddF o l).Pairwise (fun x y => Ah x y) ∧ ∀ y, o = some y → ∀ x ∈ ddF o l, Ah y x
  | [], _, _, _ => ⟨.nil, fun _ _ _ h => absurd h List.not_mem_nil⟩
  | x :: r, o, h, ho => by
    obtain ⟨h1, h2⟩ := List.pairwise_cons.1 h
    obtain ⟨i1, i2⟩ := ddF_srt r (some x) h2 (fun y e z hz => by cases e; exact h1 z hz)
    simp only [ddF]
    split
    · rename_i e
      subst e
      exact ⟨i1, i2⟩
    · rename_i e
      refine ⟨List.pairwise_cons.2 ⟨fun z hz => i2 x rfl z hz, i1⟩, fun y hy z hz => ?_⟩
      have hyx : Ah y x := T.Ah.total (ho y hy x (List.mem_cons_self ..)) (fun e2 => e (by rw [hy, e2]))
      rcases List.mem_cons.1 hz with rfl | hz
      · exact hyx
      · exact hyx.trans (i2 x rfl z hz)
structure Kp where
  k : Nat
  j : Nat
  xs : List Pf
theorem compact_p (a : Option Addr) (c n : Nat) (es : List Pf) (hes : es.length = n) (hl : n ≤ 1000000) :
    Pact Tryz.prog 68 #[.slice a n c] (fun _ => True) [Ar 41 2 pfC (.slice a n c) es] (fun u L' => ∃ a' c', u = .slice a' (ddP es).length c' ∧ L' = [Ar 41 2 pfC (.slice a' (ddP es).length c') (ddP es)]) := by
  subst hes
  refine pact Tryz.func68 rfl Tryz.ntmps68 rfl ?_
  intro W K hK
  refine J_fact (φ := es.length ≤ c ∧ c ≤ maxLen) (fun w H => (H.arShape .here).2) ?_
  rintro ⟨hnc, hcm⟩
  unfold maxLen at hcm
  by_cases h2 : es.length < 2
  · have e : ddP es = es := by
      rcases es with _ | ⟨x, _ | ⟨y, r⟩⟩
      · rfl
      · rfl
      · simp at h2; omega
    rw [e]
    (repeat' (first | ((with_reducible apply gL); (first | refine yL0 ?_ | refine yL ?_ | fail)) | ((with_reducible apply gD); (first | (refine JD_nil ?_; try simp only [List.cons_append, List.nil_append]) | (refine JD_bar ?_; try simp only [List.cons_append, List.nil_append]) | refine yD ?_ | fail)) | refine yJ ?_ | ((with_reducible apply gJ_if); (first | (refine J_if xR ?_ ?_ <;> intro _ <;> (try (exfalso; first | contradiction | omega))) | (refine J_ifb xR ?_ ?_ <;> (intro hgb; subst hgb)) | (refine J_ifb xR ?_ ?_ <;> intro _) | fail)) | refine J_draw (id := 6) [0, 1, 2, 3, 4, 5, 6, 7, 8] [9] mixed xC xD xD ?_ | refine J_draw (id := 11) [0, 1, 2, 3, 4, 5, 6, 7, 8] [9] mixed xC xD xD ?_ | fail))
    all_goals (first | (exfalso; omega) | skip)
    exact J_ret1 rfl (by rfl) fun w H => ⟨_, ⟨a, c, rfl, rfl⟩, H.sel xZ⟩
  · obtain ⟨x0, hx0⟩ : ∃ x, es[0]? = some x := ⟨_, List.getElem?_eq_getElem (by omega)⟩
    have h1 : ddP (es.take (0 + 1)) = es.take (0 + 1) := by rw [take_snoc hx0]; rfl
    (repeat' (first | ((with_reducible apply gL); (first | refine yL0 ?_ | refine yL ?_ | fail)) | ((with_reducible apply gD); (first | (refine JD_nil ?_; try simp only [List.cons_append, List.nil_append]) | (refine JD_bar ?_; try simp only [List.cons_append, List.nil_append]) | refine yD ?_ | fail)) | refine yJ ?_ | ((with_reducible apply gJ_if); (first | (refine J_if xR ?_ ?_ <;> intro _ <;> (try (exfalso; first | contradiction | omega))) | (refine J_ifb xR ?_ ?_ <;> (intro hgb; subst hgb)) | (refine J_ifb xR ?_ ?_ <;> intro _) | fail)) | refine J_draw (id := 6) [0, 1, 2, 3, 4, 5, 6, 7, 8] [9] mixed xC xD xD ?_ | refine J_draw (id := 11) [0, 1, 2, 3, 4, 5, 6, 7, 8] [9] mixed xC xD xD ?_ | fail))
    all_goals (first | (exfalso; omega) | skip)
    refine J_loop (α := Nat) 0 (fun x => es.length - x) (fun x => x + 1 ≤ es.length ∧ ddP (es.take (x + 1)) = es.take (x + 1)) (fun x => [(0, .slice a es.length c), (3, .int .i64 ((x + 1 : Nat) : Int))]) (fun _ => [Ar 41 2 pfC (.slice a es.length c) es]) ⟨by omega, h1⟩ ⟨rfl, rfl, trivial⟩ (fun w H => H.sel xZ) ?_
    rintro k ⟨hk, hd⟩
    by_cases hlt : k + 1 < es.length
    · obtain ⟨x, hx⟩ : ∃ x, es[k + 1]? = some x := ⟨_, List.getElem?_eq_getElem hlt⟩
      obtain ⟨y, hy⟩ : ∃ y, es[k]? = some y := ⟨_, List.getElem?_eq_getElem (by omega)⟩
      have hsn := ddP_take hx hy
      have hy2 : es[(((k + 1 : Nat) : Int) - 1).toNat]? = some y := by rw [show (((k + 1 : Nat) : Int) - 1).toNat = k by omega]; exact hy
      by_cases hxy : x.1 = y.1 ∧ x.2 = y.2
      · obtain rfl : x = y := Prod.ext hxy.1 hxy.2
        rw [if_pos rfl, List.append_nil, hd] at hsn
        have htl : (es.take (k + 1)).length = k + 1 := by rw [List.length_take]; omega
        (repeat' (first | ((with_reducible apply gL); (first | refine yL0 ?_ | refine yL ?_ | fail)) | ((with_reducible apply gD); (first | (refine JD_nil ?_; try simp only [List.cons_append, List.nil_append]) | (refine JD_bar ?_; try simp only [List.cons_append, List.nil_append]) | refine yD ?_ | fail)) | refine yJ ?_ | ((with_reducible apply gJ_if); (first | (refine J_if xR ?_ ?_ <;> intro _ <;> (try (exfalso; first | contradiction | omega))) | (refine J_ifb xR ?_ ?_ <;> (intro hgb; subst hgb)) | (refine J_ifb xR ?_ ?_ <;> intro _) | fail)) | refine J_draw (id := 6) [0, 1, 2, 3, 4, 5, 6, 7, 8] [9] mixed xC xD xD ?_ | refine J_draw (id := 11) [0, 1, 2, 3, 4, 5, 6, 7, 8] [9] mixed xC xD xD ?_ | fail))
        all_goals (first | (exfalso; omega) | skip)
        refine J_loop (α := Kp) ⟨k + 1, 0, es⟩ (fun x => es.length - x.j) (fun x => k + 1 + x.j + 1 ≤ es.length ∧ x.xs.length = es.length ∧ x.k = (ddP (es.take (k + 1 + x.j + 1))).length ∧ x.k ≤ k + 1 + x.j ∧ x.xs.take x.k = ddP (es.take (k + 1 + x.j + 1)) ∧ x.xs.drop (k + 1 + x.j) = es.drop (k + 1 + x.j))
          (fun x => [(0, .slice a es.length c), (3, .int .i64 x.k), (4, .slice (slA a c (k + 1) 2) (es.length - (k + 1)) (c - (k + 1))), (5, .int .i64 ((x.j + 1 : Nat) : Int))]) (fun x => [Ar 41 2 pfC (.slice a es.length c) x.xs]) ?_ ⟨rfl, rfl, rfl, rfl, trivial⟩ (fun w H => H.sel xZ) ?_
        · dsimp only
          have e : k + 1 + 0 + 1 = k + 1 + 1 := rfl
          rw [e, hsn]
          exact ⟨by omega, rfl, htl.symm, by omega, rfl, rfl⟩
        rintro ⟨m, j, xs⟩ ⟨hj, hxl, hm, hmj, hxt, hxd⟩
        dsimp only at hj hxl hm hmj hxt hxd ⊢
        have hS : ∀ {K' : Hl} {L R : List HP}, Tk L (Ar 41 2 pfC (.slice a es.length c) xs) R → Src K' L (.slice (slA a c (k + 1) 2) (es.length - (k + 1)) (c - (k + 1))) 2 (es.length - (k + 1)) (flat pfC (xs.drop (k + 1))) := fun {K' L R} t =>
          Src.drop (a := a) (c := c) (n := es.length) (enc := pfC) (es := xs) (by have h := Src.ar (K := K') t; rw [hxl] at h; exact h) (fun _ => rfl) hxl (k + 1) (es.length - (k + 1)) (by omega) rfl
        by_cases hjl : k + 1 + j + 1 < es.length
        · obtain ⟨x', hx'⟩ : ∃ x, es[k + 1 + j + 1]? = some x := ⟨_, List.getElem?_eq_getElem hjl⟩
          obtain ⟨y', hy'⟩ : ∃ y, es[k + 1 + j]? = some y := ⟨_, List.getElem?_eq_getElem (by omega)⟩
          have hsn' := ddP_take hx' hy'
          have d1 : (xs.drop (k + 1))[j + 1]? = some x' := by
            rw [List.getElem?_drop]
            have := congrArg (·[1]?) hxd
            simp only [List.getElem?_drop] at this
            rw [show k + 1 + (j + 1) = k + 1 + j + 1 by omega, this]; exact hx'
          have d2 : (xs.drop (k + 1))[(((j + 1 : Nat) : Int) - 1).toNat]? = some y' := by
            rw [List.getElem?_drop, show (((j + 1 : Nat) : Int) - 1).toNat = j by omega]
            have := congrArg (·[0]?) hxd
            simp only [List.getElem?_drop, Nat.add_zero] at this
            rw [this]; exact hy'
          by_cases hxy' : x'.1 = y'.1 ∧ x'.2 = y'.2
          · obtain rfl : x' = y' := Prod.ext hxy'.1 hxy'.2
            (repeat' (first | ((with_reducible apply gL); (first | refine yL0 ?_ | ((with_reducible apply gL_indexAddr); (first | (first | (refine JD_pM rfl xR rfl xA (pe_ix xR xR (tabE etab_ok xR) (hS .here) xI xO) ?_) | (refine JD_p rfl xR rfl (pe_ix xR xR (tabE etab_ok xR) (hS xA) xI xO) ?_) | (refine JL_p rfl xR xR (pe_ix xR xR (tabE etab_ok xR) (hS xA) xI xO) ?_)) | fail)) | ((with_reducible apply gL_load); (first | (first | (refine JD_p rfl xR rfl (pe_el xR (hS xA) xL xR xC xH) ?_) | (refine JL_p rfl xR xR (pe_el xR (hS xA) xL xR xC xH) ?_)) | fail)) | refine yL ?_ | fail)) | ((with_reducible apply gD); (first | (refine JD_nil ?_; try simp only [List.cons_append, List.nil_append]) | (refine JD_bar ?_; try simp only [List.cons_append, List.nil_append]) | ((with_reducible apply gD_indexAddr); (first | (first | (refine JD_pM rfl xR rfl xA (pe_ix xR xR (tabE etab_ok xR) (hS .here) xI xO) ?_) | (refine JD_p rfl xR rfl (pe_ix xR xR (tabE etab_ok xR) (hS xA) xI xO) ?_) | (refine JL_p rfl xR xR (pe_ix xR xR (tabE etab_ok xR) (hS xA) xI xO) ?_)) | fail)) | ((with_reducible apply gD_load); (first | (first | (refine JD_p rfl xR rfl (pe_el xR (hS xA) xL xR xC xH) ?_) | (refine JL_p rfl xR xR (pe_el xR (hS xA) xL xR xC xH) ?_)) | fail)) | refine yD ?_ | fail)) | refine yJ ?_ | ((with_reducible apply gJ_if); (first | (refine J_if xR ?_ ?_ <;> intro _ <;> (try (exfalso; first | contradiction | omega))) | (refine J_ifb xR ?_ ?_ <;> (intro hgb; subst hgb)) | (refine J_ifb xR ?_ ?_ <;> intro _) | fail)) | refine J_draw (id := 6) [0, 1, 2, 3, 4, 5, 6, 7, 8] [9] mixed xC xD xD ?_ | refine J_draw (id := 11) [0, 1, 2, 3, 4, 5, 6, 7, 8] [9] mixed xC xD xD ?_ | fail))
            all_goals (first | (exfalso; omega) | skip)
            refine J_again ⟨m, j + 1, xs⟩ (by dsimp only; omega) ?_ ⟨rfl, rfl, rfl, rfl, trivial⟩ (fun w H => H.sel xZ)
            dsimp only
            rw [if_pos rfl, List.append_nil] at hsn'
            have e : k + 1 + (j + 1) + 1 = k + 1 + j + 1 + 1 := by omega
            rw [e, hsn']
            refine ⟨by omega, hxl, hm, by omega, hxt, ?_⟩
            rw [show k + 1 + (j + 1) = k + 1 + j + 1 by omega, ← List.drop_drop, hxd, List.drop_drop]
          · have hne' : ¬ y' = x' := fun e => hxy' ⟨by rw [e], by rw [e]⟩
            have hml : m < xs.length := by omega
            (repeat' (first | ((with_reducible apply gL); (first | refine yL0 ?_ | ((with_reducible apply gL_indexAddr); (first | (first | (refine JD_pM rfl xR rfl xA (pe_ix xR xR (tabE etab_ok xR) (hS .here) xI xO) ?_) | (refine JD_p rfl xR rfl (pe_ix xR xR (tabE etab_ok xR) (hS xA) xI xO) ?_) | (refine JL_p rfl xR xR (pe_ix xR xR (tabE etab_ok xR) (hS xA) xI xO) ?_)) | fail)) | ((with_reducible apply gL_load); (first | (first | (refine JD_p rfl xR rfl (pe_el xR (hS xA) xL xR xC xH) ?_) | (refine JL_p rfl xR xR (pe_el xR (hS xA) xL xR xC xH) ?_)) | fail)) | refine yL ?_ | fail)) | ((with_reducible apply gD); (first | (refine JD_nil ?_; try simp only [List.cons_append, List.nil_append]) | (refine JD_bar ?_; try simp only [List.cons_append, List.nil_append]) | ((with_reducible apply gD_indexAddr); (first | (first | (refine JD_pM rfl xR rfl xA (pe_ix xR xR (tabE etab_ok xR) (hS .here) xI xO) ?_) | (refine JD_p rfl xR rfl (pe_ix xR xR (tabE etab_ok xR) (hS xA) xI xO) ?_) | (refine JL_p rfl xR xR (pe_ix xR xR (tabE etab_ok xR) (hS xA) xI xO) ?_)) | fail)) | ((with_reducible apply gD_load); (first | (first | (refine JD_p rfl xR rfl (pe_el xR (hS xA) xL xR xC xH) ?_) | (refine JL_p rfl xR xR (pe_el xR (hS xA) xL xR xC xH) ?_)) | fail)) | refine yD ?_ | fail)) | refine yJ ?_ | ((with_reducible apply gJ_if); (first | (refine J_if xR ?_ ?_ <;> intro _ <;> (try (exfalso; first | contradiction | omega))) | (refine J_ifb xR ?_ ?_ <;> (intro hgb; subst hgb)) | (refine J_ifb xR ?_ ?_ <;> intro _) | fail)) | refine J_draw (id := 6) [0, 1, 2, 3, 4, 5, 6, 7, 8] [9] mixed xC xD xD ?_ | refine J_draw (id := 11) [0, 1, 2, 3, 4, 5, 6, 7, 8] [9] mixed xC xD xD ?_ | fail))
            all_goals (first | (exfalso; omega) | skip)
            refine J_again ⟨m + 1, j + 1, xs.set m x'⟩ (by dsimp only; omega) ?_ ⟨rfl, rfl, rfl, rfl, trivial⟩ (fun w H => H.sel xZ)
            dsimp only
            rw [if_neg hne'] at hsn'
            have e : k + 1 + (j + 1) + 1 = k + 1 + j + 1 + 1 := by omega
            rw [e, hsn']
            refine ⟨by omega, by simp [hxl], by rw [List.length_append, ← hm]; rfl, by omega, ?_, ?_⟩
            · rw [List.take_add_one, List.getElem?_set_self hml, List.take_set_of_le (Nat.le_refl _), hxt]
              rfl
            · rw [List.drop_set_of_lt (by omega), show k + 1 + (j + 1) = k + 1 + j + 1 by omega, ← List.drop_drop, hxd, List.drop_drop]
        · have hje : k + 1 + j + 1 = es.length := by omega
          rw [hje, List.take_length] at hm hxt
          (repeat' (first | ((with_reducible apply gL); (first | refine yL0 ?_ | ((with_reducible apply gL_c_clear); (first | refine JL_clear ((0, 0) : Pf) (tabE etab_ok (by rfl)) (by rfl) (by with_reducible exact Tk.here) (by rfl) (by decide +kernel) (by decide +kernel) (by intro _; rfl) (by omega) (by rfl) ?_ | fail)) | refine yL ?_ | fail)) | ((with_reducible apply gD); (first | (refine JD_nil ?_; try simp only [List.cons_append, List.nil_append]) | (refine JD_bar ?_; try simp only [List.cons_append, List.nil_append]) | refine yD ?_ | fail)) | refine yJ ?_ | ((with_reducible apply gJ_if); (first | (refine J_if xR ?_ ?_ <;> intro _ <;> (try (exfalso; first | contradiction | omega))) | (refine J_ifb xR ?_ ?_ <;> (intro hgb; subst hgb)) | (refine J_ifb xR ?_ ?_ <;> intro _) | fail)) | refine J_draw (id := 6) [0, 1, 2, 3, 4, 5, 6, 7, 8] [9] mixed xC xD xD ?_ | refine J_draw (id := 11) [0, 1, 2, 3, 4, 5, 6, 7, 8] [9] mixed xC xD xD ?_ | fail))
          all_goals (first | (exfalso; omega) | skip)
          refine J_ret1 rfl (by rfl) fun w H => ⟨_, ⟨a, c, by rw [← hm], rfl⟩, ?_⟩
          have H2 := H.arTake xA (by intro _; rfl) m (by simp; omega)
          rw [List.take_append_of_le_length (by simp; omega), List.take_take, Nat.min_self, hxt] at H2
          rw [← hm]
          exact H2.sel xZ
      · have hne : ¬ y = x := fun e => hxy ⟨by rw [e], by rw [e]⟩
        rw [if_neg hne, hd, ← take_snoc hx] at hsn
        (repeat' (first | ((with_reducible apply gL); (first | refine yL0 ?_ | refine yL ?_ | fail)) | ((with_reducible apply gD); (first | (refine JD_nil ?_; try simp only [List.cons_append, List.nil_append]) | (refine JD_bar ?_; try simp only [List.cons_append, List.nil_append]) | refine yD ?_ | fail)) | refine yJ ?_ | ((with_reducible apply gJ_if); (first | (refine J_if xR ?_ ?_ <;> intro _ <;> (try (exfalso; first | contradiction | omega))) | (refine J_ifb xR ?_ ?_ <;> (intro hgb; subst hgb)) | (refine J_ifb xR ?_ ?_ <;> intro _) | fail)) | refine J_draw (id := 6) [0, 1, 2, 3, 4, 5, 6, 7, 8] [9] mixed xC xD xD ?_ | refine J_draw (id := 11) [0, 1, 2, 3, 4, 5, 6, 7, 8] [9] mixed xC xD xD ?_ | fail))
        all_goals (first | (exfalso; omega) | skip)
        exact J_again (k + 1) (by omega) ⟨by omega, hsn⟩ ⟨rfl, rfl, trivial⟩ (fun w H => H.sel xZ)
    · have he : k + 1 = es.length := by omega
      rw [he, List.take_length] at hd
      rw [hd]
      (repeat' (first | ((with_reducible apply gL); (first | refine yL0 ?_ | refine yL ?_ | fail)) | ((with_reducible apply gD); (first | (refine JD_nil ?_; try simp only [List.cons_append, List.nil_append]) | (refine JD_bar ?_; try simp only [List.cons_append, List.nil_append]) | refine yD ?_ | fail)) | refine yJ ?_ | ((with_reducible apply gJ_if); (first | (refine J_if xR ?_ ?_ <;> intro _ <;> (try (exfalso; first | contradiction | omega))) | (refine J_ifb xR ?_ ?_ <;> (intro hgb; subst hgb)) | (refine J_ifb xR ?_ ?_ <;> intro _) | fail)) | refine J_draw (id := 6) [0, 1, 2, 3, 4, 5, 6, 7, 8] [9] mixed xC xD xD ?_ | refine J_draw (id := 11) [0, 1, 2, 3, 4, 5, 6, 7, 8] [9] mixed xC xD xD ?_ | fail))
      all_goals (first | (exfalso; omega) | skip)
      exact J_ret1 rfl (by rfl) fun w H => ⟨_, ⟨a, c, rfl, rfl⟩, H.sel xZ⟩
end Go.Proofs.YtnhabkipjmgaaaaGreat
namespace Go.Proofs.YtnhabkipjmgaaaaGreat
set_option linter.unusedSimpArgs false
set_option linter.unusedVariables false
set_option maxRecDepth 20000
set_option maxHeartbeats 4000000
open Go.RowKit Go.Pm

open T (Pf PfN Rt Ah pfC)
structure Ij where
  i : Nat
  j : Nat
theorem cmpP_lt {p q : Pf} : cmpP p q < 0 ↔ Ah p q := by
  have h := ltP p q
  unfold Go.Proofs.ltOf at h
  rw [Bool.eq_iff_iff] at h
  simpa using h
theorem cmpP_eq {p q : Pf} : cmpP p q = 0 ↔ p = q := by
  unfold cmpP
  constructor
  · intro h
    by_cases e : p = q
    · exact e
    · rw [if_neg e] at h
      split at h <;> cases h
  · intro e; rw [if_pos e]
theorem found_iff {l : List Pf} {p : Pf} {i : Nat} (hs : l.Pairwise fun x y => Ah x y) (h1 : ∀ k x, k < i → l[k]? = some x → Ah x p) (h2 : ∀ k x, i ≤ k → l[k]? = some x → ¬ Ah x p) : p ∈ l ↔ l[i]? = some p := by
  constructor
  · intro hm
    obtain ⟨k, hk, e⟩ := List.getElem_of_mem hm
    have hk' : l[k]? = some p := by rw [List.getElem?_eq_getElem hk, e]
    rcases Nat.lt_trichotomy k i with h | h | h
    · exact absurd (h1 k p h hk') T.Ah.irrefl
    · rw [← h]; exact hk'
    · exfalso
      have hi : i < l.length := by omega
      have h3 := h2 i l[i] (Nat.le_refl _) (List.getElem?_eq_getElem hi)
      have h4 := List.pairwise_iff_getElem.1 hs i k hi hk h
      rw [e] at h4
      exact h3 h4
  · intro h; exact List.mem_of_getElem? h
theorem bin_s (a : Option Addr) (c n : Nat) (l : List Pf) (hn : l.length = n) (p : Pf) (hs : l.Pairwise fun x y => Ah x y) (hl : n ≤ 1000000) : Pact Tryz.prog 70 #[.slice a n c, .agg (pfC p).toArray, .func (.func 43) #[] #[]] (fun w => Vw w (.slice a n c) 2 n (flat pfC l)) [] (fun u L' => ∃ i : Nat, u = .tuple #[.int .i64 i, .bool (decide (p ∈ l))] ∧ L' = []) := by
  subst hn
  refine pact Tryz.func70 rfl Tryz.ntmps70 rfl ?_
  intro W K hK
  (repeat' (first | ((with_reducible apply gL); (first | refine yL0 ?_ | refine yL ?_ | (refine yM ?_; intro _) | fail)) | ((with_reducible apply gD); (first | (refine JD_nil ?_; try simp only [List.cons_append, List.nil_append]) | (refine JD_bar ?_; try simp only [List.cons_append, List.nil_append]) | refine yD0 ?_ | refine yD ?_ | ((with_reducible apply gD_gd); (first | (refine JD_guard xR xR ?_ ?_ <;> intro _ <;> (try (exfalso; first | contradiction | omega))) | (refine JD_guardb xR xR ?_ ?_ <;> (intro hgb; subst hgb)) | (refine JD_guardb xR xR ?_ ?_ <;> (intro hgb; fail_if_success (have : type_of% hgb := rfl))) | fail)) | fail)) | refine yJ ?_ | ((with_reducible apply gJ_if); (first | (refine J_if xR ?_ ?_ <;> intro _ <;> (try (exfalso; first | contradiction | omega))) | (refine J_ifb xR ?_ ?_ <;> (intro hgb; subst hgb)) | (refine J_ifb xR ?_ ?_ <;> intro _) | fail)) | refine J_draw (id := 5) [0, 1, 2, 3, 4, 5] [6, 7] mixed xC xD xD ?_ | refine J_draw (id := 8) [0, 1, 2, 3, 4, 5, 6, 7, 8, 9, 10, 11, 12, 13, 14] [15] mixed xC xD xD ?_ | fail))
  rename_i b
  refine J_loop (α := Ij) ⟨0, l.length⟩ (fun x => x.j - x.i) (fun x => x.i ≤ x.j ∧ x.j ≤ l.length ∧ (∀ k y, k < x.i → l[k]? = some y → Ah y p) ∧ (∀ k y, x.j ≤ k → l[k]? = some y → ¬ Ah y p)) (fun x => [(0, .slice a l.length c), (2, .func (.func 43) #[] #[]), (4, .pointer (some ⟨b, 0, none⟩)), (8, .int .i64 l.length), (9, .int .i64 x.i), (10, .int .i64 x.j)]) (fun _ => [pts b (pfC p) 41])
    ⟨Nat.zero_le _, Nat.le_refl _, fun k y h => absurd h (Nat.not_lt_zero _), fun k y h hk => absurd (List.getElem?_eq_some_iff.1 hk).1 (by dsimp only at h; omega)⟩ ⟨rfl, rfl, rfl, rfl, rfl, rfl, trivial⟩ (fun w H => H.sel xZ) ?_
  rintro ⟨i, j⟩ ⟨hij, hjl, h1, h2⟩
  dsimp only at hij hjl h1 h2 ⊢
  by_cases hlt : i < j
  · obtain ⟨m, hm⟩ : ∃ m, (i + j) / 2 = m := ⟨_, rfl⟩
    have hm1 : i ≤ m := by omega
    have hm2 : m < j := by omega
    obtain ⟨x, hx⟩ : ∃ x, l[m]? = some x := ⟨_, List.getElem?_eq_getElem (by omega)⟩
    have e1 : (((i : Nat) : Int) + ((j : Nat) : Int)) / 2 ^ 1 = ((m : Nat) : Int) := by omega
    have hc := compare_s x p
    by_cases ha : Ah x p
    · have hlt0 := cmpP_lt.2 ha
      (repeat' (first | ((with_reducible apply gL); (first | refine yL0 ?_ | refine yL ?_ | (refine yM ?_; intro _) | fail)) | ((with_reducible apply gD); (first | (refine JD_nil ?_; try simp only [List.cons_append, List.nil_append]) | (refine JD_bar ?_; try simp only [List.cons_append, List.nil_append]) | refine yD0 ?_ | ((with_reducible apply gD_indexAddr); (first | (refine JD_p rfl xR rfl (pe_ix (j := m) xR xR (tabE etab_ok xR) (Src.kn hK) e1 xO) ?_) | fail)) | refine yD ?_ | ((with_reducible apply gD_go); (first | (refine JD_goq (hc) (hφ := xF) (h := ?_); rintro _ _ ⟨rfl, rfl⟩; try simp only [List.cons_append, List.nil_append]) | fail)) | ((with_reducible apply gD_gd); (first | (refine JD_guard xR xR ?_ ?_ <;> intro _ <;> (try (exfalso; first | contradiction | omega))) | (refine JD_guardb xR xR ?_ ?_ <;> (intro hgb; subst hgb)) | (refine JD_guardb xR xR ?_ ?_ <;> (intro hgb; fail_if_success (have : type_of% hgb := rfl))) | fail)) | fail)) | refine yJ ?_ | ((with_reducible apply gJ_if); (first | (refine J_if xR ?_ ?_ <;> intro _ <;> (try (exfalso; first | contradiction | omega))) | (refine J_ifb xR ?_ ?_ <;> (intro hgb; subst hgb)) | (refine J_ifb xR ?_ ?_ <;> intro _) | fail)) | refine J_draw (id := 5) [0, 1, 2, 3, 4, 5] [6, 7] mixed xC xD xD ?_ | refine J_draw (id := 8) [0, 1, 2, 3, 4, 5, 6, 7, 8, 9, 10, 11, 12, 13, 14] [15] mixed xC xD xD ?_ | fail))
      all_goals (first | (exfalso; omega) | skip)
      refine J_again ⟨m + 1, j⟩ (by dsimp only; omega) ⟨by dsimp only; omega, hjl, fun k y hk hy => ?_, h2⟩ ⟨rfl, rfl, rfl, rfl, ?_, rfl, trivial⟩ (fun w H => H.sel xZ)
      · dsimp only at hk
        rcases Nat.lt_or_eq_of_le (Nat.le_of_lt_succ hk) with h | h
        · obtain ⟨hkl, e⟩ := List.getElem?_eq_some_iff.1 hy
          have h4 := List.pairwise_iff_getElem.1 hs k m hkl (by omega) h
          obtain ⟨_, e'⟩ := List.getElem?_eq_some_iff.1 hx
          rw [e, e'] at h4
          exact h4.trans ha
        · subst h
          rw [hx] at hy
          cases hy
          exact ha
      · show some (Value.int .i64 _) = some (Value.int .i64 _)
        rw [e1]
        rfl
    · have hlt0 : ¬ cmpP x p < 0 := fun h => ha (cmpP_lt.1 h)
      (repeat' (first | ((with_reducible apply gL); (first | refine yL0 ?_ | refine yL ?_ | (refine yM ?_; intro _) | fail)) | ((with_reducible apply gD); (first | (refine JD_nil ?_; try simp only [List.cons_append, List.nil_append]) | (refine JD_bar ?_; try simp only [List.cons_append, List.nil_append]) | refine yD0 ?_ | ((with_reducible apply gD_indexAddr); (first | (refine JD_p rfl xR rfl (pe_ix (j := m) xR xR (tabE etab_ok xR) (Src.kn hK) e1 xO) ?_) | fail)) | refine yD ?_ | ((with_reducible apply gD_go); (first | (refine JD_goq (hc) (hφ := xF) (h := ?_); rintro _ _ ⟨rfl, rfl⟩; try simp only [List.cons_append, List.nil_append]) | fail)) | ((with_reducible apply gD_gd); (first | (refine JD_guard xR xR ?_ ?_ <;> intro _ <;> (try (exfalso; first | contradiction | omega))) | (refine JD_guardb xR xR ?_ ?_ <;> (intro hgb; subst hgb)) | (refine JD_guardb xR xR ?_ ?_ <;> (intro hgb; fail_if_success (have : type_of% hgb := rfl))) | fail)) | fail)) | refine yJ ?_ | ((with_reducible apply gJ_if); (first | (refine J_if xR ?_ ?_ <;> intro _ <;> (try (exfalso; first | contradiction | omega))) | (refine J_ifb xR ?_ ?_ <;> (intro hgb; subst hgb)) | (refine J_ifb xR ?_ ?_ <;> intro _) | fail)) | refine J_draw (id := 5) [0, 1, 2, 3, 4, 5] [6, 7] mixed xC xD xD ?_ | refine J_draw (id := 8) [0, 1, 2, 3, 4, 5, 6, 7, 8, 9, 10, 11, 12, 13, 14] [15] mixed xC xD xD ?_ | fail))
      all_goals (first | (exfalso; omega) | skip)
      refine J_again ⟨i, m⟩ (by dsimp only; omega) ⟨hm1, by dsimp only; omega, h1, fun k y hk hy => ?_⟩ ⟨rfl, rfl, rfl, rfl, rfl, ?_, trivial⟩ (fun w H => H.sel xZ)
      · dsimp only at hk
        rcases Nat.lt_or_eq_of_le hk with h | h
        · obtain ⟨hkl, e⟩ := List.getElem?_eq_some_iff.1 hy
          have h4 := List.pairwise_iff_getElem.1 hs m k (by omega) hkl h
          obtain ⟨_, e'⟩ := List.getElem?_eq_some_iff.1 hx
          rw [e, e'] at h4
          exact fun h5 => ha (h4.trans h5)
        · subst h
          rw [hx] at hy
          cases hy
          exact ha
      · show some (Value.int .i64 _) = some (Value.int .i64 _)
        rw [e1]
  · obtain rfl : i = j := by omega
    have hf := found_iff hs h1 h2
    by_cases hil : i < l.length
    · obtain ⟨x, hx⟩ : ∃ x, l[i]? = some x := ⟨_, List.getElem?_eq_getElem hil⟩
      have hc := compare_s x p
      rw [hx] at hf
      have e : decide (p ∈ l) = decide (cmpP x p = 0) := by
        rw [Bool.eq_iff_iff]
        simp only [decide_eq_true_eq]
        rw [hf, cmpP_eq]
        simp
      rw [e]
      (repeat' (first | ((with_reducible apply gL); (first | refine yL0 ?_ | refine yL ?_ | (refine yM ?_; intro _) | fail)) | ((with_reducible apply gD); (first | (refine JD_nil ?_; try simp only [List.cons_append, List.nil_append]) | (refine JD_bar ?_; try simp only [List.cons_append, List.nil_append]) | refine yD0 ?_ | refine yD ?_ | ((with_reducible apply gD_go); (first | (refine JD_goq (hc) (hφ := xF) (h := ?_); rintro _ _ ⟨rfl, rfl⟩; try simp only [List.cons_append, List.nil_append]) | fail)) | ((with_reducible apply gD_gd); (first | (refine JD_guard xR xR ?_ ?_ <;> intro _ <;> (try (exfalso; first | contradiction | omega))) | (refine JD_guardb xR xR ?_ ?_ <;> (intro hgb; subst hgb)) | (refine JD_guardb xR xR ?_ ?_ <;> (intro hgb; fail_if_success (have : type_of% hgb := rfl))) | fail)) | fail)) | refine yJ ?_ | ((with_reducible apply gJ_if); (first | (refine J_if xR ?_ ?_ <;> intro _ <;> (try (exfalso; first | contradiction | omega))) | (refine J_ifb xR ?_ ?_ <;> (intro hgb; subst hgb)) | (refine J_ifb xR ?_ ?_ <;> intro _) | fail)) | refine J_draw (id := 5) [0, 1, 2, 3, 4, 5] [6, 7] mixed xC xD xD ?_ | refine J_draw (id := 8) [0, 1, 2, 3, 4, 5, 6, 7, 8, 9, 10, 11, 12, 13, 14] [15] mixed xC xD xD ?_ | fail))
      all_goals (first | (exfalso; omega) | skip)
      exact J_ret2 rfl (by rfl) (by rfl) fun w H => ⟨_, ⟨i, rfl, rfl⟩, H.sel .nil⟩
    · have e : decide (p ∈ l) = false := decide_eq_false fun h => by
        have := hf.1 h
        rw [List.getElem?_eq_none (by omega)] at this
        cases this
      rw [e]
      (repeat' (first | ((with_reducible apply gL); (first | refine yL0 ?_ | refine yL ?_ | (refine yM ?_; intro _) | fail)) | ((with_reducible apply gD); (first | (refine JD_nil ?_; try simp only [List.cons_append, List.nil_append]) | (refine JD_bar ?_; try simp only [List.cons_append, List.nil_append]) | refine yD0 ?_ | refine yD ?_ | ((with_reducible apply gD_gd); (first | (refine JD_guard xR xR ?_ ?_ <;> intro _ <;> (try (exfalso; first | contradiction | omega))) | (refine JD_guardb xR xR ?_ ?_ <;> (intro hgb; subst hgb)) | (refine JD_guardb xR xR ?_ ?_ <;> (intro hgb; fail_if_success (have : type_of% hgb := rfl))) | fail)) | fail)) | refine yJ ?_ | ((with_reducible apply gJ_if); (first | (refine J_if xR ?_ ?_ <;> intro _ <;> (try (exfalso; first | contradiction | omega))) | (refine J_ifb xR ?_ ?_ <;> (intro hgb; subst hgb)) | (refine J_ifb xR ?_ ?_ <;> intro _) | fail)) | refine J_draw (id := 5) [0, 1, 2, 3, 4, 5] [6, 7] mixed xC xD xD ?_ | refine J_draw (id := 8) [0, 1, 2, 3, 4, 5, 6, 7, 8, 9, 10, 11, 12, 13, 14] [15] mixed xC xD xD ?_ | fail))
      all_goals (first | (exfalso; omega) | skip)
      exact J_ret2 rfl (by rfl) (by rfl) fun w H => ⟨_, ⟨i, rfl, rfl⟩, H.sel .nil⟩
end Go.Proofs.YtnhabkipjmgaaaaGreat
namespace Go.Proofs.YtnhabkipjmgaaaaGreat
set_option linter.unusedSimpArgs false
set_option linter.unusedVariables false
set_option maxRecDepth 20000
set_option maxHeartbeats 4000000
open Go.RowKit Go.Pm

structure Lc where
  q : List Sg
  ad : Option Addr
  cc : Nat
def PathR (p : List Sg) (v : Value) (L' : List HP) : Prop := ∃ q a' c', v = .slice a' q.length c' ∧ pN q = pN p ∧ L' = [has (fun w => PathV w a' c' q)]
theorem pcopy_s (a : Option Addr) (c : Nat) (p : List Sg) (n : Nat) (hn : p.length = n) (h8 : n ≤ 1000) (hsm : ∀ s ∈ p, SgN s) : Pact Tryz.prog 79 #[.slice a n c] (fun w => PathV w a c p) [] (PathR p) := by
  subst hn
  refine pact Tryz.func79 rfl Tryz.ntmps79 rfl ?_
  intro W K hK
  have hv : Kn K (fun w => Vw w (.slice a p.length c) 2 p.length (flat sgC p)) := hK.imp fun _ h => h.vw
  (repeat' (first | ((with_reducible apply gL); (first | refine yL0 ?_ | refine yL ?_ | (refine yM ?_; intro _) | fail)) | ((with_reducible apply gD); (first | (refine JD_nil ?_; try simp only [List.cons_append, List.nil_append]) | (refine JD_bar ?_; try simp only [List.cons_append, List.nil_append]) | refine yD ?_ | (refine yE ?_; intro _) | (refine yB ?_; intro _ _ _ _) | fail)) | refine yJ ?_ | ((with_reducible apply gJ_if); (first | (refine J_if xR ?_ ?_ <;> intro _ <;> (try (exfalso; first | contradiction | omega))) | (refine J_ifb xR ?_ ?_ <;> (intro hgb; subst hgb)) | (refine J_ifb xR ?_ ?_ <;> intro _) | fail)) | refine J_draw (id := 5) [0, 1, 2, 3, 4, 5, 7, 8, 9, 10, 11, 6, 12, 13, 14] [15, 16] mixed xC xD xD ?_ | fail))
  rename_i b0
  refine J_loop (α := Lc) ⟨[], some ⟨b0, 0, none⟩, 0⟩ (fun x => p.length - x.q.length) (fun x => x.q.length ≤ p.length ∧ pN x.q = pN (p.take x.q.length)) (fun x => [(0, .slice a p.length c), (3, .slice x.ad x.q.length x.cc), (4, .int .i64 x.q.length)])
    (fun x => [Ar 135 2 sgC (.slice x.ad x.q.length x.cc) x.q, has (fun w => ∀ s ∈ x.q, segV w s)]) ⟨Nat.zero_le _, rfl⟩ ⟨rfl, rfl, rfl, trivial⟩ (fun w H => (Ow.hasTrue (φ := fun w => ∀ s ∈ ([] : List Sg), segV w s) (H.arLit0 .here) (by intro _ _ h; exact absurd h List.not_mem_nil)).sel xZ) ?_
  rintro ⟨q, ad, cc⟩ ⟨hq, hsame⟩
  dsimp only at hq hsame ⊢
  by_cases hlt : q.length < p.length
  · obtain ⟨s, hs⟩ : ∃ s, p[q.length]? = some s := ⟨_, List.getElem?_eq_getElem hlt⟩
    have hm := List.mem_of_getElem? hs
    have hsn := hsm s hm
    have hsn1 := hsn.1
    have hu : Kn K (fun w => Vw w (.slice s.a s.as_.length s.c) 1 s.as_.length (flat u32C s.as_)) := hK.imp fun _ h => h.segs s hm
    (repeat' (first | ((with_reducible apply gL); (first | refine yL0 ?_ | refine yL ?_ | (refine yM ?_; intro _) | fail)) | ((with_reducible apply gD); (first | (refine JD_nil ?_; try simp only [List.cons_append, List.nil_append]) | (refine JD_bar ?_; try simp only [List.cons_append, List.nil_append]) | ((with_reducible apply gD_c_append); (first | ((refine JD_appL u32C (tabE etab_ok (by rfl)) (by rfl) (by rfl) xA (Src.kn hu) (by decide +kernel) (by intro _; rfl) (all_one _ (by intro _ _; rfl)) (by omega) (by rfl) ?_; intro ad2 c2 _ _)) | ((refine JD_ap1 (z := Sg.mk s.set ad2 c2 s.as_) (tabE etab_ok (by rfl)) (by rfl) (by rfl) xA xA (by decide +kernel) (by rfl) (by intro _; rfl) (by rfl) (by omega) (by rfl) ?_; intro ad3 c3 _ _)) | fail)) | refine yD ?_ | (refine yE ?_; intro _) | (refine yB ?_; intro _ _ _ _) | fail)) | refine yJ ?_ | ((with_reducible apply gJ_if); (first | (refine J_if xR ?_ ?_ <;> intro _ <;> (try (exfalso; first | contradiction | omega))) | (refine J_ifb xR ?_ ?_ <;> (intro hgb; subst hgb)) | (refine J_ifb xR ?_ ?_ <;> intro _) | fail)) | refine J_draw (id := 5) [0, 1, 2, 3, 4, 5, 7, 8, 9, 10, 11, 6, 12, 13, 14] [15, 16] mixed xC xD xD ?_ | fail))
    refine J_again ⟨q ++ [Sg.mk s.set ad2 c2 s.as_], ad3, c3⟩ (by simp; omega) ⟨by simp; omega, ?_⟩ ⟨rfl, ?_, ?_, trivial⟩ (fun w H => ?_)
    · simp only [List.length_append, List.length_cons, List.length_nil]
      rw [take_snoc hs]
      unfold pN at hsame ⊢
      rw [List.map_append, List.map_append, hsame]
      rfl
    · show some _ = some _
      simp
    · show some _ = some _
      simp
    · simp only [List.length_append, List.length_cons, List.length_nil]
      refine (Ow.has (M := [Ar 24 1 u32C (.slice ad2 s.as_.length c2) s.as_, has (fun w => ∀ s ∈ q, segV w s)]) (φ := fun w => ∀ x ∈ q ++ [Sg.mk s.set ad2 c2 s.as_], segV w x) H xZ ?_).sel xZ
      intro w hr x hx
      rcases List.mem_append.1 hx with hx | hx
      · exact hr.has (.there .here) x hx
      · obtain rfl := List.mem_singleton.1 hx
        exact Src.ar .here w hr
  · obtain hql : q.length = p.length := by omega
    rw [hql, List.take_length] at hsame
    (repeat' (first | ((with_reducible apply gL); (first | refine yL0 ?_ | refine yL ?_ | (refine yM ?_; intro _) | fail)) | ((with_reducible apply gD); (first | (refine JD_nil ?_; try simp only [List.cons_append, List.nil_append]) | (refine JD_bar ?_; try simp only [List.cons_append, List.nil_append]) | refine yD ?_ | (refine yE ?_; intro _) | (refine yB ?_; intro _ _ _ _) | fail)) | refine yJ ?_ | ((with_reducible apply gJ_if); (first | (refine J_if xR ?_ ?_ <;> intro _ <;> (try (exfalso; first | contradiction | omega))) | (refine J_ifb xR ?_ ?_ <;> (intro hgb; subst hgb)) | (refine J_ifb xR ?_ ?_ <;> intro _) | fail)) | refine J_draw (id := 5) [0, 1, 2, 3, 4, 5, 7, 8, 9, 10, 11, 6, 12, 13, 14] [15, 16] mixed xC xD xD ?_ | fail))
    refine J_ret1 rfl (by rfl) fun w H => ⟨_, ⟨q, ad, cc, rfl, hsame, rfl⟩, ?_⟩
    refine (Ow.has (M := [Ar 135 2 sgC (.slice ad q.length cc) q, has (fun w => ∀ s ∈ q, segV w s)]) (φ := fun w => PathV w ad cc q) H xZ ?_).sel xZ
    intro w hr
    exact ⟨Src.ar .here w hr, fun s hs => hr.has (.there .here) s hs⟩
structure Lo where
  q : List Rw
  ad : Option Addr
  cc : Nat
/-- Attributes as they are copied. -/
def cpC (d : At) (n : Nat) (a' : Option Addr) (c' : Nat) (ad2 : Option Addr) (c2 : Nat) (oa : Option Addr) (k oc : Nat) : List Value := [.int .i64 d.origin, .slice a' n c', .int .u32 d.next, .bool d.hasMed, .int .u32 d.med, .bool d.hasLocal, .int .u32 d.loc, .bool d.atomic, .bool d.hasMaker, .int .u32 d.makerAS, .int .u32 d.maker, .slice ad2 d.comms.length c2, .slice oa k oc]
theorem acopy_s (d : At) (hd : AtF d) (n m k : Nat) (hn : d.path.length = n) (hm : d.comms.length = m) (hk : d.others.length = k) : Pact Tryz.prog 46 #[.agg (atN d n m k).toArray] (fun w => AtV w d) [] (CopyR d) := by
  subst hn hm hk
  refine pact Tryz.func46 rfl Tryz.ntmps46 rfl ?_
  intro W K hK
  have hd1 := hd.path
  have hd2 := hd.comms
  have hd3 := hd.others
  have hcv : Kn K (fun w => Vw w (.slice d.ca d.comms.length d.cc) 1 d.comms.length (flat u32C d.comms)) := hK.imp fun _ h => h.comms
  have hov : Kn K (fun w => Vw w (.slice d.oa d.others.length d.oc) 2 d.others.length (flat rwC d.others)) := hK.imp fun _ h => h.others.vw
  (repeat' (first | ((with_reducible apply gL); (first | refine yL0 ?_ | ((with_reducible apply gL_c_append); (first | (refine JL_appL (fs := d.comms) u32C (tabE etab_ok (by rfl)) (by rfl) (by rfl) xA (Src.kn hcv) (by decide +kernel) (by intro _; rfl) (all_one _ (by intro _ _; rfl)) (by omega) (by rfl) (by rfl) ?_; intro ad2 c2 _ _) | fail)) | refine yL ?_ | ((with_reducible apply gL_go); (first | (refine JL_goq (pcopy_s d.pa d.pc d.path _ rfl (by omega) hd.num.path) (hφ := (by (try simp only [List.cons_append, List.nil_append]); exact fun w hr => (hK w hr.1).path)) (h := ?_); rintro _ _ ⟨q, a', c', rfl, hs, rfl⟩; try simp only [List.cons_append, List.nil_append]) | fail)) | (refine yM ?_; intro _) | (refine yA ?_; intro _ _ _ _) | fail)) | ((with_reducible apply gD); (first | (refine JD_nil ?_; try simp only [List.cons_append, List.nil_append]) | (refine JD_bar ?_; try simp only [List.cons_append, List.nil_append]) | ((with_reducible apply gD_c_append); (first | (refine JL_appL (fs := d.comms) u32C (tabE etab_ok (by rfl)) (by rfl) (by rfl) xA (Src.kn hcv) (by decide +kernel) (by intro _; rfl) (all_one _ (by intro _ _; rfl)) (by omega) (by rfl) (by rfl) ?_; intro ad2 c2 _ _) | fail)) | refine yD ?_ | (refine yE ?_; intro _) | (refine yB ?_; intro _ _ _ _) | fail)) | refine yJ ?_ | ((with_reducible apply gJ_if); (first | (refine J_if xR ?_ ?_ <;> intro _ <;> (try (exfalso; first | contradiction | omega))) | (refine J_ifb xR ?_ ?_ <;> (intro hgb; subst hgb)) | (refine J_ifb xR ?_ ?_ <;> intro _) | fail)) | refine J_draw (id := 8) [0, 1, 2, 3, 4, 5, 6, 7, 9, 10, 11, 12, 13, 14, 8, 15, 16, 17] [18, 19, 20] mixed xC xD xD ?_ | fail))
  rename_i b1 b2 b3 _ _ _ b4
  refine J_loop (α := Lo) ⟨[], some ⟨b4, 0, none⟩, 0⟩ (fun x => d.others.length - x.q.length) (fun x => x.q.length ≤ d.others.length ∧ oN x.q = oN (d.others.take x.q.length)) (fun x => [(1, .pointer (some ⟨b1, 0, none⟩)), (2, .pointer (some ⟨b2, 0, none⟩)), (3, .pointer (some ⟨b3, 0, none⟩)), (4, .int .i64 x.q.length)])
    (fun x => [pts b3 (cpC d q.length a' c' ad2 c2 x.ad x.q.length x.cc) 29, Ar 104 2 rwC (.slice x.ad x.q.length x.cc) x.q, has (fun w => ∀ s ∈ x.q, rawV w s), Ar 24 1 u32C (.slice ad2 d.comms.length c2) d.comms, has (fun w => PathV w a' c' q), pts b2 [.int .i64 0, .slice none 0 0, .int .u32 0, .bool false, .int .u32 0, .bool false, .int .u32 0, .bool false, .bool false, .int .u32 0, .int .u32 0, .slice none 0 0, .slice none 0 0] 29, pts b1 (atN d d.path.length d.comms.length d.others.length) 29]) ⟨Nat.zero_le _, rfl⟩ ⟨rfl, rfl, rfl, rfl, trivial⟩ (fun w H => (Ow.hasTrue (φ := fun w => ∀ s ∈ ([] : List Rw), rawV w s) (H.arLit0 xA) (by intro _ _ h; exact absurd h List.not_mem_nil)).sel xZ) ?_
  rintro ⟨o, oa, oc⟩ ⟨ho, hsame⟩
  dsimp only at ho hsame ⊢
  by_cases hlt : o.length < d.others.length
  · obtain ⟨s, hs⟩ : ∃ s, d.others[o.length]? = some s := ⟨_, List.getElem?_eq_getElem hlt⟩
    have hm := List.mem_of_getElem? hs
    have hsn := hd.num.others s hm
    have hsn1 := hsn.2.1
    have hu : Kn K (fun w => Vw w (.slice s.a s.data.length s.c) 1 s.data.length (flat byC s.data)) := hK.imp fun _ h => h.others.raws s hm
    (repeat' (first | ((with_reducible apply gL); (first | refine yL0 ?_ | ((with_reducible apply gL_c_append); (first | ((refine JD_appL byC (tabE etab_ok (by rfl)) (by rfl) (by rfl) xA (Src.kn hu) (by decide +kernel) (by intro _; rfl) (all_one _ (by intro _ _; rfl)) (by omega) (by rfl) ?_; intro ad3 c3 _ _)) | ((refine JD_ap1 (z := Rw.mk s.kind ad3 c3 s.data) (tabE etab_ok (by rfl)) (by rfl) (by rfl) xA xA (by decide +kernel) (by rfl) (by intro _; rfl) (by rfl) (by omega) (by rfl) ?_; intro ad4 c4 _ _)) | fail)) | refine yL ?_ | (refine yM ?_; intro _) | (refine yA ?_; intro _ _ _ _) | fail)) | ((with_reducible apply gD); (first | (refine JD_nil ?_; try simp only [List.cons_append, List.nil_append]) | (refine JD_bar ?_; try simp only [List.cons_append, List.nil_append]) | ((with_reducible apply gD_c_append); (first | ((refine JD_appL byC (tabE etab_ok (by rfl)) (by rfl) (by rfl) xA (Src.kn hu) (by decide +kernel) (by intro _; rfl) (all_one _ (by intro _ _; rfl)) (by omega) (by rfl) ?_; intro ad3 c3 _ _)) | ((refine JD_ap1 (z := Rw.mk s.kind ad3 c3 s.data) (tabE etab_ok (by rfl)) (by rfl) (by rfl) xA xA (by decide +kernel) (by rfl) (by intro _; rfl) (by rfl) (by omega) (by rfl) ?_; intro ad4 c4 _ _)) | fail)) | refine yD ?_ | (refine yE ?_; intro _) | (refine yB ?_; intro _ _ _ _) | fail)) | refine yJ ?_ | ((with_reducible apply gJ_if); (first | (refine J_if xR ?_ ?_ <;> intro _ <;> (try (exfalso; first | contradiction | omega))) | (refine J_ifb xR ?_ ?_ <;> (intro hgb; subst hgb)) | (refine J_ifb xR ?_ ?_ <;> intro _) | fail)) | refine J_draw (id := 8) [0, 1, 2, 3, 4, 5, 6, 7, 9, 10, 11, 12, 13, 14, 8, 15, 16, 17] [18, 19, 20] mixed xC xD xD ?_ | fail))
    refine J_again ⟨o ++ [Rw.mk s.kind ad3 c3 s.data], ad4, c4⟩ (by simp; omega) ⟨by simp; omega, ?_⟩ ⟨rfl, rfl, rfl, ?_, trivial⟩ (fun w H => ?_)
    · simp only [List.length_append, List.length_cons, List.length_nil]
      rw [take_snoc hs]
      unfold oN at hsame ⊢
      rw [List.map_append, List.map_append, hsame]
      rfl
    · show some _ = some _
      simp
    · simp only [List.length_append, List.length_cons, List.length_nil]
      refine (Ow.has (M := [Ar 5 1 byC (.slice ad3 s.data.length c3) s.data, has (fun w => ∀ s ∈ o, rawV w s)]) (φ := fun w => ∀ x ∈ o ++ [Rw.mk s.kind ad3 c3 s.data], rawV w x) H xZ ?_).sel xZ
      intro w hr x hx
      rcases List.mem_append.1 hx with hx | hx
      · exact hr.has (.there .here) x hx
      · obtain rfl := List.mem_singleton.1 hx
        exact Src.ar .here w hr
  · obtain hol : o.length = d.others.length := by omega
    rw [hol, List.take_length] at hsame
    (repeat' (first | ((with_reducible apply gL); (first | refine yL0 ?_ | refine yL ?_ | (refine yM ?_; intro _) | (refine yA ?_; intro _ _ _ _) | fail)) | ((with_reducible apply gD); (first | (refine JD_nil ?_; try simp only [List.cons_append, List.nil_append]) | (refine JD_bar ?_; try simp only [List.cons_append, List.nil_append]) | refine yD ?_ | (refine yE ?_; intro _) | (refine yB ?_; intro _ _ _ _) | fail)) | refine yJ ?_ | ((with_reducible apply gJ_if); (first | (refine J_if xR ?_ ?_ <;> intro _ <;> (try (exfalso; first | contradiction | omega))) | (refine J_ifb xR ?_ ?_ <;> (intro hgb; subst hgb)) | (refine J_ifb xR ?_ ?_ <;> intro _) | fail)) | refine J_draw (id := 8) [0, 1, 2, 3, 4, 5, 6, 7, 9, 10, 11, 12, 13, 14, 8, 15, 16, 17] [18, 19, 20] mixed xC xD xD ?_ | fail))
    refine J_retC (cs := cpC d q.length a' c' ad2 c2 oa o.length oc) rfl (by rfl) xA (by rfl) fun w H => ⟨_, ⟨d.at_ q a' c' d.comms ad2 c2 o oa oc, At.at_num hd _ _ _ _ _ _ _ _ _ hs rfl hsame, d.at_nf _ _ _ _ _ _ _ _ _ hs rfl hsame, rfl, rfl⟩, ?_⟩
    refine (Ow.has (M := [has (fun w => PathV w a' c' q), Ar 24 1 u32C (.slice ad2 d.comms.length c2) d.comms, Ar 104 2 rwC (.slice oa o.length oc) o, has (fun w => ∀ s ∈ o, rawV w s)]) (φ := fun w => AtV w (d.at_ q a' c' d.comms ad2 c2 o oa oc)) H xZ ?_).sel xZ
    intro w hr
    exact ⟨hr.has .here, Src.ar (.there .here) w hr, Src.ar (.there (.there .here)) w hr, fun s hs => hr.has (.there (.there (.there .here))) s hs⟩
theorem Vw_take {w : World} {a : Option Addr} {c sz n : Nat} {α : Type} {enc : α → List Value} {es : List α} (h : Vw w (.slice a n c) sz n (flat enc es)) (hl : ∀ x, (enc x).length = sz) (hn : es.length = n) (j m : Nat) (hm : (es.take j).length = m) : Vw w (.slice a m c) sz m (flat enc (es.take j)) := by
  obtain ⟨a', cap, he, h1, h2, h3, h4, h5⟩ := h
  cases he
  have hpre : flat enc es = flat enc (es.take j) ++ flat enc (es.drop j) := by rw [← flat_append, List.take_append_drop]
  have hmn : m ≤ n := by rw [← hm, ← hn, List.length_take]; omega
  refine ⟨a, c, rfl, by rw [flat_length hl, hm], by omega, h3, fun h => ⟨by have := (h4 h).1; omega, (h4 h).2⟩, fun hne => ?_⟩
  have hne' : flat enc es ≠ [] := by
    intro h
    rw [hpre] at h
    exact hne (List.append_eq_nil_iff.1 h).1
  obtain ⟨b, off, hb, hc⟩ := h5 hne'
  refine ⟨b, off, hb, fun k u hk => hc k u ?_⟩
  rw [hpre, List.getElem?_append_left (List.getElem?_eq_some_iff.1 hk).1]
  exact hk
/-- So many of them at most. -/
def At.tr (d : At) : At := d.at_ (d.path.take 8) d.pa d.pc (d.comms.take 40) d.ca d.cc (d.others.take 9) d.oa d.oc
theorem At.tr_few {d : At} (h : AtN d) : AtF d.tr := by
  refine ⟨⟨h.origin, h.next, h.med, h.loc, h.makerAS, h.maker, fun s hs => h.path s (List.take_subset _ _ hs), fun s hs => h.comms s (List.take_subset _ _ hs), fun s hs => h.others s (List.take_subset _ _ hs)⟩, ?_, ?_, ?_⟩ <;> simp [At.tr, At.at_] <;> omega
theorem AtV.tr {w : World} {d : At} (h : AtV w d) : AtV w d.tr :=
  ⟨⟨Vw_take h.path.vw (by intro _; rfl) rfl 8 _ rfl, fun s hs => h.path.segs s (List.take_subset _ _ hs)⟩, Vw_take h.comms (by intro _; rfl) rfl 40 _ rfl, ⟨Vw_take h.others.vw (by intro _; rfl) rfl 9 _ rfl, fun s hs => h.others.raws s (List.take_subset _ _ hs)⟩⟩
end Go.Proofs.YtnhabkipjmgaaaaGreat
namespace Go.Proofs.YtnhabkipjmgaaaaGreat
set_option linter.unusedSimpArgs false
set_option linter.unusedVariables false
set_option maxRecDepth 20000
set_option maxHeartbeats 4000000
open Go.RowKit Go.Pm

/-- May a path be? -/
def ckP : List (Bool × List Int) → Nat → Bool
  | [], _ => true
  | s :: p, n => if s.2.length = 0 ∨ 255 < s.2.length then false else if (0 : Int) ∈ s.2 then false else if 64 < n + s.2.length then false else ckP p (n + s.2.length)
def er (b : Bool) : Int := if b then 0 else 2
theorem er_t {b : Bool} (h : b = true) : er b = 0 := by rw [h]; rfl
theorem er_f {b : Bool} (h : b = false) : er b = 2 := by rw [h]; rfl
theorem ckP_step {p : List Sg} {k : Nat} {s : Sg} (hs : p[k]? = some s) (n : Nat) : ckP (pN (p.drop k)) n = (if s.as_.length = 0 ∨ 255 < s.as_.length then false else if (0 : Int) ∈ s.as_ then false else if 64 < n + s.as_.length then false else ckP (pN (p.drop (k + 1))) (n + s.as_.length)) := by
  have : p.drop k = s :: p.drop (k + 1) := by
    obtain ⟨hk, e⟩ := List.getElem?_eq_some_iff.1 hs
    rw [List.drop_eq_getElem_cons hk, e]
  rw [this]
  rfl
theorem pcheck_s (a : Option Addr) (c : Nat) (p : List Sg) (h8 : p.length ≤ 1000) (hsm : ∀ s ∈ p, SgN s) : Pact Tryz.prog 51 #[.slice a p.length c] (fun w => PathV w a c p) [] (ret0 (.int .i64 (er (ckP (pN p) 0)))) := by
  refine pact Tryz.func51 rfl Tryz.ntmps51 rfl ?_
  intro W K hK
  have hv : Kn K (fun w => Vw w (.slice a p.length c) 2 p.length (flat sgC p)) := hK.imp fun _ h => h.vw
  (repeat' (first | ((with_reducible apply gL); (first | refine yL0 ?_ | refine yL ?_ | ((with_reducible apply gL_gd); (first | (refine JL_guard xR xR ?_ ?_ <;> intro _ <;> (try (exfalso; first | contradiction | omega))) | (refine JL_guardb xR xR ?_ ?_ <;> (intro hgb; subst hgb)) | (refine JL_guardb xR xR ?_ ?_ <;> (intro hgb; fail_if_success (have : type_of% hgb := rfl))) | fail)) | fail)) | refine yJ ?_ | ((with_reducible apply gJ_if); (first | (refine J_if xR ?_ ?_ <;> intro _ <;> (try (exfalso; first | contradiction | omega))) | (refine J_ifb xR ?_ ?_ <;> (intro hgb; subst hgb)) | (refine J_ifb xR ?_ ?_ <;> intro _) | fail)) | fail))
  refine J_loop (α := Nat × Nat) (0, 0) (fun x => p.length - x.1) (fun x => x.1 ≤ p.length ∧ x.2 ≤ 64 ∧ ckP (pN p) 0 = ckP (pN (p.drop x.1)) x.2) (fun x => [(0, .slice a p.length c), (3, .int .i64 x.2), (4, .int .i64 x.1)]) (fun x => []) ⟨Nat.zero_le _, Nat.zero_le _, rfl⟩ ⟨rfl, rfl, rfl, trivial⟩ (fun w H => H) ?_
  rintro ⟨k, n⟩ ⟨hk, hn, hck⟩
  dsimp only at hk hn hck ⊢
  by_cases hlt : k < p.length
  · obtain ⟨s, hs⟩ : ∃ s, p[k]? = some s := ⟨_, List.getElem?_eq_getElem hlt⟩
    have hm := List.mem_of_getElem? hs
    have hsn := hsm s hm
    have hsn1 := hsn.1
    rw [ckP_step hs] at hck
    have hu : Kn K (fun w => Vw w (.slice s.a s.as_.length s.c) 1 s.as_.length (flat u32C s.as_)) := hK.imp fun _ h => h.segs s hm
    (repeat' (first | ((with_reducible apply gL); (first | refine yL0 ?_ | refine yL ?_ | ((with_reducible apply gL_gd); (first | (refine JL_guard xR xR ?_ ?_ <;> intro _ <;> (try (exfalso; first | contradiction | omega))) | (refine JL_guardb xR xR ?_ ?_ <;> (intro hgb; subst hgb)) | (refine JL_guardb xR xR ?_ ?_ <;> (intro hgb; fail_if_success (have : type_of% hgb := rfl))) | fail)) | fail)) | refine yJ ?_ | ((with_reducible apply gJ_if); (first | (refine J_if xR ?_ ?_ <;> intro _ <;> (try (exfalso; first | contradiction | omega))) | (refine J_ifb xR ?_ ?_ <;> (intro hgb; subst hgb)) | (refine J_ifb xR ?_ ?_ <;> intro _) | fail)) | fail))
    · rw [if_pos (by omega)] at hck
      exact J_ret1 rfl (by rfl) fun w H => ⟨_, ⟨by rw [er_f hck], rfl⟩, H.sel .nil⟩
    · rw [if_pos (by omega)] at hck
      exact J_ret1 rfl (by rfl) fun w H => ⟨_, ⟨by rw [er_f hck], rfl⟩, H.sel .nil⟩
    · rw [if_neg (by omega)] at hck
      refine J_loop (α := Nat) 0 (fun x => s.as_.length - x) (fun x => x ≤ s.as_.length ∧ (0 : Int) ∉ s.as_.take x) (fun x => [(0, .slice a p.length c), (3, .int .i64 n), (4, .int .i64 k), (5, .int .i64 x)]) (fun x => []) ⟨Nat.zero_le _, by simp⟩ ⟨rfl, rfl, rfl, rfl, trivial⟩ (fun w H => H) ?_
      rintro j ⟨hj, hz⟩
      by_cases hjl : j < s.as_.length
      · obtain ⟨x, hx⟩ : ∃ x, s.as_[j]? = some x := ⟨_, List.getElem?_eq_getElem hjl⟩
        (repeat' (first | ((with_reducible apply gL); (first | refine yL0 ?_ | refine yL ?_ | ((with_reducible apply gL_gd); (first | (refine JL_guard xR xR ?_ ?_ <;> intro _ <;> (try (exfalso; first | contradiction | omega))) | (refine JL_guardb xR xR ?_ ?_ <;> (intro hgb; subst hgb)) | (refine JL_guardb xR xR ?_ ?_ <;> (intro hgb; fail_if_success (have : type_of% hgb := rfl))) | fail)) | fail)) | refine yJ ?_ | ((with_reducible apply gJ_if); (first | (refine J_if xR ?_ ?_ <;> intro _ <;> (try (exfalso; first | contradiction | omega))) | (refine J_ifb xR ?_ ?_ <;> (intro hgb; subst hgb)) | (refine J_ifb xR ?_ ?_ <;> intro _) | fail)) | fail))
        · rename_i h0
          subst h0
          rw [if_pos (List.mem_of_getElem? hx)] at hck
          exact J_ret1 rfl (by rfl) fun w H => ⟨_, ⟨by rw [er_f hck], rfl⟩, H.sel .nil⟩
        · rename_i h0
          exact J_again (j + 1) (by omega) ⟨by omega, by rw [take_snoc hx]; simp only [List.mem_append, List.mem_singleton]; rintro (h | h); exact hz h; exact h0 h.symm⟩ ⟨rfl, rfl, rfl, rfl, trivial⟩ (fun w H => H.sel .nil)
      · have hje : j = s.as_.length := by omega
        rw [hje, List.take_length] at hz
        rw [if_neg hz] at hck
        (repeat' (first | ((with_reducible apply gL); (first | refine yL0 ?_ | refine yL ?_ | ((with_reducible apply gL_gd); (first | (refine JL_guard xR xR ?_ ?_ <;> intro _ <;> (try (exfalso; first | contradiction | omega))) | (refine JL_guardb xR xR ?_ ?_ <;> (intro hgb; subst hgb)) | (refine JL_guardb xR xR ?_ ?_ <;> (intro hgb; fail_if_success (have : type_of% hgb := rfl))) | fail)) | fail)) | refine yJ ?_ | ((with_reducible apply gJ_if); (first | (refine J_if xR ?_ ?_ <;> intro _ <;> (try (exfalso; first | contradiction | omega))) | (refine J_ifb xR ?_ ?_ <;> (intro hgb; subst hgb)) | (refine J_ifb xR ?_ ?_ <;> intro _) | fail)) | fail))
        · rw [if_pos (by omega)] at hck
          exact J_ret1 rfl (by rfl) fun w H => ⟨_, ⟨by rw [er_f hck], rfl⟩, H.sel .nil⟩
        · rw [if_neg (by omega)] at hck
          exact J_again (k + 1, n + s.as_.length) (by dsimp only; omega) ⟨by dsimp only; omega, by dsimp only; omega, hck⟩ ⟨rfl, rfl, rfl, trivial⟩ (fun w H => H.sel .nil)
  · have hke : k = p.length := by omega
    have hck2 : ckP (pN p) 0 = true := by rw [hck, hke, List.drop_length]; rfl
    (repeat' (first | ((with_reducible apply gL); (first | refine yL0 ?_ | refine yL ?_ | ((with_reducible apply gL_gd); (first | (refine JL_guard xR xR ?_ ?_ <;> intro _ <;> (try (exfalso; first | contradiction | omega))) | (refine JL_guardb xR xR ?_ ?_ <;> (intro hgb; subst hgb)) | (refine JL_guardb xR xR ?_ ?_ <;> (intro hgb; fail_if_success (have : type_of% hgb := rfl))) | fail)) | fail)) | refine yJ ?_ | ((with_reducible apply gJ_if); (first | (refine J_if xR ?_ ?_ <;> intro _ <;> (try (exfalso; first | contradiction | omega))) | (refine J_ifb xR ?_ ?_ <;> (intro hgb; subst hgb)) | (refine J_ifb xR ?_ ?_ <;> intro _) | fail)) | fail))
    exact J_ret1 rfl (by rfl) fun w H => ⟨_, ⟨by rw [er_t hck2], rfl⟩, H.sel .nil⟩
def kno (k : Int) : Bool := decide ((1 ≤ k ∧ k ≤ 8) ∨ k = 17 ∨ k = 18)
theorem rknown_s (k : Int) : Pact Tryz.prog 52 #[.int .i64 k] (fun _ => True) [] (ret0 (.bool (kno k))) := by
  refine pact Tryz.func52 rfl Tryz.ntmps52 rfl ?_
  intro W K _
  (repeat' (first | ((with_reducible apply gL); (first | refine yL0 ?_ | refine yL ?_ | ((with_reducible apply gL_gd); (first | (refine JL_guard xR xR ?_ ?_ <;> intro _ <;> (try (exfalso; first | contradiction | omega))) | (refine JL_guardb xR xR ?_ ?_ <;> (intro hgb; subst hgb)) | (refine JL_guardb xR xR ?_ ?_ <;> (intro hgb; fail_if_success (have : type_of% hgb := rfl))) | fail)) | fail)) | refine yJ ?_ | fail))
  all_goals (first | (exfalso; omega) | skip)
  all_goals (refine J_ret1 rfl (by rfl) fun w H => ⟨_, ⟨?_, rfl⟩, H.sel .nil⟩; refine congrArg Value.bool ?_; unfold kno; rw [Bool.eq_iff_iff]; simp only [decide_eq_true_eq, true_iff, Bool.false_eq_true, false_iff] <;> omega)
/-- May those be that are not known? -/
def ckO : List (Int × List Int) → Int → Bool
  | [], _ => true
  | o :: l, last => if o.1 ≤ last ∨ 255 < o.1 ∨ kno o.1 = true ∨ 255 < o.2.length then false else ckO l o.1
theorem ckO_step {p : List Rw} {k : Nat} {s : Rw} (hs : p[k]? = some s) (n : Int) : ckO (oN (p.drop k)) n = (if s.kind ≤ n ∨ 255 < s.kind ∨ kno s.kind = true ∨ 255 < s.data.length then false else ckO (oN (p.drop (k + 1))) s.kind) := by
  have : p.drop k = s :: p.drop (k + 1) := by
    obtain ⟨hk, e⟩ := List.getElem?_eq_some_iff.1 hs
    rw [List.drop_eq_getElem_cons hk, e]
  rw [this]
  rfl
/-- May attributes be? -/
structure OkN (x : Nf) : Prop where
  origin : 0 ≤ x.origin ∧ x.origin ≤ 2
  path : ckP x.path 0 = true
  next : x.next ≠ 0 ∧ x.next < 3758096384
  maker : ∀ m, x.maker = some m → m.1 ≠ 0
  comms : x.comms.length ≤ 32
  others : x.others.length ≤ 8 ∧ ckO x.others (-1) = true
open Classical in
noncomputable def okN (x : Nf) : Bool := decide (OkN x)
open Classical in
theorem okN_t {d : At} (h1 : 0 ≤ d.origin ∧ d.origin ≤ 2) (h2 : ckP (pN d.path) 0 = true) (h3 : d.next ≠ 0 ∧ d.next < 3758096384) (h4 : d.hasMaker = true → d.makerAS ≠ 0) (h5 : d.comms.length ≤ 32) (h6 : d.others.length ≤ 8) (h7 : ckO (oN d.others) (-1) = true) : okN d.nf = true := by
  refine decide_eq_true ⟨h1, h2, h3, fun m hm => ?_, h5, by simpa [At.nf, oN] using h6, h7⟩
  unfold At.nf at hm
  dsimp only at hm
  split at hm
  · cases hm; exact h4 (by assumption)
  · cases hm
open Classical in
theorem okN_f {d : At} (h : ¬ ((0 ≤ d.origin ∧ d.origin ≤ 2) ∧ ckP (pN d.path) 0 = true ∧ (d.next ≠ 0 ∧ d.next < 3758096384) ∧ (d.hasMaker = true → d.makerAS ≠ 0) ∧ d.comms.length ≤ 32 ∧ d.others.length ≤ 8 ∧ ckO (oN d.others) (-1) = true)) : okN d.nf = false := by
  refine decide_eq_false fun hh => h ⟨hh.origin, hh.path, hh.next, fun hm => ?_, hh.comms, by simpa [At.nf, oN] using hh.others.1, hh.others.2⟩
  exact hh.maker (d.makerAS, d.maker) (by simp [At.nf, hm])
theorem rcheck_s (d : At) (hd : AtF d) : Pact Tryz.prog 21 #[.agg (atC d).toArray] (fun w => AtV w d) [] (ret0 (.int .i64 (er (okN d.nf)))) := by
  refine pact Tryz.func21 rfl Tryz.ntmps21 rfl ?_
  intro W K hK
  have hd1 := hd.path
  have hd2 := hd.comms
  have hd3 := hd.others
  have hov : Kn K (fun w => Vw w (.slice d.oa d.others.length d.oc) 2 d.others.length (flat rwC d.others)) := hK.imp fun _ h => h.others.vw
  have hPC := pcheck_s d.pa d.pc d.path (by omega) hd.num.path
  rcases hp : ckP (pN d.path) 0 with _ | _
  · rw [hp] at hPC
    have hok : okN d.nf = false := okN_f fun h => by rw [hp] at h; exact absurd h.2.1 (by decide)
    rw [hok]
    (repeat' (first | ((with_reducible apply gL); (first | (with_reducible apply gL_app) | (with_reducible apply gL_app0) | refine yL0 ?_ | refine yL ?_ | ((with_reducible apply gL_go); (first | (refine JL_goq (hPC) (hφ := (by (try simp only [List.cons_append, List.nil_append]); exact fun w hr => (hK w hr.1).path)) (h := ?_); rintro _ _ ⟨rfl, rfl⟩; try simp only [List.cons_append, List.nil_append]) | fail)) | (refine yM ?_; intro _) | ((with_reducible apply gL_gd); (first | (refine JL_guard xR xR ?_ ?_ <;> intro _ <;> (try (exfalso; first | contradiction | omega))) | (refine JL_guardb xR xR ?_ ?_ <;> (intro hgb; subst hgb)) | (refine JL_guardb xR xR ?_ ?_ <;> (intro hgb; fail_if_success (have : type_of% hgb := rfl))) | fail)) | fail)) | refine yJ ?_ | ((with_reducible apply gJ_if); (first | (refine J_if xR ?_ ?_ <;> intro _ <;> (try (exfalso; first | contradiction | omega))) | (refine J_ifb xR ?_ ?_ <;> (intro hgb; subst hgb)) | (refine J_ifb xR ?_ ?_ <;> intro _) | fail)) | fail))
    all_goals (first | exact J_ret1 rfl (by rfl) fun w H => ⟨_, ⟨rfl, rfl⟩, H.sel .nil⟩ | skip)
  · rw [hp] at hPC
    (iterate 3 (first | ((with_reducible apply gL); (first | (with_reducible apply gL_app) | (with_reducible apply gL_app0) | refine yL0 ?_ | refine yL ?_ | (refine yM ?_; intro _) | ((with_reducible apply gL_gd); (first | (refine JL_guard xR xR ?_ ?_ <;> intro _ <;> (try (exfalso; first | contradiction | omega))) | (refine JL_guardb xR xR ?_ ?_ <;> (intro hgb; subst hgb)) | (refine JL_guardb xR xR ?_ ?_ <;> (intro hgb; fail_if_success (have : type_of% hgb := rfl))) | fail)) | fail)) | refine yJ ?_ | ((with_reducible apply gJ_if); (first | (refine J_if xR ?_ ?_ <;> intro _ <;> (try (exfalso; first | contradiction | omega))) | (refine J_ifb xR ?_ ?_ <;> (intro hgb; subst hgb)) | (refine J_ifb xR ?_ ?_ <;> intro _) | fail)) | fail))
    rename_i b0
    (repeat' (first | ((with_reducible apply gL); (first | (with_reducible apply gL_app) | (with_reducible apply gL_app0) | refine yL0 ?_ | refine yL ?_ | ((with_reducible apply gL_go); (first | (refine JL_goq (hPC) (hφ := (by (try simp only [List.cons_append, List.nil_append]); exact fun w hr => (hK w hr.1).path)) (h := ?_); rintro _ _ ⟨rfl, rfl⟩; try simp only [List.cons_append, List.nil_append]) | fail)) | (refine yM ?_; intro _) | ((with_reducible apply gL_gd); (first | (refine JL_guard xR xR ?_ ?_ <;> intro _ <;> (try (exfalso; first | contradiction | omega))) | (refine JL_guardb xR xR ?_ ?_ <;> (intro hgb; subst hgb)) | (refine JL_guardb xR xR ?_ ?_ <;> (intro hgb; fail_if_success (have : type_of% hgb := rfl))) | fail)) | fail)) | refine yJ ?_ | ((with_reducible apply gJ_if); (first | (refine J_if xR ?_ ?_ <;> intro _ <;> (try (exfalso; first | contradiction | omega))) | (refine J_ifb xR ?_ ?_ <;> (intro hgb; subst hgb)) | (refine J_ifb xR ?_ ?_ <;> intro _) | fail)) | fail))
    all_goals (first | (have hok : okN d.nf = false := okN_f (fun ⟨h1, _, h3, h4, h5, h6, _⟩ => by first | omega | (have := h4 (by assumption); omega)); rw [hok]; exact J_ret1 rfl (by rfl) fun w H => ⟨_, ⟨rfl, rfl⟩, H.sel .nil⟩) | skip)
    all_goals (
      have hok : okN d.nf = ckO (oN d.others) (-1) := by
        rcases ho : ckO (oN d.others) (-1) with _ | _
        · exact okN_f (fun h => by rw [ho] at h; exact absurd h.2.2.2.2.2.2 (by decide))
        · exact okN_t (by omega) hp (by omega) (by first | (intro _; assumption) | (intro hh; simp_all; done)) (by omega) (by omega) ho
      refine J_loop (α := Nat × Int) (0, -1) (fun x => d.others.length - x.1) (fun x => x.1 ≤ d.others.length ∧ okN d.nf = ckO (oN (d.others.drop x.1)) x.2) (fun x => [(1, .pointer (some ⟨b0, 0, none⟩)), (3, .int .i64 x.2), (4, .int .i64 x.1)]) (fun x => [pts b0 (atC d) 29]) ⟨Nat.zero_le _, hok⟩ ⟨rfl, rfl, rfl, trivial⟩ (fun w H => H.sel xZ) ?_
      clear hok
      rintro ⟨k, n⟩ ⟨hk, hck⟩
      dsimp only at hk hck ⊢
      by_cases hlt : k < d.others.length
      · obtain ⟨s, hs⟩ : ∃ s, d.others[k]? = some s := ⟨_, List.getElem?_eq_getElem hlt⟩
        have hm := List.mem_of_getElem? hs
        have hsn := hd.num.others s hm
        have hsn1 := hsn.2.1
        obtain ⟨hk1, hk2⟩ := hsn.1
        rw [ckO_step hs] at hck
        (repeat' (first | ((with_reducible apply gL); (first | (with_reducible apply gL_app) | (with_reducible apply gL_app0) | refine yL0 ?_ | refine yL ?_ | ((with_reducible apply gL_go); (first | (refine JL_goq (rknown_s s.kind) (hφ := xF) (h := ?_); rintro _ _ ⟨rfl, rfl⟩; try simp only [List.cons_append, List.nil_append]) | fail)) | (refine yM ?_; intro _) | ((with_reducible apply gL_gd); (first | (refine JL_guard xR xR ?_ ?_ <;> intro _ <;> (try (exfalso; first | contradiction | omega))) | (refine JL_guardb xR xR ?_ ?_ <;> (intro hgb; subst hgb)) | (refine JL_guardb xR xR ?_ ?_ <;> (intro hgb; fail_if_success (have : type_of% hgb := rfl))) | fail)) | fail)) | refine yJ ?_ | ((with_reducible apply gJ_if); (first | (refine J_if xR ?_ ?_ <;> intro _ <;> (try (exfalso; first | contradiction | omega))) | (refine J_ifb xR ?_ ?_ <;> (intro hgb; subst hgb)) | (refine J_ifb xR ?_ ?_ <;> intro _) | fail)) | fail))
        all_goals (first | (rw [if_pos (by first | exact .inl (by omega) | exact .inr (.inl (by omega)) | exact .inr (.inr (.inl (by unfold kno; exact decide_eq_true (by assumption)))) | exact .inr (.inr (.inr (by omega))))] at hck; rw [hck]; exact J_ret1 rfl (by rfl) fun w H => ⟨_, ⟨rfl, rfl⟩, H.sel .nil⟩) | skip)
        all_goals (
          rw [if_neg (by rintro (h | h | h | h) <;> first | omega | exact absurd (of_decide_eq_true h) (by assumption))] at hck
          exact J_again (k + 1, s.kind) (by dsimp only; omega) ⟨by dsimp only; omega, hck⟩ ⟨rfl, rfl, rfl, trivial⟩ (fun w H => H.sel xZ))
      · have hke : k = d.others.length := by omega
        have hck2 : okN d.nf = true := by rw [hck, hke, List.drop_length]; rfl
        rw [hck2]
        (repeat' (first | ((with_reducible apply gL); (first | (with_reducible apply gL_app) | (with_reducible apply gL_app0) | refine yL0 ?_ | refine yL ?_ | (refine yM ?_; intro _) | ((with_reducible apply gL_gd); (first | (refine JL_guard xR xR ?_ ?_ <;> intro _ <;> (try (exfalso; first | contradiction | omega))) | (refine JL_guardb xR xR ?_ ?_ <;> (intro hgb; subst hgb)) | (refine JL_guardb xR xR ?_ ?_ <;> (intro hgb; fail_if_success (have : type_of% hgb := rfl))) | fail)) | fail)) | refine yJ ?_ | ((with_reducible apply gJ_if); (first | (refine J_if xR ?_ ?_ <;> intro _ <;> (try (exfalso; first | contradiction | omega))) | (refine J_ifb xR ?_ ?_ <;> (intro hgb; subst hgb)) | (refine J_ifb xR ?_ ?_ <;> intro _) | fail)) | fail))
        exact J_ret1 rfl (by rfl) fun w H => ⟨_, ⟨rfl, rfl⟩, H.sel .nil⟩)
end Go.Proofs.YtnhabkipjmgaaaaGreat
namespace Go.Pm
set_option linter.unusedSimpArgs false
set_option linter.unusedVariables false
open Go.RowKit
section
variable {P : Program} {n : Nat} {W : World} {K : Hl} {F : Fp} {k : List It} {tm : TM} {L L' R S M C : List HP} {T : TypeId} {pos : String} {af : Array Edge} {gd : Option (Nat × Bool)} {ops : Array Oper} {rest nx : List Oper} {d : Option Tmp}
theorem pe_strAdd {xt yt : TypeId} {x y : Operand} {a b c : ByteArray} (hx : evT tm x = some (.string a)) (hy : evT tm y = some (.string b)) (hs : a.size + b.size ≤ 9223372036854775807) (hc : a ++ b = c) : PE P K L ⟨d, .binOp .add xt x y yt, T, pos, af, gd⟩ (tget tm) (.string c) := pe_bin hx hy fun w => by
  subst hc
  simp [eqGuard, Sem.run_bind, binOp_string_add, run_string_add_sum w a b hs]
theorem pe_strSl {t : TypeId} {x lo hi : Operand} {s r : ByteArray} {k1 k2 : IntKind} {i j : Int} (hx : evT tm x = some (.string s)) (hlo : evT tm lo = some (.int k1 i)) (hhi : evT tm hi = some (.int k2 j)) (ht : tyIs P t isStrD = true) (h0 : 0 ≤ i) (h1 : i ≤ j) (h2 : j ≤ s.size) (hr : s.extract i.toNat j.toNat = r) : PE P K L ⟨d, .slice t x (some lo) (some hi) none, T, pos, af, gd⟩ (tget tm) (.string r) := fun ρ w ha _ => by
  have e1 := ha x (by simp [Op.operands]) _ hx
  have e2 := ha lo (by simp [Op.operands]) _ hlo
  have e3 := ha hi (by simp [Op.operands]) _ hhi
  obtain ⟨dd, h4, h5⟩ := tyIs_spec ht
  cases dd <;> simp [isStrD] at h5
  have h6 := run_slice_string (P := P) w t s k1 k2 i j h4 h0 h1 h2
  subst hr
  unfold execOp
  simp only [e1, Option.map_some, e2, e3]
  simp [Sem.run_bind, run_sliceAt_string w t _ _ _ _ h4, h6]
/-- Two strings, known to differ or not. -/
theorem pe_neStr {xt yt : TypeId} {x y : Operand} {a b : ByteArray} {c : Bool} (hx : evT tm x = some (.string a)) (hy : evT tm y = some (.string b)) (_ht : tyIs P xt isStrD = true) (hc : decide (a ≠ b) = c) : PE P K L ⟨d, .binOp .neq xt x y yt, T, pos, af, gd⟩ (tget tm) (.bool c) := pe_bin hx hy fun w => by
  have : (!(a.toList == b.toList)) = c := by
    rw [← hc, ByteArray.toList_eq, ByteArray.toList_eq]
    by_cases h : a = b
    · subst h; simp
    · have h2 : ¬ a.data.toList = b.data.toList := fun e => h (ByteArray.ext (Array.toList_inj.1 e))
      rw [decide_eq_true h]
      simpa using h2
  simp [eqGuard, Sem.run_bind, binOp_string_neq, this]
end
end Go.Pm
namespace Go.Proofs.YtnhabkipjmgaaaaGreat
set_option linter.unusedSimpArgs false
set_option linter.unusedVariables false
set_option maxRecDepth 20000
set_option maxHeartbeats 4000000
open Go.RowKit Go.Pm

theorem strOf_inj {l m : List Int} (hl : ∀ z ∈ l, U8 z) (hm : ∀ z ∈ m, U8 z) (h : strOfNums l = strOfNums m) : l = m := by
  have h2 : l.map (fun n => UInt8.ofNat n.toNat) = m.map (fun n => UInt8.ofNat n.toNat) := by
    have := congrArg (fun b => b.data.toList) h
    simpa [strOfNums] using this
  clear h
  induction l generalizing m with
  | nil => cases m with | nil => rfl | cons => simp at h2
  | cons x l ih =>
    cases m with
    | nil => simp at h2
    | cons y m =>
      simp only [List.map_cons, List.cons.injEq] at h2
      obtain ⟨e1, e2⟩ := h2
      have a1 := hl x (List.mem_cons_self ..)
      have a2 := hm y (List.mem_cons_self ..)
      unfold U8 at a1 a2
      have e3 := congrArg UInt8.toNat e1
      simp only [UInt8.toNat_ofNat'] at e3
      have : x = y := by omega
      rw [this, ih (fun z hz => hl z (List.mem_cons_of_mem _ hz)) (fun z hz => hm z (List.mem_cons_of_mem _ hz)) e2]
theorem strNe {l m : List Int} (hl : ∀ z ∈ l, U8 z) (hm : ∀ z ∈ m, U8 z) : decide (strOfNums l ≠ strOfNums m) = decide (l ≠ m) := by
  by_cases h : l = m
  · subst h; simp
  · have : strOfNums l ≠ strOfNums m := fun e => h (strOf_inj hl hm e)
    simp [h, this]
theorem pN_get {p q : List Sg} (h : pN p = pN q) {k : Nat} {s t : Sg} (hs : p[k]? = some s) (ht : q[k]? = some t) : s.set = t.set ∧ s.as_ = t.as_ := by
  have := congrArg (·[k]?) h
  simp only [pN, List.getElem?_map, hs, ht, Option.map_some, Option.some.injEq, Prod.mk.injEq] at this
  exact this
theorem oN_get {p q : List Rw} (h : oN p = oN q) {k : Nat} {s t : Rw} (hs : p[k]? = some s) (ht : q[k]? = some t) : s.kind = t.kind ∧ s.data = t.data := by
  have := congrArg (·[k]?) h
  simp only [oN, List.getElem?_map, hs, ht, Option.map_some, Option.some.injEq, Prod.mk.injEq] at this
  exact this
theorem psame_s (a : Option Addr) (c : Nat) (p : List Sg) (b : Option Addr) (d : Nat) (q : List Sg) (h8 : p.length ≤ 1000) (h9 : q.length ≤ 1000) (hsm : ∀ s ∈ p, SgN s) (hsq : ∀ s ∈ q, SgN s) : Pact Tryz.prog 53 #[.slice a p.length c, .slice b q.length d] (fun w => PathV w a c p ∧ PathV w b d q) [] (ret0 (.bool (decide (pN p = pN q)))) := by
  refine pact Tryz.func53 rfl Tryz.ntmps53 rfl ?_
  intro W K hK
  have hv : Kn K (fun w => Vw w (.slice a p.length c) 2 p.length (flat sgC p)) := hK.imp fun _ h => h.1.vw
  have hv2 : Kn K (fun w => Vw w (.slice b q.length d) 2 q.length (flat sgC q)) := hK.imp fun _ h => h.2.vw
  by_cases hlen : p.length = q.length
  · (repeat' (first | ((with_reducible apply gL); (first | refine yL0 ?_ | refine yL ?_ | fail)) | ((with_reducible apply gD); (first | (refine JD_nil ?_; try simp only [List.cons_append, List.nil_append]) | (refine JD_bar ?_; try simp only [List.cons_append, List.nil_append]) | refine yD0 ?_ | refine yD ?_ | ((with_reducible apply gD_gd); (first | (refine JD_guard xR xR ?_ ?_ <;> intro _ <;> (try (exfalso; first | contradiction | omega))) | (refine JD_guardb xR xR ?_ ?_ <;> (intro hgb; subst hgb)) | (refine JD_guardb xR xR ?_ ?_ <;> (intro hgb; fail_if_success (have : type_of% hgb := rfl))) | fail)) | fail)) | refine yJ ?_ | ((with_reducible apply gJ_if); (first | (refine J_if xR ?_ ?_ <;> intro _ <;> (try (exfalso; first | contradiction | omega))) | (refine J_ifb xR ?_ ?_ <;> (intro hgb; subst hgb)) | (refine J_ifb xR ?_ ?_ <;> intro _) | fail)) | refine J_draw (id := 6) [0, 1, 2, 3, 4, 5, 6, 7, 8, 9, 10, 11, 12, 13, 14, 15, 16, 17, 18, 19, 20, 21, 22, 23] [24, 25] mixed xC xD xD ?_ | refine J_draw (id := 11) [0, 1, 2, 3, 4, 5, 6, 7, 8, 9, 10, 11, 12, 13, 14, 15] [16] mixed xC xD xD ?_ | fail))
    all_goals (first | (exfalso; omega) | skip)
    refine J_loop (α := Nat) 0 (fun x => p.length - x) (fun x => x ≤ p.length ∧ pN (p.take x) = pN (q.take x)) (fun x => [(0, .slice a p.length c), (1, .slice b q.length d), (5, .int .i64 x)]) (fun x => []) ⟨Nat.zero_le _, rfl⟩ ⟨rfl, rfl, rfl, trivial⟩ (fun w H => H) ?_
    rintro k ⟨hk, hck⟩
    by_cases hlt : k < p.length
    · obtain ⟨s, hs⟩ : ∃ s, p[k]? = some s := ⟨_, List.getElem?_eq_getElem hlt⟩
      obtain ⟨t, ht⟩ : ∃ s, q[k]? = some s := ⟨_, List.getElem?_eq_getElem (by omega)⟩
      have hm := List.mem_of_getElem? hs
      have hm2 := List.mem_of_getElem? ht
      have hsn1 := (hsm s hm).1
      have hsn2 := (hsq t hm2).1
      have hu : Kn K (fun w => Vw w (.slice s.a s.as_.length s.c) 1 s.as_.length (flat u32C s.as_)) := hK.imp fun _ h => h.1.segs s hm
      have hu2 : Kn K (fun w => Vw w (.slice t.a t.as_.length t.c) 1 t.as_.length (flat u32C t.as_)) := hK.imp fun _ h => h.2.segs t hm2
      (repeat' (first | ((with_reducible apply gL); (first | refine yL0 ?_ | refine yL ?_ | fail)) | ((with_reducible apply gD); (first | (refine JD_nil ?_; try simp only [List.cons_append, List.nil_append]) | (refine JD_bar ?_; try simp only [List.cons_append, List.nil_append]) | refine yD0 ?_ | refine yD ?_ | ((with_reducible apply gD_gd); (first | (refine JD_guard xR xR ?_ ?_ <;> intro _ <;> (try (exfalso; first | contradiction | omega))) | (refine JD_guardb xR xR ?_ ?_ <;> (intro hgb; subst hgb)) | (refine JD_guardb xR xR ?_ ?_ <;> (intro hgb; fail_if_success (have : type_of% hgb := rfl))) | fail)) | fail)) | refine yJ ?_ | ((with_reducible apply gJ_if); (first | (refine J_if xR ?_ ?_ <;> intro _ <;> (try (exfalso; first | contradiction | omega))) | (refine J_ifb xR ?_ ?_ <;> (intro hgb; subst hgb)) | (refine J_ifb xR ?_ ?_ <;> intro _) | fail)) | refine J_draw (id := 6) [0, 1, 2, 3, 4, 5, 6, 7, 8, 9, 10, 11, 12, 13, 14, 15, 16, 17, 18, 19, 20, 21, 22, 23] [24, 25] mixed xC xD xD ?_ | refine J_draw (id := 11) [0, 1, 2, 3, 4, 5, 6, 7, 8, 9, 10, 11, 12, 13, 14, 15] [16] mixed xC xD xD ?_ | fail))
      · have hf : decide (pN p = pN q) = false := decide_eq_false fun h => by have := pN_get h hs ht; simp_all
        rw [hf]
        exact J_ret1 rfl (by rfl) fun w H => ⟨_, ⟨rfl, rfl⟩, H.sel .nil⟩
      · have hf : decide (pN p = pN q) = false := decide_eq_false fun h => absurd (congrArg List.length (pN_get h hs ht).2) (by omega)
        rw [hf]
        exact J_ret1 rfl (by rfl) fun w H => ⟨_, ⟨rfl, rfl⟩, H.sel .nil⟩
      · have hl2 : s.as_.length = t.as_.length := by omega
        refine J_loop (α := Nat) 0 (fun x => s.as_.length - x) (fun x => x ≤ s.as_.length ∧ s.as_.take x = t.as_.take x) (fun x => [(0, .slice a p.length c), (1, .slice b q.length d), (5, .int .i64 k), (6, .int .i64 x)]) (fun x => []) ⟨Nat.zero_le _, by simp⟩ ⟨rfl, rfl, rfl, rfl, trivial⟩ (fun w H => H) ?_
        rintro j ⟨hj, hz⟩
        by_cases hjl : j < s.as_.length
        · obtain ⟨x, hx⟩ : ∃ x, s.as_[j]? = some x := ⟨_, List.getElem?_eq_getElem hjl⟩
          obtain ⟨y, hy⟩ : ∃ x, t.as_[j]? = some x := ⟨_, List.getElem?_eq_getElem (by omega)⟩
          (repeat' (first | ((with_reducible apply gL); (first | refine yL0 ?_ | refine yL ?_ | fail)) | ((with_reducible apply gD); (first | (refine JD_nil ?_; try simp only [List.cons_append, List.nil_append]) | (refine JD_bar ?_; try simp only [List.cons_append, List.nil_append]) | refine yD0 ?_ | refine yD ?_ | ((with_reducible apply gD_gd); (first | (refine JD_guard xR xR ?_ ?_ <;> intro _ <;> (try (exfalso; first | contradiction | omega))) | (refine JD_guardb xR xR ?_ ?_ <;> (intro hgb; subst hgb)) | (refine JD_guardb xR xR ?_ ?_ <;> (intro hgb; fail_if_success (have : type_of% hgb := rfl))) | fail)) | fail)) | refine yJ ?_ | ((with_reducible apply gJ_if); (first | (refine J_if xR ?_ ?_ <;> intro _ <;> (try (exfalso; first | contradiction | omega))) | (refine J_ifb xR ?_ ?_ <;> (intro hgb; subst hgb)) | (refine J_ifb xR ?_ ?_ <;> intro _) | fail)) | refine J_draw (id := 6) [0, 1, 2, 3, 4, 5, 6, 7, 8, 9, 10, 11, 12, 13, 14, 15, 16, 17, 18, 19, 20, 21, 22, 23] [24, 25] mixed xC xD xD ?_ | refine J_draw (id := 11) [0, 1, 2, 3, 4, 5, 6, 7, 8, 9, 10, 11, 12, 13, 14, 15] [16] mixed xC xD xD ?_ | fail))
          · have hf : decide (pN p = pN q) = false := decide_eq_false fun h => by have := (pN_get h hs ht).2; rw [this] at hx; rw [hx] at hy; exact absurd (Option.some.inj hy) (by assumption)
            rw [hf]
            exact J_ret1 rfl (by rfl) fun w H => ⟨_, ⟨rfl, rfl⟩, H.sel .nil⟩
          · have hxy : x = y := by omega
            subst hxy
            exact J_again (j + 1) (by omega) ⟨by omega, by rw [take_snoc hx, take_snoc hy, hz]⟩ ⟨rfl, rfl, rfl, rfl, trivial⟩ (fun w H => H.sel .nil)
        · have hje : j = s.as_.length := by omega
          have hz2 : s.as_ = t.as_ := by rw [hje, List.take_length] at hz; rw [hz, hl2, List.take_length]
          (repeat' (first | ((with_reducible apply gL); (first | refine yL0 ?_ | refine yL ?_ | fail)) | ((with_reducible apply gD); (first | (refine JD_nil ?_; try simp only [List.cons_append, List.nil_append]) | (refine JD_bar ?_; try simp only [List.cons_append, List.nil_append]) | refine yD0 ?_ | refine yD ?_ | ((with_reducible apply gD_gd); (first | (refine JD_guard xR xR ?_ ?_ <;> intro _ <;> (try (exfalso; first | contradiction | omega))) | (refine JD_guardb xR xR ?_ ?_ <;> (intro hgb; subst hgb)) | (refine JD_guardb xR xR ?_ ?_ <;> (intro hgb; fail_if_success (have : type_of% hgb := rfl))) | fail)) | fail)) | refine yJ ?_ | ((with_reducible apply gJ_if); (first | (refine J_if xR ?_ ?_ <;> intro _ <;> (try (exfalso; first | contradiction | omega))) | (refine J_ifb xR ?_ ?_ <;> (intro hgb; subst hgb)) | (refine J_ifb xR ?_ ?_ <;> intro _) | fail)) | refine J_draw (id := 6) [0, 1, 2, 3, 4, 5, 6, 7, 8, 9, 10, 11, 12, 13, 14, 15, 16, 17, 18, 19, 20, 21, 22, 23] [24, 25] mixed xC xD xD ?_ | refine J_draw (id := 11) [0, 1, 2, 3, 4, 5, 6, 7, 8, 9, 10, 11, 12, 13, 14, 15] [16] mixed xC xD xD ?_ | fail))
          refine J_again (k + 1) (by omega) ⟨by omega, ?_⟩ ⟨rfl, rfl, rfl, trivial⟩ (fun w H => H.sel .nil)
          rw [take_snoc hs, take_snoc ht]
          unfold pN at hck ⊢
          rw [List.map_append, List.map_append, hck]
          simp_all
    · have hke : k = p.length := by omega
      have hf : decide (pN p = pN q) = true := decide_eq_true (by rw [hke, List.take_length, hlen, List.take_length] at hck; exact hck)
      rw [hf]
      (repeat' (first | ((with_reducible apply gL); (first | refine yL0 ?_ | refine yL ?_ | fail)) | ((with_reducible apply gD); (first | (refine JD_nil ?_; try simp only [List.cons_append, List.nil_append]) | (refine JD_bar ?_; try simp only [List.cons_append, List.nil_append]) | refine yD0 ?_ | refine yD ?_ | ((with_reducible apply gD_gd); (first | (refine JD_guard xR xR ?_ ?_ <;> intro _ <;> (try (exfalso; first | contradiction | omega))) | (refine JD_guardb xR xR ?_ ?_ <;> (intro hgb; subst hgb)) | (refine JD_guardb xR xR ?_ ?_ <;> (intro hgb; fail_if_success (have : type_of% hgb := rfl))) | fail)) | fail)) | refine yJ ?_ | ((with_reducible apply gJ_if); (first | (refine J_if xR ?_ ?_ <;> intro _ <;> (try (exfalso; first | contradiction | omega))) | (refine J_ifb xR ?_ ?_ <;> (intro hgb; subst hgb)) | (refine J_ifb xR ?_ ?_ <;> intro _) | fail)) | refine J_draw (id := 6) [0, 1, 2, 3, 4, 5, 6, 7, 8, 9, 10, 11, 12, 13, 14, 15, 16, 17, 18, 19, 20, 21, 22, 23] [24, 25] mixed xC xD xD ?_ | refine J_draw (id := 11) [0, 1, 2, 3, 4, 5, 6, 7, 8, 9, 10, 11, 12, 13, 14, 15] [16] mixed xC xD xD ?_ | fail))
      exact J_ret1 rfl (by rfl) fun w H => ⟨_, ⟨rfl, rfl⟩, H.sel .nil⟩
  · have hf : decide (pN p = pN q) = false := decide_eq_false fun h => hlen (pN_len h)
    rw [hf]
    (repeat' (first | ((with_reducible apply gL); (first | refine yL0 ?_ | refine yL ?_ | fail)) | ((with_reducible apply gD); (first | (refine JD_nil ?_; try simp only [List.cons_append, List.nil_append]) | (refine JD_bar ?_; try simp only [List.cons_append, List.nil_append]) | refine yD0 ?_ | refine yD ?_ | ((with_reducible apply gD_gd); (first | (refine JD_guard xR xR ?_ ?_ <;> intro _ <;> (try (exfalso; first | contradiction | omega))) | (refine JD_guardb xR xR ?_ ?_ <;> (intro hgb; subst hgb)) | (refine JD_guardb xR xR ?_ ?_ <;> (intro hgb; fail_if_success (have : type_of% hgb := rfl))) | fail)) | fail)) | refine yJ ?_ | ((with_reducible apply gJ_if); (first | (refine J_if xR ?_ ?_ <;> intro _ <;> (try (exfalso; first | contradiction | omega))) | (refine J_ifb xR ?_ ?_ <;> (intro hgb; subst hgb)) | (refine J_ifb xR ?_ ?_ <;> intro _) | fail)) | refine J_draw (id := 6) [0, 1, 2, 3, 4, 5, 6, 7, 8, 9, 10, 11, 12, 13, 14, 15, 16, 17, 18, 19, 20, 21, 22, 23] [24, 25] mixed xC xD xD ?_ | refine J_draw (id := 11) [0, 1, 2, 3, 4, 5, 6, 7, 8, 9, 10, 11, 12, 13, 14, 15] [16] mixed xC xD xD ?_ | fail))
    all_goals (first | (exfalso; omega) | skip)
    exact J_ret1 rfl (by rfl) fun w H => ⟨_, ⟨rfl, rfl⟩, H.sel .nil⟩
/-- All that is looked at ahead of the loops. -/
structure HeadEq (d e : At) : Prop where
  origin : d.origin = e.origin
  path : pN d.path = pN e.path
  next : d.next = e.next
  hasMed : d.hasMed = e.hasMed
  med : d.hasMed = true → d.med = e.med
  hasLocal : d.hasLocal = e.hasLocal
  loc : d.hasLocal = true → d.loc = e.loc
  atomic : d.atomic = e.atomic
  hasMaker : d.hasMaker = e.hasMaker
  makerAS : d.hasMaker = true → d.makerAS = e.makerAS
  maker : d.hasMaker = true → d.maker = e.maker
  comms : d.comms.length = e.comms.length
  others : d.others.length = e.others.length
theorem nf_eq (d e : At) : d.nf = e.nf ↔ HeadEq d e ∧ d.comms = e.comms ∧ oN d.others = oN e.others := by
  constructor
  · intro h
    simp only [At.nf, Nf.mk.injEq] at h
    obtain ⟨h1, h2, h3, h4, h5, h6, h7, h8, h9⟩ := h
    refine ⟨⟨h1, h2, h3, ?_, ?_, ?_, ?_, h6, ?_, ?_, ?_, by rw [h8], oN_len h9⟩, h8, h9⟩
    · cases a : d.hasMed <;> cases b : e.hasMed <;> simp_all
    · cases a : d.hasMed <;> cases b : e.hasMed <;> simp_all
    · cases a : d.hasLocal <;> cases b : e.hasLocal <;> simp_all
    · cases a : d.hasLocal <;> cases b : e.hasLocal <;> simp_all
    · cases a : d.hasMaker <;> cases b : e.hasMaker <;> simp_all
    · cases a : d.hasMaker <;> cases b : e.hasMaker <;> simp_all
    · cases a : d.hasMaker <;> cases b : e.hasMaker <;> simp_all
  · rintro ⟨⟨h1, h2, h3, h4, h5, h6, h7, h8, h9, h10, h11, _, _⟩, h12, h13⟩
    simp only [At.nf, Nf.mk.injEq]
    refine ⟨h1, h2, h3, ?_, ?_, h8, ?_, h12, h13⟩
    · cases a : d.hasMed <;> simp_all
    · cases a : d.hasLocal <;> simp_all
    · cases a : d.hasMaker <;> simp_all
theorem rsame_s (d e : At) (hd : AtF d) (he : AtF e) : Pact Tryz.prog 22 #[.agg (atC d).toArray, .agg (atC e).toArray] (fun w => AtV w d ∧ AtV w e) [] (ret0 (.bool (decide (d.nf = e.nf)))) := by
  refine pact Tryz.func22 rfl Tryz.ntmps22 rfl ?_
  intro W K hK
  have hd1 := hd.path
  have hd2 := hd.comms
  have hd3 := hd.others
  have he1 := he.path
  have he2 := he.comms
  have he3 := he.others
  have hcv : Kn K (fun w => Vw w (.slice d.ca d.comms.length d.cc) 1 d.comms.length (flat u32C d.comms)) := hK.imp fun _ h => h.1.comms
  have hcv2 : Kn K (fun w => Vw w (.slice e.ca e.comms.length e.cc) 1 e.comms.length (flat u32C e.comms)) := hK.imp fun _ h => h.2.comms
  have hov : Kn K (fun w => Vw w (.slice d.oa d.others.length d.oc) 2 d.others.length (flat rwC d.others)) := hK.imp fun _ h => h.1.others.vw
  have hov2 : Kn K (fun w => Vw w (.slice e.oa e.others.length e.oc) 2 e.others.length (flat rwC e.others)) := hK.imp fun _ h => h.2.others.vw
  (iterate 7 (first | ((with_reducible apply gL); (first | (with_reducible apply gL_app) | (with_reducible apply gL_app0) | refine yL0 ?_ | refine yL ?_ | (refine yM ?_; intro _) | ((with_reducible apply gL_gd); (first | (refine JL_guard xR xR ?_ ?_ <;> intro _ <;> (try (exfalso; first | contradiction | omega))) | (refine JL_guardb xR xR ?_ ?_ <;> (intro hgb; subst hgb)) | (refine JL_guardb xR xR ?_ ?_ <;> (intro hgb; fail_if_success (have : type_of% hgb := rfl))) | fail)) | fail)) | ((with_reducible apply gD); (first | (refine JD_nil ?_; try simp only [List.cons_append, List.nil_append]) | (refine JD_bar ?_; try simp only [List.cons_append, List.nil_append]) | (with_reducible apply gD_app) | (with_reducible apply gD_app0) | refine yD0 ?_ | refine yD ?_ | ((with_reducible apply gD_gd); (first | (refine JD_guard xR xR ?_ ?_ <;> intro _ <;> (try (exfalso; first | contradiction | omega))) | (refine JD_guardb xR xR ?_ ?_ <;> (intro hgb; subst hgb)) | (refine JD_guardb xR xR ?_ ?_ <;> (intro hgb; fail_if_success (have : type_of% hgb := rfl))) | fail)) | fail)) | refine yJ ?_ | ((with_reducible apply gJ_if); (first | (refine J_if xR ?_ ?_ <;> intro _ <;> (try (exfalso; first | contradiction | omega))) | (refine J_ifb xR ?_ ?_ <;> (intro hgb; subst hgb)) | (refine J_ifb xR ?_ ?_ <;> intro _) | fail)) | refine J_draw (id := 6) [0, 1, 2, 3, 4, 5, 6, 7, 8, 9] [10] mixed xC xD xD ?_ | refine J_draw (id := 11) [0, 1, 2, 3, 4, 5, 6, 7, 8, 9, 10, 11, 12, 13, 14, 15, 16, 17, 18, 19, 20, 21, 22, 23, 24, 25, 26, 27] [28, 29] mixed xC xD xD ?_ | fail))
  rename_i b0 b1
  refine J_cut (α := Unit) (fun _ => HeadEq d e) (fun _ => [(2, .pointer (some ⟨b0, 0, none⟩)), (3, .pointer (some ⟨b1, 0, none⟩))]) (fun _ => [pts b0 (atC d) 29, pts b1 (atC e) 29]) ?_ ?_
  · have hPS := psame_s d.pa d.pc d.path e.pa e.pc e.path (by omega) (by omega) hd.num.path he.num.path
    by_cases hp : pN d.path = pN e.path
    · rw [decide_eq_true hp] at hPS
      (repeat' (first | ((with_reducible apply gL); (first | (with_reducible apply gL_app) | (with_reducible apply gL_app0) | refine yL0 ?_ | refine yL ?_ | ((with_reducible apply gL_go); (first | (refine JL_goq (hPS) (hφ := (by (try simp only [List.cons_append, List.nil_append]); exact fun w hr => ⟨(hK w hr.1).1.path, (hK w hr.1).2.path⟩)) (h := ?_); rintro _ _ ⟨rfl, rfl⟩; try simp only [List.cons_append, List.nil_append]) | fail)) | (refine yM ?_; intro _) | ((with_reducible apply gL_gd); (first | (refine JL_guard xR xR ?_ ?_ <;> intro _ <;> (try (exfalso; first | contradiction | omega))) | (refine JL_guardb xR xR ?_ ?_ <;> (intro hgb; subst hgb)) | (refine JL_guardb xR xR ?_ ?_ <;> (intro hgb; fail_if_success (have : type_of% hgb := rfl))) | fail)) | fail)) | ((with_reducible apply gD); (first | (refine JD_nil ?_; try simp only [List.cons_append, List.nil_append]) | (refine JD_bar ?_; try simp only [List.cons_append, List.nil_append]) | (with_reducible apply gD_app) | (with_reducible apply gD_app0) | refine yD0 ?_ | refine yD ?_ | ((with_reducible apply gD_gd); (first | (refine JD_guard xR xR ?_ ?_ <;> intro _ <;> (try (exfalso; first | contradiction | omega))) | (refine JD_guardb xR xR ?_ ?_ <;> (intro hgb; subst hgb)) | (refine JD_guardb xR xR ?_ ?_ <;> (intro hgb; fail_if_success (have : type_of% hgb := rfl))) | fail)) | fail)) | refine yJ ?_ | ((with_reducible apply gJ_if); (first | (refine J_if xR ?_ ?_ <;> intro _ <;> (try (exfalso; first | contradiction | omega))) | (refine J_ifb xR ?_ ?_ <;> (intro hgb; subst hgb)) | (refine J_ifb xR ?_ ?_ <;> intro _) | fail)) | refine J_draw (id := 6) [0, 1, 2, 3, 4, 5, 6, 7, 8, 9] [10] mixed xC xD xD ?_ | refine J_draw (id := 11) [0, 1, 2, 3, 4, 5, 6, 7, 8, 9, 10, 11, 12, 13, 14, 15, 16, 17, 18, 19, 20, 21, 22, 23, 24, 25, 26, 27] [28, 29] mixed xC xD xD ?_ | fail))
      all_goals first
        | (have hf : decide (d.nf = e.nf) = false := decide_eq_false fun hh => by
             have h := ((nf_eq d e).1 hh).1
             first
               | exact absurd h.origin (by assumption)
               | exact absurd h.next (by assumption)
               | exact absurd h.hasMed (by assumption)
               | exact absurd (h.med (by assumption)) (by assumption)
               | exact absurd h.hasLocal (by assumption)
               | exact absurd (h.loc (by assumption)) (by assumption)
               | exact absurd h.atomic (by assumption)
               | exact absurd h.hasMaker (by assumption)
               | exact absurd (h.makerAS (by assumption)) (by assumption)
               | exact absurd (h.maker (by assumption)) (by assumption)
               | exact absurd h.comms (by omega)
               | exact absurd h.others (by omega)
           rw [hf]
           exact J_ret1 rfl (by rfl) fun w H => ⟨_, ⟨rfl, rfl⟩, H.sel .nil⟩)
        | (refine J_meet () ⟨by omega, hp, by omega, Decidable.not_not.1 (by assumption), fun hh => ?_, Decidable.not_not.1 (by assumption), fun hh => ?_, Decidable.not_not.1 (by assumption), Decidable.not_not.1 (by assumption), fun hh => ?_, fun hh => ?_, by omega, by omega⟩ ⟨rfl, rfl, trivial⟩ (fun w H => H.sel xZ)
           all_goals first | omega | (exfalso; have h2 : true = false := hh.symm.trans (by assumption); cases h2))
    · have hf : decide (d.nf = e.nf) = false := decide_eq_false fun hh => hp ((nf_eq d e).1 hh).1.path
      rw [decide_eq_false hp] at hPS
      rw [hf]
      (repeat' (first | ((with_reducible apply gL); (first | (with_reducible apply gL_app) | (with_reducible apply gL_app0) | refine yL0 ?_ | refine yL ?_ | ((with_reducible apply gL_go); (first | (refine JL_goq (hPS) (hφ := (by (try simp only [List.cons_append, List.nil_append]); exact fun w hr => ⟨(hK w hr.1).1.path, (hK w hr.1).2.path⟩)) (h := ?_); rintro _ _ ⟨rfl, rfl⟩; try simp only [List.cons_append, List.nil_append]) | fail)) | (refine yM ?_; intro _) | ((with_reducible apply gL_gd); (first | (refine JL_guard xR xR ?_ ?_ <;> intro _ <;> (try (exfalso; first | contradiction | omega))) | (refine JL_guardb xR xR ?_ ?_ <;> (intro hgb; subst hgb)) | (refine JL_guardb xR xR ?_ ?_ <;> (intro hgb; fail_if_success (have : type_of% hgb := rfl))) | fail)) | fail)) | ((with_reducible apply gD); (first | (refine JD_nil ?_; try simp only [List.cons_append, List.nil_append]) | (refine JD_bar ?_; try simp only [List.cons_append, List.nil_append]) | (with_reducible apply gD_app) | (with_reducible apply gD_app0) | refine yD0 ?_ | refine yD ?_ | ((with_reducible apply gD_gd); (first | (refine JD_guard xR xR ?_ ?_ <;> intro _ <;> (try (exfalso; first | contradiction | omega))) | (refine JD_guardb xR xR ?_ ?_ <;> (intro hgb; subst hgb)) | (refine JD_guardb xR xR ?_ ?_ <;> (intro hgb; fail_if_success (have : type_of% hgb := rfl))) | fail)) | fail)) | refine yJ ?_ | ((with_reducible apply gJ_if); (first | (refine J_if xR ?_ ?_ <;> intro _ <;> (try (exfalso; first | contradiction | omega))) | (refine J_ifb xR ?_ ?_ <;> (intro hgb; subst hgb)) | (refine J_ifb xR ?_ ?_ <;> intro _) | fail)) | refine J_draw (id := 6) [0, 1, 2, 3, 4, 5, 6, 7, 8, 9] [10] mixed xC xD xD ?_ | refine J_draw (id := 11) [0, 1, 2, 3, 4, 5, 6, 7, 8, 9, 10, 11, 12, 13, 14, 15, 16, 17, 18, 19, 20, 21, 22, 23, 24, 25, 26, 27] [28, 29] mixed xC xD xD ?_ | fail))
      all_goals (first | (exfalso; omega) | skip)
      all_goals exact J_ret1 rfl (by rfl) fun w H => ⟨_, ⟨rfl, rfl⟩, H.sel .nil⟩
  · rintro ⟨⟩ hh
    have hl1 := hh.comms
    have hl2 := hh.others
    (repeat' (first | ((with_reducible apply gL); (first | (with_reducible apply gL_app) | (with_reducible apply gL_app0) | refine yL0 ?_ | refine yL ?_ | (refine yM ?_; intro _) | ((with_reducible apply gL_gd); (first | (refine JL_guard xR xR ?_ ?_ <;> intro _ <;> (try (exfalso; first | contradiction | omega))) | (refine JL_guardb xR xR ?_ ?_ <;> (intro hgb; subst hgb)) | (refine JL_guardb xR xR ?_ ?_ <;> (intro hgb; fail_if_success (have : type_of% hgb := rfl))) | fail)) | fail)) | ((with_reducible apply gD); (first | (refine JD_nil ?_; try simp only [List.cons_append, List.nil_append]) | (refine JD_bar ?_; try simp only [List.cons_append, List.nil_append]) | (with_reducible apply gD_app) | (with_reducible apply gD_app0) | refine yD0 ?_ | refine yD ?_ | ((with_reducible apply gD_gd); (first | (refine JD_guard xR xR ?_ ?_ <;> intro _ <;> (try (exfalso; first | contradiction | omega))) | (refine JD_guardb xR xR ?_ ?_ <;> (intro hgb; subst hgb)) | (refine JD_guardb xR xR ?_ ?_ <;> (intro hgb; fail_if_success (have : type_of% hgb := rfl))) | fail)) | fail)) | refine yJ ?_ | ((with_reducible apply gJ_if); (first | (refine J_if xR ?_ ?_ <;> intro _ <;> (try (exfalso; first | contradiction | omega))) | (refine J_ifb xR ?_ ?_ <;> (intro hgb; subst hgb)) | (refine J_ifb xR ?_ ?_ <;> intro _) | fail)) | refine J_draw (id := 6) [0, 1, 2, 3, 4, 5, 6, 7, 8, 9] [10] mixed xC xD xD ?_ | refine J_draw (id := 11) [0, 1, 2, 3, 4, 5, 6, 7, 8, 9, 10, 11, 12, 13, 14, 15, 16, 17, 18, 19, 20, 21, 22, 23, 24, 25, 26, 27] [28, 29] mixed xC xD xD ?_ | fail))
    refine J_loop (α := Nat) 0 (fun x => d.comms.length - x) (fun x => x ≤ d.comms.length ∧ d.comms.take x = e.comms.take x) (fun x => [(2, .pointer (some ⟨b0, 0, none⟩)), (3, .pointer (some ⟨b1, 0, none⟩)), (5, .int .i64 x)]) (fun x => [pts b0 (atC d) 29, pts b1 (atC e) 29]) ⟨Nat.zero_le _, rfl⟩ ⟨rfl, rfl, rfl, trivial⟩ (fun w H => H.sel xZ) ?_
    rintro k ⟨hk, hck⟩
    by_cases hlt : k < d.comms.length
    · obtain ⟨x, hx⟩ : ∃ x, d.comms[k]? = some x := ⟨_, List.getElem?_eq_getElem hlt⟩
      obtain ⟨y, hy⟩ : ∃ x, e.comms[k]? = some x := ⟨_, List.getElem?_eq_getElem (by omega)⟩
      (repeat' (first | ((with_reducible apply gL); (first | (with_reducible apply gL_app) | (with_reducible apply gL_app0) | refine yL0 ?_ | refine yL ?_ | (refine yM ?_; intro _) | ((with_reducible apply gL_gd); (first | (refine JL_guard xR xR ?_ ?_ <;> intro _ <;> (try (exfalso; first | contradiction | omega))) | (refine JL_guardb xR xR ?_ ?_ <;> (intro hgb; subst hgb)) | (refine JL_guardb xR xR ?_ ?_ <;> (intro hgb; fail_if_success (have : type_of% hgb := rfl))) | fail)) | fail)) | ((with_reducible apply gD); (first | (refine JD_nil ?_; try simp only [List.cons_append, List.nil_append]) | (refine JD_bar ?_; try simp only [List.cons_append, List.nil_append]) | (with_reducible apply gD_app) | (with_reducible apply gD_app0) | refine yD0 ?_ | refine yD ?_ | ((with_reducible apply gD_gd); (first | (refine JD_guard xR xR ?_ ?_ <;> intro _ <;> (try (exfalso; first | contradiction | omega))) | (refine JD_guardb xR xR ?_ ?_ <;> (intro hgb; subst hgb)) | (refine JD_guardb xR xR ?_ ?_ <;> (intro hgb; fail_if_success (have : type_of% hgb := rfl))) | fail)) | fail)) | refine yJ ?_ | ((with_reducible apply gJ_if); (first | (refine J_if xR ?_ ?_ <;> intro _ <;> (try (exfalso; first | contradiction | omega))) | (refine J_ifb xR ?_ ?_ <;> (intro hgb; subst hgb)) | (refine J_ifb xR ?_ ?_ <;> intro _) | fail)) | refine J_draw (id := 6) [0, 1, 2, 3, 4, 5, 6, 7, 8, 9] [10] mixed xC xD xD ?_ | refine J_draw (id := 11) [0, 1, 2, 3, 4, 5, 6, 7, 8, 9, 10, 11, 12, 13, 14, 15, 16, 17, 18, 19, 20, 21, 22, 23, 24, 25, 26, 27] [28, 29] mixed xC xD xD ?_ | fail))
      · have hf : decide (d.nf = e.nf) = false := decide_eq_false fun h => by have := ((nf_eq d e).1 h).2.1; rw [this] at hx; rw [hx] at hy; exact absurd (Option.some.inj hy) (by assumption)
        rw [hf]
        exact J_ret1 rfl (by rfl) fun w H => ⟨_, ⟨rfl, rfl⟩, H.sel .nil⟩
      · have hxy : x = y := by omega
        subst hxy
        exact J_again (k + 1) (by omega) ⟨by omega, by rw [take_snoc hx, take_snoc hy, hck]⟩ ⟨rfl, rfl, rfl, trivial⟩ (fun w H => H.sel xZ)
    · have hke : k = d.comms.length := by omega
      have hcc : d.comms = e.comms := by rw [hke, List.take_length, hl1, List.take_length] at hck; exact hck
      (repeat' (first | ((with_reducible apply gL); (first | (with_reducible apply gL_app) | (with_reducible apply gL_app0) | refine yL0 ?_ | refine yL ?_ | (refine yM ?_; intro _) | ((with_reducible apply gL_gd); (first | (refine JL_guard xR xR ?_ ?_ <;> intro _ <;> (try (exfalso; first | contradiction | omega))) | (refine JL_guardb xR xR ?_ ?_ <;> (intro hgb; subst hgb)) | (refine JL_guardb xR xR ?_ ?_ <;> (intro hgb; fail_if_success (have : type_of% hgb := rfl))) | fail)) | fail)) | ((with_reducible apply gD); (first | (refine JD_nil ?_; try simp only [List.cons_append, List.nil_append]) | (refine JD_bar ?_; try simp only [List.cons_append, List.nil_append]) | (with_reducible apply gD_app) | (with_reducible apply gD_app0) | refine yD0 ?_ | refine yD ?_ | ((with_reducible apply gD_gd); (first | (refine JD_guard xR xR ?_ ?_ <;> intro _ <;> (try (exfalso; first | contradiction | omega))) | (refine JD_guardb xR xR ?_ ?_ <;> (intro hgb; subst hgb)) | (refine JD_guardb xR xR ?_ ?_ <;> (intro hgb; fail_if_success (have : type_of% hgb := rfl))) | fail)) | fail)) | refine yJ ?_ | ((with_reducible apply gJ_if); (first | (refine J_if xR ?_ ?_ <;> intro _ <;> (try (exfalso; first | contradiction | omega))) | (refine J_ifb xR ?_ ?_ <;> (intro hgb; subst hgb)) | (refine J_ifb xR ?_ ?_ <;> intro _) | fail)) | refine J_draw (id := 6) [0, 1, 2, 3, 4, 5, 6, 7, 8, 9] [10] mixed xC xD xD ?_ | refine J_draw (id := 11) [0, 1, 2, 3, 4, 5, 6, 7, 8, 9, 10, 11, 12, 13, 14, 15, 16, 17, 18, 19, 20, 21, 22, 23, 24, 25, 26, 27] [28, 29] mixed xC xD xD ?_ | fail))
      refine J_loop (α := Nat) 0 (fun x => d.others.length - x) (fun x => x ≤ d.others.length ∧ oN (d.others.take x) = oN (e.others.take x)) (fun x => [(2, .pointer (some ⟨b0, 0, none⟩)), (3, .pointer (some ⟨b1, 0, none⟩)), (6, .int .i64 x)]) (fun x => [pts b0 (atC d) 29, pts b1 (atC e) 29]) ⟨Nat.zero_le _, rfl⟩ ⟨rfl, rfl, rfl, trivial⟩ (fun w H => H.sel xZ) ?_
      rintro j ⟨hj, hjk⟩
      by_cases hjl : j < d.others.length
      · obtain ⟨s, hs⟩ : ∃ s, d.others[j]? = some s := ⟨_, List.getElem?_eq_getElem hjl⟩
        obtain ⟨t, ht⟩ : ∃ s, e.others[j]? = some s := ⟨_, List.getElem?_eq_getElem (by omega)⟩
        have hm := List.mem_of_getElem? hs
        have hm2 := List.mem_of_getElem? ht
        have hu : Kn K (fun w => Vw w (.slice s.a s.data.length s.c) 1 s.data.length (flat byC s.data)) := hK.imp fun _ h => h.1.others.raws s hm
        have hu2 : Kn K (fun w => Vw w (.slice t.a t.data.length t.c) 1 t.data.length (flat byC t.data)) := hK.imp fun _ h => h.2.others.raws t hm2
        have hne := strNe (hd.num.others s hm).2.2 (he.num.others t hm2).2.2
        (repeat' (first | ((with_reducible apply gL); (first | (with_reducible apply gL_app) | (with_reducible apply gL_app0) | refine yL0 ?_ | ((with_reducible apply gL_bin_neq); (first | refine JD_p rfl xR xR (pe_neStr xR xR xC hne) ?_ | fail)) | refine yL ?_ | (refine yM ?_; intro _) | ((with_reducible apply gL_gd); (first | (refine JL_guard xR xR ?_ ?_ <;> intro _ <;> (try (exfalso; first | contradiction | omega))) | (refine JL_guardb xR xR ?_ ?_ <;> (intro hgb; subst hgb)) | (refine JL_guardb xR xR ?_ ?_ <;> (intro hgb; fail_if_success (have : type_of% hgb := rfl))) | fail)) | fail)) | ((with_reducible apply gD); (first | (refine JD_nil ?_; try simp only [List.cons_append, List.nil_append]) | (refine JD_bar ?_; try simp only [List.cons_append, List.nil_append]) | (with_reducible apply gD_app) | (with_reducible apply gD_app0) | refine yD0 ?_ | ((with_reducible apply gD_convert); (first | (first | refine JD_p rfl xR xR (pe_str xR xC xC (Src.kn hu)) ?_ | refine JD_p rfl xR xR (pe_str xR xC xC (Src.kn hu2)) ?_) | fail)) | ((with_reducible apply gD_bin_neq); (first | refine JD_p rfl xR xR (pe_neStr xR xR xC hne) ?_ | fail)) | refine yD ?_ | ((with_reducible apply gD_gd); (first | (refine JD_guard xR xR ?_ ?_ <;> intro _ <;> (try (exfalso; first | contradiction | omega))) | (refine JD_guardb xR xR ?_ ?_ <;> (intro hgb; subst hgb)) | (refine JD_guardb xR xR ?_ ?_ <;> (intro hgb; fail_if_success (have : type_of% hgb := rfl))) | fail)) | fail)) | refine yJ ?_ | ((with_reducible apply gJ_if); (first | (refine J_if xR ?_ ?_ <;> intro _ <;> (try (exfalso; first | contradiction | omega))) | (refine J_ifb xR ?_ ?_ <;> (intro hgb; subst hgb)) | (refine J_ifb xR ?_ ?_ <;> intro _) | fail)) | refine J_draw (id := 6) [0, 1, 2, 3, 4, 5, 6, 7, 8, 9] [10] mixed xC xD xD ?_ | refine J_draw (id := 11) [0, 1, 2, 3, 4, 5, 6, 7, 8, 9, 10, 11, 12, 13, 14, 15, 16, 17, 18, 19, 20, 21, 22, 23, 24, 25, 26, 27] [28, 29] mixed xC xD xD ?_ | fail))
        · have hf : decide (d.nf = e.nf) = false := decide_eq_false fun h => absurd (oN_get ((nf_eq d e).1 h).2.2 hs ht).1 (by assumption)
          rw [hf]
          exact J_ret1 rfl (by rfl) fun w H => ⟨_, ⟨rfl, rfl⟩, H.sel .nil⟩
        · have hf : decide (d.nf = e.nf) = false := decide_eq_false fun h => absurd (oN_get ((nf_eq d e).1 h).2.2 hs ht).2 (by assumption)
          rw [hf]
          exact J_ret1 rfl (by rfl) fun w H => ⟨_, ⟨rfl, rfl⟩, H.sel .nil⟩
        · refine J_again (j + 1) (by omega) ⟨by omega, ?_⟩ ⟨rfl, rfl, rfl, trivial⟩ (fun w H => H.sel xZ)
          rw [take_snoc hs, take_snoc ht]
          unfold oN at hjk ⊢
          rw [List.map_append, List.map_append, hjk]
          simp_all
      · have hje : j = d.others.length := by omega
        have hf : decide (d.nf = e.nf) = true := decide_eq_true ((nf_eq d e).2 ⟨hh, hcc, by rw [hje, List.take_length, hl2, List.take_length] at hjk; exact hjk⟩)
        rw [hf]
        (repeat' (first | ((with_reducible apply gL); (first | (with_reducible apply gL_app) | (with_reducible apply gL_app0) | refine yL0 ?_ | refine yL ?_ | (refine yM ?_; intro _) | ((with_reducible apply gL_gd); (first | (refine JL_guard xR xR ?_ ?_ <;> intro _ <;> (try (exfalso; first | contradiction | omega))) | (refine JL_guardb xR xR ?_ ?_ <;> (intro hgb; subst hgb)) | (refine JL_guardb xR xR ?_ ?_ <;> (intro hgb; fail_if_success (have : type_of% hgb := rfl))) | fail)) | fail)) | ((with_reducible apply gD); (first | (refine JD_nil ?_; try simp only [List.cons_append, List.nil_append]) | (refine JD_bar ?_; try simp only [List.cons_append, List.nil_append]) | (with_reducible apply gD_app) | (with_reducible apply gD_app0) | refine yD0 ?_ | refine yD ?_ | ((with_reducible apply gD_gd); (first | (refine JD_guard xR xR ?_ ?_ <;> intro _ <;> (try (exfalso; first | contradiction | omega))) | (refine JD_guardb xR xR ?_ ?_ <;> (intro hgb; subst hgb)) | (refine JD_guardb xR xR ?_ ?_ <;> (intro hgb; fail_if_success (have : type_of% hgb := rfl))) | fail)) | fail)) | refine yJ ?_ | ((with_reducible apply gJ_if); (first | (refine J_if xR ?_ ?_ <;> intro _ <;> (try (exfalso; first | contradiction | omega))) | (refine J_ifb xR ?_ ?_ <;> (intro hgb; subst hgb)) | (refine J_ifb xR ?_ ?_ <;> intro _) | fail)) | refine J_draw (id := 6) [0, 1, 2, 3, 4, 5, 6, 7, 8, 9] [10] mixed xC xD xD ?_ | refine J_draw (id := 11) [0, 1, 2, 3, 4, 5, 6, 7, 8, 9, 10, 11, 12, 13, 14, 15, 16, 17, 18, 19, 20, 21, 22, 23, 24, 25, 26, 27] [28, 29] mixed xC xD xD ?_ | fail))
        exact J_ret1 rfl (by rfl) fun w H => ⟨_, ⟨rfl, rfl⟩, H.sel .nil⟩
end Go.Proofs.YtnhabkipjmgaaaaGreat
namespace Go.Proofs.YtnhabkipjmgaaaaGreat
set_option linter.unusedSimpArgs false
set_option linter.unusedVariables false
set_option maxRecDepth 20000
set_option maxHeartbeats 4000000
open Go.RowKit Go.Pm

theorem index_s (a : Option Addr) (c : Nat) (l : List Int) (v : Int) (hl : l.length ≤ 35184372088832) : Pact Tryz.prog 143 #[.slice a l.length c, .int .u32 v] (fun w => Vw w (.slice a l.length c) 1 l.length (flat u32C l)) [] (fun u L' => ∃ z : Int, u = .int .i64 z ∧ (0 ≤ z ↔ v ∈ l) ∧ L' = []) := by
  refine pact Tryz.func143 rfl Tryz.ntmps143 rfl ?_
  intro W K hK
  (repeat' (first | ((with_reducible apply gL); (first | refine yL0 ?_ | refine yL ?_ | fail)) | refine yJ ?_ | ((with_reducible apply gJ_if); (first | (refine J_if xR ?_ ?_ <;> intro _ <;> (try (exfalso; first | contradiction | omega))) | (refine J_ifb xR ?_ ?_ <;> (intro hgb; subst hgb)) | (refine J_ifb xR ?_ ?_ <;> intro _) | fail)) | fail))
  refine J_loop (α := Nat) 0 (fun x => l.length - x) (fun x => x ≤ l.length ∧ v ∉ l.take x) (fun x => [(0, .slice a l.length c), (1, .int .u32 v), (7, .int .i64 l.length), (8, .int .i64 x)]) (fun x => []) ⟨Nat.zero_le _, by simp⟩ ⟨rfl, rfl, rfl, rfl, trivial⟩ (fun w H => H) ?_
  rintro k ⟨hk, hck⟩
  by_cases hlt : k < l.length
  · obtain ⟨x, hx⟩ : ∃ x, l[k]? = some x := ⟨_, List.getElem?_eq_getElem hlt⟩
    (repeat' (first | ((with_reducible apply gL); (first | refine yL0 ?_ | refine yL ?_ | fail)) | refine yJ ?_ | ((with_reducible apply gJ_if); (first | (refine J_if xR ?_ ?_ <;> intro _ <;> (try (exfalso; first | contradiction | omega))) | (refine J_ifb xR ?_ ?_ <;> (intro hgb; subst hgb)) | (refine J_ifb xR ?_ ?_ <;> intro _) | fail)) | fail))
    · rename_i h0
      subst h0
      exact J_ret1 rfl (by rfl) fun w H => ⟨_, ⟨_, rfl, ⟨fun _ => List.mem_of_getElem? hx, fun _ => by omega⟩, rfl⟩, H.sel .nil⟩
    · rename_i h0
      exact J_again (k + 1) (by omega) ⟨by omega, by rw [take_snoc hx]; simp only [List.mem_append, List.mem_singleton]; rintro (h | h); exact hck h; exact h0 h⟩ ⟨rfl, rfl, rfl, rfl, trivial⟩ (fun w H => H.sel .nil)
  · have hke : k = l.length := by omega
    rw [hke, List.take_length] at hck
    (repeat' (first | ((with_reducible apply gL); (first | refine yL0 ?_ | refine yL ?_ | fail)) | refine yJ ?_ | ((with_reducible apply gJ_if); (first | (refine J_if xR ?_ ?_ <;> intro _ <;> (try (exfalso; first | contradiction | omega))) | (refine J_ifb xR ?_ ?_ <;> (intro hgb; subst hgb)) | (refine J_ifb xR ?_ ?_ <;> intro _) | fail)) | fail))
    exact J_ret1 rfl (by rfl) fun w H => ⟨_, ⟨_, rfl, ⟨fun h => absurd h (by decide), fun h => absurd h hck⟩, rfl⟩, H.sel .nil⟩
theorem contains_s (a : Option Addr) (c : Nat) (l : List Int) (v : Int) (hl : l.length ≤ 35184372088832) : Pact Tryz.prog 134 #[.slice a l.length c, .int .u32 v] (fun w => Vw w (.slice a l.length c) 1 l.length (flat u32C l)) [] (ret0 (.bool (decide (v ∈ l)))) := by
  refine pact Tryz.func134 rfl Tryz.ntmps134 rfl ?_
  intro W K hK
  (repeat' (first | ((with_reducible apply gL); (first | refine yL0 ?_ | refine yL ?_ | ((with_reducible apply gL_go); (first | (refine JL_goq (index_s a c l v hl) (hφ := (by (try simp only [List.cons_append, List.nil_append]); exact fun w hr => hK w hr.1)) (h := ?_); rintro _ _ ⟨z, rfl, hz, rfl⟩; try simp only [List.cons_append, List.nil_append]) | fail)) | fail)) | refine yJ ?_ | fail))
  refine J_ret1 rfl (by rfl) fun w H => ⟨_, ⟨?_, rfl⟩, H.sel .nil⟩
  exact congrArg Value.bool (by rw [Bool.eq_iff_iff]; simp only [decide_eq_true_eq]; exact hz)
def okS (s : Bool × List Int) : Bool := decide (0 < s.2.length ∧ s.2.length ≤ 255 ∧ (0 : Int) ∉ s.2)
theorem part_s (s : Sg) (hl : s.as_.length ≤ 35184372088832) : Pact Tryz.prog 115 #[.agg (sgC s).toArray] (fun w => segV w s) [] (ret0 (.bool (okS (s.set, s.as_)))) := by
  refine pact Tryz.func115 rfl Tryz.ntmps115 rfl ?_
  intro W K hK
  have hc := contains_s s.a s.c s.as_ 0 hl
  by_cases h0 : (0 : Int) ∈ s.as_
  · rw [decide_eq_true h0] at hc
    have : okS (s.set, s.as_) = false := decide_eq_false (fun h => h.2.2 h0)
    rw [this]
    (repeat' (first | ((with_reducible apply gL); (first | refine yL0 ?_ | refine yL ?_ | ((with_reducible apply gL_go); (first | (refine JL_goq (hc) (hφ := (by (try simp only [List.cons_append, List.nil_append]); exact fun w hr => hK w hr.1)) (h := ?_); rintro _ _ ⟨rfl, rfl⟩; try simp only [List.cons_append, List.nil_append]) | fail)) | (refine yM ?_; intro _) | ((with_reducible apply gL_gd); (first | (refine JL_guard xR xR ?_ ?_ <;> intro _ <;> (try (exfalso; first | contradiction | omega))) | (refine JL_guardb xR xR ?_ ?_ <;> (intro hgb; subst hgb)) | (refine JL_guardb xR xR ?_ ?_ <;> (intro hgb; fail_if_success (have : type_of% hgb := rfl))) | fail)) | fail)) | refine yJ ?_ | fail))
    all_goals exact J_ret1 rfl (by rfl) fun w H => ⟨_, ⟨rfl, rfl⟩, H.sel .nil⟩
  · rw [decide_eq_false h0] at hc
    (repeat' (first | ((with_reducible apply gL); (first | refine yL0 ?_ | refine yL ?_ | ((with_reducible apply gL_go); (first | (refine JL_goq (hc) (hφ := (by (try simp only [List.cons_append, List.nil_append]); exact fun w hr => hK w hr.1)) (h := ?_); rintro _ _ ⟨rfl, rfl⟩; try simp only [List.cons_append, List.nil_append]) | fail)) | (refine yM ?_; intro _) | ((with_reducible apply gL_gd); (first | (refine JL_guard xR xR ?_ ?_ <;> intro _ <;> (try (exfalso; first | contradiction | omega))) | (refine JL_guardb xR xR ?_ ?_ <;> (intro hgb; subst hgb)) | (refine JL_guardb xR xR ?_ ?_ <;> (intro hgb; fail_if_success (have : type_of% hgb := rfl))) | fail)) | fail)) | refine yJ ?_ | fail))
    all_goals (refine J_ret1 rfl (by rfl) fun w H => ⟨_, ⟨?_, rfl⟩, H.sel .nil⟩; refine congrArg Value.bool ?_; unfold okS; rw [Bool.eq_iff_iff]; simp [h0]; try omega)
def tot : List (Bool × List Int) → Nat
  | [] => 0
  | s :: p => s.2.length + tot p
theorem tot_append (p q : List (Bool × List Int)) : tot (p ++ q) = tot p + tot q := by
  induction p with
  | nil => simp [tot]
  | cons s p ih => simp [tot, ih]; omega
theorem tot_le (p : List Sg) (h : ∀ s ∈ p, SgN s) : tot (pN p) ≤ p.length * 35184372088832 := by
  induction p with
  | nil => simp [tot, pN]
  | cons s p ih =>
    have h1 := ih (fun x hx => h x (List.mem_cons_of_mem _ hx))
    have h2 := (h s (List.mem_cons_self ..)).1
    have : tot (pN (s :: p)) = s.as_.length + tot (pN p) := rfl
    rw [this, List.length_cons]
    omega
theorem ckP_iff : ∀ (p : List (Bool × List Int)) (n : Nat), n ≤ 64 → (ckP p n = true ↔ (∀ s ∈ p, okS s = true) ∧ n + tot p ≤ 64)
  | [], n, h => by simp [ckP, tot]; omega
  | s :: p, n, h => by
    unfold ckP
    have hsp : okS s = true ↔ (0 < s.2.length ∧ s.2.length ≤ 255 ∧ (0 : Int) ∉ s.2) := by unfold okS; simp
    split
    · refine ⟨fun h => (by cases h), fun ⟨h1, _⟩ => ?_⟩
      have := hsp.1 (h1 s (List.mem_cons_self ..))
      omega
    · split
      · refine ⟨fun h => (by cases h), fun ⟨h1, _⟩ => ?_⟩
        exact absurd (by assumption) (hsp.1 (h1 s (List.mem_cons_self ..))).2.2
      · split
        · refine ⟨fun h => (by cases h), fun ⟨_, h2⟩ => ?_⟩
          simp only [tot] at h2
          omega
        · rw [ckP_iff p _ (by omega)]
          simp only [tot, List.forall_mem_cons]
          constructor
          · rintro ⟨h1, h2⟩
            exact ⟨⟨hsp.2 ⟨by omega, by omega, by assumption⟩, h1⟩, by omega⟩
          · rintro ⟨⟨_, h1⟩, h2⟩
            exact ⟨h1, by omega⟩
theorem count_s (a : Option Addr) (c : Nat) (p : List Sg) (h8 : p.length ≤ 1000) (hsm : ∀ s ∈ p, SgN s) : Pact Tryz.prog 116 #[.slice a p.length c] (fun w => PathV w a c p) [] (ret0 (.int .i64 (tot (pN p)))) := by
  refine pact Tryz.func116 rfl Tryz.ntmps116 rfl ?_
  intro W K hK
  have hv : Kn K (fun w => Vw w (.slice a p.length c) 2 p.length (flat sgC p)) := hK.imp fun _ h => h.vw
  (repeat' (first | ((with_reducible apply gL); (first | refine yL0 ?_ | refine yL ?_ | (refine yM ?_; intro _) | fail)) | refine yJ ?_ | ((with_reducible apply gJ_if); (first | (refine J_if xR ?_ ?_ <;> intro _ <;> (try (exfalso; first | contradiction | omega))) | (refine J_ifb xR ?_ ?_ <;> (intro hgb; subst hgb)) | (refine J_ifb xR ?_ ?_ <;> intro _) | fail)) | fail))
  refine J_loop (α := Nat) 0 (fun x => p.length - x) (fun x => x ≤ p.length) (fun x => [(0, .slice a p.length c), (3, .int .i64 (tot (pN (p.take x)))), (6, .slice a p.length c), (7, .int .i64 p.length), (8, .int .i64 x)]) (fun x => []) (Nat.zero_le _) ⟨rfl, rfl, rfl, rfl, rfl, trivial⟩ (fun w H => H) ?_
  rintro k hk
  have htk := tot_le (p.take k) (fun s hs => hsm s (List.take_subset _ _ hs))
  have hlk : (p.take k).length ≤ 1000 := by rw [List.length_take]; omega
  obtain ⟨N, hN⟩ : ∃ N, tot (pN (p.take k)) = N := ⟨_, rfl⟩
  rw [hN] at htk ⊢
  have hNb : N ≤ 35184372088832000 := by omega
  by_cases hlt : k < p.length
  · obtain ⟨s, hs⟩ : ∃ s, p[k]? = some s := ⟨_, List.getElem?_eq_getElem hlt⟩
    have hm := List.mem_of_getElem? hs
    have hsn1 := (hsm s hm).1
    (repeat' (first | ((with_reducible apply gL); (first | refine yL0 ?_ | refine yL ?_ | (refine yM ?_; intro _) | fail)) | refine yJ ?_ | ((with_reducible apply gJ_if); (first | (refine J_if xR ?_ ?_ <;> intro _ <;> (try (exfalso; first | contradiction | omega))) | (refine J_ifb xR ?_ ?_ <;> (intro hgb; subst hgb)) | (refine J_ifb xR ?_ ?_ <;> intro _) | fail)) | fail))
    refine J_again (k + 1) (by omega) (by omega) ⟨rfl, ?_, rfl, rfl, rfl, trivial⟩ (fun w H => H.sel .nil)
    rw [take_snoc hs]
    unfold pN
    rw [List.map_append, tot_append]
    unfold pN at hN
    rw [hN]
    show some _ = some _
    simp [tot]
  · have hke : k = p.length := by omega
    rw [hke, List.take_length] at hN
    (repeat' (first | ((with_reducible apply gL); (first | refine yL0 ?_ | refine yL ?_ | (refine yM ?_; intro _) | fail)) | refine yJ ?_ | ((with_reducible apply gJ_if); (first | (refine J_if xR ?_ ?_ <;> intro _ <;> (try (exfalso; first | contradiction | omega))) | (refine J_ifb xR ?_ ?_ <;> (intro hgb; subst hgb)) | (refine J_ifb xR ?_ ?_ <;> intro _) | fail)) | fail))
    exact J_ret1 rfl (by rfl) fun w H => ⟨_, ⟨by rw [hN], rfl⟩, H.sel .nil⟩
theorem pchk_s (a : Option Addr) (c : Nat) (p : List Sg) (h8 : p.length ≤ 1000) (hsm : ∀ s ∈ p, SgN s) : Pact Tryz.prog 87 #[.slice a p.length c] (fun w => PathV w a c p) [] (ret0 (.int .i64 (er (ckP (pN p) 0)))) := by
  refine pact Tryz.func87 rfl Tryz.ntmps87 rfl ?_
  intro W K hK
  have hv : Kn K (fun w => Vw w (.slice a p.length c) 2 p.length (flat sgC p)) := hK.imp fun _ h => h.vw
  have hiff := ckP_iff (pN p) 0 (by omega)
  (repeat' (first | ((with_reducible apply gL); (first | refine yL0 ?_ | refine yL ?_ | (refine yM ?_; intro _) | fail)) | refine yJ ?_ | ((with_reducible apply gJ_if); (first | (refine J_if xR ?_ ?_ <;> intro _ <;> (try (exfalso; first | contradiction | omega))) | (refine J_ifb xR ?_ ?_ <;> (intro hgb; subst hgb)) | (refine J_ifb xR ?_ ?_ <;> intro _) | fail)) | fail))
  refine J_loop (α := Nat) 0 (fun x => p.length - x) (fun x => x ≤ p.length ∧ ∀ s ∈ p.take x, okS (s.set, s.as_) = true) (fun x => [(0, .slice a p.length c), (5, .slice a p.length c), (6, .int .i64 p.length), (7, .int .i64 x)]) (fun x => []) ⟨Nat.zero_le _, by simp⟩ ⟨rfl, rfl, rfl, rfl, trivial⟩ (fun w H => H) ?_
  rintro k ⟨hk, hck⟩
  by_cases hlt : k < p.length
  · obtain ⟨s, hs⟩ : ∃ s, p[k]? = some s := ⟨_, List.getElem?_eq_getElem hlt⟩
    have hm := List.mem_of_getElem? hs
    have hsn1 := (hsm s hm).1
    have hpt := part_s s hsn1
    rcases hb : okS (s.set, s.as_) with _ | _
    · rw [hb] at hpt
      have : ckP (pN p) 0 = false := by
        rcases h9 : ckP (pN p) 0 with _ | _
        · rfl
        · have := (hiff.1 h9).1 (s.set, s.as_) (List.mem_map.2 ⟨s, hm, rfl⟩)
          rw [hb] at this
          cases this
      rw [this]
      (repeat' (first | ((with_reducible apply gL); (first | refine yL0 ?_ | refine yL ?_ | ((with_reducible apply gL_go); (first | (refine JL_goq (hpt) (hφ := (by (try simp only [List.cons_append, List.nil_append]); exact fun w hr => (hK w hr.1).segs s hm)) (h := ?_); rintro _ _ ⟨rfl, rfl⟩; try simp only [List.cons_append, List.nil_append]) | fail)) | (refine yM ?_; intro _) | fail)) | refine yJ ?_ | ((with_reducible apply gJ_if); (first | (refine J_if xR ?_ ?_ <;> intro _ <;> (try (exfalso; first | contradiction | omega))) | (refine J_ifb xR ?_ ?_ <;> (intro hgb; subst hgb)) | (refine J_ifb xR ?_ ?_ <;> intro _) | fail)) | fail))
      exact J_ret1 rfl (by rfl) fun w H => ⟨_, ⟨rfl, rfl⟩, H.sel .nil⟩
    · rw [hb] at hpt
      (repeat' (first | ((with_reducible apply gL); (first | refine yL0 ?_ | refine yL ?_ | ((with_reducible apply gL_go); (first | (refine JL_goq (hpt) (hφ := (by (try simp only [List.cons_append, List.nil_append]); exact fun w hr => (hK w hr.1).segs s hm)) (h := ?_); rintro _ _ ⟨rfl, rfl⟩; try simp only [List.cons_append, List.nil_append]) | fail)) | (refine yM ?_; intro _) | fail)) | refine yJ ?_ | ((with_reducible apply gJ_if); (first | (refine J_if xR ?_ ?_ <;> intro _ <;> (try (exfalso; first | contradiction | omega))) | (refine J_ifb xR ?_ ?_ <;> (intro hgb; subst hgb)) | (refine J_ifb xR ?_ ?_ <;> intro _) | fail)) | fail))
      refine J_again (k + 1) (by omega) ⟨by omega, ?_⟩ ⟨rfl, rfl, rfl, rfl, trivial⟩ (fun w H => H.sel .nil)
      rw [take_snoc hs]
      intro x hx
      rcases List.mem_append.1 hx with hx | hx
      · exact hck x hx
      · obtain rfl := List.mem_singleton.1 hx; exact hb
  · have hke : k = p.length := by omega
    rw [hke, List.take_length] at hck
    have hall : ∀ s ∈ pN p, okS s = true := by
      intro s hs
      obtain ⟨t, ht, rfl⟩ := List.mem_map.1 hs
      exact hck t ht
    have htl := tot_le p hsm
    have hct := count_s a c p h8 hsm
    obtain ⟨N, hN⟩ : ∃ N, tot (pN p) = N := ⟨_, rfl⟩
    rw [hN] at hct hiff htl
    by_cases h64 : N ≤ 64
    · rw [hiff.2 ⟨hall, by omega⟩]
      (repeat' (first | ((with_reducible apply gL); (first | refine yL0 ?_ | refine yL ?_ | ((with_reducible apply gL_go); (first | (refine JL_goq (hct) (hφ := (by (try simp only [List.cons_append, List.nil_append]); exact fun w hr => hK w hr.1)) (h := ?_); rintro _ _ ⟨rfl, rfl⟩; try simp only [List.cons_append, List.nil_append]) | fail)) | (refine yM ?_; intro _) | fail)) | refine yJ ?_ | ((with_reducible apply gJ_if); (first | (refine J_if xR ?_ ?_ <;> intro _ <;> (try (exfalso; first | contradiction | omega))) | (refine J_ifb xR ?_ ?_ <;> (intro hgb; subst hgb)) | (refine J_ifb xR ?_ ?_ <;> intro _) | fail)) | fail))
      all_goals (first | (exfalso; omega) | skip)
      exact J_ret1 rfl (by rfl) fun w H => ⟨_, ⟨rfl, rfl⟩, H.sel .nil⟩
    · have : ckP (pN p) 0 = false := by
        rcases h9 : ckP (pN p) 0 with _ | _
        · rfl
        · have := (hiff.1 h9).2; omega
      rw [this]
      (repeat' (first | ((with_reducible apply gL); (first | refine yL0 ?_ | refine yL ?_ | ((with_reducible apply gL_go); (first | (refine JL_goq (hct) (hφ := (by (try simp only [List.cons_append, List.nil_append]); exact fun w hr => hK w hr.1)) (h := ?_); rintro _ _ ⟨rfl, rfl⟩; try simp only [List.cons_append, List.nil_append]) | fail)) | (refine yM ?_; intro _) | fail)) | refine yJ ?_ | ((with_reducible apply gJ_if); (first | (refine J_if xR ?_ ?_ <;> intro _ <;> (try (exfalso; first | contradiction | omega))) | (refine J_ifb xR ?_ ?_ <;> (intro hgb; subst hgb)) | (refine J_ifb xR ?_ ?_ <;> intro _) | fail)) | fail))
      all_goals (first | (exfalso; omega) | skip)
      exact J_ret1 rfl (by rfl) fun w H => ⟨_, ⟨rfl, rfl⟩, H.sel .nil⟩
theorem hop_s (z : Int) : Pact Tryz.prog 88 #[.int .u32 z] (fun _ => True) [] (ret0 (.bool (decide (z ≠ 0 ∧ z < 3758096384)))) := by
  refine pact Tryz.func88 rfl Tryz.ntmps88 rfl ?_
  intro W K _
  (repeat' (first | ((with_reducible apply gL); (first | refine yL0 ?_ | refine yL ?_ | ((with_reducible apply gL_gd); (first | (refine JL_guard xR xR ?_ ?_ <;> intro _ <;> (try (exfalso; first | contradiction | omega))) | (refine JL_guardb xR xR ?_ ?_ <;> (intro hgb; subst hgb)) | (refine JL_guardb xR xR ?_ ?_ <;> (intro hgb; fail_if_success (have : type_of% hgb := rfl))) | fail)) | fail)) | refine yJ ?_ | fail))
  all_goals (refine J_ret1 rfl (by rfl) fun w H => ⟨_, ⟨?_, rfl⟩, H.sel .nil⟩; refine congrArg Value.bool ?_; rw [Bool.eq_iff_iff]; simp only [decide_eq_true_eq, true_iff, Bool.false_eq_true, false_iff] <;> omega)
/-- A known kind's flags. -/
def fl (k : Int) : Int := if k = 4 then 128 else if k = 7 ∨ k = 8 ∨ k = 17 ∨ k = 18 then 192 else 64
theorem known_s (k : Int) : Pact Tryz.prog 117 #[.int .i64 k] (fun _ => True) [] (fun u L' => ∃ f : Int, u = .tuple #[.int .u8 f, .bool (kno k)] ∧ (kno k = true → f = fl k) ∧ L' = []) := by
  refine pact Tryz.func117 rfl Tryz.ntmps117 rfl ?_
  intro W K _
  (repeat' (first | ((with_reducible apply gL); (first | refine yL0 ?_ | refine yL ?_ | fail)) | refine yJ ?_ | ((with_reducible apply gJ_if); (first | (refine J_if xR ?_ ?_ <;> intro _ <;> (try (exfalso; first | contradiction | omega))) | (refine J_ifb xR ?_ ?_ <;> (intro hgb; subst hgb)) | (refine J_ifb xR ?_ ?_ <;> intro _) | fail)) | fail))
  all_goals (refine J_ret2 rfl (by rfl) (by rfl) fun w H => ⟨_, ⟨_, congrArg (fun b => Value.tuple #[_, .bool b]) ?_, fun h => ?_, rfl⟩, H.sel .nil⟩)
  all_goals first
    | (unfold kno; rw [Bool.eq_iff_iff]; simp only [decide_eq_true_eq, true_iff, Bool.false_eq_true, false_iff]; omega)
    | (unfold kno at h; have h := of_decide_eq_true h; unfold fl; (repeat' split) <;> omega)
theorem others_s (a : Option Addr) (c : Nat) (p : List Rw) (h8 : p.length ≤ 1000) (hsm : ∀ s ∈ p, RwN s) : Pact Tryz.prog 89 #[.slice a p.length c] (fun w => RawsV w a c p) [] (ret0 (.bool (ckO (oN p) (-1) && decide (p.length ≤ 8)))) := by
  refine pact Tryz.func89 rfl Tryz.ntmps89 rfl ?_
  intro W K hK
  have hv : Kn K (fun w => Vw w (.slice a p.length c) 2 p.length (flat rwC p)) := hK.imp fun _ h => h.vw
  (repeat' (first | ((with_reducible apply gL); (first | refine yL0 ?_ | refine yL ?_ | (refine yM ?_; intro _) | ((with_reducible apply gL_gd); (first | (refine JL_guard xR xR ?_ ?_ <;> intro _ <;> (try (exfalso; first | contradiction | omega))) | (refine JL_guardb xR xR ?_ ?_ <;> (intro hgb; subst hgb)) | (refine JL_guardb xR xR ?_ ?_ <;> (intro hgb; fail_if_success (have : type_of% hgb := rfl))) | fail)) | fail)) | refine yJ ?_ | ((with_reducible apply gJ_if); (first | (refine J_if xR ?_ ?_ <;> intro _ <;> (try (exfalso; first | contradiction | omega))) | (refine J_ifb xR ?_ ?_ <;> (intro hgb; subst hgb)) | (refine J_ifb xR ?_ ?_ <;> intro _) | fail)) | fail))
  refine J_loop (α := Nat × Int) (0, -1) (fun x => p.length - x.1) (fun x => x.1 ≤ p.length ∧ ckO (oN p) (-1) = ckO (oN (p.drop x.1)) x.2) (fun x => [(0, .slice a p.length c), (3, .int .i64 x.2), (8, .slice a p.length c), (9, .int .i64 p.length), (10, .int .i64 x.1)]) (fun x => []) ⟨Nat.zero_le _, rfl⟩ ⟨rfl, rfl, rfl, rfl, rfl, trivial⟩ (fun w H => H) ?_
  rintro ⟨k, n⟩ ⟨hk, hck⟩
  dsimp only at hk hck ⊢
  by_cases hlt : k < p.length
  · obtain ⟨s, hs⟩ : ∃ s, p[k]? = some s := ⟨_, List.getElem?_eq_getElem hlt⟩
    have hm := List.mem_of_getElem? hs
    have hsn1 := (hsm s hm).2.1
    obtain ⟨hk1, hk2⟩ := (hsm s hm).1
    rw [ckO_step hs] at hck
    have hkn := known_s s.kind
    rcases hb : kno s.kind with _ | _
    · rw [hb] at hkn hck
      (repeat' (first | ((with_reducible apply gL); (first | refine yL0 ?_ | refine yL ?_ | ((with_reducible apply gL_go); (first | (refine JL_goq (hkn) (hφ := xF) (h := ?_); rintro _ _ ⟨f, rfl, hf, rfl⟩; try simp only [List.cons_append, List.nil_append]) | fail)) | (refine yM ?_; intro _) | ((with_reducible apply gL_gd); (first | (refine JL_guard xR xR ?_ ?_ <;> intro _ <;> (try (exfalso; first | contradiction | omega))) | (refine JL_guardb xR xR ?_ ?_ <;> (intro hgb; subst hgb)) | (refine JL_guardb xR xR ?_ ?_ <;> (intro hgb; fail_if_success (have : type_of% hgb := rfl))) | fail)) | fail)) | refine yJ ?_ | ((with_reducible apply gJ_if); (first | (refine J_if xR ?_ ?_ <;> intro _ <;> (try (exfalso; first | contradiction | omega))) | (refine J_ifb xR ?_ ?_ <;> (intro hgb; subst hgb)) | (refine J_ifb xR ?_ ?_ <;> intro _) | fail)) | fail))
      all_goals (first | (rw [if_pos (by first | exact .inl (by omega) | exact .inr (.inl (by omega)) | exact .inr (.inr (.inr (by omega))))] at hck; rw [hck]; exact J_ret1 rfl (by rfl) fun w H => ⟨_, ⟨rfl, rfl⟩, H.sel .nil⟩) | skip)
      rw [if_neg (by rintro (h | h | h | h) <;> first | omega | (cases h))] at hck
      exact J_again (k + 1, s.kind) (by dsimp only; omega) ⟨by dsimp only; omega, hck⟩ ⟨rfl, rfl, rfl, rfl, rfl, trivial⟩ (fun w H => H.sel .nil)
    · rw [hb] at hkn hck
      rw [if_pos (.inr (.inr (.inl rfl)))] at hck
      rw [hck]
      (repeat' (first | ((with_reducible apply gL); (first | refine yL0 ?_ | refine yL ?_ | ((with_reducible apply gL_go); (first | (refine JL_goq (hkn) (hφ := xF) (h := ?_); rintro _ _ ⟨f, rfl, hf, rfl⟩; try simp only [List.cons_append, List.nil_append]) | fail)) | (refine yM ?_; intro _) | ((with_reducible apply gL_gd); (first | (refine JL_guard xR xR ?_ ?_ <;> intro _ <;> (try (exfalso; first | contradiction | omega))) | (refine JL_guardb xR xR ?_ ?_ <;> (intro hgb; subst hgb)) | (refine JL_guardb xR xR ?_ ?_ <;> (intro hgb; fail_if_success (have : type_of% hgb := rfl))) | fail)) | fail)) | refine yJ ?_ | ((with_reducible apply gJ_if); (first | (refine J_if xR ?_ ?_ <;> intro _ <;> (try (exfalso; first | contradiction | omega))) | (refine J_ifb xR ?_ ?_ <;> (intro hgb; subst hgb)) | (refine J_ifb xR ?_ ?_ <;> intro _) | fail)) | fail))
      all_goals exact J_ret1 rfl (by rfl) fun w H => ⟨_, ⟨rfl, rfl⟩, H.sel .nil⟩
  · have hke : k = p.length := by omega
    have hck2 : ckO (oN p) (-1) = true := by rw [hck, hke, List.drop_length]; rfl
    rw [hck2]
    (repeat' (first | ((with_reducible apply gL); (first | refine yL0 ?_ | refine yL ?_ | (refine yM ?_; intro _) | ((with_reducible apply gL_gd); (first | (refine JL_guard xR xR ?_ ?_ <;> intro _ <;> (try (exfalso; first | contradiction | omega))) | (refine JL_guardb xR xR ?_ ?_ <;> (intro hgb; subst hgb)) | (refine JL_guardb xR xR ?_ ?_ <;> (intro hgb; fail_if_success (have : type_of% hgb := rfl))) | fail)) | fail)) | refine yJ ?_ | ((with_reducible apply gJ_if); (first | (refine J_if xR ?_ ?_ <;> intro _ <;> (try (exfalso; first | contradiction | omega))) | (refine J_ifb xR ?_ ?_ <;> (intro hgb; subst hgb)) | (refine J_ifb xR ?_ ?_ <;> intro _) | fail)) | fail))
    refine J_ret1 rfl (by rfl) fun w H => ⟨_, ⟨?_, rfl⟩, H.sel .nil⟩
    refine congrArg Value.bool ?_
    rw [Bool.eq_iff_iff]
    simp
    omega
theorem check_s (d : At) (hd : AtF d) : Pact Tryz.prog 63 #[.agg (atC d).toArray] (fun w => AtV w d) [] (ret0 (.int .i64 (er (okN d.nf)))) := by
  refine pact Tryz.func63 rfl Tryz.ntmps63 rfl ?_
  intro W K hK
  have hd1 := hd.path
  have hd2 := hd.comms
  have hd3 := hd.others
  have hPC := pchk_s d.pa d.pc d.path (by omega) hd.num.path
  have hOC := others_s d.oa d.oc d.others (by omega) hd.num.others
  have hho := hop_s d.next
  rcases hp : ckP (pN d.path) 0 with _ | _
  · rw [hp] at hPC
    have hok : okN d.nf = false := okN_f fun h => by rw [hp] at h; exact absurd h.2.1 (by decide)
    rw [hok]
    (repeat' (first | ((with_reducible apply gL); (first | refine yL0 ?_ | refine yL ?_ | ((with_reducible apply gL_go); (first | (refine JL_goq (hPC) (hφ := (by (try simp only [List.cons_append, List.nil_append]); exact fun w hr => (hK w hr.1).path)) (h := ?_); rintro _ _ ⟨rfl, rfl⟩; try simp only [List.cons_append, List.nil_append]) | fail)) | (refine yM ?_; intro _) | ((with_reducible apply gL_gd); (first | (refine JL_guard xR xR ?_ ?_ <;> intro _ <;> (try (exfalso; first | contradiction | omega))) | (refine JL_guardb xR xR ?_ ?_ <;> (intro hgb; subst hgb)) | (refine JL_guardb xR xR ?_ ?_ <;> (intro hgb; fail_if_success (have : type_of% hgb := rfl))) | fail)) | fail)) | refine yJ ?_ | ((with_reducible apply gJ_if); (first | (refine J_if xR ?_ ?_ <;> intro _ <;> (try (exfalso; first | contradiction | omega))) | (refine J_ifb xR ?_ ?_ <;> (intro hgb; subst hgb)) | (refine J_ifb xR ?_ ?_ <;> intro _) | fail)) | fail))
    all_goals exact J_ret1 rfl (by rfl) fun w H => ⟨_, ⟨rfl, rfl⟩, H.sel .nil⟩
  · rw [hp] at hPC
    rcases ho : (ckO (oN d.others) (-1) && decide (d.others.length ≤ 8)) with _ | _
    · rw [ho] at hOC
      have hok : okN d.nf = false := okN_f fun ⟨_, _, _, _, _, h6, h7⟩ => by rw [h7, decide_eq_true h6] at ho; cases ho
      rw [hok]
      (repeat' (first | ((with_reducible apply gL); (first | refine yL0 ?_ | refine yL ?_ | ((with_reducible apply gL_go); (first | (refine JL_goq (hPC) (hφ := (by (try simp only [List.cons_append, List.nil_append]); exact fun w hr => (hK w hr.1).path)) (h := ?_); rintro _ _ ⟨rfl, rfl⟩; try simp only [List.cons_append, List.nil_append]) | (refine JL_goq (hOC) (hφ := (by (try simp only [List.cons_append, List.nil_append]); exact fun w hr => (hK w hr.1).others)) (h := ?_); rintro _ _ ⟨rfl, rfl⟩; try simp only [List.cons_append, List.nil_append]) | (refine JL_goq (hho) (hφ := xF) (h := ?_); rintro _ _ ⟨rfl, rfl⟩; try simp only [List.cons_append, List.nil_append]) | fail)) | (refine yM ?_; intro _) | ((with_reducible apply gL_gd); (first | (refine JL_guard xR xR ?_ ?_ <;> intro _ <;> (try (exfalso; first | contradiction | omega))) | (refine JL_guardb xR xR ?_ ?_ <;> (intro hgb; subst hgb)) | (refine JL_guardb xR xR ?_ ?_ <;> (intro hgb; fail_if_success (have : type_of% hgb := rfl))) | fail)) | fail)) | refine yJ ?_ | ((with_reducible apply gJ_if); (first | (refine J_if xR ?_ ?_ <;> intro _ <;> (try (exfalso; first | contradiction | omega))) | (refine J_ifb xR ?_ ?_ <;> (intro hgb; subst hgb)) | (refine J_ifb xR ?_ ?_ <;> intro _) | fail)) | fail))
      all_goals exact J_ret1 rfl (by rfl) fun w H => ⟨_, ⟨rfl, rfl⟩, H.sel .nil⟩
    · rw [ho] at hOC
      obtain ⟨ho1, ho2⟩ : ckO (oN d.others) (-1) = true ∧ d.others.length ≤ 8 := by
        rw [Bool.and_eq_true, decide_eq_true_eq] at ho; exact ho
      (repeat' (first | ((with_reducible apply gL); (first | refine yL0 ?_ | refine yL ?_ | ((with_reducible apply gL_go); (first | (refine JL_goq (hPC) (hφ := (by (try simp only [List.cons_append, List.nil_append]); exact fun w hr => (hK w hr.1).path)) (h := ?_); rintro _ _ ⟨rfl, rfl⟩; try simp only [List.cons_append, List.nil_append]) | (refine JL_goq (hOC) (hφ := (by (try simp only [List.cons_append, List.nil_append]); exact fun w hr => (hK w hr.1).others)) (h := ?_); rintro _ _ ⟨rfl, rfl⟩; try simp only [List.cons_append, List.nil_append]) | (refine JL_goq (hho) (hφ := xF) (h := ?_); rintro _ _ ⟨rfl, rfl⟩; try simp only [List.cons_append, List.nil_append]) | fail)) | (refine yM ?_; intro _) | ((with_reducible apply gL_gd); (first | (refine JL_guard xR xR ?_ ?_ <;> intro _ <;> (try (exfalso; first | contradiction | omega))) | (refine JL_guardb xR xR ?_ ?_ <;> (intro hgb; subst hgb)) | (refine JL_guardb xR xR ?_ ?_ <;> (intro hgb; fail_if_success (have : type_of% hgb := rfl))) | fail)) | fail)) | refine yJ ?_ | ((with_reducible apply gJ_if); (first | (refine J_if xR ?_ ?_ <;> intro _ <;> (try (exfalso; first | contradiction | omega))) | (refine J_ifb xR ?_ ?_ <;> (intro hgb; subst hgb)) | (refine J_ifb xR ?_ ?_ <;> intro _) | fail)) | fail))
      all_goals first
        | (have hok : okN d.nf = false := okN_f (fun ⟨h1, _, h3, h4, h5, h6, _⟩ => by first | omega | (have := h4 (by assumption); omega))
           rw [hok]
           exact J_ret1 rfl (by rfl) fun w H => ⟨_, ⟨rfl, rfl⟩, H.sel .nil⟩)
        | (have hok : okN d.nf = true := okN_t (by omega) hp (by omega) (by first | (intro _; assumption) | (intro hh; exfalso; have h2 : true = false := hh.symm.trans (by assumption); cases h2)) (by omega) (by omega) ho1
           rw [hok]
           exact J_ret1 rfl (by rfl) fun w H => ⟨_, ⟨rfl, rfl⟩, H.sel .nil⟩)
end Go.Proofs.YtnhabkipjmgaaaaGreat
namespace Go.Proofs.YtnhabkipjmgaaaaGreat
set_option linter.unusedSimpArgs false
set_option linter.unusedVariables false
set_option maxRecDepth 20000
set_option maxHeartbeats 4000000
open Go.RowKit Go.Pm

theorem cloneU_s (a : Option Addr) (c : Nat) (l : List Int) (hl : l.length ≤ 35184372088832) : Pact Tryz.prog 93 #[.slice a l.length c] (fun w => Vw w (.slice a l.length c) 1 l.length (flat u32C l)) [] (fun u L' => ∃ a c, u = .slice a l.length c ∧ L' = [Ar 24 1 u32C (.slice a l.length c) l]) := by
  refine pact Tryz.func93 rfl Tryz.ntmps93 rfl ?_
  intro W K hK
  cases a with
  | none =>
    refine J_fact (φ := l = []) (fun w H => ?_) ?_
    · obtain ⟨a', c', he, _, _, _, h4, _⟩ := hK.of H
      cases he
      exact List.eq_nil_of_length_eq_zero (h4 rfl).1
    · rintro rfl
      (repeat' (first | ((with_reducible apply gL); (first | refine yL0 ?_ | refine yL ?_ | (refine yM ?_; intro _) | (refine yA ?_; intro _ _ _ _) | fail)) | refine yJ ?_ | ((with_reducible apply gJ_if); (first | (refine J_if xR ?_ ?_ <;> intro _ <;> (try (exfalso; first | contradiction | omega))) | (refine J_ifb xR ?_ ?_ <;> (intro hgb; subst hgb)) | (refine J_ifb xR ?_ ?_ <;> intro _) | fail)) | fail))
      exact J_ret1 rfl (by rfl) fun w H => ⟨_, ⟨none, 0, rfl, rfl⟩, (Ow.arNil (e := 24) (sz := 1) (enc := u32C) H).sel xZ⟩
  | some p =>
    (repeat' (first | ((with_reducible apply gL); (first | refine yL0 ?_ | ((with_reducible apply gL_c_append); (first | (refine JL_appL u32C (fs := l) (tabE etab_ok xR) xR xR xA (Src.kn hK) xC xL (all_one _ (by intro _ _; rfl)) (by omega) xR xR ?_; intro ad c2 _ _) | fail)) | refine yL ?_ | (refine yM ?_; intro _) | (refine yA ?_; intro _ _ _ _) | fail)) | refine yJ ?_ | ((with_reducible apply gJ_if); (first | (refine J_if xR ?_ ?_ <;> intro _ <;> (try (exfalso; first | contradiction | omega))) | (refine J_ifb xR ?_ ?_ <;> (intro hgb; subst hgb)) | (refine J_ifb xR ?_ ?_ <;> intro _) | fail)) | fail))
    exact J_ret1 rfl (by rfl) fun w H => ⟨_, ⟨ad, c2, rfl, rfl⟩, H.sel xZ⟩
theorem cloneB_s (a : Option Addr) (c : Nat) (l : List Int) (hl : l.length ≤ 140737488355328) : Pact Tryz.prog 94 #[.slice a l.length c] (fun w => Vw w (.slice a l.length c) 1 l.length (flat byC l)) [] (fun u L' => ∃ a c, u = .slice a l.length c ∧ L' = [Ar 5 1 byC (.slice a l.length c) l]) := by
  refine pact Tryz.func94 rfl Tryz.ntmps94 rfl ?_
  intro W K hK
  cases a with
  | none =>
    refine J_fact (φ := l = []) (fun w H => ?_) ?_
    · obtain ⟨a', c', he, _, _, _, h4, _⟩ := hK.of H
      cases he
      exact List.eq_nil_of_length_eq_zero (h4 rfl).1
    · rintro rfl
      (repeat' (first | ((with_reducible apply gL); (first | refine yL0 ?_ | refine yL ?_ | (refine yM ?_; intro _) | (refine yA ?_; intro _ _ _ _) | fail)) | refine yJ ?_ | ((with_reducible apply gJ_if); (first | (refine J_if xR ?_ ?_ <;> intro _ <;> (try (exfalso; first | contradiction | omega))) | (refine J_ifb xR ?_ ?_ <;> (intro hgb; subst hgb)) | (refine J_ifb xR ?_ ?_ <;> intro _) | fail)) | fail))
      exact J_ret1 rfl (by rfl) fun w H => ⟨_, ⟨none, 0, rfl, rfl⟩, (Ow.arNil (e := 5) (sz := 1) (enc := byC) H).sel xZ⟩
  | some p =>
    (repeat' (first | ((with_reducible apply gL); (first | refine yL0 ?_ | ((with_reducible apply gL_c_append); (first | (refine JL_appL byC (fs := l) (tabE etab_ok xR) xR xR xA (Src.kn hK) xC xL xU (by omega) xR xR ?_; intro ad c2 _ _) | fail)) | refine yL ?_ | (refine yM ?_; intro _) | (refine yA ?_; intro _ _ _ _) | fail)) | refine yJ ?_ | ((with_reducible apply gJ_if); (first | (refine J_if xR ?_ ?_ <;> intro _ <;> (try (exfalso; first | contradiction | omega))) | (refine J_ifb xR ?_ ?_ <;> (intro hgb; subst hgb)) | (refine J_ifb xR ?_ ?_ <;> intro _) | fail)) | fail))
    exact J_ret1 rfl (by rfl) fun w H => ⟨_, ⟨ad, c2, rfl, rfl⟩, H.sel xZ⟩
abbrev sgO (s : Sg) : HP := Ar 24 1 u32C (.slice s.a s.as_.length s.c) s.as_
def sgsO (q : List Sg) : HP := sats (q.map sgO)
theorem tk_mem {A : HP} {L : List HP} (h : A ∈ L) : ∃ R, Tk L A R := by
  induction L with
  | nil => cases h
  | cons B L ih =>
    rcases List.mem_cons.1 h with rfl | h
    · exact ⟨L, .here⟩
    · obtain ⟨R, t⟩ := ih h
      exact ⟨B :: R, .there t⟩
theorem sgsV {K : Hl} {q : List Sg} {w : World} (hr : Rdw K (q.map sgO) w) : ∀ s ∈ q, segV w s := fun s hs => by
  obtain ⟨R, t⟩ := tk_mem (List.mem_map.2 ⟨s, hs, rfl⟩ : sgO s ∈ q.map sgO)
  exact Src.ar t w hr
theorem Ow.sgsHas {W : World} {K : Hl} {L R : List HP} {w : World} {q : List Sg} (H : Ow W K L w) (t : Tk L (sgsO q) R) : Ow W K (has (fun w => ∀ s ∈ q, segV w s) :: R) w :=
  Ow.shut H (.cons t .nil) (fun k hk => by
    have h1 : sgsO q k := by
      obtain ⟨h1, h2, a, b, _, rfl⟩ := hk
      have : h1.add h2 = h1 := by funext x; simp [Hl.add, b x]
      rw [this]; exact a
    exact has_of (M := q.map sgO) (fun w hr => sgsV hr) k h1)
theorem Ow.sgsSnoc {W : World} {K : Hl} {L M R : List HP} {w : World} {q : List Sg} {s : Sg} (H : Ow W K L w) (t : Tk L (sgsO q) M) (t2 : Tk M (sgO s) R) : Ow W K (sgsO (q ++ [s]) :: R) w := by
  have := H.snoc t t2
  unfold sgsO
  rw [List.map_append]
  exact this
theorem Ow.sgsNil {W : World} {K : Hl} {L : List HP} {w : World} (H : Ow W K L w) : Ow W K (sgsO [] :: L) w := H.satsNil
/-- Owned, part by part. -/
def ownAt (d : At) : HP := sats [Ar 135 2 sgC (.slice d.pa d.path.length d.pc) d.path, sgsO d.path, Ar 24 1 u32C (.slice d.ca d.comms.length d.cc) d.comms, has (fun w => RawsV w d.oa d.oc d.others)]
def CopyO (d : At) (v : Value) (L' : List HP) : Prop := ∃ d', AtF d' ∧ d'.nf = d.nf ∧ v = .agg (atC d').toArray ∧ L' = [ownAt d']
theorem copy_s (d : At) (hd : AtF d) : Pact Tryz.prog 73 #[.agg (atC d).toArray] (fun w => AtV w d) [] (CopyO d) := by
  refine pact Tryz.func73 rfl Tryz.ntmps73 rfl ?_
  intro W K hK
  have hd1 := hd.path
  have hd2 := hd.comms
  have hd3 := hd.others
  have hcv : Kn K (fun w => Vw w (.slice d.ca d.comms.length d.cc) 1 d.comms.length (flat u32C d.comms)) := hK.imp fun _ h => h.comms
  have hov : Kn K (fun w => Vw w (.slice d.oa d.others.length d.oc) 2 d.others.length (flat rwC d.others)) := hK.imp fun _ h => h.others.vw
  have hpv : Kn K (fun w => Vw w (.slice d.pa d.path.length d.pc) 2 d.path.length (flat sgC d.path)) := hK.imp fun _ h => h.path.vw
  (repeat' (first | ((with_reducible apply gL); (first | refine yL0 ?_ | refine yL ?_ | ((with_reducible apply gL_go); (first | (refine JL_goq (cloneU_s d.ca d.cc d.comms (by omega)) (hφ := (by (try simp only [List.cons_append, List.nil_append]); exact fun w hr => hcv w hr.1)) (h := ?_); rintro _ _ ⟨ad2, c2, rfl, rfl⟩; try simp only [List.cons_append, List.nil_append]) | fail)) | (refine yM ?_; intro _) | fail)) | ((with_reducible apply gD); (first | (refine JD_nil ?_; try simp only [List.cons_append, List.nil_append]) | (refine JD_bar ?_; try simp only [List.cons_append, List.nil_append]) | refine yD ?_ | ((with_reducible apply gD_go); (first | (refine JD_goq (cloneU_s d.ca d.cc d.comms (by omega)) (hφ := (by (try simp only [List.cons_append, List.nil_append]); exact fun w hr => hcv w hr.1)) (h := ?_); rintro _ _ ⟨ad2, c2, rfl, rfl⟩; try simp only [List.cons_append, List.nil_append]) | fail)) | (refine yE ?_; intro _) | (refine yB ?_; intro _ _ _ _) | fail)) | refine yJ ?_ | ((with_reducible apply gJ_if); (first | (refine J_if xR ?_ ?_ <;> intro _ <;> (try (exfalso; first | contradiction | omega))) | (refine J_ifb xR ?_ ?_ <;> (intro hgb; subst hgb)) | (refine J_ifb xR ?_ ?_ <;> intro _) | fail)) | refine J_draw (id := 6) [0, 1, 2, 3, 4, 5, 6, 7, 8] [9, 10, 11] mixed xC xD xD ?_ | refine J_draw (id := 11) [0, 1, 2, 3, 4, 5, 6, 7, 8] [9, 10, 11] mixed xC xD xD ?_ | fail))
  rename_i b1 b2 b3
  refine J_loop (α := Lc) ⟨[], none, 0⟩ (fun x => d.path.length - x.q.length) (fun x => x.q.length ≤ d.path.length ∧ pN x.q = pN (d.path.take x.q.length)) (fun x => [(1, .pointer (some ⟨b1, 0, none⟩)), (2, .pointer (some ⟨b2, 0, none⟩)), (3, .pointer (some ⟨b3, 0, none⟩)), (16, .slice d.pa d.path.length d.pc), (17, .int .i64 d.path.length), (18, .int .i64 x.q.length)])
    (fun x => [pts b3 (cpC d x.q.length x.ad x.cc ad2 c2 none 0 0) 29, Ar 135 2 sgC (.slice x.ad x.q.length x.cc) x.q, sgsO x.q, Ar 24 1 u32C (.slice ad2 d.comms.length c2) d.comms, pts b2 [.int .i64 0, .slice none 0 0, .int .u32 0, .bool false, .int .u32 0, .bool false, .int .u32 0, .bool false, .bool false, .int .u32 0, .int .u32 0, .slice none 0 0, .slice none 0 0] 29, pts b1 (atC d) 29]) ⟨Nat.zero_le _, rfl⟩ ⟨rfl, rfl, rfl, rfl, rfl, rfl, trivial⟩ (fun w H => (Ow.sgsNil (Ow.arNil (e := 135) (sz := 2) (enc := sgC) H)).sel xZ) ?_
  rintro ⟨q, ad, cc⟩ ⟨hq, hsame⟩
  dsimp only at hq hsame ⊢
  by_cases hlt : q.length < d.path.length
  · obtain ⟨s, hs⟩ : ∃ s, d.path[q.length]? = some s := ⟨_, List.getElem?_eq_getElem hlt⟩
    have hm := List.mem_of_getElem? hs
    have hsn1 := (hd.num.path s hm).1
    (repeat' (first | ((with_reducible apply gL); (first | refine yL0 ?_ | refine yL ?_ | ((with_reducible apply gL_go); (first | (refine JL_goq (cloneU_s s.a s.c s.as_ hsn1) (hφ := (by (try simp only [List.cons_append, List.nil_append]); exact fun w hr => (hK w hr.1).path.segs s hm)) (h := ?_); rintro _ _ ⟨ad3, c3, rfl, rfl⟩; try simp only [List.cons_append, List.nil_append]) | fail)) | (refine yM ?_; intro _) | fail)) | ((with_reducible apply gD); (first | (refine JD_nil ?_; try simp only [List.cons_append, List.nil_append]) | (refine JD_bar ?_; try simp only [List.cons_append, List.nil_append]) | ((with_reducible apply gD_c_append); (first | (refine JD_ap1 (z := Sg.mk s.set ad3 c3 s.as_) (tabE etab_ok (by rfl)) (by rfl) (by rfl) xA xA (by decide +kernel) (by rfl) (by intro _; rfl) (by rfl) (by omega) (by rfl) ?_; intro ad4 c4 _ _) | fail)) | refine yD ?_ | ((with_reducible apply gD_go); (first | (refine JD_goq (cloneU_s s.a s.c s.as_ hsn1) (hφ := (by (try simp only [List.cons_append, List.nil_append]); exact fun w hr => (hK w hr.1).path.segs s hm)) (h := ?_); rintro _ _ ⟨ad3, c3, rfl, rfl⟩; try simp only [List.cons_append, List.nil_append]) | fail)) | (refine yE ?_; intro _) | (refine yB ?_; intro _ _ _ _) | fail)) | refine yJ ?_ | ((with_reducible apply gJ_if); (first | (refine J_if xR ?_ ?_ <;> intro _ <;> (try (exfalso; first | contradiction | omega))) | (refine J_ifb xR ?_ ?_ <;> (intro hgb; subst hgb)) | (refine J_ifb xR ?_ ?_ <;> intro _) | fail)) | refine J_draw (id := 6) [0, 1, 2, 3, 4, 5, 6, 7, 8] [9, 10, 11] mixed xC xD xD ?_ | refine J_draw (id := 11) [0, 1, 2, 3, 4, 5, 6, 7, 8] [9, 10, 11] mixed xC xD xD ?_ | fail))
    refine J_again ⟨q ++ [Sg.mk s.set ad3 c3 s.as_], ad4, c4⟩ (by simp; omega) ⟨by simp; omega, ?_⟩ ⟨rfl, rfl, rfl, rfl, rfl, ?_, trivial⟩ (fun w H => ?_)
    · simp only [List.length_append, List.length_cons, List.length_nil]
      rw [take_snoc hs]
      unfold pN at hsame ⊢
      rw [List.map_append, List.map_append, hsame]
      rfl
    · show some _ = some _
      simp
    · simp only [List.length_append, List.length_cons, List.length_nil]
      exact (Ow.sgsSnoc (s := Sg.mk s.set ad3 c3 s.as_) H xA xA).sel xZ
  · obtain hql : q.length = d.path.length := by omega
    rw [hql, List.take_length] at hsame
    (repeat' (first | ((with_reducible apply gL); (first | refine yL0 ?_ | refine yL ?_ | (refine yM ?_; intro _) | fail)) | ((with_reducible apply gD); (first | (refine JD_nil ?_; try simp only [List.cons_append, List.nil_append]) | (refine JD_bar ?_; try simp only [List.cons_append, List.nil_append]) | refine yD ?_ | (refine yE ?_; intro _) | (refine yB ?_; intro _ _ _ _) | fail)) | refine yJ ?_ | ((with_reducible apply gJ_if); (first | (refine J_if xR ?_ ?_ <;> intro _ <;> (try (exfalso; first | contradiction | omega))) | (refine J_ifb xR ?_ ?_ <;> (intro hgb; subst hgb)) | (refine J_ifb xR ?_ ?_ <;> intro _) | fail)) | refine J_draw (id := 6) [0, 1, 2, 3, 4, 5, 6, 7, 8] [9, 10, 11] mixed xC xD xD ?_ | refine J_draw (id := 11) [0, 1, 2, 3, 4, 5, 6, 7, 8] [9, 10, 11] mixed xC xD xD ?_ | fail))
    refine J_loop (α := Lo) ⟨[], none, 0⟩ (fun x => d.others.length - x.q.length) (fun x => x.q.length ≤ d.others.length ∧ oN x.q = oN (d.others.take x.q.length)) (fun x => [(1, .pointer (some ⟨b1, 0, none⟩)), (2, .pointer (some ⟨b2, 0, none⟩)), (3, .pointer (some ⟨b3, 0, none⟩)), (35, .slice d.oa d.others.length d.oc), (36, .int .i64 d.others.length), (37, .int .i64 x.q.length)])
      (fun x => [pts b3 (cpC d q.length ad cc ad2 c2 x.ad x.q.length x.cc) 29, Ar 104 2 rwC (.slice x.ad x.q.length x.cc) x.q, has (fun w => ∀ s ∈ x.q, rawV w s), Ar 135 2 sgC (.slice ad q.length cc) q, sgsO q, Ar 24 1 u32C (.slice ad2 d.comms.length c2) d.comms, pts b2 [.int .i64 0, .slice none 0 0, .int .u32 0, .bool false, .int .u32 0, .bool false, .int .u32 0, .bool false, .bool false, .int .u32 0, .int .u32 0, .slice none 0 0, .slice none 0 0] 29, pts b1 (atC d) 29]) ⟨Nat.zero_le _, rfl⟩ ⟨rfl, rfl, rfl, rfl, rfl, rfl, trivial⟩ (fun w H => (Ow.hasTrue (φ := fun w => ∀ s ∈ ([] : List Rw), rawV w s) (Ow.arNil (e := 104) (sz := 2) (enc := rwC) H) (by intro _ _ h; exact absurd h List.not_mem_nil)).sel xZ) ?_
    rintro ⟨o, oa, oc⟩ ⟨ho, hso⟩
    dsimp only at ho hso ⊢
    by_cases hol : o.length < d.others.length
    · obtain ⟨s, hs⟩ : ∃ s, d.others[o.length]? = some s := ⟨_, List.getElem?_eq_getElem hol⟩
      have hm := List.mem_of_getElem? hs
      have hsn1 := (hd.num.others s hm).2.1
      (repeat' (first | ((with_reducible apply gL); (first | refine yL0 ?_ | refine yL ?_ | ((with_reducible apply gL_go); (first | (refine JL_goq (cloneB_s s.a s.c s.data hsn1) (hφ := (by (try simp only [List.cons_append, List.nil_append]); exact fun w hr => (hK w hr.1).others.raws s hm)) (h := ?_); rintro _ _ ⟨ad3, c3, rfl, rfl⟩; try simp only [List.cons_append, List.nil_append]) | fail)) | (refine yM ?_; intro _) | fail)) | ((with_reducible apply gD); (first | (refine JD_nil ?_; try simp only [List.cons_append, List.nil_append]) | (refine JD_bar ?_; try simp only [List.cons_append, List.nil_append]) | ((with_reducible apply gD_c_append); (first | (refine JD_ap1 (z := Rw.mk s.kind ad3 c3 s.data) (tabE etab_ok (by rfl)) (by rfl) (by rfl) xA xA (by decide +kernel) (by rfl) (by intro _; rfl) (by rfl) (by omega) (by rfl) ?_; intro ad4 c4 _ _) | fail)) | refine yD ?_ | ((with_reducible apply gD_go); (first | (refine JD_goq (cloneB_s s.a s.c s.data hsn1) (hφ := (by (try simp only [List.cons_append, List.nil_append]); exact fun w hr => (hK w hr.1).others.raws s hm)) (h := ?_); rintro _ _ ⟨ad3, c3, rfl, rfl⟩; try simp only [List.cons_append, List.nil_append]) | fail)) | (refine yE ?_; intro _) | (refine yB ?_; intro _ _ _ _) | fail)) | refine yJ ?_ | ((with_reducible apply gJ_if); (first | (refine J_if xR ?_ ?_ <;> intro _ <;> (try (exfalso; first | contradiction | omega))) | (refine J_ifb xR ?_ ?_ <;> (intro hgb; subst hgb)) | (refine J_ifb xR ?_ ?_ <;> intro _) | fail)) | refine J_draw (id := 6) [0, 1, 2, 3, 4, 5, 6, 7, 8] [9, 10, 11] mixed xC xD xD ?_ | refine J_draw (id := 11) [0, 1, 2, 3, 4, 5, 6, 7, 8] [9, 10, 11] mixed xC xD xD ?_ | fail))
      refine J_again ⟨o ++ [Rw.mk s.kind ad3 c3 s.data], ad4, c4⟩ (by simp; omega) ⟨by simp; omega, ?_⟩ ⟨rfl, rfl, rfl, rfl, rfl, ?_, trivial⟩ (fun w H => ?_)
      · simp only [List.length_append, List.length_cons, List.length_nil]
        rw [take_snoc hs]
        unfold oN at hso ⊢
        rw [List.map_append, List.map_append, hso]
        rfl
      · show some _ = some _
        simp
      · simp only [List.length_append, List.length_cons, List.length_nil]
        refine (Ow.has (M := [Ar 5 1 byC (.slice ad3 s.data.length c3) s.data, has (fun w => ∀ s ∈ o, rawV w s)]) (φ := fun w => ∀ x ∈ o ++ [Rw.mk s.kind ad3 c3 s.data], rawV w x) H xZ ?_).sel xZ
        intro w hr x hx
        rcases List.mem_append.1 hx with hx | hx
        · exact hr.has (.there .here) x hx
        · obtain rfl := List.mem_singleton.1 hx
          exact Src.ar .here w hr
    · have hoe : o.length = d.others.length := by omega
      rw [hoe, List.take_length] at hso
      (repeat' (first | ((with_reducible apply gL); (first | refine yL0 ?_ | refine yL ?_ | (refine yM ?_; intro _) | fail)) | ((with_reducible apply gD); (first | (refine JD_nil ?_; try simp only [List.cons_append, List.nil_append]) | (refine JD_bar ?_; try simp only [List.cons_append, List.nil_append]) | refine yD ?_ | (refine yE ?_; intro _) | (refine yB ?_; intro _ _ _ _) | fail)) | refine yJ ?_ | ((with_reducible apply gJ_if); (first | (refine J_if xR ?_ ?_ <;> intro _ <;> (try (exfalso; first | contradiction | omega))) | (refine J_ifb xR ?_ ?_ <;> (intro hgb; subst hgb)) | (refine J_ifb xR ?_ ?_ <;> intro _) | fail)) | refine J_draw (id := 6) [0, 1, 2, 3, 4, 5, 6, 7, 8] [9, 10, 11] mixed xC xD xD ?_ | refine J_draw (id := 11) [0, 1, 2, 3, 4, 5, 6, 7, 8] [9, 10, 11] mixed xC xD xD ?_ | fail))
      refine J_retC (cs := cpC d q.length ad cc ad2 c2 oa o.length oc) rfl (by rfl) xA (by rfl) fun w H => ⟨_, ⟨d.at_ q ad cc d.comms ad2 c2 o oa oc, At.at_num hd _ _ _ _ _ _ _ _ _ hsame rfl hso, d.at_nf _ _ _ _ _ _ _ _ _ hsame rfl hso, rfl, rfl⟩, ?_⟩
      have H := Ow.has (M := [Ar 104 2 rwC (.slice oa o.length oc) o, has (fun w => ∀ s ∈ o, rawV w s)]) (φ := fun w => RawsV w oa oc o) H xZ (fun w hr => ⟨Src.ar .here w hr, fun s hs => hr.has (.there .here) s hs⟩)
      have H := H.sel (M := [Ar 135 2 sgC (.slice ad q.length cc) q, sgsO q, Ar 24 1 u32C (.slice ad2 d.comms.length c2) d.comms, has (fun w => RawsV w oa oc o)]) xZ
      exact Ow.unflat (As := [Ar 135 2 sgC (.slice ad q.length cc) q, sgsO q, Ar 24 1 u32C (.slice ad2 d.comms.length c2) d.comms, has (fun w => RawsV w oa oc o)]) H xZ
end Go.Proofs.YtnhabkipjmgaaaaGreat
namespace Go.Proofs.YtnhabkipjmgaaaaGreat
set_option linter.unusedSimpArgs false
set_option linter.unusedVariables false
set_option maxRecDepth 20000
set_option maxHeartbeats 4000000
open Go.RowKit Go.Pm

theorem bytesEl : El Tryz.prog 102 5 1 1 := El.mk' (z := .int .u8 0) Tryz.underlying102 (by kernel_rfl) rfl (by omega) (by omega)

theorem OwnB.empty {e : TypeId} {w : World} {base g cap : Nat} {cur : Array Value} (h : Blk w g cur e) (hb : base ≤ g) (hs : cur.size = cap) (hm : cap ≤ maxLen) : OwnB e w base (.slice (some ⟨g, 0, none⟩) 0 cap) [] :=
  ⟨rfl, .inr ⟨g, cap, cur, rfl, hb, h, Nat.zero_le _, hm, by omega, rfl⟩⟩

theorem Lib.run_eql_slice_nil {P : Program} (w : World) (t e : TypeId) (a : Option Addr) (l c : Nat) (h : P.underlying t = some (.slice e)) : (binOp .eql t (.slice a l c) (.slice none 0 0)).run P w = .ok (.bool a.isNone) w := by
  simp [binOp, Sem.run_bind, run_equal_slice_nil w t e a l c h]

theorem grow_nil (n : Nat) (w : World) (hn : n ≤ 140737488355328) :
    Calls Tryz.prog 146 #[.slice none 0 0, .int .i64 n] w (FreshB 5 w []) := by
  obtain ⟨i, z, hi, hz, hsz, hby, hzs⟩ := bytesEl.inf
  have hm : n ≤ 9223372036854775807 := by omega
  by_cases h0 : n = 0
  · subst h0
    go_enter Tryz.func146, Tryz.ntmps146
    go_wp2
    go_ret
    exact ⟨_, rfl, OwnB.nil _ _ _, Only.refl _ _⟩
  · have hpos : 0 < n := by omega
    have HR := Lib.hid (Lib.run_append_nil_zeros (P := Tryz.prog) w 102 3 102 5 i z .i64 .i64 Tryz.underlying102 Tryz.underlying3 hi hz n hpos (by omega) (by omega) (by rw [hby]; omega))
    have HC1 := Lib.hid (grownCap_ge w n 0 5)
    have HC2 := Lib.hid (grownCap_le_maxLen w n 0 5 (by unfold maxLen; omega))
    generalize z.cells = zc at *
    have HZ := Lib.hid hzs
    generalize grownCap w n 0 5 = c at *
    have hc : n ≤ c := HC1.out
    have hc2 : c ≤ 9223372036854775807 := by have := HC2.out; unfold maxLen at this; omega
    go_enter Tryz.func146, Tryz.ntmps146
    go_wp2_with (at_builtin; refine Lib.wpList_append_run _ rfl _ _ _ _ rfl _ _ rfl rfl _ _ HR.out ?_)
    go_ret
    refine ⟨_, rfl, OwnB.empty (Blk.new w.drew _ _) (Nat.le_refl _) ?_ HC2.out, ((Only.refl _ _).drew).alloc _⟩
    rw [Array.size_append, size_zeroCells, size_zeroCells, HZ.out]; omega

def SlR (l : List Int) (u : Value) (L' : List HP) : Prop := ∃ a c, u = .slice a l.length c ∧ L' = [Ar 5 1 byC (.slice a l.length c) l]
theorem ar_bytes (v : Value) (l : List Int) : SlB 5 v l = Ar 5 1 byC v l := by
  unfold SlB Ar
  rw [flat_byC]
theorem grow_s (n : Nat) (hn : n ≤ 140737488355328) : Pact Tryz.prog 146 #[.slice none 0 0, .int .i64 n] (fun _ => True) [] (SlR []) := fun W K w hK H =>
  (grow_nil n w hn).mono fun e w' h => by
    obtain ⟨v, rfl, ho, hO⟩ := h
    obtain ⟨a, c, rfl, h1, h2⟩ := ho.vw.shape
    have H2 := H.freshB hO ho
    rw [ar_bytes] at H2
    exact ⟨_, _, ⟨a, c, rfl, rfl⟩, rfl, H2⟩
/-- Bytes somewhere. -/
structure Bs where
  a : Option Addr
  c : Nat
  l : List Int
def bsC (s : Bs) : List Value := [.slice s.a s.l.length s.c]
def bsV (w : World) (s : Bs) : Prop := Vw w (.slice s.a s.l.length s.c) 1 s.l.length (flat byC s.l)
structure PartsV (w : World) (a : Option Addr) (c : Nat) (p : List Bs) : Prop where
  vw : Vw w (.slice a p.length c) 1 p.length (flat bsC p)
  parts : ∀ s ∈ p, bsV w s
def catB (p : List Bs) : List Int := p.flatMap (·.l)
theorem catB_snoc (p : List Bs) (s : Bs) : catB (p ++ [s]) = catB p ++ s.l := by simp [catB]
theorem catB_take {p : List Bs} {k : Nat} {s : Bs} (h : p[k]? = some s) : catB (p.take (k + 1)) = catB (p.take k) ++ s.l := by rw [take_snoc h, catB_snoc]
theorem catB_le (p : List Bs) (k : Nat) : (catB (p.take k)).length ≤ (catB p).length := by
  have : catB p = catB (p.take k) ++ catB (p.drop k) := by
    unfold catB
    rw [← List.flatMap_append, List.take_append_drop]
  rw [this, List.length_append]
  omega
structure Cc where
  i : Nat
  ad : Option Addr
  c : Nat
theorem concat_s (a : Option Addr) (c : Nat) (p : List Bs) (hp : p.length ≤ 1000) (hl : (catB p).length ≤ 1000000) : Pact Tryz.prog 141 #[.slice a p.length c] (fun w => PartsV w a c p) [] (SlR (catB p)) := by
  refine pact Tryz.func141 rfl Tryz.ntmps141 rfl ?_
  intro W K hK
  have hO : Kn K (fun w => Vw w (.slice a p.length c) 1 p.length (flat bsC p)) := hK.imp fun _ h => h.vw
  (repeat' (first | ((with_reducible apply gL); (first | refine yL0 ?_ | refine yL ?_ | (refine yA ?_; intro _ _ _ _) | fail)) | refine yJ ?_ | ((with_reducible apply gJ_if); (first | (refine J_if xR ?_ ?_ <;> intro _ <;> (try (exfalso; first | contradiction | omega))) | (refine J_ifb xR ?_ ?_ <;> (intro hgb; subst hgb)) | (refine J_ifb xR ?_ ?_ <;> intro _) | fail)) | fail))
  refine J_loop (α := Nat) 0 (fun x => p.length - x) (fun x => x ≤ p.length) (fun x => [(0, .slice a p.length c), (9, .slice a p.length c), (10, .int .i64 p.length), (11, .int .i64 x), (3, .int .i64 (catB (p.take x)).length)]) (fun _ => []) (Nat.zero_le _) ⟨rfl, rfl, rfl, rfl, rfl, trivial⟩ (fun w H => H.sel .nil) ?_
  intro k hk
  have hkl := catB_le p k
  obtain ⟨N, hN⟩ : ∃ N, (catB (p.take k)).length = N := ⟨_, rfl⟩
  rw [hN] at hkl ⊢
  by_cases hlt : k < p.length
  · obtain ⟨s, hs⟩ : ∃ s, p[k]? = some s := ⟨_, List.getElem?_eq_getElem hlt⟩
    have h1 := catB_le p (k + 1)
    rw [catB_take hs, List.length_append, hN] at h1
    (repeat' (first | ((with_reducible apply gL); (first | refine yL0 ?_ | refine yL ?_ | (refine yA ?_; intro _ _ _ _) | fail)) | refine yJ ?_ | ((with_reducible apply gJ_if); (first | (refine J_if xR ?_ ?_ <;> intro _ <;> (try (exfalso; first | contradiction | omega))) | (refine J_ifb xR ?_ ?_ <;> (intro hgb; subst hgb)) | (refine J_ifb xR ?_ ?_ <;> intro _) | fail)) | fail))
    refine J_again (k + 1) (by omega) (by omega) ⟨rfl, rfl, rfl, rfl, ?_, trivial⟩ (fun w H => H.sel .nil)
    rw [catB_take hs, List.length_append, hN]
    show some _ = some _
    simp
  · have hke : k = p.length := by omega
    subst hke
    rw [List.take_length] at hN
    (repeat' (first | ((with_reducible apply gL); (first | refine yL0 ?_ | refine yL ?_ | ((with_reducible apply gL_go); (first | (refine JL_goq (grow_s N (by omega)) (hφ := xF) (h := ?_); rintro _ _ ⟨ga, gc, rfl, rfl⟩; try simp only [List.cons_append, List.nil_append]) | fail)) | (refine yA ?_; intro _ _ _ _) | fail)) | refine yJ ?_ | ((with_reducible apply gJ_if); (first | (refine J_if xR ?_ ?_ <;> intro _ <;> (try (exfalso; first | contradiction | omega))) | (refine J_ifb xR ?_ ?_ <;> (intro hgb; subst hgb)) | (refine J_ifb xR ?_ ?_ <;> intro _) | fail)) | fail))
    refine J_loop (α := Cc) ⟨0, ga, gc⟩ (fun x => p.length - x.i) (fun x => x.i ≤ p.length) (fun x => [(25, .slice a p.length c), (26, .int .i64 p.length), (27, .int .i64 x.i), (6, .slice x.ad (catB (p.take x.i)).length x.c)]) (fun x => [Ar 5 1 byC (.slice x.ad (catB (p.take x.i)).length x.c) (catB (p.take x.i))]) (Nat.zero_le _) ⟨rfl, rfl, rfl, rfl, trivial⟩ (fun w H => H.sel xZ) ?_
    rintro ⟨k, ad, cc⟩ hk
    dsimp only at hk ⊢
    have hkl := catB_le p k
    by_cases hlt : k < p.length
    · obtain ⟨s, hs⟩ : ∃ s, p[k]? = some s := ⟨_, List.getElem?_eq_getElem hlt⟩
      have h1 := catB_le p (k + 1)
      have h2 := catB_take hs
      rw [h2, List.length_append] at h1
      have hu : Kn K (fun w => Vw w (.slice s.a s.l.length s.c) 1 s.l.length (flat byC s.l)) := hK.imp fun _ h => h.parts s (List.mem_of_getElem? hs)
      (repeat' (first | ((with_reducible apply gL); (first | refine yL0 ?_ | ((with_reducible apply gL_c_append); (first | (refine JL_app (fs := s.l) (tabE etab_ok xR) xR xR xA (Src.kn hu) xC xL xU (by omega) xR xR ?_; intro ad2 cc2 _ _) | fail)) | refine yL ?_ | (refine yA ?_; intro _ _ _ _) | fail)) | refine yJ ?_ | ((with_reducible apply gJ_if); (first | (refine J_if xR ?_ ?_ <;> intro _ <;> (try (exfalso; first | contradiction | omega))) | (refine J_ifb xR ?_ ?_ <;> (intro hgb; subst hgb)) | (refine J_ifb xR ?_ ?_ <;> intro _) | fail)) | fail))
      refine J_again ⟨k + 1, ad2, cc2⟩ (by dsimp only; omega) (by dsimp only; omega) ⟨rfl, rfl, rfl, ?_, trivial⟩ (fun w H => ?_)
      · dsimp only
        rw [h2, List.length_append]
        rfl
      · dsimp only
        rw [h2, List.length_append]
        exact H.sel xZ
    · have hke : k = p.length := by omega
      subst hke
      rw [List.take_length]
      (repeat' (first | ((with_reducible apply gL); (first | refine yL0 ?_ | refine yL ?_ | (refine yA ?_; intro _ _ _ _) | fail)) | refine yJ ?_ | ((with_reducible apply gJ_if); (first | (refine J_if xR ?_ ?_ <;> intro _ <;> (try (exfalso; first | contradiction | omega))) | (refine J_ifb xR ?_ ?_ <;> (intro hgb; subst hgb)) | (refine J_ifb xR ?_ ?_ <;> intro _) | fail)) | fail))
      exact J_ret1 rfl (by rfl) fun w H => ⟨_, ⟨ad, cc, rfl, rfl⟩, H.sel xZ⟩
end Go.Proofs.YtnhabkipjmgaaaaGreat
namespace Go.Pm
set_option linter.unusedSimpArgs false
set_option linter.unusedVariables false
open Go.RowKit
inductive NumsOf : List Value → List Int → Prop
  | nil : NumsOf [] []
  | cons {x : Int} {cs : List Value} {bs : List Int} : NumsOf cs bs → NumsOf (.int .u8 x :: cs) (x :: bs)
theorem NumsOf.eq {cs : List Value} {bs : List Int} (h : NumsOf cs bs) : cs = flat byC bs := by
  induction h with
  | nil => rfl
  | cons _ ih => rw [ih]; rfl
theorem NumsOf.cons' {x y : Int} {cs : List Value} {bs : List Int} (h : y = x) (hc : NumsOf cs bs) : NumsOf (.int .u8 y :: cs) (x :: bs) := by subst h; exact .cons hc
theorem flat_byC_len (bs : List Int) : (flat byC bs).length = bs.length := by
  have := flat_length (f := byC) (sz := 1) (fun _ => rfl) bs
  omega
theorem flat_byC_one (bs : List Int) : ∀ u ∈ flat byC bs, u.oneCell' = true := by
  intro u hu
  obtain ⟨x, _, hx⟩ := List.mem_flatMap.1 hu
  obtain rfl := List.mem_singleton.1 hx
  rfl
section
variable {P : Program} {n : Nat} {W : World} {K : Hl} {F : Fp} {k : List It} {tm : TM} {L L' R S M M' R' : List HP} {T : TypeId} {pos : String} {af : Array Edge} {gd : Option (Nat × Bool)} {ops : Array Oper} {rest nx : List Oper} {d : Tmp}
variable {t e T' : TypeId} {m b : Nat} {s x : Operand} {v : Value} {es bs : List Int} {cs : List Value}
theorem Src.nums {K : Hl} {L R : List HP} {g m : Nat} {cs : List Value} {e : TypeId} {bs : List Int} (t : Tk L (pts g cs e) R) (hb : NumsOf cs bs) (hl : Nat.beq bs.length m = true) (hm : Nat.ble m 1000000 = true) : Src K L (.slice (some ⟨g, 0, none⟩) m m) 1 m (flat byC bs) := by
  rw [← hb.eq]
  have h1 := Nat.eq_of_beq_eq_true hl
  have h2 := Nat.le_of_ble_eq_true hm
  exact Src.lit t (by rw [hb.eq, flat_byC_len]; omega) (by simp [maxLen]; omega)
theorem JL_apN (hi : elemInfo P t = some (e, 1, 1)) (hs : evT tm s = some v) (hx : evT tm x = some (.slice (some ⟨b, 0, none⟩) m m)) (hm : Tk L (Ar e 1 byC v es) R) (hb : Tk R (pts b cs T') R') (hy : NumsOf cs bs) (hlen : Nat.beq bs.length m = true) (hm2 : Nat.ble m 1000000 = true) (hok : elOk P t e 1 1 = true) (hsz : es.length + m ≤ 140737488355328)
    (hn : Nat.blt d n = true) (hg : wantF ops ⟨some d, .call ⟨.builtin .append, #[s, x], #[t, t]⟩, T, pos, af, gd⟩ (tget tm) = some true) (h : ∀ ad c, es.length + m ≤ c → c ≤ maxLen → JL P n W K F ops k rest ((d, .slice ad (es.length + m) c) :: tm) (Ar e 1 byC (.slice ad (es.length + m) c) (es ++ bs) :: R)) : JL P n W K F ops k (⟨some d, .call ⟨.builtin .append, #[s, x], #[t, t]⟩, T, pos, af, gd⟩ :: rest) tm L :=
  JL_app hi hs hx hm (Src.nums hb hy hlen hm2) hok (fun _ => rfl) (flat_byC_one bs) (by omega) hn hg h
theorem JD_apN (hi : elemInfo P t = some (e, 1, 1)) (hs : evT tm s = some v) (hx : evT tm x = some (.slice (some ⟨b, 0, none⟩) m m)) (hm : Tk M (Ar e 1 byC v es) R) (hb : Tk R (pts b cs T') R') (hy : NumsOf cs bs) (hlen : Nat.beq bs.length m = true) (hm2 : Nat.ble m 1000000 = true) (hok : elOk P t e 1 1 = true) (hsz : es.length + m ≤ 140737488355328)
    (hg : wantF ops ⟨some d, .call ⟨.builtin .append, #[s, x], #[t, t]⟩, T, pos, af, gd⟩ (tget tm) = some true) (h : ∀ ad c, es.length + m ≤ c → c ≤ maxLen → JD P n W K F ops k nx rest ((d, .slice ad (es.length + m) c) :: tm) S (Ar e 1 byC (.slice ad (es.length + m) c) (es ++ bs) :: R)) : JD P n W K F ops k nx (⟨some d, .call ⟨.builtin .append, #[s, x], #[t, t]⟩, T, pos, af, gd⟩ :: rest) tm S M :=
  JD_app hi hs hx hm (Src.nums (hb.app S) hy hlen hm2) hok (fun _ => rfl) (flat_byC_one bs) (by omega) hg h
/-- Bytes that are written out, as a slice. -/
theorem Ow.arNums {w : World} (H : Ow W K L w) (hb : Tk L (pts b cs e) R) (hy : NumsOf cs bs) (hlen : Nat.beq bs.length m = true) (hm2 : Nat.ble m 1000000 = true) : Ow W K (Ar e 1 byC (.slice (some ⟨b, 0, none⟩) m m) bs :: R) w := by
  have h1 := Nat.eq_of_beq_eq_true hlen
  have h2 := Nat.le_of_ble_eq_true hm2
  unfold Ar
  rw [h1, ← hy.eq]
  exact H.slLit hb (by rw [hy.eq, flat_byC_len]; omega) (by simp [maxLen]; omega)
end
end Go.Pm
namespace Go.Proofs.YtnhabkipjmgaaaaGreat
set_option linter.unusedSimpArgs false
set_option linter.unusedVariables false
set_option maxRecDepth 20000
set_option maxHeartbeats 4000000
open Go.RowKit Go.Pm

def num4 (n : Int) : List Int := [n / 16777216, n / 65536 % 256, n / 256 % 256, n % 256]
abbrev Ar4 (b : Nat) (n : Int) : HP := Ar 5 1 byC (.slice (some ⟨b, 0, none⟩) 4 4) (num4 n)
theorem num_s (n : Int) (hn : U32 n) : Pact Tryz.prog 120 #[.int .u32 n] (fun _ => True) [] (fun u L' => ∃ b, u = .slice (some ⟨b, 0, none⟩) 4 4 ∧ L' = [Ar4 b n]) := by
  refine pact Tryz.func120 rfl Tryz.ntmps120 rfl ?_
  intro W K _
  obtain ⟨h0, h1⟩ := hn
  (repeat' (first | ((with_reducible apply gL); (first | refine yL0 ?_ | refine yL ?_ | (refine yM ?_; intro _) | fail)) | refine yJ ?_ | fail))
  rename_i b
  refine J_ret1 rfl (by rfl) fun w H => ⟨_, ⟨b, rfl, rfl⟩, ?_⟩
  refine Ow.sel (Ow.arNums (bs := num4 n) H .here ?_ rfl rfl) xZ
  unfold num4
  repeat (first | exact NumsOf.nil | (refine NumsOf.cons' ?_ ?_; omega))
def kd (b : Bool) : Int := if b then 1 else 2
theorem kind_s (s : Sg) : Pact Tryz.prog 135 #[.agg (sgC s).toArray] (fun _ => True) [] (ret0 (.int .u8 (kd s.set))) := by
  refine pact Tryz.func135 rfl Tryz.ntmps135 rfl ?_
  intro W K _
  (repeat' (first | ((with_reducible apply gL); (first | refine yL0 ?_ | refine yL ?_ | (refine yM ?_; intro _) | fail)) | refine yJ ?_ | ((with_reducible apply gJ_if); (first | (refine J_if xR ?_ ?_ <;> intro _ <;> (try (exfalso; first | contradiction | omega))) | (refine J_ifb xR ?_ ?_ <;> (intro hgb; subst hgb)) | (refine J_ifb xR ?_ ?_ <;> intro _) | fail)) | fail))
  all_goals (rename_i hb; rw [hb]; exact J_ret1 rfl (by rfl) fun w H => ⟨_, ⟨rfl, rfl⟩, H.sel .nil⟩)
def asB (l : List Int) : List Int := l.flatMap num4
def segB (s : Bool × List Int) : List Int := kd s.1 :: (s.2.length : Int) :: asB s.2
def pB (p : List (Bool × List Int)) : List Int := p.flatMap segB
theorem asB_len (l : List Int) : (asB l).length = 4 * l.length := by
  induction l with
  | nil => rfl
  | cons x l ih =>
    have : asB (x :: l) = num4 x ++ asB l := rfl
    rw [this, List.length_append, ih]
    simp only [num4, List.length_cons, List.length_nil]
    omega
theorem pB_len (p : List (Bool × List Int)) : (pB p).length = 2 * p.length + 4 * tot p := by
  induction p with
  | nil => rfl
  | cons s p ih =>
    have : pB (s :: p) = segB s ++ pB p := rfl
    rw [this, List.length_append, ih]
    simp only [segB, List.length_cons, asB_len, tot]
    omega
theorem pB_snoc (p : List (Bool × List Int)) (s : Bool × List Int) : pB (p ++ [s]) = pB p ++ segB s := by simp [pB]
theorem asB_snoc (p : List Int) (s : Int) : asB (p ++ [s]) = asB p ++ num4 s := by simp [asB]
theorem tot_take (p : List (Bool × List Int)) (k : Nat) : tot (p.take k) ≤ tot p := by
  have : tot p = tot (p.take k) + tot (p.drop k) := by rw [← tot_append, List.take_append_drop]
  omega
/-- Bytes of the call's own, so far. -/
structure Lb where
  j : Nat
  xs : List Int
  ad : Option Addr
  c : Nat
theorem pPut_s (a : Option Addr) (c : Nat) (p : List Sg) (h8 : p.length ≤ 1000) (hsm : ∀ s ∈ p, SgN s) (hck : ckP (pN p) 0 = true) : Pact Tryz.prog 118 #[.slice a p.length c, .bool true] (fun w => PathV w a c p) [] (fun u L' => ∃ a' c', u = .tuple #[.slice a' (pB (pN p)).length c', .int .i64 0] ∧ L' = [Ar 5 1 byC (.slice a' (pB (pN p)).length c') (pB (pN p))]) := by
  refine pact Tryz.func118 rfl Tryz.ntmps118 rfl ?_
  intro W K hK
  have hv : Kn K (fun w => Vw w (.slice a p.length c) 2 p.length (flat sgC p)) := hK.imp fun _ h => h.vw
  obtain ⟨hok, h64⟩ := (ckP_iff (pN p) 0 (by omega)).1 hck
  have hPC := pchk_s a c p h8 hsm
  rw [hck] at hPC
  (repeat' (first | ((with_reducible apply gL); (first | refine yL0 ?_ | refine yL ?_ | ((with_reducible apply gL_go); (first | (refine JL_goq (hPC) (hφ := (by (try simp only [List.cons_append, List.nil_append]); exact fun w hr => hK w hr.1)) (h := ?_); rintro _ _ ⟨rfl, rfl⟩; try simp only [List.cons_append, List.nil_append]) | fail)) | (refine yM ?_; intro _) | (refine yA ?_; intro _ _ _ _) | fail)) | ((with_reducible apply gD); (first | (refine JD_nil ?_; try simp only [List.cons_append, List.nil_append]) | (refine JD_bar ?_; try simp only [List.cons_append, List.nil_append]) | refine yD ?_ | ((with_reducible apply gD_go); (first | (refine JD_goq (hPC) (hφ := (by (try simp only [List.cons_append, List.nil_append]); exact fun w hr => hK w hr.1)) (h := ?_); rintro _ _ ⟨rfl, rfl⟩; try simp only [List.cons_append, List.nil_append]) | fail)) | (refine yE ?_; intro _) | (refine yB ?_; intro _ _ _ _) | fail)) | refine yJ ?_ | ((with_reducible apply gJ_if); (first | (refine J_if xR ?_ ?_ <;> intro _ <;> (try (exfalso; first | contradiction | omega))) | (refine J_ifb xR ?_ ?_ <;> (intro hgb; subst hgb)) | (refine J_ifb xR ?_ ?_ <;> intro _) | fail)) | refine J_draw (id := 8) [0, 1, 3, 4, 5, 6, 2, 7] [8, 9] mixed xC xD xD ?_ | fail))
  refine J_loop (α := Lb) ⟨0, [], none, 0⟩ (fun x => p.length - x.j) (fun x => x.j ≤ p.length ∧ x.xs = pB (pN (p.take x.j))) (fun x => [(0, .slice a p.length c), (1, .bool true), (17, .slice a p.length c), (18, .int .i64 p.length), (19, .int .i64 x.j), (7, .slice x.ad x.xs.length x.c)]) (fun x => [Ar 5 1 byC (.slice x.ad x.xs.length x.c) x.xs]) ⟨Nat.zero_le _, rfl⟩ ⟨rfl, rfl, rfl, rfl, rfl, rfl, trivial⟩ (fun w H => (Ow.arNil (e := 5) (sz := 1) (enc := byC) H).sel xZ) ?_
  rintro ⟨k, xs, ad, cc⟩ ⟨hk, hxs⟩
  dsimp only at hk hxs ⊢
  have hxl : xs.length ≤ 2256 := by
    have h1 := tot_take (pN p) k
    have h2 : pN (p.take k) = (pN p).take k := by simp [pN]
    rw [hxs, pB_len, h2]
    simp only [List.length_take, pN, List.length_map] at h1 ⊢
    unfold pN at h64
    omega
  by_cases hlt : k < p.length
  · obtain ⟨s, hs⟩ : ∃ s, p[k]? = some s := ⟨_, List.getElem?_eq_getElem hlt⟩
    have hm := List.mem_of_getElem? hs
    obtain ⟨hsn1, hsn2⟩ := hsm s hm
    have hos := hok (s.set, s.as_) (List.mem_map.2 ⟨s, hm, rfl⟩)
    unfold okS at hos
    obtain ⟨ho1, ho2, _⟩ := of_decide_eq_true hos
    dsimp only at ho1 ho2
    have hu : Kn K (fun w => Vw w (.slice s.a s.as_.length s.c) 1 s.as_.length (flat u32C s.as_)) := hK.imp fun _ h => h.segs s hm
    (repeat' (first | ((with_reducible apply gL); (first | refine yL0 ?_ | ((with_reducible apply gL_c_append); (first | (refine JD_apN (bs := [kd s.set, (s.as_.length : Int)]) (tabE etab_ok xR) xR xR xA xA (by exact .cons (.cons .nil)) rfl rfl xC (by omega) xR ?_; intro ad2 cc2 _ _) | fail)) | refine yL ?_ | ((with_reducible apply gL_go); (first | (refine JL_goq (kind_s s) (hφ := xF) (h := ?_); rintro _ _ ⟨rfl, rfl⟩; try simp only [List.cons_append, List.nil_append]) | fail)) | (refine yM ?_; intro _) | (refine yA ?_; intro _ _ _ _) | fail)) | ((with_reducible apply gD); (first | (refine JD_nil ?_; try simp only [List.cons_append, List.nil_append]) | (refine JD_bar ?_; try simp only [List.cons_append, List.nil_append]) | ((with_reducible apply gD_c_append); (first | (refine JD_apN (bs := [kd s.set, (s.as_.length : Int)]) (tabE etab_ok xR) xR xR xA xA (by exact .cons (.cons .nil)) rfl rfl xC (by omega) xR ?_; intro ad2 cc2 _ _) | fail)) | refine yD ?_ | ((with_reducible apply gD_go); (first | (refine JD_goq (kind_s s) (hφ := xF) (h := ?_); rintro _ _ ⟨rfl, rfl⟩; try simp only [List.cons_append, List.nil_append]) | fail)) | (refine yE ?_; intro _) | (refine yB ?_; intro _ _ _ _) | fail)) | refine yJ ?_ | ((with_reducible apply gJ_if); (first | (refine J_if xR ?_ ?_ <;> intro _ <;> (try (exfalso; first | contradiction | omega))) | (refine J_ifb xR ?_ ?_ <;> (intro hgb; subst hgb)) | (refine J_ifb xR ?_ ?_ <;> intro _) | fail)) | refine J_draw (id := 8) [0, 1, 3, 4, 5, 6, 2, 7] [8, 9] mixed xC xD xD ?_ | fail))
    rename_i b9
    refine J_loop (α := Lb) ⟨0, xs ++ [kd s.set, (s.as_.length : Int)], ad2, cc2⟩ (fun x => s.as_.length - x.j) (fun x => x.j ≤ s.as_.length ∧ x.xs = xs ++ [kd s.set, (s.as_.length : Int)] ++ asB (s.as_.take x.j)) (fun x => [(0, .slice a p.length c), (1, .bool true), (17, .slice a p.length c), (18, .int .i64 p.length), (19, .int .i64 k), (33, .slice s.a s.as_.length s.c), (34, .int .i64 s.as_.length), (35, .int .i64 x.j), (7, .slice x.ad x.xs.length x.c)]) (fun x => [Ar 5 1 byC (.slice x.ad x.xs.length x.c) x.xs]) ⟨Nat.zero_le _, by simp [asB]⟩ ⟨rfl, rfl, rfl, rfl, rfl, rfl, rfl, rfl, ?_, trivial⟩ (fun w H => ?_) ?_
    · dsimp only
      rw [List.length_append]
      rfl
    · dsimp only
      rw [List.length_append]
      exact H.sel xZ
    rintro ⟨j, ys, ad3, cc3⟩ ⟨hj, hys⟩
    dsimp only at hj hys ⊢
    have hyl : ys.length ≤ 4000 := by
      rw [hys, List.length_append, List.length_append, asB_len, List.length_take]
      simp only [List.length_cons, List.length_nil]
      omega
    by_cases hjl : j < s.as_.length
    · obtain ⟨x, hx⟩ : ∃ x, s.as_[j]? = some x := ⟨_, List.getElem?_eq_getElem hjl⟩
      obtain ⟨hx0, hx1⟩ := hsn2 x (List.mem_of_getElem? hx)
      (repeat' (first | ((with_reducible apply gL); (first | refine yL0 ?_ | ((with_reducible apply gL_c_append); (first | (refine JL_apN (tabE etab_ok xR) xR xR xA xA (by exact .cons (.cons .nil)) rfl rfl xC (by first | omega | (simp only [List.length_append, List.length_cons, List.length_nil]; omega)) xR xR ?_; intro ad4 cc4 _ _) | fail)) | refine yL ?_ | (refine yM ?_; intro _) | (refine yA ?_; intro _ _ _ _) | fail)) | ((with_reducible apply gD); (first | (refine JD_nil ?_; try simp only [List.cons_append, List.nil_append]) | (refine JD_bar ?_; try simp only [List.cons_append, List.nil_append]) | ((with_reducible apply gD_c_append); (first | (refine JL_apN (tabE etab_ok xR) xR xR xA xA (by exact .cons (.cons .nil)) rfl rfl xC (by first | omega | (simp only [List.length_append, List.length_cons, List.length_nil]; omega)) xR xR ?_; intro ad4 cc4 _ _) | fail)) | refine yD ?_ | (refine yE ?_; intro _) | (refine yB ?_; intro _ _ _ _) | fail)) | refine yJ ?_ | ((with_reducible apply gJ_if); (first | (refine J_if xR ?_ ?_ <;> intro _ <;> (try (exfalso; first | contradiction | omega))) | (refine J_ifb xR ?_ ?_ <;> (intro hgb; subst hgb)) | (refine J_ifb xR ?_ ?_ <;> intro _) | fail)) | refine J_draw (id := 8) [0, 1, 3, 4, 5, 6, 2, 7] [8, 9] mixed xC xD xD ?_ | fail))
      have e : ys ++ [x / 2 ^ 24, x / 2 ^ 16 % 256] ++ [x / 2 ^ 8 % 256, x % 256] = ys ++ num4 x := by simp [num4]
      refine J_again ⟨j + 1, ys ++ num4 x, ad4, cc4⟩ (by dsimp only; omega) ⟨by dsimp only; omega, ?_⟩ ⟨rfl, rfl, rfl, rfl, rfl, rfl, rfl, rfl, ?_, trivial⟩ (fun w H => ?_)
      · dsimp only
        rw [take_snoc hx, asB_snoc, hys]
        simp
      · dsimp only
        rw [← e]
        simp only [List.length_append, List.length_cons, List.length_nil]
        rfl
      · dsimp only
        rw [← e]
        simp only [List.length_append, List.length_cons, List.length_nil] at H ⊢
        exact H.sel xZ
    · have hje : j = s.as_.length := by omega
      rw [hje, List.take_length] at hys
      (repeat' (first | ((with_reducible apply gL); (first | refine yL0 ?_ | refine yL ?_ | (refine yM ?_; intro _) | (refine yA ?_; intro _ _ _ _) | fail)) | ((with_reducible apply gD); (first | (refine JD_nil ?_; try simp only [List.cons_append, List.nil_append]) | (refine JD_bar ?_; try simp only [List.cons_append, List.nil_append]) | refine yD ?_ | (refine yE ?_; intro _) | (refine yB ?_; intro _ _ _ _) | fail)) | refine yJ ?_ | ((with_reducible apply gJ_if); (first | (refine J_if xR ?_ ?_ <;> intro _ <;> (try (exfalso; first | contradiction | omega))) | (refine J_ifb xR ?_ ?_ <;> (intro hgb; subst hgb)) | (refine J_ifb xR ?_ ?_ <;> intro _) | fail)) | refine J_draw (id := 8) [0, 1, 3, 4, 5, 6, 2, 7] [8, 9] mixed xC xD xD ?_ | fail))
      refine J_again ⟨k + 1, ys, ad3, cc3⟩ (by dsimp only; omega) ⟨by dsimp only; omega, ?_⟩ ⟨rfl, rfl, rfl, rfl, rfl, rfl, trivial⟩ (fun w H => H.sel xZ)
      dsimp only
      rw [take_snoc hs]
      unfold pN at hxs ⊢
      rw [List.map_append, List.map_cons, List.map_nil, pB_snoc, ← hxs, hys]
      simp [segB]
  · have hke : k = p.length := by omega
    rw [hke, List.take_length] at hxs
    subst hxs
    (repeat' (first | ((with_reducible apply gL); (first | refine yL0 ?_ | refine yL ?_ | (refine yM ?_; intro _) | (refine yA ?_; intro _ _ _ _) | fail)) | ((with_reducible apply gD); (first | (refine JD_nil ?_; try simp only [List.cons_append, List.nil_append]) | (refine JD_bar ?_; try simp only [List.cons_append, List.nil_append]) | refine yD ?_ | (refine yE ?_; intro _) | (refine yB ?_; intro _ _ _ _) | fail)) | refine yJ ?_ | ((with_reducible apply gJ_if); (first | (refine J_if xR ?_ ?_ <;> intro _ <;> (try (exfalso; first | contradiction | omega))) | (refine J_ifb xR ?_ ?_ <;> (intro hgb; subst hgb)) | (refine J_ifb xR ?_ ?_ <;> intro _) | fail)) | refine J_draw (id := 8) [0, 1, 3, 4, 5, 6, 2, 7] [8, 9] mixed xC xD xD ?_ | fail))
    exact J_ret2 rfl (by rfl) (by rfl) fun w H => ⟨_, ⟨ad, cc, rfl, rfl⟩, H.sel xZ⟩
end Go.Proofs.YtnhabkipjmgaaaaGreat
namespace Go.Proofs.YtnhabkipjmgaaaaGreat
set_option linter.unusedSimpArgs false
set_option linter.unusedVariables false
set_option maxRecDepth 20000
set_option maxHeartbeats 4000000
open Go.RowKit Go.Pm

/-- A writer and what it wrote. -/
def wrO (wb : Nat) (l : List Int) : HP := fun h => ∃ (ad : Option Addr) (cc : Nat), sats [pts wb [.slice ad l.length cc] 176, Ar 5 1 byC (.slice ad l.length cc) l] h
theorem wrOpen {W : World} {K : Hl} {L R : List HP} {w : World} {wb : Nat} {l : List Int} (H : Ow W K L w) (t : Tk L (wrO wb l) R) : ∃ x : Option Addr × Nat, Ow W K (pts wb [.slice x.1 l.length x.2] 176 :: Ar 5 1 byC (.slice x.1 l.length x.2) l :: R) w := by
  have := H.open t (Bs := fun x : Option Addr × Nat => [pts wb [.slice x.1 l.length x.2] 176, Ar 5 1 byC (.slice x.1 l.length x.2) l]) (fun k ⟨a, c, h⟩ => ⟨(a, c), h⟩)
  exact this
theorem wrShut {W : World} {K : Hl} {L R : List HP} {w : World} {wb m : Nat} {l : List Int} {ad : Option Addr} {cc : Nat} (H : Ow W K L w) (t : Sb L [pts wb [.slice ad m cc] 176, Ar 5 1 byC (.slice ad m cc) l] R) (hm : l.length = m) : Ow W K (wrO wb l :: R) w := by
  subst hm
  exact H.shut t (fun k hk => ⟨ad, cc, hk⟩)
def orF (f : Int) : Int := Go.bits .or .u8 f 16
/-- An attribute's bytes. -/
def putB (f k : Int) (d : List Int) : List Int := (if 255 < d.length then [orF f, k, (d.length : Int) / 256, (d.length : Int) % 256] else [f, k, (d.length : Int)]) ++ d
theorem put_s (wb : Nat) (l : List Int) (f k : Int) (a : Option Addr) (c : Nat) (p : List Bs) (hk : 0 ≤ k ∧ k ≤ 255) (hp : p.length ≤ 1000) (hd : (catB p).length ≤ 65535) (hl : l.length ≤ 1000000000) : Pact Tryz.prog 123 #[.pointer (some ⟨wb, 0, none⟩), .int .u8 f, .int .i64 k, .slice a p.length c] (fun w => PartsV w a c p) [wrO wb l] (fun u L' => L' = [wrO wb (l ++ putB f k (catB p))]) := by
  refine pact Tryz.func123 rfl Tryz.ntmps123 rfl ?_
  intro W K hK
  obtain ⟨hk1, hk2⟩ := hk
  refine J_open (fun w H => wrOpen H .here) ?_
  rintro ⟨ad, cc⟩
  dsimp only
  obtain ⟨d, hD⟩ : ∃ d, catB p = d := ⟨_, rfl⟩
  have hcon := concat_s a c p hp (by omega)
  rw [hD] at hcon hd ⊢
  (repeat' (first | ((with_reducible apply gL); (first | refine yL0 ?_ | ((with_reducible apply gL_c_append); (first | (refine JL_apN (tabE etab_ok xR) xR xR xA xA (by first | exact .cons (.cons (.cons (.cons .nil))) | exact .cons (.cons (.cons .nil))) rfl rfl xC (by omega) xR xR ?_; intro ad4 cc4 _ _) | (refine JL_app (fs := d) (tabE etab_ok xR) xR xR xA (Src.ar xA) xC xL xU (by simp only [List.length_append, List.length_cons, List.length_nil]; omega) xR xR ?_; intro ad5 cc5 _ _) | fail)) | refine yL ?_ | ((with_reducible apply gL_go); (first | (refine JL_goq (hcon) (hφ := (by (try simp only [List.cons_append, List.nil_append]); exact fun w hr => hK w hr.1)) (h := ?_); rintro _ _ ⟨a1, c1, rfl, rfl⟩; try simp only [List.cons_append, List.nil_append]) | fail)) | (refine yM ?_; intro _) | (refine yA ?_; intro _ _ _ _) | fail)) | refine yJ ?_ | ((with_reducible apply gJ_if); (first | (refine J_if xR ?_ ?_ <;> intro _ <;> (try (exfalso; first | contradiction | omega))) | (refine J_ifb xR ?_ ?_ <;> (intro hgb; subst hgb)) | (refine J_ifb xR ?_ ?_ <;> intro _) | fail)) | fail))
  · have e : l ++ putB f k d = l ++ [bits .or .u8 f 16, k, (d.length : Int) / 2 ^ (7 + 1), (d.length : Int) % 256] ++ d := by
      unfold putB orF
      rw [if_pos (by omega)]
      simp
    refine J_end0 rfl fun w H => ⟨_, rfl, ?_⟩
    rw [e]
    exact (wrShut (ad := ad5) (cc := cc5) H xZ List.length_append).sel xZ
  · have e : l ++ putB f k d = l ++ [f, k, (d.length : Int)] ++ d := by
      unfold putB
      rw [if_neg (by omega)]
      simp
    refine J_end0 rfl fun w H => ⟨_, rfl, ?_⟩
    rw [e]
    exact (wrShut (ad := ad5) (cc := cc5) H xZ List.length_append).sel xZ
theorem usual_s (wb : Nat) (l : List Int) (k : Int) (a : Option Addr) (c : Nat) (p : List Bs) (hk : 0 ≤ k ∧ k ≤ 255) (hkn : kno k = true) (hp : p.length ≤ 1000) (hd : (catB p).length ≤ 65535) (hl : l.length ≤ 1000000000) : Pact Tryz.prog 119 #[.pointer (some ⟨wb, 0, none⟩), .int .i64 k, .slice a p.length c] (fun w => PartsV w a c p) [wrO wb l] (fun u L' => L' = [wrO wb (l ++ putB (fl k) k (catB p))]) := by
  refine pact Tryz.func119 rfl Tryz.ntmps119 rfl ?_
  intro W K hK
  have hkk := known_s k
  rw [hkn] at hkk
  (repeat' (first | ((with_reducible apply gL); (first | refine yL0 ?_ | refine yL ?_ | ((with_reducible apply gL_go); (first | (refine JL_goq (hkk) (hφ := xF) (h := ?_); rintro _ _ ⟨f, rfl, hf, rfl⟩; try simp only [List.cons_append, List.nil_append]) | (refine JL_goq (put_s wb l f k a c p hk hp hd hl) (hφ := (by (try simp only [List.cons_append, List.nil_append]); exact fun w hr => hK w hr.1)) (h := ?_); rintro _ _ rfl; try simp only [List.cons_append, List.nil_append]) | fail)) | fail)) | refine yJ ?_ | fail))
  obtain rfl := hf rfl
  exact J_end0 rfl fun w H => ⟨_, rfl, H.sel xZ⟩
end Go.Proofs.YtnhabkipjmgaaaaGreat
