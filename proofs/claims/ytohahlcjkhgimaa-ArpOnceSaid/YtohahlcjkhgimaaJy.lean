/-
  A range over a map: its entries, each once, in any order.
-/
import Derived.Test.YtohahlcjkhgimaaJx
import Derived.Maps.RangeRun
namespace Go.Pm
set_option linter.unusedSimpArgs false
set_option linter.unusedVariables false
open Go.RowKit
section
variable {κ : Type} [DecidableEq κ] {kv : κ → Value}
def bornAt (ents : Array MapEntry) (i : Nat) : Nat := ((ents[i]?).map (·.born)).getD 0
/-- A map and a range over it: what was handed out. -/
def rg (kv : κ → Value) (b r : Nat) (es : List (κ × Value)) (done : List Nat) : HP := fun h => ∃ ents clock seen, r ≠ b ∧ h = (Hl.one b (.map ents clock)).add (Hl.one r (.mapIter (some b) clock seen clock)) ∧
  ents.toList.map (fun e => (e.key, e.val)) = es.map (fun p => (kv p.1, p.2)) ∧ Born ents.toList clock ∧ seen.toList = done.map (bornAt ents) ∧ (∀ i ∈ done, i < ents.size) ∧ done.Nodup
theorem hl_one_disj {b r : Nat} (h : r ≠ b) (o p : Obj) : (Hl.one b o).disj (Hl.one r p) := fun c => by
  unfold Hl.one
  by_cases hc : c = b
  · right; rw [if_neg (by omega)]
  · left; rw [if_neg hc]
omit [DecidableEq κ] in
theorem rg_obj {h : Hl} {b r : Nat} {es : List (κ × Value)} {done : List Nat} (hm : rg kv b r es done h) {w : World} (i : h.inn w) : ∃ ents clock seen, r ≠ b ∧ w.heap[b]? = some (.map ents clock) ∧ w.heap[r]? = some (.mapIter (some b) clock seen clock) ∧
    ents.toList.map (fun e => (e.key, e.val)) = es.map (fun p => (kv p.1, p.2)) ∧ Born ents.toList clock ∧ seen.toList = done.map (bornAt ents) ∧ (∀ i ∈ done, i < ents.size) ∧ done.Nodup := by
  obtain ⟨ents, clock, seen, hne, rfl, h1, h2, h3, h4, h5⟩ := hm
  obtain ⟨i1, i2⟩ := (Hl.inn_add (hl_one_disj hne _ _)).1 i
  exact ⟨ents, clock, seen, hne, i1 b _ (by simp [Hl.one]), i2 r _ (by simp [Hl.one]), h1, h2, h3, h4, h5⟩
variable {P : Program} {n : Nat} {W : World} {K : Hl} {F : Fp} {k : List It} {tm : TM} {L L' R S M M' : List HP} {T : TypeId} {pos : String} {af : Array Edge} {gd : Option (Nat × Bool)} {ops : Array Oper} {rest nx : List Oper} {d : Tmp}
omit [DecidableEq κ] in
theorem wpI_value {o : Oper} {a : Act} {w w' : World} {next : Act → World → Prop} {v : Value} (hr : (execOp a.eval o).run P w = .ok (.value v) w') (h : next (a.put o.dst v) w') : wpI P o a w next := wpI_of_wp (by
  unfold Oper.wp
  rw [hr]
  exact h)
omit [DecidableEq κ] in
theorem ae_range {od : Option Tmp} {t kt et : TypeId} {x : Operand} {b : Nat} {es : List (κ × Value)} (ht : P.underlying t = some (.map kt et)) (hx : evT tm x = some (.map (some b))) :
    AE P n K R [mq kv b es] ⟨od, .range t x, T, pos, af, gd⟩ (tget tm) (fun v L' => ∃ r, v = .pointer (some ⟨r, 0, none⟩) ∧ L' = [rg kv b r es []]) := fun W K' w a next hK hf hO hn => by
  obtain ⟨q, hq, hin⟩ := hO.part
  obtain ⟨ents, clock, ho, he, hbo⟩ := mq_obj hq hin
  have hlt : b < w.heap.size := (Array.getElem?_eq_some_iff.1 ho).1
  refine wpI_value (v := .pointer (some ⟨w.heap.size, 0, none⟩)) (w' := w.alloc (.mapIter (some b) clock #[] clock)) ?_ (hn _ [rg kv b w.heap.size es []] _ ⟨_, rfl, rfl⟩ ?_)
  · unfold execOp
    simp only [hf.eval hx, Sem.run_bind, run_range_map (P := P) w t kt et b ents clock ht ho, Result.andThen_ok, Sem.run_pure]
  · refine Ow.change (show Ow W K' (mq kv b es :: R) w from hO) rfl ((Tp.refl _).same rfl rfl) rfl (by simp) (fun h hh ih => ?_)
    obtain ⟨en, cl, rfl, h1, h2⟩ := hh
    have hh2 := ih b (.map en cl) (by simp [Hl.one])
    rw [ho] at hh2
    cases hh2
    have hne : w.heap.size ≠ b := by omega
    refine ⟨⟨(Hl.one b (.map ents clock)).add (Hl.one w.heap.size (.mapIter (some b) clock #[] clock)), ⟨ents, clock, #[], hne, rfl, h1, h2, rfl, by simp, .nil⟩, (Hl.inn_add (hl_one_disj hne _ _)).2 ⟨fun c o e => ?_, fun c o e => ?_⟩, fun c hc => ?_⟩, fun c hl _ => Below.heap_alloc _ _ _ hl⟩
    · unfold Hl.one at e
      split at e
      · rename_i hc; subst hc; cases e
        rw [Below.heap_alloc _ _ _ hlt]
        exact ho
      · cases e
    · unfold Hl.one at e
      split at e
      · rename_i hc; subst hc; cases e
        show (w.heap.push _)[w.heap.size]? = _
        simp
      · cases e
    · by_cases hcb : c = b
      · left; simp [Hl.one, hcb]
      · right
        by_cases hcw : c = w.heap.size
        · omega
        · exact absurd (by simp [Hl.add, Hl.one, hcb, hcw]) hc
omit [DecidableEq κ] in
theorem born_inj {ents : Array MapEntry} {clock : Nat} (hb : Born ents.toList clock) {i j : Nat} (hi : i < ents.size) (hj : j < ents.size) (h : bornAt ents i = bornAt ents j) : i = j := by
  unfold bornAt at h
  rw [Array.getElem?_eq_getElem hi, Array.getElem?_eq_getElem hj] at h
  simp only [Option.map_some, Option.getD_some] at h
  have hp := List.pairwise_iff_getElem.1 hb.ne
  rcases Nat.lt_trichotomy i j with hl | hl | hl
  · exact absurd h (hp i j (by simpa using hi) (by simpa using hj) hl)
  · exact hl
  · exact absurd h.symm (hp j i (by simpa using hj) (by simpa using hi) hl)
/-- A step: nothing is left, or any one that is left. -/
def NextR (kv : κ → Value) (b r : Nat) (es : List (κ × Value)) (done : List Nat) (v : Value) (L' : List HP) : Prop :=
  (v = .tuple #[.bool false] ∧ (∀ i, i < es.length → i ∈ done) ∧ L' = [rg kv b r es done]) ∨
  (∃ i p, es[i]? = some p ∧ i ∉ done ∧ v = .tuple #[.bool true, kv p.1, p.2] ∧ L' = [rg kv b r es (done ++ [i])])
omit [DecidableEq κ] in
theorem ae_next {od : Option Tmp} {x : Operand} {b r : Nat} {es : List (κ × Value)} {done : List Nat} (hx : evT tm x = some (.pointer (some ⟨r, 0, none⟩))) :
    AE P n K R [rg kv b r es done] ⟨od, .next x false, T, pos, af, gd⟩ (tget tm) (NextR kv b r es done) := fun W K' w a next hK hf hO hn => by
  obtain ⟨q, hq, hin⟩ := hO.part
  obtain ⟨ents, clock, seen, hne, ho, hr, he, hbo, hs, hd, hnd⟩ := rg_obj hq hin
  have hlen : es.length = ents.size := by have := congrArg List.length he; simpa using this.symm
  rcases run_next_at (P := P) w T r b clock clock seen ents clock hr ho hbo.lt (Nat.le_refl _) with ⟨h0, hrun⟩ | ⟨e, hel, w1, hw1, hrun⟩
  · refine wpI_value (v := .tuple #[.bool false]) (w' := w) ?_ (hn _ _ _ (.inl ⟨rfl, fun i hi => ?_, rfl⟩) hO)
    · unfold execOp
      simp only [hf.eval hx, Sem.run_bind, hrun, Result.andThen_ok, Sem.run_pure]
    · rw [hlen] at hi
      have hempty : leftOf ents seen = #[] := Array.eq_empty_of_size_eq_zero h0
      unfold leftOf at hempty
      rw [Array.filter_eq_empty_iff] at hempty
      have hc := hempty ents[i] (by simp)
      simp only [Bool.not_eq_true', Bool.not_eq_false, Array.contains_iff_mem] at hc
      have hc2 : ents[i].born ∈ seen.toList := by simpa using hc
      rw [hs] at hc2
      obtain ⟨j, hj, hje⟩ := List.mem_map.1 hc2
      have : i = j := born_inj hbo hi (hd j hj) (by rw [hje]; unfold bornAt; rw [Array.getElem?_eq_getElem hi]; rfl)
      rw [this]; exact hj
  · unfold leftOf at hel
    rw [Array.toList_filter] at hel
    obtain ⟨hem, hns⟩ := List.mem_filter.1 hel
    obtain ⟨i, hi, hei⟩ := List.getElem_of_mem hem
    have hi' : i < ents.size := by simpa using hi
    have hei' : ents[i] = e := by simpa using hei
    have hnd2 : i ∉ done := fun hmem => by
      have : e.born ∈ seen.toList := by
        rw [hs]
        exact List.mem_map.2 ⟨i, hmem, by unfold bornAt; rw [Array.getElem?_eq_getElem hi', hei']; rfl⟩
      simp at hns
      exact hns (by simpa using this)
    obtain ⟨p, hp⟩ : ∃ p, es[i]? = some p := ⟨_, List.getElem?_eq_getElem (by omega)⟩
    have hkv : e.key = kv p.1 ∧ e.val = p.2 := by
      have := congrArg (·[i]?) he
      simp only [List.getElem?_map, hp, Option.map_some] at this
      rw [List.getElem?_eq_getElem hi] at this
      simp only [Option.map_some, Option.some.injEq, Prod.mk.injEq] at this
      rw [← hei']
      simpa using this
    refine wpI_value (v := .tuple #[.bool true, kv p.1, p.2]) (w' := ChangeMaps.setBlock w1 r (.mapIter (some b) clock (seen.push e.born) clock)) ?_ (hn _ _ _ (.inr ⟨i, p, hp, hnd2, rfl, rfl⟩) ?_)
    · unfold execOp
      simp only [hf.eval hx, Sem.run_bind, hrun, Result.andThen_ok, Sem.run_pure, hkv.1, hkv.2]
    · have hO1 : Ow W K' (rg kv b r es done :: R) w1 := by
        rcases hw1 with rfl | rfl
        · exact hO
        · exact Ow.drew hO
      have hh1 : w1.heap = w.heap := by rcases hw1 with rfl | rfl <;> rfl
      refine Ow.change hO1 rfl ((Tp.refl _).same rfl rfl) rfl (by simp [ChangeMaps.setBlock]) (fun h hh ih => ?_)
      obtain ⟨en, cl, se, _, rfl, g1, g2, g3, g4, g5⟩ := hh
      obtain ⟨i1, i2⟩ := (Hl.inn_add (hl_one_disj hne _ _)).1 ih
      have hh2 := i1 b (.map en cl) (by simp [Hl.one])
      rw [hh1, ho] at hh2
      cases hh2
      have hh3 := i2 r (.mapIter (some b) clock se clock) (by simp [Hl.one])
      rw [hh1, hr] at hh3
      cases hh3
      have hrlt : r < w1.heap.size := by rw [hh1]; exact (Array.getElem?_eq_some_iff.1 hr).1
      refine ⟨⟨(Hl.one b (.map ents clock)).add (Hl.one r (.mapIter (some b) clock (seen.push e.born) clock)), ⟨ents, clock, seen.push e.born, hne, rfl, he, hbo, ?_, ?_, ?_⟩, (Hl.inn_add (hl_one_disj hne _ _)).2 ⟨fun c o e => ?_, fun c o e => ?_⟩, fun c hc => ?_⟩, fun c hl hc => ?_⟩
      · rw [Array.toList_push, hs, List.map_append]
        congr 1
        simp only [List.map_cons, List.map_nil, bornAt, Array.getElem?_eq_getElem hi', Option.map_some, Option.getD_some, hei']
      · intro j hj
        rcases List.mem_append.1 hj with hj | hj
        · exact hd j hj
        · obtain rfl := List.mem_singleton.1 hj; exact hi'
      · refine List.nodup_append.2 ⟨hnd, by simp, fun a ha b hb => ?_⟩
        obtain rfl := List.mem_singleton.1 hb
        rintro rfl
        exact hnd2 ha
      · unfold Hl.one at e
        split at e
        · rename_i hc; subst hc; cases e
          simp only [ChangeMaps.setBlock, Array.getElem?_setIfInBounds, if_neg hne]
          rw [hh1]; exact ho
        · cases e
      · unfold Hl.one at e
        split at e
        · rename_i hc; subst hc; cases e
          simp [ChangeMaps.setBlock, Array.getElem?_setIfInBounds, hrlt]
        · cases e
      · left
        unfold Hl.add Hl.one at hc ⊢
        by_cases h1 : c = b
        · simp [h1]
        · by_cases h2 : c = r
          · simp [h2, hne]
          · simp [h1, h2] at hc
      · have hcr : r ≠ c := fun e => by
          subst e
          simp [Hl.add, Hl.one, hne] at hc
        simp [ChangeMaps.setBlock, Array.getElem?_setIfInBounds, hcr]
omit [DecidableEq κ] in
theorem pe_entry {od : Option Tmp} {x : Operand} {b r i : Nat} {es : List (κ × Value)} {done : List Nat} {p : κ × Value} (hx : evT tm x = some (.pointer (some ⟨r, 0, none⟩))) (hm : Tk L (rg kv b r es (done ++ [i])) R) (hp : es[i]? = some p) :
    PE P K L ⟨od, .entry x, T, pos, af, gd⟩ (tget tm) (.tuple #[kv p.1, p.2]) := fun ρ w ha hr => by
  have h1 := ha x (by simp [Op.operands]) _ hx
  obtain ⟨q, hq, hin⟩ := hr.tk hm
  obtain ⟨ents, clock, seen, hne, ho, hri, he, hbo, hs, hd, hnd⟩ := rg_obj hq hin
  have hi : i < ents.size := hd i (by simp)
  have hsn : seen = (seen.pop).push ents[i].born := by
    have h2 : seen.toList = done.map (bornAt ents) ++ [ents[i].born] := by
      rw [hs, List.map_append]
      congr 1
      simp [bornAt, Array.getElem?_eq_getElem hi]
    apply Array.ext'
    rw [Array.toList_push, Array.toList_pop, h2, List.dropLast_concat]
  rw [hsn] at hri
  have hn : (ents.toList.map (·.born)).Nodup := List.pairwise_map.2 hbo.ne
  have hkv : ents[i].key = kv p.1 ∧ ents[i].val = p.2 := by
    have := congrArg (·[i]?) he
    simp only [List.getElem?_map, hp, Option.map_some] at this
    rw [List.getElem?_eq_getElem (by simpa using hi)] at this
    simp only [Option.map_some, Option.some.injEq, Prod.mk.injEq] at this
    simpa using this
  unfold execOp
  simp only [h1, Sem.run_bind, run_entry_at (P := P) w r b clock seen.pop ents clock ents[i] hri ho (by simp) hn, Result.andThen_ok, Sem.run_pure, hkv.1, hkv.2]
omit [DecidableEq κ] in
/-- The range is over: the map is as it was. -/
theorem Ow.rgOver {w : World} {b r : Nat} {es : List (κ × Value)} {done : List Nat} (H : Ow W K L w) (t : Tk L (rg kv b r es done) R) : Ow W K (mq kv b es :: R) w := by
  have H1 := (H.tk t).imp (B := sats [mq kv b es, fun _ => True]) (fun h hh => by
    obtain ⟨ents, clock, seen, hne, rfl, h1, h2, _⟩ := hh
    exact ⟨Hl.one b (.map ents clock), Hl.one r (.mapIter (some b) clock seen clock), ⟨ents, clock, rfl, h1, h2⟩, ⟨Hl.one r (.mapIter (some b) clock seen clock), fun _ => none, trivial, fun _ => rfl, fun _ => .inr rfl, by funext c; simp [Hl.add]⟩, hl_one_disj hne _ _, rfl⟩)
  have H2 := H1.flat .here
  exact (H2.perm (.swap ..)).drop
omit [DecidableEq κ] in
theorem JL_range (kv : κ → Value) {t kt et : TypeId} {x : Operand} {b : Nat} {es : List (κ × Value)} (ht : P.underlying t = some (.map kt et)) (hx : evT tm x = some (.map (some b))) (hm : Tk L (mq kv b es) R) (hn : Nat.blt d n = true) (hg : wantF ops ⟨some d, .range t x, T, pos, af, gd⟩ (tget tm) = some true)
    (h : ∀ r, JL P n W K F ops k rest ((d, .pointer (some ⟨r, 0, none⟩)) :: tm) (rg kv b r es [] :: R)) : JL P n W K F ops k (⟨some d, .range t x, T, pos, af, gd⟩ :: rest) tm L :=
  JL_a rfl hn hg (.cons hm .nil) (ae_range ht hx) (by rintro _ _ ⟨r, rfl, rfl⟩; exact h r)
omit [DecidableEq κ] in
theorem JL_next (kv : κ → Value) {x : Operand} {b r : Nat} {es : List (κ × Value)} {done : List Nat} (hx : evT tm x = some (.pointer (some ⟨r, 0, none⟩))) (hm : Tk L (rg kv b r es done) R) (hn : Nat.blt d n = true) (hg : wantF ops ⟨some d, .next x false, T, pos, af, gd⟩ (tget tm) = some true)
    (h1 : (∀ i, i < es.length → i ∈ done) → JL P n W K F ops k rest ((d, .tuple #[.bool false]) :: tm) (rg kv b r es done :: R))
    (h2 : ∀ i p, es[i]? = some p → i ∉ done → JL P n W K F ops k rest ((d, .tuple #[.bool true, kv p.1, p.2]) :: tm) (rg kv b r es (done ++ [i]) :: R)) : JL P n W K F ops k (⟨some d, .next x false, T, pos, af, gd⟩ :: rest) tm L :=
  JL_a rfl hn hg (.cons hm .nil) (ae_next hx) (by
    rintro _ _ (⟨rfl, h, rfl⟩ | ⟨i, p, h, h', rfl, rfl⟩)
    · exact h1 h
    · exact h2 i p h h')
theorem pe_lookGK {od : Option Tmp} {t : TypeId} {x y : Operand} {b : Nat} {z : κ} {es : List (κ × Value)} {zv : Value} {ok : Bool} {v : Value} (ht : MI P t kv zv) (hx : evT tm x = some (.map (some b))) (hy : evT tm y = some (kv z)) (hm : Kn K (fun w => ∃ h, mq kv b es h ∧ h.inn w)) (hq : lookV (aG es z) zv ok = v) : PE P K L ⟨od, .lookup t x y ok, T, pos, af, gd⟩ (tget tm) v := fun ρ w ha hr => by
  subst hq
  have h1 := ha x (by simp [Op.operands]) _ hx
  have h2 := ha y (by simp [Op.operands]) _ hy
  obtain ⟨key, elem, i, hu, ⟨kd, hk, hs, hck, _⟩, hi, hz⟩ := ht
  obtain ⟨q, hq, hin⟩ := hm w hr.1
  obtain ⟨ents, clock, ho, he, hbo⟩ := mq_obj hq hin
  unfold execOp
  simp only [h1, h2]
  rcases findNow_aG hs z ents.toList es 0 he with ⟨e1, e2, _⟩ | ⟨j, v', e1, e2, _⟩
  · simp only [Instr.lookup, Sem.run_bind, run_underlying hu, Result.andThen_ok, run_getObj ho, Sem.run_pure, hck, run_findKeyG hk e2, zeroValue, typeInfo, e1, lookV]
    cases ok <;> simp [hi, hz]
  · simp only [Instr.lookup, Sem.run_bind, run_underlying hu, Result.andThen_ok, run_getObj ho, Sem.run_pure, hck, run_findKeyG hk e2, e1, lookV]
    cases ok <;> simp
omit [DecidableEq κ] in
theorem Rdw.mq {b : Nat} {es : List (κ × Value)} {w : World} (h : Rdw K L w) (t : Tk L (mq kv b es) R) : ∃ q, Pm.mq kv b es q ∧ q.inn w := h.tk t
theorem gL_range {od : Option Tmp} {t : TypeId} {x : Operand} (h : JL P n W K F ops k (⟨od, .range t x, T, pos, af, gd⟩ :: rest) tm L) : JL P n W K F ops k (⟨od, .range t x, T, pos, af, gd⟩ :: rest) tm L := h
theorem gL_next {od : Option Tmp} {x : Operand} {bb : Bool} (h : JL P n W K F ops k (⟨od, .next x bb, T, pos, af, gd⟩ :: rest) tm L) : JL P n W K F ops k (⟨od, .next x bb, T, pos, af, gd⟩ :: rest) tm L := h
theorem gL_entry {od : Option Tmp} {x : Operand} (h : JL P n W K F ops k (⟨od, .entry x, T, pos, af, gd⟩ :: rest) tm L) : JL P n W K F ops k (⟨od, .entry x, T, pos, af, gd⟩ :: rest) tm L := h
end
end Go.Pm
