/-
  Jd: merged.
-/
import Derived.Test.YtdnokmpnemaoaaaGreatZViewChooses4
namespace Go.Pm
set_option linter.unusedSimpArgs false
set_option linter.unusedVariables false
open Go.RowKit

inductive It where
  | code (c : Code)
  | blk (id : Nat)
  | hole (H : Act → World → Prop)
  | jmp (l : Nat) (H : Act → World → Prop)

structure Fp where
  ro : Option Nat
  post : Exit → Act → World → Prop
def runK (P : Program) (F : Fp) : List It → Exit → Act → World → Prop
  | [] => F.post
  | .code c :: k => Exit.then (c.wpIn (wideR F.ro) 0 P (runK P F k)) (runK P F k)
  | .blk id :: k => Exit.inBlock id (runK P F k)
  | .hole H :: k => Exit.then H (runK P F k)
  | .jmp l H :: k => Exit.jump l H (runK P F k)

structure J (P : Program) (n : Nat) (W : World) (K : Hl) (F : Fp) (k : List It) (tm : TM) (L : List HP) : Prop where
  mk ::
  h : ∀ a w, Fit n (tget tm) a → Ow W K L w → runK P F k .normal a w
instance {P : Program} {n : Nat} {W : World} {K : Hl} {F : Fp} {k : List It} {tm : TM} {L : List HP} : CoeFun (J P n W K F k tm L) (fun _ => ∀ a w, Fit n (tget tm) a → Ow W K L w → runK P F k .normal a w) := ⟨J.h⟩
structure JL (P : Program) (n : Nat) (W : World) (K : Hl) (F : Fp) (ops : Array Oper) (k : List It) (rest : List Oper) (tm : TM) (L : List HP) : Prop where
  mk ::
  h : ∀ a w, Fit n (tget tm) a → Ow W K L w → wpListIn (wideR F.ro) 0 P ops (runK P F k) rest a w
instance {P : Program} {n : Nat} {W : World} {K : Hl} {F : Fp} {ops : Array Oper} {k : List It} {rest : List Oper} {tm : TM} {L : List HP} : CoeFun (JL P n W K F ops k rest tm L) (fun _ => ∀ a w, Fit n (tget tm) a → Ow W K L w → wpListIn (wideR F.ro) 0 P ops (runK P F k) rest a w) := ⟨JL.h⟩
def fin0 (P : Program) (n : Nat) (W : World) (K : Hl) (F : Fp) (k : List It) (f : TF) (L : List HP) : Prop :=
  ∀ a w, Fit n f a → Ow W K L w → runK P F k .normal a w
structure JD (P : Program) (n : Nat) (W : World) (K : Hl) (F : Fp) (ops : Array Oper) (k : List It) (nx rest : List Oper) (tm : TM) (S M : List HP) : Prop where
  mk ::
  h : DW P n K ops (fun f L => DW P n K ops (fin0 P n W K F k) nx f [] L) rest (tget tm) S M

section
variable {P : Program} {n : Nat} {W : World} {K : Hl} {F : Fp} {k k' : List It} {tm tm' : TM} {L L' R : List HP}

/-! Code. -/
theorem J_seq {x y : Code} (h : J P n W K F (.code x :: .code y :: k) tm L) : J P n W K F (.code (.seq x y) :: k) tm L := .mk <| fun a w hf hO => wpIn_seq (h a w hf hO)
theorem J_skip (h : J P n W K F k tm L) : J P n W K F (.code .skip :: k) tm L := .mk <| fun a w hf hO => wpIn_skip (h a w hf hO)
theorem J_label {l : Nat} (h : J P n W K F k tm L) : J P n W K F (.code (.label l) :: k) tm L := .mk <| fun a w hf hO => wpIn_label (h a w hf hO)
theorem J_block {id : Nat} {c : Code} (h : J P n W K F (.code c :: .blk id :: k) tm L) : J P n W K F (.code (.block id c) :: k) tm L := .mk <| fun a w hf hO => wpIn_block (h a w hf hO)
theorem J_blk {id : Nat} (h : J P n W K F k tm L) : J P n W K F (.blk id :: k) tm L := ⟨h.h⟩
def popK (id : Nat) : List It → Option (List It)
  | [] => none
  | .blk i :: k => bif Nat.beq id i then some k else popK id k
  | .code _ :: k => popK id k
  | .hole _ :: k => popK id k
  | .jmp _ _ :: k => popK id k
theorem runK_pop {id : Nat} : ∀ {k k' : List It}, popK id k = some k' → ∀ a w, runK P F k' .normal a w → runK P F k (.exit id) a w
  | [], _, h, _, _, _ => by cases h
  | .blk i :: k, k', h, a, w, h2 => by
    simp only [popK] at h
    by_cases hi : id = i
    · subst hi
      simp at h
      subst h
      simp only [runK, Exit.inBlock, if_pos]
      exact h2
    · have : Nat.beq id i = false := by rw [Bool.eq_false_iff]; intro hb; exact hi (Nat.eq_of_beq_eq_true hb)
      rw [this] at h
      simp only [runK, Exit.inBlock, if_neg hi]
      exact runK_pop h a w h2
  | .code _ :: k, k', h, a, w, h2 => by simpa only [runK, Exit.then] using runK_pop (k := k) h a w h2
  | .hole _ :: k, k', h, a, w, h2 => by simpa only [runK, Exit.then] using runK_pop (k := k) h a w h2
  | .jmp _ _ :: k, k', h, a, w, h2 => by simpa only [runK, Exit.jump] using runK_pop (k := k) h a w h2
theorem J_exit {id : Nat} (hp : popK id k = some k') (h : J P n W K F k' tm L) : J P n W K F (.code (.exit id) :: k) tm L := .mk <| fun a w hf hO => wpIn_exit (runK_pop hp a w (h a w hf hO))
theorem runK_ret : ∀ {k : List It} {a : Act} {w : World}, F.post .ret a w → runK P F k .ret a w
  | [], _, _, h => h
  | .code _ :: k, _, _, h => runK_ret (k := k) h
  | .blk _ :: k, _, _, h => runK_ret (k := k) h
  | .hole _ :: k, _, _, h => runK_ret (k := k) h
  | .jmp _ _ :: k, _, _, h => runK_ret (k := k) h
theorem J_if {c : Operand} {x y : Code} {p : Prop} [Decidable p] (hc : evT tm c = some (.bool (decide p))) (ht : p → J P n W K F (.code x :: k) tm L) (hf : ¬ p → J P n W K F (.code y :: k) tm L) : J P n W K F (.code (.cond c x y) :: k) tm L := .mk <| fun a w hfit hO => by
  by_cases hp : p
  · exact wpIn_cond_true (by rw [hfit.eval hc]; simp [hp]) (ht hp a w hfit hO)
  · exact wpIn_cond_false (by rw [hfit.eval hc]; simp [hp]) (hf hp a w hfit hO)
theorem J_ifb {c : Operand} {x y : Code} {b : Bool} (hc : evT tm c = some (.bool b)) (ht : b = true → J P n W K F (.code x :: k) tm L) (hf : b = false → J P n W K F (.code y :: k) tm L) : J P n W K F (.code (.cond c x y) :: k) tm L := .mk <| fun a w hfit hO => by
  cases b with
  | true => exact wpIn_cond_true (hfit.eval hc) (ht rfl a w hfit hO)
  | false => exact wpIn_cond_false (hfit.eval hc) (hf rfl a w hfit hO)
theorem J_ift {c : Operand} {x y : Code} (hc : evT tm c = some (.bool true)) (ht : J P n W K F (.code x :: k) tm L) : J P n W K F (.code (.cond c x y) :: k) tm L := .mk <| fun a w hfit hO => wpIn_cond_true (hfit.eval hc) (ht a w hfit hO)
theorem J_iff {c : Operand} {x y : Code} (hc : evT tm c = some (.bool false)) (ht : J P n W K F (.code y :: k) tm L) : J P n W K F (.code (.cond c x y) :: k) tm L := .mk <| fun a w hfit hO => wpIn_cond_false (hfit.eval hc) (ht a w hfit hO)

/-! What is known is used, forgotten, said otherwise. -/
def subTM : TM → TM → Prop
  | [], _ => True
  | (t, v) :: r, tm => tget tm t = some v ∧ subTM r tm
theorem subTM.get : ∀ {s tm : TM}, subTM s tm → ∀ t v, tget s t = some v → tget tm t = some v
  | [], _, _, _, _, h => by cases h
  | (u, x) :: r, tm, h, t, v, hg => by
    simp only [tget] at hg
    by_cases hu : u = t
    · subst hu; simp at hg; subst hg; exact h.1
    · have : Nat.beq u t = false := by rw [Bool.eq_false_iff]; intro hb; exact hu (Nat.eq_of_beq_eq_true hb)
      rw [this] at hg
      exact subTM.get h.2 t v hg
theorem Fit.sub {a : Act} (h : Fit n (tget tm) a) (hs : subTM tm' tm) (hm : decM (tget tm' mkK) = decM (tget tm mkK)) : Fit n (tget tm') a := ⟨by rw [hm]; exact h.d, h.sz, h.lt, fun t v hn e => h.v t v hn (hs.get t v e)⟩
theorem J_heap (hh : ∀ w, Ow W K L w → Ow W K L' w) (h : J P n W K F k tm L') : J P n W K F k tm L := .mk <| fun a w hf hO => h a w hf (hh w hO)
theorem J_open {α : Type} {Lx : α → List HP} (hh : ∀ w, Ow W K L w → ∃ x, Ow W K (Lx x) w) (h : ∀ x, J P n W K F k tm (Lx x)) : J P n W K F k tm L := .mk <| fun a w hf hO => by
  obtain ⟨x, hx⟩ := hh w hO
  exact h x a w hf hx
theorem J_fact {φ : Prop} (hh : ∀ w, Ow W K L w → φ) (h : φ → J P n W K F k tm L) : J P n W K F k tm L := .mk <| fun a w hf hO => h (hh w hO) a w hf hO
theorem Ow.putOb {D : Nat} {o : Obj} {w : World} (H : Ow W K (ob D o :: L) w) (o' : Obj) : Ow W K (ob D o' :: L) (w.putObj D o') := by
  refine H.change rfl ((Tp.refl _).same rfl rfl) rfl (by simp) fun h hA i => ?_
  obtain rfl : h = Hl.one D o := hA
  have hlt : D < w.heap.size := i.lt (b := D) (o := o) (by simp [Hl.one])
  refine ⟨⟨Hl.one D o', rfl, fun c x e => ?_, fun c hc => ?_⟩, fun c hl hc => World.putObj_heap_other (fun e => ?_)⟩
  · unfold Hl.one at e
    split at e
    · rename_i h; subst h; cases e; exact World.putObj_heap_same hlt
    · cases e
  · left
    unfold Hl.one at hc ⊢
    split at hc <;> simp_all
  · subst e; simp [Hl.one] at hc

/-! Returns. -/
def retR (W : World) (K : Hl) (Rr : Value → List HP → Prop) : Ending → World → Prop := fun e w' => ∃ v L', Rr v L' ∧ e = .returned v ∧ Ow W K L' w'
section
variable {fn : Func} {Rr : Value → List HP → Prop}
def dfr (D : Nat) : HP := ob D (.deferred (some []))
theorem leavesM {tmps : Array Value} {R : Ending → World → Prop} : ∀ (Ds : List Nat) (w : World), Ow W K (Ds.map dfr ++ L) w → (∀ w', Ow W K L w' → ∃ v, (results fn tmps).run P w' = .ok v w' ∧ R (.returned v) w') → LeavesInM Fence.wide 0 P fn tmps R (Ds.map mark) .returning w
  | [], w, H, h => by obtain ⟨v, h1, h2⟩ := h w H; exact ⟨v, h1, h2⟩
  | D :: Ds, w, H, h => by
    obtain ⟨hx, hA, i⟩ := Ow.part H
    obtain rfl : hx = Hl.one D (.deferred (some [])) := hA
    have hD : w.heap[D]? = some (.deferred (some [])) := i D _ (by simp [Hl.one])
    refine ⟨by simp, .inl ⟨D, w.putObj D (.deferred none), rfl, run_takeDeferred hD, leavesM Ds _ ?_ h⟩⟩
    have H2 : Ow W K (ob D (.deferred none) :: (Ds.map dfr ++ L)) (w.putObj D (.deferred none)) := H.putOb _
    exact H2.drop
def fpost (P : Program) (fn : Func) (W : World) (K : Hl) (Rr : Value → List HP → Prop) : Fp := ⟨none, bodyPostM Fence.wide 0 P fn (retR W K Rr)⟩
theorem J_out {Ds : List Nat} (hm : decM (tget tm mkK) = Ds) (h : ∀ a w, Fit n (tget tm) a → Ow W K L w → ∃ L', Ow W K (Ds.map dfr ++ L') w ∧ ∀ w', Ow W K L' w' → ∃ v, (results fn a.tmps).run P w' = .ok v w' ∧ ∃ L'', Rr v L'' ∧ Ow W K L'' w') : ∀ a w, Fit n (tget tm) a → Ow W K L w → LeavesInM Fence.wide 0 P fn a.tmps (retR W K Rr) a.defers .returning w := fun a w hf hO => by
  obtain ⟨L', H, h2⟩ := h a w hf hO
  rw [hf.d, hm]
  refine leavesM Ds w H fun w' H' => ?_
  obtain ⟨v, h3, L'', h4, h5⟩ := h2 w' H'
  exact ⟨v, h3, v, L'', h4, rfl, h5⟩
theorem J_outR {Ds : List Nat} (hm : decM (tget tm mkK) = Ds) (h : ∀ a w, Fit n (tget tm) a → Ow W K L w → ∃ L', Ow W K (Ds.map dfr ++ L') w ∧ ∀ w', Ow W K L' w' → ∃ v, (results fn a.tmps).run P w' = .ok v w' ∧ ∃ L'', Rr v L'' ∧ Ow W K L'' w') : J P n W K (fpost P fn W K Rr) (.code .ret :: k) tm L := .mk <| fun a w hf hO => wpIn_ret (runK_ret (J_out hm h a w hf hO))
theorem J_outE {Ds : List Nat} (hm : decM (tget tm mkK) = Ds) (h : ∀ a w, Fit n (tget tm) a → Ow W K L w → ∃ L', Ow W K (Ds.map dfr ++ L') w ∧ ∀ w', Ow W K L' w' → ∃ v, (results fn a.tmps).run P w' = .ok v w' ∧ ∃ L'', Rr v L'' ∧ Ow W K L'' w') : J P n W K (fpost P fn W K Rr) [] tm L := .mk <| fun a w hf hO => J_out hm h a w hf hO
theorem J_ret0M {Ds : List Nat} (hm : decM (tget tm mkK) = Ds) (hr : fn.results = #[]) (hk : ∀ w, Ow W K L w → ∃ L', Rr (.tuple #[]) L' ∧ Ow W K (Ds.map dfr ++ L') w) : J P n W K (fpost P fn W K Rr) (.code .ret :: k) tm L := J_outR hm fun a w hf hO => by
  obtain ⟨L', h1, h2⟩ := hk w hO
  exact ⟨L', h2, fun w' H => ⟨_, results_none hr _ _ _, L', h1, H⟩⟩
theorem J_end0M {Ds : List Nat} (hm : decM (tget tm mkK) = Ds) (hr : fn.results = #[]) (hk : ∀ w, Ow W K L w → ∃ L', Rr (.tuple #[]) L' ∧ Ow W K (Ds.map dfr ++ L') w) : J P n W K (fpost P fn W K Rr) [] tm L := J_outE hm fun a w hf hO => by
  obtain ⟨L', h1, h2⟩ := hk w hO
  exact ⟨L', h2, fun w' H => ⟨_, results_none hr _ _ _, L', h1, H⟩⟩
theorem J_ret0 (hr : fn.results = #[]) (hk : ∀ w, Ow W K L w → ∃ L', Rr (.tuple #[]) L' ∧ Ow W K L' w) (hm : decM (tget tm mkK) = [] := by rfl) : J P n W K (fpost P fn W K Rr) (.code .ret :: k) tm L := J_ret0M hm hr hk
theorem J_end0 (hr : fn.results = #[]) (hk : ∀ w, Ow W K L w → ∃ L', Rr (.tuple #[]) L' ∧ Ow W K L' w) (hm : decM (tget tm mkK) = [] := by rfl) : J P n W K (fpost P fn W K Rr) [] tm L := J_end0M hm hr hk
theorem Fit.getD {a : Act} (h : Fit n (tget tm) a) {t : Nat} {v : Value} (e : evT tm (.tmp t) = some v) : a.tmps.getD t undef = v := h.eval e
theorem Fit.get? {a : Act} (h : Fit n (tget tm) a) {t : Nat} {v : Value} (e : evT tm (.tmp t) = some v) : a.tmps[t]? = some v := by
  obtain ⟨h1, h2⟩ := fget_some e
  exact h.v t v h1 h2
theorem J_ret1M {t : Tmp} {v : Value} {Ds : List Nat} (hm : decM (tget tm mkK) = Ds) (hr : fn.results = #[.tmp t]) (hv : evT tm (.tmp t) = some v) (hk : ∀ w, Ow W K L w → ∃ L', Rr v L' ∧ Ow W K (Ds.map dfr ++ L') w) : J P n W K (fpost P fn W K Rr) (.code .ret :: k) tm L := J_outR hm fun a w hf hO => by
  obtain ⟨L', h1, h2⟩ := hk w hO
  exact ⟨L', h2, fun w' H => ⟨v, by rw [← hf.getD hv]; exact results_tmp hr _ _ _, L', h1, H⟩⟩
theorem J_ret1 {t : Tmp} {v : Value} (hr : fn.results = #[.tmp t]) (hv : evT tm (.tmp t) = some v) (hk : ∀ w, Ow W K L w → ∃ L', Rr v L' ∧ Ow W K L' w) (hm : decM (tget tm mkK) = [] := by rfl) : J P n W K (fpost P fn W K Rr) (.code .ret :: k) tm L := J_ret1M hm hr hv hk
theorem J_ret2M {t u : Tmp} {v x : Value} {Ds : List Nat} (hm : decM (tget tm mkK) = Ds) (hr : fn.results = #[.tmp t, .tmp u]) (hv : evT tm (.tmp t) = some v) (hx : evT tm (.tmp u) = some x) (hk : ∀ w, Ow W K L w → ∃ L', Rr (.tuple #[v, x]) L' ∧ Ow W K (Ds.map dfr ++ L') w) : J P n W K (fpost P fn W K Rr) (.code .ret :: k) tm L := J_outR hm fun a w hf hO => by
  obtain ⟨L', h1, h2⟩ := hk w hO
  exact ⟨L', h2, fun w' H => ⟨.tuple #[v, x], by rw [← hf.getD hv, ← hf.getD hx]; exact results_tmp2 hr _ _ _, L', h1, H⟩⟩
theorem J_ret2 {t u : Tmp} {v x : Value} (hr : fn.results = #[.tmp t, .tmp u]) (hv : evT tm (.tmp t) = some v) (hx : evT tm (.tmp u) = some x) (hk : ∀ w, Ow W K L w → ∃ L', Rr (.tuple #[v, x]) L' ∧ Ow W K L' w) (hm : decM (tget tm mkK) = [] := by rfl) : J P n W K (fpost P fn W K Rr) (.code .ret :: k) tm L := J_ret2M hm hr hv hx hk
theorem run_cellR {ty T : TypeId} {b : Nat} {cs : List Value} {w : World} (H : Ow W K L w) (hm : Tk L (pts b cs T) R) (ht : rowTy P ty cs.length = true) : (loadVar ty ⟨b, 0, none⟩).run P w = .ok (.agg cs.toArray) w := run_load_row (P := P) (w := w) (t := ty) (b := b) (o := 0) ht (by simpa using (H.blk hm).range)
theorem J_retC {t : Tmp} {ty T : TypeId} {b : Nat} {cs : List Value} (hr : fn.results = #[.cell t ty]) (hv : evT tm (.tmp t) = some (.pointer (some ⟨b, 0, none⟩))) (hm : Tk L (pts b cs T) R) (ht : rowTy P ty cs.length = true) (hk : ∀ w, Ow W K L w → ∃ L', Rr (.agg cs.toArray) L' ∧ Ow W K L' w) (hd : decM (tget tm mkK) = [] := by rfl) : J P n W K (fpost P fn W K Rr) (.code .ret :: k) tm L := J_outR hd fun a w hf hO => by
  refine ⟨L, hO, fun w' H => ?_⟩
  obtain ⟨L', h1, h2⟩ := hk w' H
  exact ⟨_, by simp [results, hr, hf.get? hv, run_cellR H hm ht, Array.getD_eq_getD_getElem?, asAddr], L', h1, h2⟩
theorem J_retC1 {t u : Tmp} {v : Value} {ty T : TypeId} {b : Nat} {cs : List Value} (hr : fn.results = #[.cell t ty, .tmp u]) (hv : evT tm (.tmp t) = some (.pointer (some ⟨b, 0, none⟩))) (hu : evT tm (.tmp u) = some v) (hm : Tk L (pts b cs T) R) (ht : rowTy P ty cs.length = true) (hk : ∀ w, Ow W K L w → ∃ L', Rr (.tuple #[.agg cs.toArray, v]) L' ∧ Ow W K L' w) (hd : decM (tget tm mkK) = [] := by rfl) : J P n W K (fpost P fn W K Rr) (.code .ret :: k) tm L := J_outR hd fun a w hf hO => by
  refine ⟨L, hO, fun w' H => ?_⟩
  obtain ⟨L', h1, h2⟩ := hk w' H
  exact ⟨_, by simp [results, hr, hf.get? hv, hf.get? hu, run_cellR H hm ht, Array.getD_eq_getD_getElem?, asAddr], L', h1, h2⟩
end

theorem J_start {f : FuncId} {fn : Func} {c : Code} {args : Array Value} {w : World} {Rr : Value → List HP → Prop} (hf : P.funcs[f]? = some fn) (hb : fn.body = some c) {nt : Nat} (hn : fn.ntmps = nt) (ha : args.size ≤ nt) (hlt : nt ≤ mkK) (H : Ow W K L w) {tm : TM} (ht : ∀ t v, tget tm t = some v → args[t]? = some v)
    (h : J P nt W K (fpost P fn W K Rr) [.code c] tm L) : Calls P f args w (retR W K Rr) := by
  subst hn
  refine callsIn_wide.1 (callsIn_of_wp_marks (n := 0) (F := Fence.wide) hf hb trivial (h _ w ⟨?_, by simp; omega, hlt, fun t v _ e => ?_⟩ H))
  · cases hq : tget tm mkK with
    | none => rfl
    | some v =>
      exfalso
      have := (Array.getElem?_eq_some_iff.1 (ht _ _ hq)).1
      omega
  have h1 := ht t v e
  have hlt := (Array.getElem?_eq_some_iff.1 h1).1
  rw [Array.getElem?_append_left hlt]
  exact h1
def argTM : Nat → List Value → TM
  | _, [] => []
  | i, v :: r => (i, v) :: argTM (i + 1) r
theorem argTM_get : ∀ (l : List Value) (i t : Nat) (v : Value), tget (argTM i l) t = some v → i ≤ t ∧ l[t - i]? = some v
  | [], _, _, _, h => by cases h
  | x :: r, i, t, v, h => by
    simp only [argTM, tget] at h
    by_cases hu : i = t
    · subst hu; simp at h; subst h; simp
    · have : Nat.beq i t = false := by rw [Bool.eq_false_iff]; intro hb; exact hu (Nat.eq_of_beq_eq_true hb)
      rw [this] at h
      obtain ⟨h1, h2⟩ := argTM_get r (i + 1) t v h
      refine ⟨by omega, ?_⟩
      rw [show t - i = (t - (i + 1)) + 1 by omega]
      simpa using h2
theorem pact {f : FuncId} {fn : Func} {c : Code} {args : List Value} {φ : World → Prop} {pre : List HP} {Rr : Value → List HP → Prop} (hf : P.funcs[f]? = some fn) (hb : fn.body = some c) {nt : Nat} (hn : fn.ntmps = nt) (ha : (Nat.ble args.length nt && Nat.ble nt 1000000) = true)
    (h : ∀ W K, Kn K φ → J P nt W K (fpost P fn W K Rr) [.code c] (argTM 0 args) pre) : Pact P f args.toArray φ pre Rr := fun W K w hK H =>
  J_start hf hb hn (by simp at ha ⊢; omega) (by simp at ha; show nt ≤ 1000000; omega) H (fun t v e => by have := argTM_get args 0 t v e; simpa using this.2) (h W K hK)

theorem J_mark0 (h : J P n W K F k ((mkK, encM []) :: tm) L) (hm : decM (tget tm mkK) = [] := by rfl) : J P n W K F k tm L := .mk <| fun a w hf hO => h a w ⟨by show _ = (decM (some (encM []))).map mark; rw [dec_enc, hf.d, hm], hf.sz, hf.lt, fun t v ht hv => hf.v t v ht (by
  have : Nat.beq mkK t = false := by rw [Bool.eq_false_iff]; intro hb; exact ht (Nat.eq_of_beq_eq_true hb).symm
  simpa [tget, this] using hv)⟩ hO

/-! Loops. -/
def Inv {α : Type} (n : Nat) (W : World) (K : Hl) (m : α → Nat) (I : α → Prop) (tmI : α → TM) (LI : α → List HP) (b : Nat) : Act → World → Prop := fun a w => ∃ x, m x < b ∧ I x ∧ Fit n (tget (tmI x)) a ∧ Ow W K (LI x) w
theorem J_loop {α : Type} (x0 : α) (m : α → Nat) (I : α → Prop) (tmI : α → TM) (LI : α → List HP) {c : Code} (h0 : I x0) (ht : subTM (tmI x0) tm) (hL : ∀ w, Ow W K L w → Ow W K (LI x0) w)
    (hr : ∀ x, I x → J P n W K F (.code c :: .hole (Inv n W K m I tmI LI (m x)) :: k) (tmI x) (LI x)) (hm : decM (tget (tmI x0) mkK) = decM (tget tm mkK) := by rfl) : J P n W K F (.code (.loop c) :: k) tm L := .mk <| fun a w hf hO => by
  classical
  have key : ∀ b a w, (∃ x, m x < b ∧ I x ∧ Fit n (tget (tmI x)) a ∧ Ow W K (LI x) w) → ∃ b', (∃ x, m x = b' ∧ I x ∧ Fit n (tget (tmI x)) a ∧ Ow W K (LI x) w) ∧ b' < b ∧ ∀ c, (∃ x, m x = c ∧ I x ∧ Fit n (tget (tmI x)) a ∧ Ow W K (LI x) w) → b' ≤ c := by
    intro b a w
    induction b using Nat.strongRecOn with
    | _ b ih =>
      rintro ⟨x, hx, h1, h2, h3⟩
      by_cases hy : ∃ y, m y < m x ∧ I y ∧ Fit n (tget (tmI y)) a ∧ Ow W K (LI y) w
      · obtain ⟨b', h4, h5, h6⟩ := ih (m x) hx hy
        exact ⟨b', h4, by omega, h6⟩
      · refine ⟨m x, ⟨x, rfl, h1, h2, h3⟩, hx, fun c ⟨y, h4, h5⟩ => ?_⟩
        rcases Nat.lt_or_ge (m y) (m x) with h6 | h6
        · exact (hy ⟨y, h6, h5⟩).elim
        · omega
  let Iv : Act → World → Prop := fun a w => ∃ x, I x ∧ Fit n (tget (tmI x)) a ∧ Ow W K (LI x) w
  let μ : Act → World → Nat := fun a w => if h : ∃ b, (∃ x, m x = b ∧ I x ∧ Fit n (tget (tmI x)) a ∧ Ow W K (LI x) w) ∧ ∀ c, (∃ x, m x = c ∧ I x ∧ Fit n (tget (tmI x)) a ∧ Ow W K (LI x) w) → b ≤ c then h.choose else 0
  have hμ : ∀ a w, Iv a w → (∃ x, m x = μ a w ∧ I x ∧ Fit n (tget (tmI x)) a ∧ Ow W K (LI x) w) ∧ ∀ c, (∃ x, m x = c ∧ I x ∧ Fit n (tget (tmI x)) a ∧ Ow W K (LI x) w) → μ a w ≤ c := by
    rintro a w ⟨x, h1, h2, h3⟩
    obtain ⟨b', h4, _, h5⟩ := key (m x + 1) a w ⟨x, by omega, h1, h2, h3⟩
    have hex : ∃ b, (∃ x, m x = b ∧ I x ∧ Fit n (tget (tmI x)) a ∧ Ow W K (LI x) w) ∧ ∀ c, (∃ x, m x = c ∧ I x ∧ Fit n (tget (tmI x)) a ∧ Ow W K (LI x) w) → b ≤ c := ⟨b', h4, h5⟩
    have : μ a w = hex.choose := by simp only [μ]; rw [dif_pos hex]
    rw [this]
    exact hex.choose_spec
  refine wpIn_loop Iv μ ⟨x0, h0, hf.sub ht hm, hL w hO⟩ fun a w hI => ?_
  obtain ⟨⟨x, h1, h2, h3, h4⟩, _⟩ := hμ a w hI
  refine wpIn_mono (hr x h2 a w h3 h4) ?_
  intro e a' w' he
  cases e with
  | normal =>
    obtain ⟨y, h5, h6, h7, h8⟩ := he
    have hI' : Iv a' w' := ⟨y, h6, h7, h8⟩
    refine ⟨hI', ?_⟩
    have := (hμ a' w' hI').2 (m y) ⟨y, rfl, h6, h7, h8⟩
    omega
  | _ => exact he
theorem J_again {α : Type} {m : α → Nat} {I : α → Prop} {tmI : α → TM} {LI : α → List HP} {b : Nat} (x : α) (hm : m x < b) (hI : I x) (ht : subTM (tmI x) tm) (hL : ∀ w, Ow W K L w → Ow W K (LI x) w) (hmk : decM (tget (tmI x) mkK) = decM (tget tm mkK) := by rfl) : J P n W K F (.hole (Inv n W K m I tmI LI b) :: k) tm L := .mk <|
  fun _ w hf hO => ⟨x, hm, hI, hf.sub ht hmk, hL w hO⟩
def Meet {α : Type} (n : Nat) (W : World) (K : Hl) (I : α → Prop) (tmI : α → TM) (LI : α → List HP) : Act → World → Prop := fun a w => ∃ x, I x ∧ Fit n (tget (tmI x)) a ∧ Ow W K (LI x) w
theorem J_cut {α : Type} (I : α → Prop) (tmI : α → TM) (LI : α → List HP) {c : Code} (h1 : J P n W K F (.code c :: .hole (Meet n W K I tmI LI) :: k) tm L) (h2 : ∀ x, I x → J P n W K F k (tmI x) (LI x)) : J P n W K F (.code c :: k) tm L := .mk <| fun a w hf hO => by
  refine wpIn_mono (h1 a w hf hO) ?_
  intro e a' w' he
  cases e with
  | normal => obtain ⟨x, h3, h4, h5⟩ := he; exact h2 x h3 a' w' h4 h5
  | _ => exact he
theorem J_meet {α : Type} {I : α → Prop} {tmI : α → TM} {LI : α → List HP} (x : α) (hI : I x) (ht : subTM (tmI x) tm) (hL : ∀ w, Ow W K L w → Ow W K (LI x) w) (hmk : decM (tget (tmI x) mkK) = decM (tget tm mkK) := by rfl) : J P n W K F (.hole (Meet n W K I tmI LI) :: k) tm L := .mk <|
  fun _ w hf hO => ⟨x, hI, hf.sub ht hmk, hL w hO⟩

/-! A scope with one label. -/
def jmpK (l : Nat) : List It → Option (Act → World → Prop)
  | [] => none
  | .jmp l' H :: _ => bif Nat.beq l l' then some H else none
  | .code _ :: k => jmpK l k
  | .blk _ :: k => jmpK l k
  | .hole _ :: k => jmpK l k
theorem runK_goto {l : Nat} {H : Act → World → Prop} : ∀ {k : List It}, jmpK l k = some H → ∀ a w, H a w → runK P F k (.goto l) a w
  | [], h, _, _, _ => by cases h
  | .jmp l' H' :: k, h, a, w, h2 => by
    simp only [jmpK] at h
    by_cases hl : l = l'
    · subst hl
      simp at h
      subst h
      exact ⟨rfl, h2⟩
    · have : Nat.beq l l' = false := by rw [Bool.eq_false_iff]; intro hb; exact hl (Nat.eq_of_beq_eq_true hb)
      rw [this] at h
      cases h
  | .code _ :: k, h, a, w, h2 => by simpa only [runK, Exit.then] using runK_goto (k := k) h a w h2
  | .blk _ :: k, h, a, w, h2 => by simpa only [runK, Exit.inBlock] using runK_goto (k := k) h a w h2
  | .hole _ :: k, h, a, w, h2 => by simpa only [runK, Exit.then] using runK_goto (k := k) h a w h2
theorem J_goto {l : Nat} {H : Act → World → Prop} (hj : jmpK l k = some H) (h : J P n W K F [.hole H] tm L) : J P n W K F (.code (.goto l) :: k) tm L := .mk <| fun a w hf hO => wpIn_goto (runK_goto hj a w (h a w hf hO))
theorem runK_codes_ne {l : Nat} {H : Act → World → Prop} {e : Exit} (he : e ≠ .normal) : ∀ (cs : List Code) (a : Act) (w : World), runK P F (cs.map It.code ++ .jmp l H :: k) e a w → Exit.jump l H (runK P F k) e a w
  | [], _, _, h => h
  | c :: cs, a, w, h => by
    refine runK_codes_ne he cs a w ?_
    simp only [List.map_cons, List.cons_append, runK] at h
    cases e <;> first | exact (he rfl).elim | exact h
theorem runK_codes {l : Nat} {H : Act → World → Prop} : ∀ (cs : List Code) (a : Act) (w : World), runK P F (cs.map It.code ++ .jmp l H :: k) .normal a w → wpKI (wideR F.ro) 0 P cs (Exit.jump l H (runK P F k) .normal) (Exit.jump l H (runK P F k)) a w
  | [], _, _, h => h
  | c :: cs, a, w, h => by
    simp only [List.map_cons, List.cons_append, runK, Exit.then] at h
    refine wpIn_mono (c := c) h ?_
    intro e a' w' he
    cases e with
    | normal => exact runK_codes cs a' w' he
    | _ => exact runK_codes_ne (by simp) cs a' w' he
theorem runK_hole {H H' : Act → World → Prop} (hh : ∀ a w, H a w → H' a w) {l : Nat} : ∀ (cs : List Code) (a : Act) (w : World), runK P F (cs.map It.code ++ .hole H :: .jmp l H' :: k) .normal a w → wpKI (wideR F.ro) 0 P cs H' (Exit.jump l H' (runK P F k)) a w
  | [], a, w, h => hh a w h
  | c :: cs, a, w, h => by
    simp only [List.map_cons, List.cons_append, runK, Exit.then] at h
    refine wpIn_mono (c := c) h ?_
    have ne : ∀ (cs : List Code) (e : Exit) (_ : e ≠ .normal) (a : Act) (w : World), runK P F (cs.map It.code ++ .hole H :: .jmp l H' :: k) e a w → Exit.jump l H' (runK P F k) e a w := by
      intro cs
      induction cs with
      | nil => intro e he a w h; cases e <;> first | exact (he rfl).elim | exact h
      | cons c cs ih =>
        intro e he a w h
        refine ih e he a w ?_
        simp only [List.map_cons, List.cons_append, runK] at h
        cases e <;> first | exact (he rfl).elim | exact h
    intro e a' w' he
    cases e with
    | normal => exact runK_hole hh cs a' w' he
    | _ => exact ne cs _ (by simp) a' w' he
theorem least_of {S : Type} (p : S → Nat → Prop) : ∃ μ : S → Nat, ∀ s, (∃ b, p s b) → p s (μ s) ∧ ∀ c, p s c → μ s ≤ c := by
  classical
  have key : ∀ (s : S) (b : Nat), p s b → ∃ b', p s b' ∧ ∀ c, p s c → b' ≤ c := by
    intro s b
    induction b using Nat.strongRecOn with
    | _ b ih =>
      intro hb
      by_cases hy : ∃ c, c < b ∧ p s c
      · obtain ⟨c, hc, hp⟩ := hy
        exact ih c hc hp
      · exact ⟨b, hb, fun c hc => by
          rcases Nat.lt_or_ge c b with h | h
          · exact (hy ⟨c, h, hc⟩).elim
          · exact h⟩
  refine ⟨fun s => if h : ∃ b', p s b' ∧ ∀ c, p s c → b' ≤ c then h.choose else 0, fun s ⟨b, hb⟩ => ?_⟩
  have h := key s b hb
  simp only [h, dite_true]
  exact h.choose_spec
theorem J_scope {α : Type} (l : Nat) (m : α → Nat) (I : α → Prop) (tmI : α → TM) (LI : α → List HP) {c rest : Code} {bs rs : List Code} (hf : findLabel c l = some rest) (hu : upto c l = some (bs, rs))
    (h1 : J P n W K F (bs.map It.code ++ .hole (Meet n W K I tmI LI) :: .jmp l (Meet n W K I tmI LI) :: k) tm L)
    (hr : ∀ x, I x → J P n W K F (rs.map It.code ++ .jmp l (Inv n W K m I tmI LI (m x)) :: k) (tmI x) (LI x)) : J P n W K F (.code (.scope c) :: k) tm L := .mk <| fun a w hfit hO => by
  obtain ⟨μ, hμ⟩ := least_of (S := Act × World) (fun s b => ∃ x, m x = b ∧ I x ∧ Fit n (tget (tmI x)) s.1 ∧ Ow W K (LI x) s.2)
  refine wpIn_scope_jumps l (Meet n W K I tmI LI) (fun a w => μ (a, w)) hf (wpI_upto c l bs rs _ a w hu ?_) fun a w hJ => ?_
  · refine wpKI_mono (fun e a w _ he => he) bs (fun a w hM => ?_) a w (runK_hole (fun _ _ h => h) bs a w (h1 a w hfit hO))
    obtain ⟨x, h2, h3, h4⟩ := hM
    refine wpKI_mono (Q := Exit.jump l (Inv n W K m I tmI LI (m x)) (runK P F k)) (fun e a w hne he => ?_) rs (fun a w hk => hk) a w (runK_codes (H := Inv n W K m I tmI LI (m x)) rs a w (hr x h2 a w h3 h4))
    cases e <;> first | exact he | (obtain ⟨rfl, y, _, h5⟩ := he; exact ⟨rfl, y, h5⟩)
  · obtain ⟨x0, h20, h30, h40⟩ := hJ
    obtain ⟨⟨x, hx, h2, h3, h4⟩, _⟩ := hμ (a, w) ⟨m x0, x0, rfl, h20, h30, h40⟩
    refine wpI_rest c l bs rs rest _ a w hu hf ?_
    refine wpKI_mono (Q := Exit.jump l (Inv n W K m I tmI LI (m x)) (runK P F k)) (fun e a w hne he => ?_) rs (fun a w hk => hk) a w (runK_codes (H := Inv n W K m I tmI LI (m x)) rs a w (hr x h2 a w h3 h4))
    cases e <;> first | exact he | (obtain ⟨rfl, y, hy, h5⟩ := he; refine ⟨rfl, ⟨y, h5⟩, ?_⟩; have := (hμ (_, _) ⟨m y, y, rfl, h5⟩).2 (m y) ⟨y, rfl, h5⟩; omega)

/-! Regions. -/
theorem J_reg {id : Nat} {l : List Oper} (h : JL P n W K F l.toArray k l tm L) : J P n W K F (.code (.region id l.toArray false) :: k) tm L := .mk <| fun a w hf hO => wpIn_region_lit (h a w hf hO)
inductive Pick (lo : List Oper) : List Nat → List Oper → Prop
  | nil : Pick lo [] []
  | cons {i : Nat} {o : Oper} {l : List Nat} {r : List Oper} : lo[i]? = some o → Pick lo l r → Pick lo (i :: l) (o :: r)
theorem Pick.eq {lo : List Oper} {l : List Nat} {r : List Oper} (h : Pick lo l r) : l.map (opAt lo.toArray) = r := by
  induction h with
  | nil => rfl
  | cons h _ ih => simp [opAt, h, ih]
theorem J_draw {id : Nat} {lo : List Oper} (l l2 : List Nat) {r r2 : List Oper} (hm : P.follows .mixedOrders = true) (hl : okOrder n lo.toArray l l2 = true) (h1 : Pick lo l r) (h2 : Pick lo l2 r2) (h : JD P n W K F lo.toArray k r2 r tm [] L) : J P n W K F (.code (.region id lo.toArray true) :: k) tm L := .mk <| fun _ _ hf hO => by
  rw [← h1.eq, ← h2.eq] at h
  exact DW_region (fun _ _ _ p h a w h1 h2 => h a w h1 (h2.perm p.symm)) hm hl (fun _ _ a w h h1 h2 => h a w h1 h2) h.h hf hO

section
variable {ops : Array Oper} {o : Oper} {rest : List Oper} {S M M' : List HP} {nx : List Oper} {d : Tmp} {v : Value} {Φ : Value → List HP → Prop} {C : List HP}
theorem JL_nil (h : J P n W K F k tm L) : JL P n W K F ops k [] tm L := ⟨h.h⟩
theorem JL_heap (hh : ∀ w, Ow W K L w → Ow W K L' w) (h : JL P n W K F ops k rest tm L') : JL P n W K F ops k rest tm L := .mk <| fun a w hf hO => h a w hf (hh w hO)
theorem JL_no (hg : wantF ops o (tget tm) = some false) (hd : inB n o.dst = true) (hv : ∀ a, o.dst = some a → a = d) (h : JL P n W K F ops k rest ((d, undef) :: tm) L) (h0 : o.dst = none → JL P n W K F ops k rest tm L) : JL P n W K F ops k (o :: rest) tm L := .mk <| fun a w hf hO => by
  show if Region.wanted o (yielded ops a.tmps) = true then _ else _
  rw [wantF_eq hg hf, if_neg (by simp)]
  refine ⟨fun _ _ => trivial, ?_⟩
  cases hdst : o.dst with
  | none => exact h0 hdst a w hf hO
  | some t =>
    obtain rfl := hv t hdst
    refine h _ w ?_ hO
    rw [← upd_cons]
    rw [hdst] at hd
    exact hf.put hd _
theorem JL_step (hg : wantF ops o (tget tm) = some true) (h : ∀ a w, Fit n (tget tm) a → Ow W K L w → wpI P o a w (fun b w' => ∃ v, b = a.put o.dst v ∧ wpListIn (wideR F.ro) 0 P ops (runK P F k) rest (a.put o.dst v) w')) : JL P n W K F ops k (o :: rest) tm L := .mk <| fun a w hf hO => by
  show if Region.wanted o (yielded ops a.tmps) = true then _ else _
  rw [wantF_eq hg hf, if_pos rfl]
  exact Oper.wpIn_mono (fun b w' ⟨v, e, h⟩ => by subst e; exact h) (wpI_in (N := fun v w' => wpListIn (wideR F.ro) 0 P ops (runK P F k) rest (a.put o.dst v) w') (h a w hf hO))
theorem wpI_v {a : Act} {w w' : World} {v : Value} {N : Value → World → Prop} (h : (execOp a.eval o).run P w = .ok (.value v) w') (hn : N v w') : wpI P o a w (fun b w' => ∃ v, b = a.put o.dst v ∧ N v w') :=
  wpI_of_wp (by unfold Oper.wp; rw [h]; exact ⟨v, rfl, hn⟩)
theorem JL_p (hd : o.dst = some d) (hn : Nat.blt d n = true) (hg : wantF ops o (tget tm) = some true) (hp : PE P K L o (tget tm) v) (h : JL P n W K F ops k rest ((d, v) :: tm) L) : JL P n W K F ops k (o :: rest) tm L := JL_step hg fun a w hf hO =>
  wpI_v (N := fun v w' => wpListIn (wideR F.ro) 0 P ops (runK P F k) rest (a.put o.dst v) w') (hp a.eval w (hf.agree o) (Ow.rdw (M := []) hO)) (by
    rw [hd]
    refine h _ w ?_ hO
    rw [← upd_cons]
    exact hf.put (by simpa [inB] using hn) _)
theorem JL_m {x : Obj} {g : Nat → Value} (hd : o.dst = some d) (hn : Nat.blt d n = true) (hg : wantF ops o (tget tm) = some true) (hp : AL P o (tget tm) x g) (h : ∀ b, JL P n W K F ops k rest ((d, g b) :: tm) (ob b x :: L)) : JL P n W K F ops k (o :: rest) tm L := JL_step hg fun a w hf hO =>
  wpI_v (N := fun v w' => wpListIn (wideR F.ro) 0 P ops (runK P F k) rest (a.put o.dst v) w') (hp a.eval w (hf.agree o)) (by
    rw [hd]
    refine h _ _ _ ?_ (hO.al x)
    rw [← upd_cons]
    exact hf.put (by simpa [inB] using hn) _)
theorem JL_a (hd : o.dst = some d) (hn : Nat.blt d n = true) (hg : wantF ops o (tget tm) = some true) (hs : Sb L C R) (hp : AE P n K R C o (tget tm) Φ) (h : ∀ v L', Φ v L' → JL P n W K F ops k rest ((d, v) :: tm) (L' ++ R)) : JL P n W K F ops k (o :: rest) tm L := JL_step hg fun a w hf hO =>
  hp W K w a _ (Hl.le.refl K) hf (hO.sb hs) fun v L' w' hv hO' => by
    refine ⟨v, rfl, ?_⟩
    rw [hd]
    refine h v L' hv _ w' ?_ hO'
    rw [← upd_cons]
    exact hf.put (by simpa [inB] using hn) _
theorem JL_a0 (hd : o.dst = none) (hg : wantF ops o (tget tm) = some true) (hs : Sb L C R) (hp : AE P n K R C o (tget tm) Φ) (h : ∀ v L', Φ v L' → JL P n W K F ops k rest tm (L' ++ R)) : JL P n W K F ops k (o :: rest) tm L := JL_step hg fun a w hf hO =>
  hp W K w a _ (Hl.le.refl K) hf (hO.sb hs) fun v L' w' hv hO' => by
    refine ⟨v, rfl, ?_⟩
    rw [hd]
    exact h v L' hv _ w' hf hO'
theorem tget_over {t : Tmp} {c : Bool} {b : Bool} (hc : tget tm t = some (.bool c)) (hb : c = b) : tget ((t, .bool b) :: tm) = tget tm := by
  subst hb
  rw [← upd_cons]
  funext u
  simp only [upd]
  split
  · rename_i h; subst h; exact hc.symm
  · rfl
theorem JL_split {t : Tmp} {p : Prop} [Decidable p] (hc : tget tm t = some (.bool (decide p))) (h1 : p → JL P n W K F ops k rest ((t, .bool true) :: tm) L) (h2 : ¬ p → JL P n W K F ops k rest ((t, .bool false) :: tm) L) : JL P n W K F ops k rest tm L := .mk <| fun a w hf hO => by
  by_cases hp : p
  · exact h1 hp a w (by rw [tget_over hc (by simp [hp])]; exact hf) hO
  · exact h2 hp a w (by rw [tget_over hc (by simp [hp])]; exact hf) hO
theorem JL_splitb {t : Tmp} {b : Bool} (hc : tget tm t = some (.bool b)) (h1 : b = true → JL P n W K F ops k rest ((t, .bool true) :: tm) L) (h2 : b = false → JL P n W K F ops k rest ((t, .bool false) :: tm) L) : JL P n W K F ops k rest tm L := .mk <| fun a w hf hO => by
  cases b with
  | true => exact h1 rfl a w (by rw [tget_over hc rfl]; exact hf) hO
  | false => exact h2 rfl a w (by rw [tget_over hc rfl]; exact hf) hO

/-! The same where the order is drawn. -/
theorem JD_nil (h : J P n W K F k tm (M ++ S)) : JD P n W K F ops k [] [] tm S M := .mk <| fun _ _ a w h1 h2 => h.h a w h1 (by simpa using h2)
theorem JD_bar (h : JD P n W K F ops k [] (o :: nx) tm [] (M ++ S)) : JD P n W K F ops k (o :: nx) [] tm S M := .mk <| fun _ => by
  refine DW_finMono ?_ _ _ _ _ h.h
  intro f L hh
  exact fun a w h1 h2 => hh ⟨W, K, w, a, Hl.le.refl K, h1, by simpa using h2⟩ a w h1 (by simpa using h2)
theorem JD_split {t : Tmp} {p : Prop} [Decidable p] (hc : tget tm t = some (.bool (decide p))) (h1 : p → JD P n W K F ops k nx rest ((t, .bool true) :: tm) S M) (h2 : ¬ p → JD P n W K F ops k nx rest ((t, .bool false) :: tm) S M) : JD P n W K F ops k nx rest tm S M := by
  by_cases hp : p
  · have := h1 hp
    refine ⟨?_⟩
    have h3 := this.h
    rwa [tget_over hc (by simp [hp])] at h3
  · have := h2 hp
    refine ⟨?_⟩
    have h3 := this.h
    rwa [tget_over hc (by simp [hp])] at h3
theorem JD_splitb {t : Tmp} {b : Bool} (hc : tget tm t = some (.bool b)) (h1 : b = true → JD P n W K F ops k nx rest ((t, .bool true) :: tm) S M) (h2 : b = false → JD P n W K F ops k nx rest ((t, .bool false) :: tm) S M) : JD P n W K F ops k nx rest tm S M := by
  cases b with
  | true => have h3 := (h1 rfl).h; refine ⟨?_⟩; rwa [tget_over hc rfl] at h3
  | false => have h3 := (h2 rfl).h; refine ⟨?_⟩; rwa [tget_over hc rfl] at h3
theorem JD_no (hg : wantF ops o (tget tm) = some false) (hd : o.dst = some d) (h : JD P n W K F ops k nx rest ((d, undef) :: tm) S M) : JD P n W K F ops k nx (o :: rest) tm S M := .mk <| fun _ _ _ _ _ _ _ => .inl ⟨hg, by rw [hd, upd_cons]; exact h.h⟩
theorem JD_p (hd : o.dst = some d) (hg : wantF ops o (tget tm) = some true) (hk : kindOp o.op = 0) (hp : PE P K S o (tget tm) v) (h : JD P n W K F ops k nx rest ((d, v) :: tm) S M) : JD P n W K F ops k nx (o :: rest) tm S M := .mk <| fun _ _ _ _ _ _ _ => .inr ⟨hg, .inl ⟨hk, [], M, v, .refl _, hp, by rw [hd, upd_cons]; exact h.h⟩⟩
theorem JD_pM {A : HP} (hd : o.dst = some d) (hg : wantF ops o (tget tm) = some true) (hk : kindOp o.op = 0) (ht : Tk M A M') (hp : PE P K (A :: S) o (tget tm) v) (h : JD P n W K F ops k nx rest ((d, v) :: tm) (A :: S) M') : JD P n W K F ops k nx (o :: rest) tm S M := .mk <| fun _ _ _ _ _ _ _ => .inr ⟨hg, .inl ⟨hk, [A], M', v, ht.perm, hp, by rw [hd, upd_cons]; exact h.h⟩⟩
theorem JD_m {x : Obj} {g : Nat → Value} (hd : o.dst = some d) (hg : wantF ops o (tget tm) = some true) (hk : kindOp o.op = 1) (hp : AL P o (tget tm) x g) (h : ∀ b, JD P n W K F ops k nx rest ((d, g b) :: tm) S (ob b x :: M)) : JD P n W K F ops k nx (o :: rest) tm S M := .mk <| fun _ _ _ _ _ _ _ => .inr ⟨hg, .inr (.inl ⟨hk, x, g, hp, fun b => by rw [hd, upd_cons]; exact (h b).h⟩)⟩
theorem JD_a (hd : o.dst = some d) (hg : wantF ops o (tget tm) = some true) (hk : kindOp o.op = 2) (hs : Sb M C R) (hp : AE P n K (R ++ S) C o (tget tm) Φ) (h : ∀ v L', Φ v L' → JD P n W K F ops k nx rest ((d, v) :: tm) S (L' ++ R)) : JD P n W K F ops k nx (o :: rest) tm S M := .mk <| fun W2 K' w a hK hf hO => .inr ⟨hg, .inr (.inr ⟨hk, by
  refine hp W2 K' w a _ hK hf (by rw [← List.append_assoc]; exact hO.perm (hs.perm.append_right S)) fun v L' w' hv hO' => ⟨v, rfl, L' ++ R, by rw [List.append_assoc]; exact hO', ?_⟩
  rw [hd, upd_cons]
  exact (h v L' hv).h⟩)⟩
theorem JD_a0 (hd : o.dst = none) (hg : wantF ops o (tget tm) = some true) (hk : kindOp o.op = 2) (hs : Sb M C R) (hp : AE P n K (R ++ S) C o (tget tm) Φ) (h : ∀ v L', Φ v L' → JD P n W K F ops k nx rest tm S (L' ++ R)) : JD P n W K F ops k nx (o :: rest) tm S M := .mk <| fun W2 K' w a hK hf hO => .inr ⟨hg, .inr (.inr ⟨hk, by
  refine hp W2 K' w a _ hK hf (by rw [← List.append_assoc]; exact hO.perm (hs.perm.append_right S)) fun v L' w' hv hO' => ⟨v, rfl, L' ++ R, by rw [List.append_assoc]; exact hO', ?_⟩
  rw [hd]
  exact (h v L' hv).h⟩)⟩
end
end
end Go.Pm
