/-
  Jd, Je, Jf, Jg, Jh, Ji, Jj, Jk, Jm, Jn, Jr, Jo, Jq: merged.
-/
import Derived.Test.YtnhabkipjmgaaaaGreatZRibVoid1
import Derived.Laws.StructEq
namespace Go.Pm
set_option linter.unusedSimpArgs false
set_option linter.unusedVariables false
open Go.RowKit

inductive It where
  | code (c : Code)
  | blk (id : Nat)
  | hole (H : Act → World → Prop)
  | jmp (l : Nat) (H : Act → World → Prop)

/-- In which frame, and what is asked at the end. -/
structure Fp where
  ro : Option Nat
  post : Exit → Act → World → Prop
def runK (P : Program) (F : Fp) : List It → Exit → Act → World → Prop
  | [] => F.post
  | .code c :: k => Exit.then (c.wpIn (wideR F.ro) 0 P (runK P F k)) (runK P F k)
  | .blk id :: k => Exit.inBlock id (runK P F k)
  | .hole H :: k => Exit.then H (runK P F k)
  | .jmp l H :: k => Exit.jump l H (runK P F k)

structure J (P : Program) (n : Nat) (W : World) (K : Hl) (F : Fp) (k : List It) (tm : TM) (L : List HP) : Prop where
  mk ::
  h : ∀ a w, Fit n (tget tm) a → Ow W K L w → runK P F k .normal a w
instance {P : Program} {n : Nat} {W : World} {K : Hl} {F : Fp} {k : List It} {tm : TM} {L : List HP} : CoeFun (J P n W K F k tm L) (fun _ => ∀ a w, Fit n (tget tm) a → Ow W K L w → runK P F k .normal a w) := ⟨J.h⟩
/-- Within a region: the operations that are left. -/
structure JL (P : Program) (n : Nat) (W : World) (K : Hl) (F : Fp) (ops : Array Oper) (k : List It) (rest : List Oper) (tm : TM) (L : List HP) : Prop where
  mk ::
  h : ∀ a w, Fit n (tget tm) a → Ow W K L w → wpListIn (wideR F.ro) 0 P ops (runK P F k) rest a w
instance {P : Program} {n : Nat} {W : World} {K : Hl} {F : Fp} {ops : Array Oper} {k : List It} {rest : List Oper} {tm : TM} {L : List HP} : CoeFun (JL P n W K F ops k rest tm L) (fun _ => ∀ a w, Fit n (tget tm) a → Ow W K L w → wpListIn (wideR F.ro) 0 P ops (runK P F k) rest a w) := ⟨JL.h⟩
/-- Behind a region. -/
def fin0 (P : Program) (n : Nat) (W : World) (K : Hl) (F : Fp) (k : List It) (f : TF) (L : List HP) : Prop :=
  ∀ a w, Fit n f a → Ow W K L w → runK P F k .normal a w
/-- Within a region that draws: S stands still, M may be changed. -/
structure JD (P : Program) (n : Nat) (W : World) (K : Hl) (F : Fp) (ops : Array Oper) (k : List It) (nx rest : List Oper) (tm : TM) (S M : List HP) : Prop where
  mk ::
  h : DW P n K ops (fun f L => DW P n K ops (fin0 P n W K F k) nx f [] L) rest (tget tm) S M

section
variable {P : Program} {n : Nat} {W : World} {K : Hl} {F : Fp} {k k' : List It} {tm tm' : TM} {L L' R : List HP}

/-! Code. -/
theorem J_seq {x y : Code} (h : J P n W K F (.code x :: .code y :: k) tm L) : J P n W K F (.code (.seq x y) :: k) tm L := .mk <| fun a w hf hO => wpIn_seq (h a w hf hO)
theorem J_skip (h : J P n W K F k tm L) : J P n W K F (.code .skip :: k) tm L := .mk <| fun a w hf hO => wpIn_skip (h a w hf hO)
theorem J_label {l : Nat} (h : J P n W K F k tm L) : J P n W K F (.code (.label l) :: k) tm L := .mk <| fun a w hf hO => wpIn_label (h a w hf hO)
theorem J_block {id : Nat} {c : Code} (h : J P n W K F (.code c :: .blk id :: k) tm L) : J P n W K F (.code (.block id c) :: k) tm L := .mk <| fun a w hf hO => wpIn_block (h a w hf hO)
theorem J_blk {id : Nat} (h : J P n W K F k tm L) : J P n W K F (.blk id :: k) tm L := ⟨h.h⟩
def popK (id : Nat) : List It → Option (List It)
  | [] => none
  | .blk i :: k => bif Nat.beq id i then some k else popK id k
  | .code _ :: k => popK id k
  | .hole _ :: k => popK id k
  | .jmp _ _ :: k => popK id k
theorem runK_pop {id : Nat} : ∀ {k k' : List It}, popK id k = some k' → ∀ a w, runK P F k' .normal a w → runK P F k (.exit id) a w
  | [], _, h, _, _, _ => by cases h
  | .blk i :: k, k', h, a, w, h2 => by
    simp only [popK] at h
    by_cases hi : id = i
    · subst hi
      simp at h
      subst h
      simp only [runK, Exit.inBlock, if_pos]
      exact h2
    · have : Nat.beq id i = false := by rw [Bool.eq_false_iff]; intro hb; exact hi (Nat.eq_of_beq_eq_true hb)
      rw [this] at h
      simp only [runK, Exit.inBlock, if_neg hi]
      exact runK_pop h a w h2
  | .code _ :: k, k', h, a, w, h2 => by simpa only [runK, Exit.then] using runK_pop (k := k) h a w h2
  | .hole _ :: k, k', h, a, w, h2 => by simpa only [runK, Exit.then] using runK_pop (k := k) h a w h2
  | .jmp _ _ :: k, k', h, a, w, h2 => by simpa only [runK, Exit.jump] using runK_pop (k := k) h a w h2
theorem J_exit {id : Nat} (hp : popK id k = some k') (h : J P n W K F k' tm L) : J P n W K F (.code (.exit id) :: k) tm L := .mk <| fun a w hf hO => wpIn_exit (runK_pop hp a w (h a w hf hO))
theorem runK_ret : ∀ {k : List It} {a : Act} {w : World}, F.post .ret a w → runK P F k .ret a w
  | [], _, _, h => h
  | .code _ :: k, _, _, h => runK_ret (k := k) h
  | .blk _ :: k, _, _, h => runK_ret (k := k) h
  | .hole _ :: k, _, _, h => runK_ret (k := k) h
  | .jmp _ _ :: k, _, _, h => runK_ret (k := k) h
theorem J_if {c : Operand} {x y : Code} {p : Prop} [Decidable p] (hc : evT tm c = some (.bool (decide p))) (ht : p → J P n W K F (.code x :: k) tm L) (hf : ¬ p → J P n W K F (.code y :: k) tm L) : J P n W K F (.code (.cond c x y) :: k) tm L := .mk <| fun a w hfit hO => by
  by_cases hp : p
  · exact wpIn_cond_true (by rw [hfit.eval hc]; simp [hp]) (ht hp a w hfit hO)
  · exact wpIn_cond_false (by rw [hfit.eval hc]; simp [hp]) (hf hp a w hfit hO)
theorem J_ifb {c : Operand} {x y : Code} {b : Bool} (hc : evT tm c = some (.bool b)) (ht : b = true → J P n W K F (.code x :: k) tm L) (hf : b = false → J P n W K F (.code y :: k) tm L) : J P n W K F (.code (.cond c x y) :: k) tm L := .mk <| fun a w hfit hO => by
  cases b with
  | true => exact wpIn_cond_true (hfit.eval hc) (ht rfl a w hfit hO)
  | false => exact wpIn_cond_false (hfit.eval hc) (hf rfl a w hfit hO)
theorem J_ift {c : Operand} {x y : Code} (hc : evT tm c = some (.bool true)) (ht : J P n W K F (.code x :: k) tm L) : J P n W K F (.code (.cond c x y) :: k) tm L := .mk <| fun a w hfit hO => wpIn_cond_true (hfit.eval hc) (ht a w hfit hO)
theorem J_iff {c : Operand} {x y : Code} (hc : evT tm c = some (.bool false)) (ht : J P n W K F (.code y :: k) tm L) : J P n W K F (.code (.cond c x y) :: k) tm L := .mk <| fun a w hfit hO => wpIn_cond_false (hfit.eval hc) (ht a w hfit hO)

/-! What is known is used, forgotten, said otherwise. -/
def subTM : TM → TM → Prop
  | [], _ => True
  | (t, v) :: r, tm => tget tm t = some v ∧ subTM r tm
theorem subTM.get : ∀ {s tm : TM}, subTM s tm → ∀ t v, tget s t = some v → tget tm t = some v
  | [], _, _, _, _, h => by cases h
  | (u, x) :: r, tm, h, t, v, hg => by
    simp only [tget] at hg
    by_cases hu : u = t
    · subst hu; simp at hg; subst hg; exact h.1
    · have : Nat.beq u t = false := by rw [Bool.eq_false_iff]; intro hb; exact hu (Nat.eq_of_beq_eq_true hb)
      rw [this] at hg
      exact subTM.get h.2 t v hg
theorem Fit.sub {a : Act} (h : Fit n (tget tm) a) (hs : subTM tm' tm) (hm : decM (tget tm' mkK) = decM (tget tm mkK)) : Fit n (tget tm') a := ⟨by rw [hm]; exact h.d, h.sz, h.lt, fun t v hn e => h.v t v hn (hs.get t v e)⟩
theorem J_heap (hh : ∀ w, Ow W K L w → Ow W K L' w) (h : J P n W K F k tm L') : J P n W K F k tm L := .mk <| fun a w hf hO => h a w hf (hh w hO)
theorem J_open {α : Type} {Lx : α → List HP} (hh : ∀ w, Ow W K L w → ∃ x, Ow W K (Lx x) w) (h : ∀ x, J P n W K F k tm (Lx x)) : J P n W K F k tm L := .mk <| fun a w hf hO => by
  obtain ⟨x, hx⟩ := hh w hO
  exact h x a w hf hx
theorem J_fact {φ : Prop} (hh : ∀ w, Ow W K L w → φ) (h : φ → J P n W K F k tm L) : J P n W K F k tm L := .mk <| fun a w hf hO => h (hh w hO) a w hf hO
theorem J_keep (s : TM) (hs : subTM s tm) (h : J P n W K F k s L) (hm : decM (tget s mkK) = decM (tget tm mkK) := by rfl) : J P n W K F k tm L := .mk <| fun a w hf hO => h a w (hf.sub hs hm) hO
theorem J_perm (p : L.Perm L') (h : J P n W K F k tm L') : J P n W K F k tm L := J_heap (fun _ H => H.perm p) h

theorem Ow.putOb {D : Nat} {o : Obj} {w : World} (H : Ow W K (ob D o :: L) w) (o' : Obj) : Ow W K (ob D o' :: L) (w.putObj D o') := by
  refine H.change rfl ((Tp.refl _).same rfl rfl) rfl (by simp) fun h hA i => ?_
  obtain rfl : h = Hl.one D o := hA
  have hlt : D < w.heap.size := i.lt (b := D) (o := o) (by simp [Hl.one])
  refine ⟨⟨Hl.one D o', rfl, fun c x e => ?_, fun c hc => ?_⟩, fun c hl hc => World.putObj_heap_other (fun e => ?_)⟩
  · unfold Hl.one at e
    split at e
    · rename_i h; subst h; cases e; exact World.putObj_heap_same hlt
    · cases e
  · left
    unfold Hl.one at hc ⊢
    split at hc <;> simp_all
  · subst e; simp [Hl.one] at hc

/-! Returns. -/
def retR (W : World) (K : Hl) (Rr : Value → List HP → Prop) : Ending → World → Prop := fun e w' => ∃ v L', Rr v L' ∧ e = .returned v ∧ Ow W K L' w'
section
variable {fn : Func} {Rr : Value → List HP → Prop}
def dfr (D : Nat) : HP := ob D (.deferred (some []))
theorem leavesM {tmps : Array Value} {R : Ending → World → Prop} : ∀ (Ds : List Nat) (w : World), Ow W K (Ds.map dfr ++ L) w → (∀ w', Ow W K L w' → ∃ v, (results fn tmps).run P w' = .ok v w' ∧ R (.returned v) w') → LeavesInM Fence.wide 0 P fn tmps R (Ds.map mark) .returning w
  | [], w, H, h => by obtain ⟨v, h1, h2⟩ := h w H; exact ⟨v, h1, h2⟩
  | D :: Ds, w, H, h => by
    obtain ⟨hx, hA, i⟩ := Ow.part H
    obtain rfl : hx = Hl.one D (.deferred (some [])) := hA
    have hD : w.heap[D]? = some (.deferred (some [])) := i D _ (by simp [Hl.one])
    refine ⟨by simp, .inl ⟨D, w.putObj D (.deferred none), rfl, run_takeDeferred hD, leavesM Ds _ ?_ h⟩⟩
    have H2 : Ow W K (ob D (.deferred none) :: (Ds.map dfr ++ L)) (w.putObj D (.deferred none)) := H.putOb _
    exact H2.drop
def fpost (P : Program) (fn : Func) (W : World) (K : Hl) (Rr : Value → List HP → Prop) : Fp := ⟨none, bodyPostM Fence.wide 0 P fn (retR W K Rr)⟩
theorem J_out {Ds : List Nat} (hm : decM (tget tm mkK) = Ds) (h : ∀ a w, Fit n (tget tm) a → Ow W K L w → ∃ L', Ow W K (Ds.map dfr ++ L') w ∧ ∀ w', Ow W K L' w' → ∃ v, (results fn a.tmps).run P w' = .ok v w' ∧ ∃ L'', Rr v L'' ∧ Ow W K L'' w') : ∀ a w, Fit n (tget tm) a → Ow W K L w → LeavesInM Fence.wide 0 P fn a.tmps (retR W K Rr) a.defers .returning w := fun a w hf hO => by
  obtain ⟨L', H, h2⟩ := h a w hf hO
  rw [hf.d, hm]
  refine leavesM Ds w H fun w' H' => ?_
  obtain ⟨v, h3, L'', h4, h5⟩ := h2 w' H'
  exact ⟨v, h3, v, L'', h4, rfl, h5⟩
theorem J_outR {Ds : List Nat} (hm : decM (tget tm mkK) = Ds) (h : ∀ a w, Fit n (tget tm) a → Ow W K L w → ∃ L', Ow W K (Ds.map dfr ++ L') w ∧ ∀ w', Ow W K L' w' → ∃ v, (results fn a.tmps).run P w' = .ok v w' ∧ ∃ L'', Rr v L'' ∧ Ow W K L'' w') : J P n W K (fpost P fn W K Rr) (.code .ret :: k) tm L := .mk <| fun a w hf hO => wpIn_ret (runK_ret (J_out hm h a w hf hO))
theorem J_outE {Ds : List Nat} (hm : decM (tget tm mkK) = Ds) (h : ∀ a w, Fit n (tget tm) a → Ow W K L w → ∃ L', Ow W K (Ds.map dfr ++ L') w ∧ ∀ w', Ow W K L' w' → ∃ v, (results fn a.tmps).run P w' = .ok v w' ∧ ∃ L'', Rr v L'' ∧ Ow W K L'' w') : J P n W K (fpost P fn W K Rr) [] tm L := .mk <| fun a w hf hO => J_out hm h a w hf hO
theorem J_ret0M {Ds : List Nat} (hm : decM (tget tm mkK) = Ds) (hr : fn.results = #[]) (hk : ∀ w, Ow W K L w → ∃ L', Rr (.tuple #[]) L' ∧ Ow W K (Ds.map dfr ++ L') w) : J P n W K (fpost P fn W K Rr) (.code .ret :: k) tm L := J_outR hm fun a w hf hO => by
  obtain ⟨L', h1, h2⟩ := hk w hO
  exact ⟨L', h2, fun w' H => ⟨_, results_none hr _ _ _, L', h1, H⟩⟩
theorem J_end0M {Ds : List Nat} (hm : decM (tget tm mkK) = Ds) (hr : fn.results = #[]) (hk : ∀ w, Ow W K L w → ∃ L', Rr (.tuple #[]) L' ∧ Ow W K (Ds.map dfr ++ L') w) : J P n W K (fpost P fn W K Rr) [] tm L := J_outE hm fun a w hf hO => by
  obtain ⟨L', h1, h2⟩ := hk w hO
  exact ⟨L', h2, fun w' H => ⟨_, results_none hr _ _ _, L', h1, H⟩⟩
theorem J_ret0 (hr : fn.results = #[]) (hk : ∀ w, Ow W K L w → ∃ L', Rr (.tuple #[]) L' ∧ Ow W K L' w) (hm : decM (tget tm mkK) = [] := by rfl) : J P n W K (fpost P fn W K Rr) (.code .ret :: k) tm L := J_ret0M hm hr hk
theorem J_end0 (hr : fn.results = #[]) (hk : ∀ w, Ow W K L w → ∃ L', Rr (.tuple #[]) L' ∧ Ow W K L' w) (hm : decM (tget tm mkK) = [] := by rfl) : J P n W K (fpost P fn W K Rr) [] tm L := J_end0M hm hr hk
theorem Fit.getD {a : Act} (h : Fit n (tget tm) a) {t : Nat} {v : Value} (e : evT tm (.tmp t) = some v) : a.tmps.getD t undef = v := h.eval e
theorem Fit.get? {a : Act} (h : Fit n (tget tm) a) {t : Nat} {v : Value} (e : evT tm (.tmp t) = some v) : a.tmps[t]? = some v := by
  obtain ⟨h1, h2⟩ := fget_some e
  exact h.v t v h1 h2
theorem J_ret1M {t : Tmp} {v : Value} {Ds : List Nat} (hm : decM (tget tm mkK) = Ds) (hr : fn.results = #[.tmp t]) (hv : evT tm (.tmp t) = some v) (hk : ∀ w, Ow W K L w → ∃ L', Rr v L' ∧ Ow W K (Ds.map dfr ++ L') w) : J P n W K (fpost P fn W K Rr) (.code .ret :: k) tm L := J_outR hm fun a w hf hO => by
  obtain ⟨L', h1, h2⟩ := hk w hO
  exact ⟨L', h2, fun w' H => ⟨v, by rw [← hf.getD hv]; exact results_tmp hr _ _ _, L', h1, H⟩⟩
theorem J_ret1 {t : Tmp} {v : Value} (hr : fn.results = #[.tmp t]) (hv : evT tm (.tmp t) = some v) (hk : ∀ w, Ow W K L w → ∃ L', Rr v L' ∧ Ow W K L' w) (hm : decM (tget tm mkK) = [] := by rfl) : J P n W K (fpost P fn W K Rr) (.code .ret :: k) tm L := J_ret1M hm hr hv hk
theorem J_ret2M {t u : Tmp} {v x : Value} {Ds : List Nat} (hm : decM (tget tm mkK) = Ds) (hr : fn.results = #[.tmp t, .tmp u]) (hv : evT tm (.tmp t) = some v) (hx : evT tm (.tmp u) = some x) (hk : ∀ w, Ow W K L w → ∃ L', Rr (.tuple #[v, x]) L' ∧ Ow W K (Ds.map dfr ++ L') w) : J P n W K (fpost P fn W K Rr) (.code .ret :: k) tm L := J_outR hm fun a w hf hO => by
  obtain ⟨L', h1, h2⟩ := hk w hO
  exact ⟨L', h2, fun w' H => ⟨.tuple #[v, x], by rw [← hf.getD hv, ← hf.getD hx]; exact results_tmp2 hr _ _ _, L', h1, H⟩⟩
theorem J_ret2 {t u : Tmp} {v x : Value} (hr : fn.results = #[.tmp t, .tmp u]) (hv : evT tm (.tmp t) = some v) (hx : evT tm (.tmp u) = some x) (hk : ∀ w, Ow W K L w → ∃ L', Rr (.tuple #[v, x]) L' ∧ Ow W K L' w) (hm : decM (tget tm mkK) = [] := by rfl) : J P n W K (fpost P fn W K Rr) (.code .ret :: k) tm L := J_ret2M hm hr hv hx hk
theorem J_ret3 {t u s : Tmp} {v x y : Value} (hr : fn.results = #[.tmp t, .tmp u, .tmp s]) (hv : evT tm (.tmp t) = some v) (hx : evT tm (.tmp u) = some x) (hy : evT tm (.tmp s) = some y) (hk : ∀ w, Ow W K L w → ∃ L', Rr (.tuple #[v, x, y]) L' ∧ Ow W K L' w) (hm : decM (tget tm mkK) = [] := by rfl) : J P n W K (fpost P fn W K Rr) (.code .ret :: k) tm L := J_outR hm fun a w hf hO => by
  obtain ⟨L', h1, h2⟩ := hk w hO
  exact ⟨L', h2, fun w' H => ⟨.tuple #[v, x, y], by simp [results, hr, hf.get? hv, hf.get? hx, hf.get? hy], L', h1, H⟩⟩
theorem J_ret4 {t u s r : Tmp} {v x y z : Value} (hr : fn.results = #[.tmp t, .tmp u, .tmp s, .tmp r]) (hv : evT tm (.tmp t) = some v) (hx : evT tm (.tmp u) = some x) (hy : evT tm (.tmp s) = some y) (hz : evT tm (.tmp r) = some z) (hk : ∀ w, Ow W K L w → ∃ L', Rr (.tuple #[v, x, y, z]) L' ∧ Ow W K L' w) (hm : decM (tget tm mkK) = [] := by rfl) : J P n W K (fpost P fn W K Rr) (.code .ret :: k) tm L := J_outR hm fun a w hf hO => by
  obtain ⟨L', h1, h2⟩ := hk w hO
  exact ⟨L', h2, fun w' H => ⟨.tuple #[v, x, y, z], by simp [results, hr, hf.get? hv, hf.get? hx, hf.get? hy, hf.get? hz], L', h1, H⟩⟩
/-- Results that lie in variables of several cells. -/
theorem run_cellR {ty T : TypeId} {b : Nat} {cs : List Value} {w : World} (H : Ow W K L w) (hm : Tk L (pts b cs T) R) (ht : rowTy P ty cs.length = true) : (loadVar ty ⟨b, 0, none⟩).run P w = .ok (.agg cs.toArray) w := run_load_row (P := P) (w := w) (t := ty) (b := b) (o := 0) ht (by simpa using (H.blk hm).range)
theorem J_retC {t : Tmp} {ty T : TypeId} {b : Nat} {cs : List Value} (hr : fn.results = #[.cell t ty]) (hv : evT tm (.tmp t) = some (.pointer (some ⟨b, 0, none⟩))) (hm : Tk L (pts b cs T) R) (ht : rowTy P ty cs.length = true) (hk : ∀ w, Ow W K L w → ∃ L', Rr (.agg cs.toArray) L' ∧ Ow W K L' w) (hd : decM (tget tm mkK) = [] := by rfl) : J P n W K (fpost P fn W K Rr) (.code .ret :: k) tm L := J_outR hd fun a w hf hO => by
  refine ⟨L, hO, fun w' H => ?_⟩
  obtain ⟨L', h1, h2⟩ := hk w' H
  exact ⟨_, by simp [results, hr, hf.get? hv, run_cellR H hm ht, Array.getD_eq_getD_getElem?, asAddr], L', h1, h2⟩
theorem J_retC1 {t u : Tmp} {v : Value} {ty T : TypeId} {b : Nat} {cs : List Value} (hr : fn.results = #[.cell t ty, .tmp u]) (hv : evT tm (.tmp t) = some (.pointer (some ⟨b, 0, none⟩))) (hu : evT tm (.tmp u) = some v) (hm : Tk L (pts b cs T) R) (ht : rowTy P ty cs.length = true) (hk : ∀ w, Ow W K L w → ∃ L', Rr (.tuple #[.agg cs.toArray, v]) L' ∧ Ow W K L' w) (hd : decM (tget tm mkK) = [] := by rfl) : J P n W K (fpost P fn W K Rr) (.code .ret :: k) tm L := J_outR hd fun a w hf hO => by
  refine ⟨L, hO, fun w' H => ?_⟩
  obtain ⟨L', h1, h2⟩ := hk w' H
  exact ⟨_, by simp [results, hr, hf.get? hv, hf.get? hu, run_cellR H hm ht, Array.getD_eq_getD_getElem?, asAddr], L', h1, h2⟩
theorem J_ret1C {t u : Tmp} {v : Value} {ty T : TypeId} {b : Nat} {cs : List Value} (hr : fn.results = #[.tmp u, .cell t ty]) (hu : evT tm (.tmp u) = some v) (hv : evT tm (.tmp t) = some (.pointer (some ⟨b, 0, none⟩))) (hm : Tk L (pts b cs T) R) (ht : rowTy P ty cs.length = true) (hk : ∀ w, Ow W K L w → ∃ L', Rr (.tuple #[v, .agg cs.toArray]) L' ∧ Ow W K L' w) (hd : decM (tget tm mkK) = [] := by rfl) : J P n W K (fpost P fn W K Rr) (.code .ret :: k) tm L := J_outR hd fun a w hf hO => by
  refine ⟨L, hO, fun w' H => ?_⟩
  obtain ⟨L', h1, h2⟩ := hk w' H
  exact ⟨_, by simp [results, hr, hf.get? hv, hf.get? hu, run_cellR H hm ht, Array.getD_eq_getD_getElem?, asAddr], L', h1, h2⟩
end

/-- A call begins. -/
theorem J_start {f : FuncId} {fn : Func} {c : Code} {args : Array Value} {w : World} {Rr : Value → List HP → Prop} (hf : P.funcs[f]? = some fn) (hb : fn.body = some c) {nt : Nat} (hn : fn.ntmps = nt) (ha : args.size ≤ nt) (hlt : nt ≤ mkK) (H : Ow W K L w) {tm : TM} (ht : ∀ t v, tget tm t = some v → args[t]? = some v)
    (h : J P nt W K (fpost P fn W K Rr) [.code c] tm L) : Calls P f args w (retR W K Rr) := by
  subst hn
  refine callsIn_wide.1 (callsIn_of_wp_marks (n := 0) (F := Fence.wide) hf hb trivial (h _ w ⟨?_, by simp; omega, hlt, fun t v _ e => ?_⟩ H))
  · cases hq : tget tm mkK with
    | none => rfl
    | some v =>
      exfalso
      have := (Array.getElem?_eq_some_iff.1 (ht _ _ hq)).1
      omega
  have h1 := ht t v e
  have hlt := (Array.getElem?_eq_some_iff.1 h1).1
  rw [Array.getElem?_append_left hlt]
  exact h1
def argTM : Nat → List Value → TM
  | _, [] => []
  | i, v :: r => (i, v) :: argTM (i + 1) r
theorem argTM_get : ∀ (l : List Value) (i t : Nat) (v : Value), tget (argTM i l) t = some v → i ≤ t ∧ l[t - i]? = some v
  | [], _, _, _, h => by cases h
  | x :: r, i, t, v, h => by
    simp only [argTM, tget] at h
    by_cases hu : i = t
    · subst hu; simp at h; subst h; simp
    · have : Nat.beq i t = false := by rw [Bool.eq_false_iff]; intro hb; exact hu (Nat.eq_of_beq_eq_true hb)
      rw [this] at h
      obtain ⟨h1, h2⟩ := argTM_get r (i + 1) t v h
      refine ⟨by omega, ?_⟩
      rw [show t - i = (t - (i + 1)) + 1 by omega]
      simpa using h2
theorem pact {f : FuncId} {fn : Func} {c : Code} {args : List Value} {φ : World → Prop} {pre : List HP} {Rr : Value → List HP → Prop} (hf : P.funcs[f]? = some fn) (hb : fn.body = some c) {nt : Nat} (hn : fn.ntmps = nt) (ha : (Nat.ble args.length nt && Nat.ble nt 1000000) = true)
    (h : ∀ W K, Kn K φ → J P nt W K (fpost P fn W K Rr) [.code c] (argTM 0 args) pre) : Pact P f args.toArray φ pre Rr := fun W K w hK H =>
  J_start hf hb hn (by simp at ha ⊢; omega) (by simp at ha; show nt ≤ 1000000; omega) H (fun t v e => by have := argTM_get args 0 t v e; simpa using this.2) (h W K hK)

/-- The marks, said out. -/
theorem J_mark0 (h : J P n W K F k ((mkK, encM []) :: tm) L) (hm : decM (tget tm mkK) = [] := by rfl) : J P n W K F k tm L := .mk <| fun a w hf hO => h a w ⟨by show _ = (decM (some (encM []))).map mark; rw [dec_enc, hf.d, hm], hf.sz, hf.lt, fun t v ht hv => hf.v t v ht (by
  have : Nat.beq mkK t = false := by rw [Bool.eq_false_iff]; intro hb; exact ht (Nat.eq_of_beq_eq_true hb).symm
  simpa [tget, this] using hv)⟩ hO

/-! Loops. -/
def Inv {α : Type} (n : Nat) (W : World) (K : Hl) (m : α → Nat) (I : α → Prop) (tmI : α → TM) (LI : α → List HP) (b : Nat) : Act → World → Prop := fun a w => ∃ x, m x < b ∧ I x ∧ Fit n (tget (tmI x)) a ∧ Ow W K (LI x) w
theorem J_loop {α : Type} (x0 : α) (m : α → Nat) (I : α → Prop) (tmI : α → TM) (LI : α → List HP) {c : Code} (h0 : I x0) (ht : subTM (tmI x0) tm) (hL : ∀ w, Ow W K L w → Ow W K (LI x0) w)
    (hr : ∀ x, I x → J P n W K F (.code c :: .hole (Inv n W K m I tmI LI (m x)) :: k) (tmI x) (LI x)) (hm : decM (tget (tmI x0) mkK) = decM (tget tm mkK) := by rfl) : J P n W K F (.code (.loop c) :: k) tm L := .mk <| fun a w hf hO => by
  classical
  have key : ∀ b a w, (∃ x, m x < b ∧ I x ∧ Fit n (tget (tmI x)) a ∧ Ow W K (LI x) w) → ∃ b', (∃ x, m x = b' ∧ I x ∧ Fit n (tget (tmI x)) a ∧ Ow W K (LI x) w) ∧ b' < b ∧ ∀ c, (∃ x, m x = c ∧ I x ∧ Fit n (tget (tmI x)) a ∧ Ow W K (LI x) w) → b' ≤ c := by
    intro b a w
    induction b using Nat.strongRecOn with
    | _ b ih =>
      rintro ⟨x, hx, h1, h2, h3⟩
      by_cases hy : ∃ y, m y < m x ∧ I y ∧ Fit n (tget (tmI y)) a ∧ Ow W K (LI y) w
      · obtain ⟨b', h4, h5, h6⟩ := ih (m x) hx hy
        exact ⟨b', h4, by omega, h6⟩
      · refine ⟨m x, ⟨x, rfl, h1, h2, h3⟩, hx, fun c ⟨y, h4, h5⟩ => ?_⟩
        rcases Nat.lt_or_ge (m y) (m x) with h6 | h6
        · exact (hy ⟨y, h6, h5⟩).elim
        · omega
  let Iv : Act → World → Prop := fun a w => ∃ x, I x ∧ Fit n (tget (tmI x)) a ∧ Ow W K (LI x) w
  let μ : Act → World → Nat := fun a w => if h : ∃ b, (∃ x, m x = b ∧ I x ∧ Fit n (tget (tmI x)) a ∧ Ow W K (LI x) w) ∧ ∀ c, (∃ x, m x = c ∧ I x ∧ Fit n (tget (tmI x)) a ∧ Ow W K (LI x) w) → b ≤ c then h.choose else 0
  have hμ : ∀ a w, Iv a w → (∃ x, m x = μ a w ∧ I x ∧ Fit n (tget (tmI x)) a ∧ Ow W K (LI x) w) ∧ ∀ c, (∃ x, m x = c ∧ I x ∧ Fit n (tget (tmI x)) a ∧ Ow W K (LI x) w) → μ a w ≤ c := by
    rintro a w ⟨x, h1, h2, h3⟩
    obtain ⟨b', h4, _, h5⟩ := key (m x + 1) a w ⟨x, by omega, h1, h2, h3⟩
    have hex : ∃ b, (∃ x, m x = b ∧ I x ∧ Fit n (tget (tmI x)) a ∧ Ow W K (LI x) w) ∧ ∀ c, (∃ x, m x = c ∧ I x ∧ Fit n (tget (tmI x)) a ∧ Ow W K (LI x) w) → b ≤ c := ⟨b', h4, h5⟩
    have : μ a w = hex.choose := by simp only [μ]; rw [dif_pos hex]
    rw [this]
    exact hex.choose_spec
  refine wpIn_loop Iv μ ⟨x0, h0, hf.sub ht hm, hL w hO⟩ fun a w hI => ?_
  obtain ⟨⟨x, h1, h2, h3, h4⟩, _⟩ := hμ a w hI
  refine wpIn_mono (hr x h2 a w h3 h4) ?_
  intro e a' w' he
  cases e with
  | normal =>
    obtain ⟨y, h5, h6, h7, h8⟩ := he
    have hI' : Iv a' w' := ⟨y, h6, h7, h8⟩
    refine ⟨hI', ?_⟩
    have := (hμ a' w' hI').2 (m y) ⟨y, rfl, h6, h7, h8⟩
    omega
  | _ => exact he
theorem J_again {α : Type} {m : α → Nat} {I : α → Prop} {tmI : α → TM} {LI : α → List HP} {b : Nat} (x : α) (hm : m x < b) (hI : I x) (ht : subTM (tmI x) tm) (hL : ∀ w, Ow W K L w → Ow W K (LI x) w) (hmk : decM (tget (tmI x) mkK) = decM (tget tm mkK) := by rfl) : J P n W K F (.hole (Inv n W K m I tmI LI b) :: k) tm L := .mk <|
  fun _ w hf hO => ⟨x, hm, hI, hf.sub ht hmk, hL w hO⟩
/-- Ways that meet again. -/
def Meet {α : Type} (n : Nat) (W : World) (K : Hl) (I : α → Prop) (tmI : α → TM) (LI : α → List HP) : Act → World → Prop := fun a w => ∃ x, I x ∧ Fit n (tget (tmI x)) a ∧ Ow W K (LI x) w
theorem J_cut {α : Type} (I : α → Prop) (tmI : α → TM) (LI : α → List HP) {c : Code} (h1 : J P n W K F (.code c :: .hole (Meet n W K I tmI LI) :: k) tm L) (h2 : ∀ x, I x → J P n W K F k (tmI x) (LI x)) : J P n W K F (.code c :: k) tm L := .mk <| fun a w hf hO => by
  refine wpIn_mono (h1 a w hf hO) ?_
  intro e a' w' he
  cases e with
  | normal => obtain ⟨x, h3, h4, h5⟩ := he; exact h2 x h3 a' w' h4 h5
  | _ => exact he
theorem J_meet {α : Type} {I : α → Prop} {tmI : α → TM} {LI : α → List HP} (x : α) (hI : I x) (ht : subTM (tmI x) tm) (hL : ∀ w, Ow W K L w → Ow W K (LI x) w) (hmk : decM (tget (tmI x) mkK) = decM (tget tm mkK) := by rfl) : J P n W K F (.hole (Meet n W K I tmI LI) :: k) tm L := .mk <|
  fun _ w hf hO => ⟨x, hI, hf.sub ht hmk, hL w hO⟩

/-! A scope with one label. -/
def jmpK (l : Nat) : List It → Option (Act → World → Prop)
  | [] => none
  | .jmp l' H :: _ => bif Nat.beq l l' then some H else none
  | .code _ :: k => jmpK l k
  | .blk _ :: k => jmpK l k
  | .hole _ :: k => jmpK l k
theorem runK_goto {l : Nat} {H : Act → World → Prop} : ∀ {k : List It}, jmpK l k = some H → ∀ a w, H a w → runK P F k (.goto l) a w
  | [], h, _, _, _ => by cases h
  | .jmp l' H' :: k, h, a, w, h2 => by
    simp only [jmpK] at h
    by_cases hl : l = l'
    · subst hl
      simp at h
      subst h
      exact ⟨rfl, h2⟩
    · have : Nat.beq l l' = false := by rw [Bool.eq_false_iff]; intro hb; exact hl (Nat.eq_of_beq_eq_true hb)
      rw [this] at h
      cases h
  | .code _ :: k, h, a, w, h2 => by simpa only [runK, Exit.then] using runK_goto (k := k) h a w h2
  | .blk _ :: k, h, a, w, h2 => by simpa only [runK, Exit.inBlock] using runK_goto (k := k) h a w h2
  | .hole _ :: k, h, a, w, h2 => by simpa only [runK, Exit.then] using runK_goto (k := k) h a w h2
theorem J_goto {l : Nat} {H : Act → World → Prop} (hj : jmpK l k = some H) (h : J P n W K F [.hole H] tm L) : J P n W K F (.code (.goto l) :: k) tm L := .mk <| fun a w hf hO => wpIn_goto (runK_goto hj a w (h a w hf hO))
theorem runK_codes_ne {l : Nat} {H : Act → World → Prop} {e : Exit} (he : e ≠ .normal) : ∀ (cs : List Code) (a : Act) (w : World), runK P F (cs.map It.code ++ .jmp l H :: k) e a w → Exit.jump l H (runK P F k) e a w
  | [], _, _, h => h
  | c :: cs, a, w, h => by
    refine runK_codes_ne he cs a w ?_
    simp only [List.map_cons, List.cons_append, runK] at h
    cases e <;> first | exact (he rfl).elim | exact h
theorem runK_codes {l : Nat} {H : Act → World → Prop} : ∀ (cs : List Code) (a : Act) (w : World), runK P F (cs.map It.code ++ .jmp l H :: k) .normal a w → wpKI (wideR F.ro) 0 P cs (Exit.jump l H (runK P F k) .normal) (Exit.jump l H (runK P F k)) a w
  | [], _, _, h => h
  | c :: cs, a, w, h => by
    simp only [List.map_cons, List.cons_append, runK, Exit.then] at h
    refine wpIn_mono (c := c) h ?_
    intro e a' w' he
    cases e with
    | normal => exact runK_codes cs a' w' he
    | _ => exact runK_codes_ne (by simp) cs a' w' he
theorem runK_hole {H H' : Act → World → Prop} (hh : ∀ a w, H a w → H' a w) {l : Nat} : ∀ (cs : List Code) (a : Act) (w : World), runK P F (cs.map It.code ++ .hole H :: .jmp l H' :: k) .normal a w → wpKI (wideR F.ro) 0 P cs H' (Exit.jump l H' (runK P F k)) a w
  | [], a, w, h => hh a w h
  | c :: cs, a, w, h => by
    simp only [List.map_cons, List.cons_append, runK, Exit.then] at h
    refine wpIn_mono (c := c) h ?_
    have ne : ∀ (cs : List Code) (e : Exit) (_ : e ≠ .normal) (a : Act) (w : World), runK P F (cs.map It.code ++ .hole H :: .jmp l H' :: k) e a w → Exit.jump l H' (runK P F k) e a w := by
      intro cs
      induction cs with
      | nil => intro e he a w h; cases e <;> first | exact (he rfl).elim | exact h
      | cons c cs ih =>
        intro e he a w h
        refine ih e he a w ?_
        simp only [List.map_cons, List.cons_append, runK] at h
        cases e <;> first | exact (he rfl).elim | exact h
    intro e a' w' he
    cases e with
    | normal => exact runK_hole hh cs a' w' he
    | _ => exact ne cs _ (by simp) a' w' he
theorem least_of {S : Type} (p : S → Nat → Prop) : ∃ μ : S → Nat, ∀ s, (∃ b, p s b) → p s (μ s) ∧ ∀ c, p s c → μ s ≤ c := by
  classical
  have key : ∀ (s : S) (b : Nat), p s b → ∃ b', p s b' ∧ ∀ c, p s c → b' ≤ c := by
    intro s b
    induction b using Nat.strongRecOn with
    | _ b ih =>
      intro hb
      by_cases hy : ∃ c, c < b ∧ p s c
      · obtain ⟨c, hc, hp⟩ := hy
        exact ih c hc hp
      · exact ⟨b, hb, fun c hc => by
          rcases Nat.lt_or_ge c b with h | h
          · exact (hy ⟨c, h, hc⟩).elim
          · exact h⟩
  refine ⟨fun s => if h : ∃ b', p s b' ∧ ∀ c, p s c → b' ≤ c then h.choose else 0, fun s ⟨b, hb⟩ => ?_⟩
  have h := key s b hb
  simp only [h, dite_true]
  exact h.choose_spec
theorem J_scope {α : Type} (l : Nat) (m : α → Nat) (I : α → Prop) (tmI : α → TM) (LI : α → List HP) {c rest : Code} {bs rs : List Code} (hf : findLabel c l = some rest) (hu : upto c l = some (bs, rs))
    (h1 : J P n W K F (bs.map It.code ++ .hole (Meet n W K I tmI LI) :: .jmp l (Meet n W K I tmI LI) :: k) tm L)
    (hr : ∀ x, I x → J P n W K F (rs.map It.code ++ .jmp l (Inv n W K m I tmI LI (m x)) :: k) (tmI x) (LI x)) : J P n W K F (.code (.scope c) :: k) tm L := .mk <| fun a w hfit hO => by
  obtain ⟨μ, hμ⟩ := least_of (S := Act × World) (fun s b => ∃ x, m x = b ∧ I x ∧ Fit n (tget (tmI x)) s.1 ∧ Ow W K (LI x) s.2)
  refine wpIn_scope_jumps l (Meet n W K I tmI LI) (fun a w => μ (a, w)) hf (wpI_upto c l bs rs _ a w hu ?_) fun a w hJ => ?_
  · refine wpKI_mono (fun e a w _ he => he) bs (fun a w hM => ?_) a w (runK_hole (fun _ _ h => h) bs a w (h1 a w hfit hO))
    obtain ⟨x, h2, h3, h4⟩ := hM
    refine wpKI_mono (Q := Exit.jump l (Inv n W K m I tmI LI (m x)) (runK P F k)) (fun e a w hne he => ?_) rs (fun a w hk => hk) a w (runK_codes (H := Inv n W K m I tmI LI (m x)) rs a w (hr x h2 a w h3 h4))
    cases e <;> first | exact he | (obtain ⟨rfl, y, _, h5⟩ := he; exact ⟨rfl, y, h5⟩)
  · obtain ⟨x0, h20, h30, h40⟩ := hJ
    obtain ⟨⟨x, hx, h2, h3, h4⟩, _⟩ := hμ (a, w) ⟨m x0, x0, rfl, h20, h30, h40⟩
    refine wpI_rest c l bs rs rest _ a w hu hf ?_
    refine wpKI_mono (Q := Exit.jump l (Inv n W K m I tmI LI (m x)) (runK P F k)) (fun e a w hne he => ?_) rs (fun a w hk => hk) a w (runK_codes (H := Inv n W K m I tmI LI (m x)) rs a w (hr x h2 a w h3 h4))
    cases e <;> first | exact he | (obtain ⟨rfl, y, hy, h5⟩ := he; refine ⟨rfl, ⟨y, h5⟩, ?_⟩; have := (hμ (_, _) ⟨m y, y, rfl, h5⟩).2 (m y) ⟨y, rfl, h5⟩; omega)

/-! Regions. -/
theorem J_reg {id : Nat} {l : List Oper} (h : JL P n W K F l.toArray k l tm L) : J P n W K F (.code (.region id l.toArray false) :: k) tm L := .mk <| fun a w hf hO => wpIn_region_lit (h a w hf hO)
/-- Operations by their places. -/
inductive Pick (lo : List Oper) : List Nat → List Oper → Prop
  | nil : Pick lo [] []
  | cons {i : Nat} {o : Oper} {l : List Nat} {r : List Oper} : lo[i]? = some o → Pick lo l r → Pick lo (i :: l) (o :: r)
theorem Pick.eq {lo : List Oper} {l : List Nat} {r : List Oper} (h : Pick lo l r) : l.map (opAt lo.toArray) = r := by
  induction h with
  | nil => rfl
  | cons h _ ih => simp [opAt, h, ih]
theorem J_draw {id : Nat} {lo : List Oper} (l l2 : List Nat) {r r2 : List Oper} (hm : P.follows .mixedOrders = true) (hl : okOrder n lo.toArray l l2 = true) (h1 : Pick lo l r) (h2 : Pick lo l2 r2) (h : JD P n W K F lo.toArray k r2 r tm [] L) : J P n W K F (.code (.region id lo.toArray true) :: k) tm L := .mk <| fun _ _ hf hO => by
  rw [← h1.eq, ← h2.eq] at h
  exact DW_region (fun _ _ _ p h a w h1 h2 => h a w h1 (h2.perm p.symm)) hm hl (fun _ _ a w h h1 h2 => h a w h1 h2) h.h hf hO

section
variable {ops : Array Oper} {o : Oper} {rest : List Oper} {S M M' : List HP} {nx : List Oper} {d : Tmp} {v : Value} {Φ : Value → List HP → Prop} {C : List HP}
theorem JL_nil (h : J P n W K F k tm L) : JL P n W K F ops k [] tm L := ⟨h.h⟩
theorem JL_heap (hh : ∀ w, Ow W K L w → Ow W K L' w) (h : JL P n W K F ops k rest tm L') : JL P n W K F ops k rest tm L := .mk <| fun a w hf hO => h a w hf (hh w hO)
theorem JL_open {α : Type} {Lx : α → List HP} (hh : ∀ w, Ow W K L w → ∃ x, Ow W K (Lx x) w) (h : ∀ x, JL P n W K F ops k rest tm (Lx x)) : JL P n W K F ops k rest tm L := .mk <| fun a w hf hO => by
  obtain ⟨x, hx⟩ := hh w hO
  exact h x a w hf hx
theorem JL_fact {φ : Prop} (hh : ∀ w, Ow W K L w → φ) (h : φ → JL P n W K F ops k rest tm L) : JL P n W K F ops k rest tm L := .mk <| fun a w hf hO => h (hh w hO) a w hf hO
theorem JL_no (hg : wantF ops o (tget tm) = some false) (hd : inB n o.dst = true) (hv : ∀ a, o.dst = some a → a = d) (h : JL P n W K F ops k rest ((d, undef) :: tm) L) (h0 : o.dst = none → JL P n W K F ops k rest tm L) : JL P n W K F ops k (o :: rest) tm L := .mk <| fun a w hf hO => by
  show if Region.wanted o (yielded ops a.tmps) = true then _ else _
  rw [wantF_eq hg hf, if_neg (by simp)]
  refine ⟨fun _ _ => trivial, ?_⟩
  cases hdst : o.dst with
  | none => exact h0 hdst a w hf hO
  | some t =>
    obtain rfl := hv t hdst
    refine h _ w ?_ hO
    rw [← upd_cons]
    rw [hdst] at hd
    exact hf.put hd _
theorem JL_step (hg : wantF ops o (tget tm) = some true) (h : ∀ a w, Fit n (tget tm) a → Ow W K L w → wpI P o a w (fun b w' => ∃ v, b = a.put o.dst v ∧ wpListIn (wideR F.ro) 0 P ops (runK P F k) rest (a.put o.dst v) w')) : JL P n W K F ops k (o :: rest) tm L := .mk <| fun a w hf hO => by
  show if Region.wanted o (yielded ops a.tmps) = true then _ else _
  rw [wantF_eq hg hf, if_pos rfl]
  exact Oper.wpIn_mono (fun b w' ⟨v, e, h⟩ => by subst e; exact h) (wpI_in (N := fun v w' => wpListIn (wideR F.ro) 0 P ops (runK P F k) rest (a.put o.dst v) w') (h a w hf hO))
theorem wpI_v {a : Act} {w w' : World} {v : Value} {N : Value → World → Prop} (h : (execOp a.eval o).run P w = .ok (.value v) w') (hn : N v w') : wpI P o a w (fun b w' => ∃ v, b = a.put o.dst v ∧ N v w') :=
  wpI_of_wp (by unfold Oper.wp; rw [h]; exact ⟨v, rfl, hn⟩)
theorem JL_p (hd : o.dst = some d) (hn : Nat.blt d n = true) (hg : wantF ops o (tget tm) = some true) (hp : PE P K L o (tget tm) v) (h : JL P n W K F ops k rest ((d, v) :: tm) L) : JL P n W K F ops k (o :: rest) tm L := JL_step hg fun a w hf hO =>
  wpI_v (N := fun v w' => wpListIn (wideR F.ro) 0 P ops (runK P F k) rest (a.put o.dst v) w') (hp a.eval w (hf.agree o) (Ow.rdw (M := []) hO)) (by
    rw [hd]
    refine h _ w ?_ hO
    rw [← upd_cons]
    exact hf.put (by simpa [inB] using hn) _)
theorem JL_m {x : Obj} {g : Nat → Value} (hd : o.dst = some d) (hn : Nat.blt d n = true) (hg : wantF ops o (tget tm) = some true) (hp : AL P o (tget tm) x g) (h : ∀ b, JL P n W K F ops k rest ((d, g b) :: tm) (ob b x :: L)) : JL P n W K F ops k (o :: rest) tm L := JL_step hg fun a w hf hO =>
  wpI_v (N := fun v w' => wpListIn (wideR F.ro) 0 P ops (runK P F k) rest (a.put o.dst v) w') (hp a.eval w (hf.agree o)) (by
    rw [hd]
    refine h _ _ _ ?_ (hO.al x)
    rw [← upd_cons]
    exact hf.put (by simpa [inB] using hn) _)
theorem JL_a (hd : o.dst = some d) (hn : Nat.blt d n = true) (hg : wantF ops o (tget tm) = some true) (hs : Sb L C R) (hp : AE P n K R C o (tget tm) Φ) (h : ∀ v L', Φ v L' → JL P n W K F ops k rest ((d, v) :: tm) (L' ++ R)) : JL P n W K F ops k (o :: rest) tm L := JL_step hg fun a w hf hO =>
  hp W K w a _ (Hl.le.refl K) hf (hO.sb hs) fun v L' w' hv hO' => by
    refine ⟨v, rfl, ?_⟩
    rw [hd]
    refine h v L' hv _ w' ?_ hO'
    rw [← upd_cons]
    exact hf.put (by simpa [inB] using hn) _
theorem JL_a0 (hd : o.dst = none) (hg : wantF ops o (tget tm) = some true) (hs : Sb L C R) (hp : AE P n K R C o (tget tm) Φ) (h : ∀ v L', Φ v L' → JL P n W K F ops k rest tm (L' ++ R)) : JL P n W K F ops k (o :: rest) tm L := JL_step hg fun a w hf hO =>
  hp W K w a _ (Hl.le.refl K) hf (hO.sb hs) fun v L' w' hv hO' => by
    refine ⟨v, rfl, ?_⟩
    rw [hd]
    exact h v L' hv _ w' hf hO'
theorem tget_over {t : Tmp} {c : Bool} {b : Bool} (hc : tget tm t = some (.bool c)) (hb : c = b) : tget ((t, .bool b) :: tm) = tget tm := by
  subst hb
  rw [← upd_cons]
  funext u
  simp only [upd]
  split
  · rename_i h; subst h; exact hc.symm
  · rfl
/-- A guard's test is decided. -/
theorem JL_split {t : Tmp} {p : Prop} [Decidable p] (hc : tget tm t = some (.bool (decide p))) (h1 : p → JL P n W K F ops k rest ((t, .bool true) :: tm) L) (h2 : ¬ p → JL P n W K F ops k rest ((t, .bool false) :: tm) L) : JL P n W K F ops k rest tm L := .mk <| fun a w hf hO => by
  by_cases hp : p
  · exact h1 hp a w (by rw [tget_over hc (by simp [hp])]; exact hf) hO
  · exact h2 hp a w (by rw [tget_over hc (by simp [hp])]; exact hf) hO
theorem JL_splitb {t : Tmp} {b : Bool} (hc : tget tm t = some (.bool b)) (h1 : b = true → JL P n W K F ops k rest ((t, .bool true) :: tm) L) (h2 : b = false → JL P n W K F ops k rest ((t, .bool false) :: tm) L) : JL P n W K F ops k rest tm L := .mk <| fun a w hf hO => by
  cases b with
  | true => exact h1 rfl a w (by rw [tget_over hc rfl]; exact hf) hO
  | false => exact h2 rfl a w (by rw [tget_over hc rfl]; exact hf) hO

/-! The same where the order is drawn. -/
theorem JD_nil (h : J P n W K F k tm (M ++ S)) : JD P n W K F ops k [] [] tm S M := .mk <| fun _ _ a w h1 h2 => h.h a w h1 (by simpa using h2)
/-- Behind all that may change its order. -/
theorem JD_bar (h : JD P n W K F ops k [] (o :: nx) tm [] (M ++ S)) : JD P n W K F ops k (o :: nx) [] tm S M := .mk <| fun _ => by
  refine DW_finMono ?_ _ _ _ _ h.h
  intro f L hh
  exact fun a w h1 h2 => hh ⟨W, K, w, a, Hl.le.refl K, h1, by simpa using h2⟩ a w h1 (by simpa using h2)
theorem JD_split {t : Tmp} {p : Prop} [Decidable p] (hc : tget tm t = some (.bool (decide p))) (h1 : p → JD P n W K F ops k nx rest ((t, .bool true) :: tm) S M) (h2 : ¬ p → JD P n W K F ops k nx rest ((t, .bool false) :: tm) S M) : JD P n W K F ops k nx rest tm S M := by
  by_cases hp : p
  · have := h1 hp
    refine ⟨?_⟩
    have h3 := this.h
    rwa [tget_over hc (by simp [hp])] at h3
  · have := h2 hp
    refine ⟨?_⟩
    have h3 := this.h
    rwa [tget_over hc (by simp [hp])] at h3
theorem JD_splitb {t : Tmp} {b : Bool} (hc : tget tm t = some (.bool b)) (h1 : b = true → JD P n W K F ops k nx rest ((t, .bool true) :: tm) S M) (h2 : b = false → JD P n W K F ops k nx rest ((t, .bool false) :: tm) S M) : JD P n W K F ops k nx rest tm S M := by
  cases b with
  | true => have h3 := (h1 rfl).h; refine ⟨?_⟩; rwa [tget_over hc rfl] at h3
  | false => have h3 := (h2 rfl).h; refine ⟨?_⟩; rwa [tget_over hc rfl] at h3
theorem JD_no (hg : wantF ops o (tget tm) = some false) (hd : o.dst = some d) (h : JD P n W K F ops k nx rest ((d, undef) :: tm) S M) : JD P n W K F ops k nx (o :: rest) tm S M := .mk <| fun _ _ _ _ _ _ _ => .inl ⟨hg, by rw [hd, upd_cons]; exact h.h⟩
theorem JD_p (hd : o.dst = some d) (hg : wantF ops o (tget tm) = some true) (hk : kindOp o.op = 0) (hp : PE P K S o (tget tm) v) (h : JD P n W K F ops k nx rest ((d, v) :: tm) S M) : JD P n W K F ops k nx (o :: rest) tm S M := .mk <| fun _ _ _ _ _ _ _ => .inr ⟨hg, .inl ⟨hk, [], M, v, .refl _, hp, by rw [hd, upd_cons]; exact h.h⟩⟩
/-- What is read stands still from here on. -/
theorem JD_pM {A : HP} (hd : o.dst = some d) (hg : wantF ops o (tget tm) = some true) (hk : kindOp o.op = 0) (ht : Tk M A M') (hp : PE P K (A :: S) o (tget tm) v) (h : JD P n W K F ops k nx rest ((d, v) :: tm) (A :: S) M') : JD P n W K F ops k nx (o :: rest) tm S M := .mk <| fun _ _ _ _ _ _ _ => .inr ⟨hg, .inl ⟨hk, [A], M', v, ht.perm, hp, by rw [hd, upd_cons]; exact h.h⟩⟩
theorem JD_m {x : Obj} {g : Nat → Value} (hd : o.dst = some d) (hg : wantF ops o (tget tm) = some true) (hk : kindOp o.op = 1) (hp : AL P o (tget tm) x g) (h : ∀ b, JD P n W K F ops k nx rest ((d, g b) :: tm) S (ob b x :: M)) : JD P n W K F ops k nx (o :: rest) tm S M := .mk <| fun _ _ _ _ _ _ _ => .inr ⟨hg, .inr (.inl ⟨hk, x, g, hp, fun b => by rw [hd, upd_cons]; exact (h b).h⟩)⟩
theorem JD_a (hd : o.dst = some d) (hg : wantF ops o (tget tm) = some true) (hk : kindOp o.op = 2) (hs : Sb M C R) (hp : AE P n K (R ++ S) C o (tget tm) Φ) (h : ∀ v L', Φ v L' → JD P n W K F ops k nx rest ((d, v) :: tm) S (L' ++ R)) : JD P n W K F ops k nx (o :: rest) tm S M := .mk <| fun W2 K' w a hK hf hO => .inr ⟨hg, .inr (.inr ⟨hk, by
  refine hp W2 K' w a _ hK hf (by rw [← List.append_assoc]; exact hO.perm (hs.perm.append_right S)) fun v L' w' hv hO' => ⟨v, rfl, L' ++ R, by rw [List.append_assoc]; exact hO', ?_⟩
  rw [hd, upd_cons]
  exact (h v L' hv).h⟩)⟩
theorem JD_a0 (hd : o.dst = none) (hg : wantF ops o (tget tm) = some true) (hk : kindOp o.op = 2) (hs : Sb M C R) (hp : AE P n K (R ++ S) C o (tget tm) Φ) (h : ∀ v L', Φ v L' → JD P n W K F ops k nx rest tm S (L' ++ R)) : JD P n W K F ops k nx (o :: rest) tm S M := .mk <| fun W2 K' w a hK hf hO => .inr ⟨hg, .inr (.inr ⟨hk, by
  refine hp W2 K' w a _ hK hf (by rw [← List.append_assoc]; exact hO.perm (hs.perm.append_right S)) fun v L' w' hv hO' => ⟨v, rfl, L' ++ R, by rw [List.append_assoc]; exact hO', ?_⟩
  rw [hd]
  exact (h v L' hv).h⟩)⟩
end
end
end Go.Pm
namespace Go.Pm
set_option linter.unusedSimpArgs false
set_option linter.unusedVariables false
open Go.RowKit

def fieldInfo (P : Program) (t : TypeId) (f : Nat) : Option (Nat × Nat × Bool) := match P.underlying t with
  | some (.struct fs) => match fs[f]? with
    | some fd => match P.info? fd.type, P.underlying fd.type with
      | some i, some d => some (fd.offset, i.size, d.isRow)
      | _, _ => none
    | none => none
  | _ => none
theorem fieldInfo_spec {P : Program} {t : TypeId} {f off sz : Nat} {r : Bool} (h : fieldInfo P t f = some (off, sz, r)) : ∃ fs fd i d, P.underlying t = some (.struct fs) ∧ fs[f]? = some fd ∧ fd.offset = off ∧ P.info? fd.type = some i ∧ i.size = sz ∧ P.underlying fd.type = some d ∧ d.isRow = r := by
  unfold fieldInfo at h
  split at h
  · rename_i fs hu
    split at h
    · rename_i fd hf
      split at h
      · rename_i i d hi hd
        simp only [Option.some.injEq, Prod.mk.injEq] at h
        exact ⟨fs, fd, i, d, hu, hf, h.1, hi, h.2.1, hd, h.2.2⟩
      · cases h
    · cases h
  · cases h
def elemInfo (P : Program) (t : TypeId) : Option (TypeId × Nat × Nat) := match P.underlying t with
  | some (.slice e) => match P.info? e with
    | some i => some (e, i.size, i.bytes)
    | none => none
  | _ => none
theorem elemInfo_spec {P : Program} {t e : TypeId} {sz by_ : Nat} (h : elemInfo P t = some (e, sz, by_)) : ∃ i, P.underlying t = some (.slice e) ∧ P.info? e = some i ∧ i.size = sz ∧ i.bytes = by_ := by
  unfold elemInfo at h
  split at h
  · rename_i e' hu
    split at h
    · rename_i i hi
      simp only [Option.some.injEq, Prod.mk.injEq] at h
      obtain ⟨rfl, h2, h3⟩ := h
      exact ⟨i, hu, hi, h2, h3⟩
    · cases h
  · cases h
theorem run_sz {P : Program} {t : TypeId} {i : TypeInfo} (h : P.info? t = some i) (w : World) : (sizeOf t).run P w = .ok i.size w := by simp [sizeOf, typeInfo, h]
theorem run_agg {P : Program} {t : TypeId} {d : TypeDesc} (h : P.underlying t = some d) (w : World) : (isAgg t).run P w = .ok d.isRow w := by
  unfold isAgg
  rw [Sem.run_bind, run_underlying h w]
  cases d <;> rfl

/-! Tables of what the types say, so that numbers stand as numbers. -/
def tabGet {β : Type} : List (Nat × β) → Nat → Option β
  | [], _ => none
  | (k, v) :: r, t => bif Nat.beq k t then some v else tabGet r t
theorem tabGet_mem {β : Type} : ∀ {l : List (Nat × β)} {t : Nat} {x : β}, tabGet l t = some x → (t, x) ∈ l
  | [], _, _, h => by cases h
  | (k, v) :: r, t, x, h => by
    simp only [tabGet] at h
    by_cases hu : k = t
    · subst hu; simp at h; subst h; simp
    · have : Nat.beq k t = false := by rw [Bool.eq_false_iff]; intro hb; exact hu (Nat.eq_of_beq_eq_true hb)
      rw [this] at h
      exact List.mem_cons_of_mem _ (tabGet_mem h)
def tabOkE (P : Program) (tab : List (Nat × (TypeId × Nat × Nat))) : Bool := tab.all fun p => decide (elemInfo P p.1 = some p.2)
theorem tabE {P : Program} {tab : List (Nat × (TypeId × Nat × Nat))} {t : Nat} {x : TypeId × Nat × Nat} (h : tabOkE P tab = true) (g : tabGet tab t = some x) : elemInfo P t = some x := by
  simpa using List.all_eq_true.1 h _ (tabGet_mem g)
def fOk (P : Program) (t : TypeId) : Nat → List (Nat × Nat × Bool) → Bool
  | _, [] => true
  | i, x :: r => decide (fieldInfo P t i = some x) && fOk P t (i + 1) r
theorem fOk_get {P : Program} {t : TypeId} : ∀ {l : List (Nat × Nat × Bool)} {i j : Nat} {x : Nat × Nat × Bool}, fOk P t i l = true → l[j]? = some x → fieldInfo P t (i + j) = some x
  | [], _, _, _, _, h => by simp at h
  | y :: r, i, 0, x, h, g => by
    simp only [fOk, Bool.and_eq_true, decide_eq_true_eq] at h
    simp at g
    rw [Nat.add_zero, h.1, g]
  | y :: r, i, j + 1, x, h, g => by
    simp only [fOk, Bool.and_eq_true, decide_eq_true_eq] at h
    have := fOk_get (j := j) h.2 (by simpa using g)
    rw [show i + (j + 1) = i + 1 + j by omega]
    exact this
def tabOkF (P : Program) (tab : List (Nat × List (Nat × Nat × Bool))) : Bool := tab.all fun p => fOk P p.1 0 p.2
def tabGetF (tab : List (Nat × List (Nat × Nat × Bool))) (t f : Nat) : Option (Nat × Nat × Bool) := match tabGet tab t with
  | some l => l[f]?
  | none => none
theorem tabF {P : Program} {tab : List (Nat × List (Nat × Nat × Bool))} {t f : Nat} {x : Nat × Nat × Bool} (h : tabOkF P tab = true) (g : tabGetF tab t f = some x) : fieldInfo P t f = some x := by
  unfold tabGetF at g
  split at g
  · rename_i l hl
    have := fOk_get (j := f) (List.all_eq_true.1 h _ (tabGet_mem hl)) g
    simpa using this
  · cases g
def tabOkS (P : Program) (tab : List (Nat × Nat)) : Bool := tab.all fun p => decide ((P.info? p.1).map (·.size) = some p.2)
theorem tabS {P : Program} {tab : List (Nat × Nat)} {t x : Nat} (h : tabOkS P tab = true) (g : tabGet tab t = some x) : (P.info? t).map (·.size) = some x := by
  simpa using List.all_eq_true.1 h _ (tabGet_mem g)

/-- An element's place in a slice: the slice's address, and how many cells on. -/
@[irreducible] def elA (a : Option Addr) (j sz off : Nat) : Addr := (a.getD ⟨0, 0, none⟩).add (j * sz + off)
theorem elA_add (a : Option Addr) (j sz m k : Nat) : (elA a j sz m).add k = elA a j sz (m + k) := by unfold elA; rw [addr_add_add, Nat.add_assoc]
/-- The address of a part of a slice. -/
@[irreducible] def slA (a : Option Addr) (c l sz : Nat) : Option Addr := if c = l then a else a.map (·.add (l * sz))

/-- That the slice v may be read: K and the parts L say so. -/
def Src (K : Hl) (L : List HP) (v : Value) (sz n : Nat) (xs : List Value) : Prop := ∀ w, Rdw K L w → Vw w v sz n xs
section
variable {P : Program} {K : Hl} {L R : List HP} {v : Value} {sz n : Nat} {xs : List Value} {e : TypeId}
theorem Rdw.tk {w : World} {A : HP} (h : Rdw K L w) (t : Tk L A R) : ∃ k, A k ∧ k.inn w := by
  obtain ⟨x, s, d, i⟩ := h.2
  obtain ⟨h1, h2, a, _, d', rfl⟩ := sats_perm t.perm x s
  exact ⟨h1, a, ((Hl.inn_add d').1 i).1⟩
theorem Rdw.blk {w : World} {b : Nat} {cs : List Value} {T : TypeId} (h : Rdw K L w) (t : Tk L (pts b cs T) R) : Blk w b cs.toArray T := by
  obtain ⟨k, rfl, i⟩ := h.tk t
  exact i b _ (by simp [Hl.one])
/-- A slice of the call's own, of elements that are laid as enc says. -/
def Ar {α : Type} (e : TypeId) (sz : Nat) (enc : α → List Value) (v : Value) (es : List α) : HP := Sl e sz v es.length (flat enc es)
/-- A slice that may be read alone. -/
def Vr {α : Type} (sz : Nat) (enc : α → List Value) (v : Value) (es : List α) : HP := V sz v es.length (flat enc es)
theorem Src.sl (t : Tk L (Sl e sz v n xs) R) : Src K L v sz n xs := fun w h => by
  obtain ⟨k, hk, i⟩ := h.tk t
  exact own_vw (hk.owns i 0 (fun _ _ => Nat.zero_le _))
theorem Src.ofV (t : Tk L (V sz v n xs) R) : Src K L v sz n xs := fun w h => by
  obtain ⟨k, hk, i⟩ := h.tk t
  exact hk.vw i
theorem Src.ar {α : Type} {enc : α → List Value} {es : List α} (t : Tk L (Ar e sz enc v es) R) : Src K L v sz es.length (flat enc es) := Src.sl t
theorem Src.vr {α : Type} {enc : α → List Value} {es : List α} (t : Tk L (Vr sz enc v es) R) : Src K L v sz es.length (flat enc es) := Src.ofV t
theorem Src.kn (h : Kn K (fun w => Vw w v sz n xs)) : Src K L v sz n xs := fun w hr => h w hr.1
theorem Src.lit {g m : Nat} {cs : List Value} (t : Tk L (pts g cs e) R) (hl : cs.length = m * sz) (hm : m ≤ maxLen) : Src K L (.slice (some ⟨g, 0, none⟩) m m) sz m cs := fun w h => by
  have hb := h.blk t
  refine ⟨_, m, rfl, hl, Nat.le_refl _, hm, (fun h => by cases h), fun _ => ⟨g, 0, rfl, fun j u hu => ?_⟩⟩
  rw [Nat.zero_add, hb.cell]
  simpa using hu
theorem Src.nil : Src K L (.slice none 0 0) sz 0 [] := fun w _ => Vw.nil w sz
theorem Vw.shape {w : World} {v : Value} {sz n : Nat} {xs : List Value} (h : Vw w v sz n xs) : ∃ a c, v = .slice a n c ∧ n ≤ c ∧ c ≤ maxLen := by
  obtain ⟨a, c, rfl, _, h2, h3, _⟩ := h
  exact ⟨a, c, rfl, h2, h3⟩
end

section
variable {P : Program} {K : Hl} {L R : List HP} {tm : TM} {d : Option Tmp} {T : TypeId} {pos : String} {af : Array Edge} {gd : Option (Nat × Bool)}

theorem pe_move {x : Operand} {v : Value} (h : evT tm x = some v) : PE P K L ⟨d, .move x, T, pos, af, gd⟩ (tget tm) v := fun ρ w ha _ => by
  have := ha x (by simp [Op.operands]) v h
  unfold execOp; simp only [this]; rfl
theorem pe_assign {x : Operand} {v : Value} (h : evT tm x = some v) : PE P K L ⟨d, .assign x, T, pos, af, gd⟩ (tget tm) v := fun ρ w ha _ => by
  have := ha x (by simp [Op.operands]) v h
  unfold execOp; simp only [this]; rfl
theorem pe_pickT {c x y : Operand} {v : Value} (hc : evT tm c = some (.bool true)) (h : evT tm x = some v) : PE P K L ⟨d, .pick c x y, T, pos, af, gd⟩ (tget tm) v := fun ρ w ha _ => by
  have h1 := ha c (by simp [Op.operands]) _ hc
  have h2 := ha x (by simp [Op.operands]) _ h
  unfold execOp; simp only [h1, h2]; rfl
theorem pe_pickF {c x y : Operand} {v : Value} (hc : evT tm c = some (.bool false)) (h : evT tm y = some v) : PE P K L ⟨d, .pick c x y, T, pos, af, gd⟩ (tget tm) v := fun ρ w ha _ => by
  have h1 := ha c (by simp [Op.operands]) _ hc
  have h2 := ha y (by simp [Op.operands]) _ h
  unfold execOp; simp only [h1, h2]; rfl
theorem pe_nilP {x : Operand} {p : Addr} (h : evT tm x = some (.pointer (some p))) : PE P K L ⟨d, .nilCheck x, T, pos, af, gd⟩ (tget tm) (.pointer (some p)) := fun ρ w ha _ => by
  have := ha x (by simp [Op.operands]) _ h
  unfold execOp; simp only [this]; rfl
theorem pe_nilF {x : Operand} {f : FuncId} {a b : Array Value} (h : evT tm x = some (.func (.func f) a b)) : PE P K L ⟨d, .nilCheck x, T, pos, af, gd⟩ (tget tm) (.func (.func f) a b) := fun ρ w ha _ => by
  have := ha x (by simp [Op.operands]) _ h
  unfold execOp; simp only [this]; rfl
theorem pe_extract {x : Operand} {i : Nat} {vs : List Value} {v : Value} (h : evT tm x = some (.tuple vs.toArray)) (hv : vs[i]? = some v) : PE P K L ⟨d, .extract x i, T, pos, af, gd⟩ (tget tm) v := fun ρ w ha _ => by
  have := ha x (by simp [Op.operands]) _ h
  unfold execOp; simp only [this, Instr.extract, List.getElem?_toArray, hv]; rfl
theorem pe_func {f : Fn} {fs cs : Array Operand} {vs us : List Value} (h1 : fs.toList.mapM (evT tm) = some vs) (h2 : cs.toList.mapM (evT tm) = some us) : PE P K L ⟨d, .makeFunc f fs cs, T, pos, af, gd⟩ (tget tm) (.func f vs.toArray us.toArray) := fun ρ w ha _ => by
  have key : ∀ (l : List Operand) (r : List Value), (∀ x ∈ l, x ∈ fs.toList ++ cs.toList) → l.mapM (evT tm) = some r → l.map ρ = r := by
    intro l
    induction l with
    | nil => intro r _ h; simpa using h
    | cons x l ih =>
      intro r hm h
      simp only [List.mapM_cons, Option.pure_def, Option.bind_eq_bind, Option.bind_eq_some_iff, Option.some.injEq] at h
      obtain ⟨v, hv, r', hr, rfl⟩ := h
      have := ha x (by simpa [Op.operands] using hm x (by simp)) v hv
      simp [this, ih r' (fun y hy => hm y (by simp [hy])) hr]
  have e1 := key fs.toList vs (fun x hx => by simp [hx]) h1
  have e2 := key cs.toList us (fun x hx => by simp [hx]) h2
  have e3 : fs.map ρ = vs.toArray := Array.ext' (by rw [Array.toList_map]; exact e1)
  have e4 : cs.map ρ = us.toArray := Array.ext' (by rw [Array.toList_map]; exact e2)
  unfold execOp; simp only [e3, e4]; rfl

/-! Numbers. -/
theorem pe_int {op : BinOp} {xt yt : TypeId} {x y : Operand} {k : IntKind} {a b : Int} {v : Value} (hx : evT tm x = some (.int k a)) (hy : evT tm y = some (.int k b)) (hr : ∀ w, (binOp op xt (.int k a) (.int k b)).run P w = .ok v w) : PE P K L ⟨d, .binOp op xt x y yt, T, pos, af, gd⟩ (tget tm) v := fun ρ w ha _ => by
  have h1 := ha x (by simp [Op.operands]) _ hx
  have h2 := ha y (by simp [Op.operands]) _ hy
  unfold execOp
  have h3 : eqGuard op xt x y (.int k a) (.int k b) = pure () := by cases op <;> rfl
  simp only [h1, h2, h3]
  simp [Sem.run_bind, hr w]
theorem w_i64 {a : Int} (h : -9223372036854775808 ≤ a) (h2 : a ≤ 9223372036854775807) : IntKind.i64.wrap a = a := IntWalk.i64_in a (by omega)
theorem w_u32 {a : Int} (h : 0 ≤ a) (h2 : a ≤ 4294967295) : IntKind.u32.wrap a = a := by
  have : IntKind.u32.wrap a = a % 4294967296 := rfl
  omega
theorem w_u16 {a : Int} (h : 0 ≤ a) (h2 : a ≤ 65535) : IntKind.u16.wrap a = a := by
  have : IntKind.u16.wrap a = a % 65536 := rfl
  omega
theorem w_u8 {a : Int} (h : 0 ≤ a) (h2 : a ≤ 255) : IntKind.u8.wrap a = a := by
  have : IntKind.u8.wrap a = a % 256 := rfl
  omega
theorem w_u64 {a : Int} (h : 0 ≤ a) (h2 : a ≤ 18446744073709551615) : IntKind.u64.wrap a = a := by
  have : IntKind.u64.wrap a = a % 18446744073709551616 := rfl
  omega
theorem m_u32 {a : Int} : IntKind.u32.wrap a = a % 4294967296 := rfl
theorem m_u16 {a : Int} : IntKind.u16.wrap a = a % 65536 := rfl
theorem m_u8 {a : Int} : IntKind.u8.wrap a = a % 256 := rfl
theorem m_u64 {a : Int} : IntKind.u64.wrap a = a % 18446744073709551616 := rfl
section
variable {xt yt : TypeId} {x y : Operand} {k k' : IntKind} {a b c : Int} (hx : evT tm x = some (.int k a)) (hy : evT tm y = some (.int k b))
include hx hy
theorem pe_add (hw : k.wrap (a + b) = c) : PE P K L ⟨d, .binOp .add xt x y yt, T, pos, af, gd⟩ (tget tm) (.int k c) := pe_int hx hy fun w => by subst hw; simp [binOp, Op.intArith]
theorem pe_sub (hw : k.wrap (a - b) = c) : PE P K L ⟨d, .binOp .sub xt x y yt, T, pos, af, gd⟩ (tget tm) (.int k c) := pe_int hx hy fun w => by subst hw; simp [binOp, Op.intArith]
theorem pe_mul (hw : k.wrap (a * b) = c) : PE P K L ⟨d, .binOp .mul xt x y yt, T, pos, af, gd⟩ (tget tm) (.int k c) := pe_int hx hy fun w => by subst hw; simp [binOp, Op.intArith]
theorem pe_quo (ha : 0 ≤ a) (hb : 0 < b) (hw : k.wrap (a / b) = c) : PE P K L ⟨d, .binOp .quo xt x y yt, T, pos, af, gd⟩ (tget tm) (.int k c) := pe_int hx hy fun w => by
  subst hw
  have : ¬ b = 0 := by omega
  simp [binOp, Op.intDiv, this, Int.tdiv_eq_ediv_of_nonneg ha]
theorem pe_quoT (hb : b ≠ 0) (hw : k.wrap (a.tdiv b) = c) : PE P K L ⟨d, .binOp .quo xt x y yt, T, pos, af, gd⟩ (tget tm) (.int k c) := pe_int hx hy fun w => by
  subst hw
  simp [binOp, Op.intDiv, hb]
theorem pe_rem (ha : 0 ≤ a) (hb : 0 < b) : PE P K L ⟨d, .binOp .rem xt x y yt, T, pos, af, gd⟩ (tget tm) (.int k (a % b)) := pe_int hx hy fun w => by
  have : ¬ b = 0 := by omega
  simp [binOp, Op.intDiv, this, Int.tmod_eq_emod_of_nonneg ha]
theorem pe_remT (hb : b ≠ 0) : PE P K L ⟨d, .binOp .rem xt x y yt, T, pos, af, gd⟩ (tget tm) (.int k (a.tmod b)) := pe_int hx hy fun w => by
  simp [binOp, Op.intDiv, hb]
theorem pe_and (hw : bits .and k a b = c) : PE P K L ⟨d, .binOp .and xt x y yt, T, pos, af, gd⟩ (tget tm) (.int k c) := pe_int hx hy fun w => by subst hw; simp [binOp, Op.intBits, bits]
theorem pe_or (hw : bits .or k a b = c) : PE P K L ⟨d, .binOp .or xt x y yt, T, pos, af, gd⟩ (tget tm) (.int k c) := pe_int hx hy fun w => by subst hw; simp [binOp, Op.intBits, bits]
theorem pe_xor (hw : bits .xor k a b = c) : PE P K L ⟨d, .binOp .xor xt x y yt, T, pos, af, gd⟩ (tget tm) (.int k c) := pe_int hx hy fun w => by subst hw; simp [binOp, Op.intBits, bits]
theorem pe_andNot (hw : bits .andNot k a b = c) : PE P K L ⟨d, .binOp .andNot xt x y yt, T, pos, af, gd⟩ (tget tm) (.int k c) := pe_int hx hy fun w => by subst hw; simp [binOp, Op.intBits, bits]
theorem pe_eql : PE P K L ⟨d, .binOp .eql xt x y yt, T, pos, af, gd⟩ (tget tm) (.bool (decide (a = b))) := pe_int hx hy fun w => by
  have : (a == b) = decide (a = b) := by by_cases h : a = b <;> simp [h]
  simp [binOp, Op.intCmp, this]
theorem pe_neq : PE P K L ⟨d, .binOp .neq xt x y yt, T, pos, af, gd⟩ (tget tm) (.bool (decide (a ≠ b))) := pe_int hx hy fun w => by
  have : (a != b) = decide (a ≠ b) := by by_cases h : a = b <;> simp [h]
  simp [binOp, Op.intCmp, this]
theorem pe_lss : PE P K L ⟨d, .binOp .lss xt x y yt, T, pos, af, gd⟩ (tget tm) (.bool (decide (a < b))) := pe_int hx hy fun w => by simp [binOp, Op.intCmp]
theorem pe_leq : PE P K L ⟨d, .binOp .leq xt x y yt, T, pos, af, gd⟩ (tget tm) (.bool (decide (a ≤ b))) := pe_int hx hy fun w => by simp [binOp, Op.intCmp]
theorem pe_gtr : PE P K L ⟨d, .binOp .gtr xt x y yt, T, pos, af, gd⟩ (tget tm) (.bool (decide (b < a))) := pe_int hx hy fun w => by simp [binOp, Op.intCmp]
theorem pe_geq : PE P K L ⟨d, .binOp .geq xt x y yt, T, pos, af, gd⟩ (tget tm) (.bool (decide (b ≤ a))) := pe_int hx hy fun w => by simp [binOp, Op.intCmp]
end
theorem pe_shift {op : BinOp} {xt yt : TypeId} {x y : Operand} {k k' : IntKind} {a b : Int} {v : Value} (ho : op = .shl ∨ op = .shr) (hx : evT tm x = some (.int k a)) (hy : evT tm y = some (.int k' b)) (hr : ∀ w, (Op.shift op k a k' b).run P w = .ok v w) : PE P K L ⟨d, .binOp op xt x y yt, T, pos, af, gd⟩ (tget tm) v := fun ρ w ha _ => by
  have h1 := ha x (by simp [Op.operands]) _ hx
  have h2 := ha y (by simp [Op.operands]) _ hy
  unfold execOp
  have h3 : eqGuard op xt x y (.int k a) (.int k' b) = pure () := by cases op <;> rfl
  simp only [h1, h2, h3]
  rcases ho with rfl | rfl <;> simp [Sem.run_bind, binOp, hr w]
theorem pe_shl {xt yt : TypeId} {x y : Operand} {k k' : IntKind} {a b c : Int} {m : Nat} (hx : evT tm x = some (.int k a)) (hy : evT tm y = some (.int k' b)) (hb : b = (m : Int)) (hm : m ≤ k.bits) (hw : k.wrap (a * 2 ^ m) = c) : PE P K L ⟨d, .binOp .shl xt x y yt, T, pos, af, gd⟩ (tget tm) (.int k c) :=
  pe_shift (.inl rfl) hx hy fun w => by
    subst hw hb
    have h1 : ¬ ((m : Int) < 0) := by omega
    have h2 : min (m : Int).toNat k.bits = m := by simp; omega
    simp only [Op.shift, if_neg h1, h2]; rfl
theorem pe_shr {xt yt : TypeId} {x y : Operand} {k k' : IntKind} {a b : Int} {m : Nat} (hx : evT tm x = some (.int k a)) (hy : evT tm y = some (.int k' b)) (hb : b = (m : Int)) (hm : m ≤ k.bits) : PE P K L ⟨d, .binOp .shr xt x y yt, T, pos, af, gd⟩ (tget tm) (.int k (a / 2 ^ m)) :=
  pe_shift (.inr rfl) hx hy fun w => by
    subst hb
    have h1 : ¬ ((m : Int) < 0) := by omega
    have h2 : min (m : Int).toNat k.bits = m := by simp; omega
    have h3 : a.fdiv (2 ^ m) = a / 2 ^ m := Int.fdiv_eq_ediv_of_nonneg _ (Int.le_of_lt (Int.pow_pos (by omega)))
    simp only [Op.shift, if_neg h1, h2, h3]; rfl
theorem pe_neg {xt : TypeId} {x : Operand} {k : IntKind} {a c : Int} (hx : evT tm x = some (.int k a)) (hw : k.wrap (0 - a) = c) : PE P K L ⟨d, .unOp .neg xt x, T, pos, af, gd⟩ (tget tm) (.int k c) := fun ρ w ha _ => by
  have h1 := ha x (by simp [Op.operands]) _ hx
  subst hw
  unfold execOp; simp only [h1]; rfl
theorem pe_notD {xt : TypeId} {x : Operand} {p : Prop} [Decidable p] (hx : evT tm x = some (.bool (decide p))) : PE P K L ⟨d, .unOp .not xt x, T, pos, af, gd⟩ (tget tm) (.bool (decide (¬ p))) := fun ρ w ha _ => by
  have h1 := ha x (by simp [Op.operands]) _ hx
  have h2 : decide (¬ p) = !decide p := by by_cases h : p <;> simp [h]
  rw [h2]
  unfold execOp; simp only [h1]; rfl
theorem pe_notT {xt : TypeId} {x : Operand} (hx : evT tm x = some (.bool true)) : PE P K L ⟨d, .unOp .not xt x, T, pos, af, gd⟩ (tget tm) (.bool false) := fun ρ w ha _ => by
  have h1 := ha x (by simp [Op.operands]) _ hx
  unfold execOp; simp only [h1]; rfl
theorem pe_notF {xt : TypeId} {x : Operand} (hx : evT tm x = some (.bool false)) : PE P K L ⟨d, .unOp .not xt x, T, pos, af, gd⟩ (tget tm) (.bool true) := fun ρ w ha _ => by
  have h1 := ha x (by simp [Op.operands]) _ hx
  unfold execOp; simp only [h1]; rfl
theorem pe_notB {xt : TypeId} {x : Operand} {b : Bool} (hx : evT tm x = some (.bool b)) : PE P K L ⟨d, .unOp .not xt x, T, pos, af, gd⟩ (tget tm) (.bool (decide (¬ b = true))) := fun ρ w ha _ => by
  have h1 := ha x (by simp [Op.operands]) _ hx
  have h2 : decide (¬ b = true) = !b := by cases b <;> rfl
  rw [h2]
  unfold execOp; simp only [h1]; rfl
def intTy (P : Program) (t : TypeId) : Option IntKind := match P.underlying t with
  | some (.int k) => some k
  | _ => none
theorem pe_conv {st dt : TypeId} {x : Operand} {k j : IntKind} {a c : Int} (hx : evT tm x = some (.int k a)) (ht : intTy P dt = some j) (hs : (P.underlying st).isSome = true) (hw : j.wrap a = c) : PE P K L ⟨d, .convert st dt x, T, pos, af, gd⟩ (tget tm) (.int j c) := fun ρ w ha _ => by
  have h1 := ha x (by simp [Op.operands]) _ hx
  subst hw
  obtain ⟨s, hs⟩ := Option.isSome_iff_exists.1 hs
  have hd : P.underlying dt = some (.int j) := by
    unfold intTy at ht
    split at ht
    · rename_i k' hu; cases ht; exact hu
    · cases ht
  unfold execOp
  simp only [h1]
  simp [convert, Sem.run_bind, run_underlying hs, run_underlying hd, Conv.intToInt]

/-! Bools, and what is nil. -/
theorem pe_bin {op : BinOp} {xt yt : TypeId} {x y : Operand} {a b v : Value} (hx : evT tm x = some a) (hy : evT tm y = some b) (hr : ∀ w, (do eqGuard op xt x y a b; binOp op xt a b : Sem Value).run P w = .ok v w) : PE P K L ⟨d, .binOp op xt x y yt, T, pos, af, gd⟩ (tget tm) v := fun ρ w ha _ => by
  have h1 := ha x (by simp [Op.operands]) _ hx
  have h2 := ha y (by simp [Op.operands]) _ hy
  unfold execOp
  simp only [h1, h2]
  have := hr w
  simp only [Sem.run_bind] at this ⊢
  simp [this]
def tyIs (P : Program) (t : TypeId) (f : TypeDesc → Bool) : Bool := match P.underlying t with
  | some d => f d
  | none => false
def isSliceD : TypeDesc → Bool
  | .slice _ => true
  | _ => false
def isPtrD : TypeDesc → Bool
  | .pointer _ => true
  | _ => false
def isMapD : TypeDesc → Bool
  | .map _ _ => true
  | _ => false
def isBoolD : TypeDesc → Bool
  | .bool => true
  | _ => false
theorem tyIs_spec {P : Program} {t : TypeId} {f : TypeDesc → Bool} (h : tyIs P t f = true) : ∃ d, P.underlying t = some d ∧ f d = true := by
  unfold tyIs at h
  split at h
  · rename_i d hd; exact ⟨d, hd, h⟩
  · cases h
theorem run_eqB {t : TypeId} (ht : tyIs P t isBoolD = true) (a b : Bool) (w : World) : (Op.equal t (.bool a) (.bool b)).run P w = .ok (a == b) w := by
  obtain ⟨d, hd, hf⟩ := tyIs_spec ht
  cases d <;> simp [isBoolD] at hf
  have key : ∀ m, (Op.equalIn (m + 1) t (.bool a) (.bool b)).run P w = .ok (a == b) w := fun m => by simp [Op.equalIn, Sem.run_bind, run_underlying hd]
  exact key 9999
theorem pe_eqB {xt yt : TypeId} {x y : Operand} {a b : Bool} (hx : evT tm x = some (.bool a)) (hy : evT tm y = some (.bool b)) (ht : tyIs P xt isBoolD = true) : PE P K L ⟨d, .binOp .eql xt x y yt, T, pos, af, gd⟩ (tget tm) (.bool (decide (a = b))) := pe_bin hx hy fun w => by
  have : decide (a = b) = (a == b) := by cases a <;> cases b <;> rfl
  simp [eqGuard, binOp, Sem.run_bind, run_eqB ht, this]
theorem pe_neB {xt yt : TypeId} {x y : Operand} {a b : Bool} (hx : evT tm x = some (.bool a)) (hy : evT tm y = some (.bool b)) (ht : tyIs P xt isBoolD = true) : PE P K L ⟨d, .binOp .neq xt x y yt, T, pos, af, gd⟩ (tget tm) (.bool (decide (a ≠ b))) := pe_bin hx hy fun w => by
  have : decide (a ≠ b) = !(a == b) := by cases a <;> cases b <;> rfl
  simp [eqGuard, binOp, Sem.run_bind, run_eqB ht, this]
theorem run_eqS {t : TypeId} (ht : tyIs P t isSliceD = true) (a : Option Addr) (n c n' c' : Nat) (w : World) : (Op.equal t (.slice a n c) (.slice none n' c')).run P w = .ok a.isNone w := by
  obtain ⟨d, hd, hf⟩ := tyIs_spec ht
  cases d <;> simp [isSliceD] at hf
  have key : ∀ m, (Op.equalIn (m + 1) t (.slice a n c) (.slice none n' c')).run P w = .ok a.isNone w := fun m => by cases a <;> simp [Op.equalIn, Sem.run_bind, run_underlying hd]
  exact key 9999
theorem pe_eqS {xt yt : TypeId} {x y : Operand} {a : Option Addr} {n c n' c' : Nat} (hx : evT tm x = some (.slice a n c)) (hy : evT tm y = some (.slice none n' c')) (ht : tyIs P xt isSliceD = true) : PE P K L ⟨d, .binOp .eql xt x y yt, T, pos, af, gd⟩ (tget tm) (.bool (decide (a = none))) := pe_bin hx hy fun w => by
  have : decide (a = none) = a.isNone := by cases a <;> rfl
  simp [eqGuard, binOp, Sem.run_bind, run_eqS ht, this]
theorem pe_neS {xt yt : TypeId} {x y : Operand} {a : Option Addr} {n c n' c' : Nat} (hx : evT tm x = some (.slice a n c)) (hy : evT tm y = some (.slice none n' c')) (ht : tyIs P xt isSliceD = true) : PE P K L ⟨d, .binOp .neq xt x y yt, T, pos, af, gd⟩ (tget tm) (.bool (decide (a ≠ none))) := pe_bin hx hy fun w => by
  have : decide (a ≠ none) = !a.isNone := by cases a <;> rfl
  simp [eqGuard, binOp, Sem.run_bind, run_eqS ht, this]
theorem run_eqP {t : TypeId} (ht : tyIs P t isPtrD = true) (a : Option Addr) (w : World) : (Op.equal t (.pointer a) (.pointer none)).run P w = .ok a.isNone w := by
  obtain ⟨d, hd, hf⟩ := tyIs_spec ht
  cases d <;> simp [isPtrD] at hf
  have key : ∀ m, (Op.equalIn (m + 1) t (.pointer a) (.pointer none)).run P w = .ok a.isNone w := fun m => by cases a <;> simp [Op.equalIn, Sem.run_bind, run_underlying hd]
  exact key 9999
theorem pe_eqP {xt yt : TypeId} {x y : Operand} {a : Option Addr} (hx : evT tm x = some (.pointer a)) (hy : evT tm y = some (.pointer none)) (ht : tyIs P xt isPtrD = true) : PE P K L ⟨d, .binOp .eql xt x y yt, T, pos, af, gd⟩ (tget tm) (.bool (decide (a = none))) := pe_bin hx hy fun w => by
  have : decide (a = none) = a.isNone := by cases a <;> rfl
  cases a <;> simp [eqGuard, binOp, Sem.run_bind, run_eqP ht]
theorem pe_neP {xt yt : TypeId} {x y : Operand} {a : Option Addr} (hx : evT tm x = some (.pointer a)) (hy : evT tm y = some (.pointer none)) (ht : tyIs P xt isPtrD = true) : PE P K L ⟨d, .binOp .neq xt x y yt, T, pos, af, gd⟩ (tget tm) (.bool (decide (a ≠ none))) := pe_bin hx hy fun w => by
  cases a <;> simp [eqGuard, binOp, Sem.run_bind, run_eqP ht]

/-! Places and parts. -/
theorem pe_faG {st : TypeId} {x : Operand} {f off sz : Nat} {r : Bool} {p : Addr} (hx : evT tm x = some (.pointer (some p))) (hf : fieldInfo P st f = some (off, sz + 1, r)) : PE P K L ⟨d, .fieldAddr st x f, T, pos, af, gd⟩ (tget tm) (.pointer (some (p.add off))) := fun ρ w ha _ => by
  have h1 := ha x (by simp [Op.operands]) _ hx
  obtain ⟨fs, fd, i, de, hu, hfd, rfl, hi, hs, _, _⟩ := fieldInfo_spec hf
  unfold execOp
  simp only [h1]
  simp [Instr.fieldAt, Sem.run_bind, run_underlying hu, hfd, Instr.sureAddr, fieldPlace, run_sz hi, hs]
theorem pe_fa {st : TypeId} {x : Operand} {f off sz b o : Nat} {r : Bool} (hx : evT tm x = some (.pointer (some ⟨b, o, none⟩))) (hf : fieldInfo P st f = some (off, sz + 1, r)) : PE P K L ⟨d, .fieldAddr st x f, T, pos, af, gd⟩ (tget tm) (.pointer (some ⟨b, o + off, none⟩)) := by
  have := pe_faG (P := P) (K := K) (L := L) (d := d) (T := T) (pos := pos) (af := af) (gd := gd) hx hf
  rwa [addr_add_plain] at this
theorem pe_faE {st : TypeId} {x : Operand} {f off sz j sz' m : Nat} {r : Bool} {a : Option Addr} (hx : evT tm x = some (.pointer (some (elA a j sz' m)))) (hf : fieldInfo P st f = some (off, sz + 1, r)) : PE P K L ⟨d, .fieldAddr st x f, T, pos, af, gd⟩ (tget tm) (.pointer (some (elA a j sz' (m + off)))) := by
  have := pe_faG (P := P) (K := K) (L := L) (d := d) (T := T) (pos := pos) (af := af) (gd := gd) hx hf
  rwa [elA_add] at this
theorem pe_fieldC {st : TypeId} {x : Operand} {f off sz : Nat} {cs : List Value} {v : Value} (hx : evT tm x = some (.agg cs.toArray)) (hf : fieldInfo P st f = some (off, sz, false)) (hv : cs[off]? = some v) : PE P K L ⟨d, .field st x f, T, pos, af, gd⟩ (tget tm) v := fun ρ w ha _ => by
  have h1 := ha x (by simp [Op.operands]) _ hx
  obtain ⟨fs, fd, i, de, hu, hfd, rfl, hi, hs, hd, hr⟩ := fieldInfo_spec hf
  unfold execOp
  simp only [h1]
  simp [Instr.field, Sem.run_bind, run_underlying hu, hfd, asAgg, part, run_agg hd, hr, hv]
theorem pe_fieldR {st : TypeId} {x : Operand} {f off sz : Nat} {cs vs : List Value} (hx : evT tm x = some (.agg cs.toArray)) (hf : fieldInfo P st f = some (off, sz, true)) (hv : Seg cs off sz vs) : PE P K L ⟨d, .field st x f, T, pos, af, gd⟩ (tget tm) (.agg vs.toArray) := fun ρ w ha _ => by
  have h1 := ha x (by simp [Op.operands]) _ hx
  obtain ⟨fs, fd, i, de, hu, hfd, rfl, hi, hs, hd, hr⟩ := fieldInfo_spec hf
  have hseg : (cs.drop fd.offset).take sz = vs := by
    apply List.ext_getElem?
    intro j
    have hl := hv.len
    by_cases hj : j < sz
    · rw [List.getElem?_take, if_pos hj, List.getElem?_drop]
      have h3 : vs[j]? = some vs[j] := List.getElem?_eq_getElem (by omega)
      rw [hv.get j _ h3, h3]
    · rw [List.getElem?_eq_none (by rw [List.length_take]; omega), List.getElem?_eq_none (by omega)]
  unfold execOp
  simp only [h1]
  simp [Instr.field, Sem.run_bind, run_underlying hu, hfd, asAgg, part, run_agg hd, hr, run_sz hi, hs, hseg]
theorem pe_ix {t : TypeId} {x i : Operand} {a : Option Addr} {n c j sz sz' n' b' : Nat} {k : IntKind} {z : Int} {e : TypeId} {xs : List Value} (hx : evT tm x = some (.slice a n c)) (hi : evT tm i = some (.int k z)) (ht : elemInfo P t = some (e, sz, b')) (hs : Src K L (.slice a n c) sz' n' xs) (hz : z = (j : Int)) (hj : j < n) : PE P K L ⟨d, .indexAddr t x i, T, pos, af, gd⟩ (tget tm) (.pointer (some (elA a j sz 0))) := fun ρ w ha hr => by
  have h1 := ha x (by simp [Op.operands]) _ hx
  have h2 := ha i (by simp [Op.operands]) _ hi
  obtain ⟨inf, hu, hin, hsz, _⟩ := elemInfo_spec ht
  subst hz
  obtain ⟨a', c', he, _, _, _, hn, _⟩ := hs w hr
  cases he
  cases a with
  | none => have := (hn rfl).1; omega
  | some p =>
    unfold execOp
    simp only [h1, h2]
    have h3 : (0 : Int) ≤ (j : Int) ∧ (j : Int) < (n : Int) := by omega
    simp [Instr.indexAt, Sem.run_bind, run_underlying hu, asIntOf, h3, hj, run_sz hin, hsz, elA]
/-- The same where the address is known. -/
theorem pe_ixL {t : TypeId} {x i : Operand} {b o n c j sz b' : Nat} {k : IntKind} {z : Int} {e : TypeId} (hx : evT tm x = some (.slice (some ⟨b, o, none⟩) n c)) (hi : evT tm i = some (.int k z)) (ht : elemInfo P t = some (e, sz, b')) (hz : z = (j : Int)) (hj : j < n) : PE P K L ⟨d, .indexAddr t x i, T, pos, af, gd⟩ (tget tm) (.pointer (some ⟨b, o + j * sz, none⟩)) := fun ρ w ha hr => by
  have h1 := ha x (by simp [Op.operands]) _ hx
  have h2 := ha i (by simp [Op.operands]) _ hi
  obtain ⟨inf, hu, hin, hsz, _⟩ := elemInfo_spec ht
  subst hz
  unfold execOp
  simp only [h1, h2]
  have h3 : (0 : Int) ≤ (j : Int) ∧ (j : Int) < (n : Int) := by omega
  simp [Instr.indexAt, Sem.run_bind, run_underlying hu, asIntOf, h3, hj, run_sz hin, hsz, addr_add_plain]
def arrInfo (P : Program) (t : TypeId) : Option (Nat × Nat × Bool) := match P.underlying t with
  | some (.array n e) => match P.info? e, P.underlying e with
    | some i, some d => some (n, i.size, d.isRow)
    | _, _ => none
  | _ => none
theorem arrInfo_spec {P : Program} {t : TypeId} {n sz : Nat} {r : Bool} (h : arrInfo P t = some (n, sz, r)) : ∃ e i d, P.underlying t = some (.array n e) ∧ P.info? e = some i ∧ i.size = sz ∧ P.underlying e = some d ∧ d.isRow = r := by
  unfold arrInfo at h
  split at h
  · rename_i n' e hu
    split at h
    · rename_i i d hi hd
      simp only [Option.some.injEq, Prod.mk.injEq] at h
      obtain ⟨rfl, h2, h3⟩ := h
      exact ⟨e, i, d, hu, hi, h2, hd, h3⟩
    · cases h
  · cases h
def tabOkA (P : Program) (tab : List (Nat × (Nat × Nat × Bool))) : Bool := tab.all fun p => decide (arrInfo P p.1 = some p.2)
theorem tabA {P : Program} {tab : List (Nat × (Nat × Nat × Bool))} {t : Nat} {x : Nat × Nat × Bool} (h : tabOkA P tab = true) (g : tabGet tab t = some x) : arrInfo P t = some x := by
  simpa using List.all_eq_true.1 h _ (tabGet_mem g)
theorem pe_ixA {t : TypeId} {x i : Operand} {b o n j sz : Nat} {r : Bool} {k : IntKind} {z : Int} (hx : evT tm x = some (.pointer (some ⟨b, o, none⟩))) (hi : evT tm i = some (.int k z)) (ht : arrInfo P t = some (n, sz, r)) (hz : z = (j : Int)) (hj : j < n) : PE P K L ⟨d, .indexAddr t x i, T, pos, af, gd⟩ (tget tm) (.pointer (some ⟨b, o + j * sz, none⟩)) := fun ρ w ha hr => by
  have h1 := ha x (by simp [Op.operands]) _ hx
  have h2 := ha i (by simp [Op.operands]) _ hi
  obtain ⟨e, inf, de, hu, hin, hsz, _, _⟩ := arrInfo_spec ht
  subst hz
  unfold execOp
  simp only [h1, h2]
  have h3 : (0 : Int) ≤ (j : Int) ∧ (j : Int) < (n : Int) := by omega
  simp [Instr.indexAt, Sem.run_bind, run_underlying hu, asIntOf, h3, hj, run_sz hin, hsz, addr_add_plain, Instr.sureAddr]

/-! Loads. -/
theorem pe_ldG {ty : TypeId} {x : Operand} {p : Addr} {v : Value} (hx : evT tm x = some (.pointer (some p))) (h : ∀ w, Rdw K L w → (loadVar ty p).run P w = .ok v w) : PE P K L ⟨d, .load ty x, T, pos, af, gd⟩ (tget tm) v := fun ρ w ha hr => by
  have h1 := ha x (by simp [Op.operands]) _ hx
  unfold execOp
  simp only [h1]
  simp [Instr.loadAt, Instr.sureAddr, Sem.run_bind, h w hr]
theorem pe_ld {ty T' : TypeId} {x : Operand} {b i : Nat} {cs : List Value} {v : Value} (hx : evT tm x = some (.pointer (some ⟨b, i, none⟩))) (hm : Tk L (pts b cs T') R) (ht : cellTy P ty = true) (hv : cs[i]? = some v) : PE P K L ⟨d, .load ty x, T, pos, af, gd⟩ (tget tm) v :=
  pe_ldG hx fun w hr => run_load_cell ht (by rw [(hr.blk hm).cell]; simpa using hv)
theorem pe_ldW {ty T' : TypeId} {x : Operand} {b : Nat} {cs : List Value} (hx : evT tm x = some (.pointer (some ⟨b, 0, none⟩))) (hm : Tk L (pts b cs T') R) (ht : rowTy P ty cs.length = true) : PE P K L ⟨d, .load ty x, T, pos, af, gd⟩ (tget tm) (.agg cs.toArray) :=
  pe_ldG hx fun w hr => run_load_row ht (by simpa using (hr.blk hm).range)
theorem pe_ldS {ty T' : TypeId} {x : Operand} {b i n : Nat} {cs vs : List Value} (hx : evT tm x = some (.pointer (some ⟨b, i, none⟩))) (hm : Tk L (pts b cs T') R) (hn : (P.info? ty).map (·.size) = some n) (hs : Seg cs i n vs) (ht : rowTy P ty n = true) : PE P K L ⟨d, .load ty x, T, pos, af, gd⟩ (tget tm) (.agg vs.toArray) :=
  pe_ldG hx fun w hr => run_load_row (hs.len ▸ ht) (fun j v hv => by rw [(hr.blk hm).cell]; simpa using hs.get j v hv)
/-- What the known memory holds. -/
theorem pe_ldK {ty : TypeId} {x : Operand} {p : Addr} {v : Value} (hx : evT tm x = some (.pointer (some p))) (h : Kn K (fun w => w.cell? p = some v)) (ht : cellTy P ty = true) : PE P K L ⟨d, .load ty x, T, pos, af, gd⟩ (tget tm) v :=
  pe_ldG hx fun w hr => run_load_cell ht (h w hr.1)
/-- The cells of one element, from off on. -/
theorem Src.at {a : Option Addr} {n c sz n' j : Nat} {α : Type} {enc : α → List Value} {es : List α} {x : α} (hs : Src K L (.slice a n c) sz n' (flat enc es)) (hl : ∀ x, (enc x).length = sz) (hj : es[j]? = some x) {w : World} (hr : Rdw K L w) (hz : 0 < sz) : ∃ b o, a = some ⟨b, o, none⟩ ∧ w.rangeAt b (o + j * sz) (enc x) := by
  have hlt := (List.getElem?_eq_some_iff.1 hj).1
  have hv := hs w hr
  obtain ⟨a', c', he, h1, _⟩ := hs w hr
  injection he with h2 h3 h4
  subst h2 h3 h4
  rw [flat_length hl] at h1
  have hnn : es.length = n := Nat.eq_of_mul_eq_mul_right hz h1
  have hne : flat enc es ≠ [] := fun h0 => by
    have h5 := congrArg List.length h0
    rw [flat_length hl] at h5
    rcases Nat.mul_eq_zero.1 h5 with h | h <;> omega
  obtain ⟨b, o, rfl⟩ := hv.addr hne
  have := hv.row hl hnn j hlt
  refine ⟨b, o, rfl, ?_⟩
  rw [List.getElem?_eq_getElem hlt] at hj
  cases hj
  exact this
theorem elA_some (b o j sz m : Nat) : elA (some ⟨b, o, none⟩) j sz m = ⟨b, o + (j * sz + m), none⟩ := by unfold elA; exact addr_add_plain _ _ _
/-- A whole element: a row, a cell; a part of an element. -/
theorem pe_el {ty : TypeId} {x : Operand} {a : Option Addr} {n c sz n' j : Nat} {α : Type} {enc : α → List Value} {es : List α} {y : α} (hx : evT tm x = some (.pointer (some (elA a j sz 0)))) (hs : Src K L (.slice a n c) sz n' (flat enc es)) (hl : ∀ x, (enc x).length = sz) (hz : Nat.blt 0 sz = true) (ht : rowTy P ty sz = true) (hj : es[j]? = some y) : PE P K L ⟨d, .load ty x, T, pos, af, gd⟩ (tget tm) (.agg (enc y).toArray) :=
  pe_ldG hx fun w hr => by
    obtain ⟨b, o, rfl, hc⟩ := hs.at hl hj hr (by simpa using hz)
    rw [elA_some]
    exact run_load_row (by rw [hl]; exact ht) (by simpa using hc)
theorem pe_elC {ty : TypeId} {x : Operand} {a : Option Addr} {n c sz n' j : Nat} {α : Type} {enc : α → List Value} {es : List α} {y : α} {v : Value} (hx : evT tm x = some (.pointer (some (elA a j sz 0)))) (hs : Src K L (.slice a n c) sz n' (flat enc es)) (hl : ∀ x, (enc x).length = sz) (hz : Nat.blt 0 sz = true) (ht : cellTy P ty = true) (hj : es[j]? = some y) (hv : (enc y)[0]? = some v) : PE P K L ⟨d, .load ty x, T, pos, af, gd⟩ (tget tm) v :=
  pe_ldG hx fun w hr => by
    obtain ⟨b, o, rfl, hc⟩ := hs.at hl hj hr (by simpa using hz)
    rw [elA_some]
    exact run_load_cell ht (by simpa using hc 0 v hv)
theorem pe_elF {ty : TypeId} {x : Operand} {a : Option Addr} {n c sz n' j off : Nat} {α : Type} {enc : α → List Value} {es : List α} {y : α} {v : Value} (hx : evT tm x = some (.pointer (some (elA a j sz off)))) (hs : Src K L (.slice a n c) sz n' (flat enc es)) (hl : ∀ x, (enc x).length = sz) (hz : Nat.blt 0 sz = true) (ht : cellTy P ty = true) (hj : es[j]? = some y) (hv : (enc y)[off]? = some v) : PE P K L ⟨d, .load ty x, T, pos, af, gd⟩ (tget tm) v :=
  pe_ldG hx fun w hr => by
    obtain ⟨b, o, rfl, hc⟩ := hs.at hl hj hr (by simpa using hz)
    rw [elA_some]
    exact run_load_cell ht (by have := hc off v hv; rwa [Nat.add_assoc] at this)
theorem pe_elS {ty : TypeId} {x : Operand} {a : Option Addr} {n c sz n' j off m : Nat} {α : Type} {enc : α → List Value} {es : List α} {y : α} {vs : List Value} (hx : evT tm x = some (.pointer (some (elA a j sz off)))) (hs : Src K L (.slice a n c) sz n' (flat enc es)) (hl : ∀ x, (enc x).length = sz) (hz : Nat.blt 0 sz = true) (hn : (P.info? ty).map (·.size) = some m) (hj : es[j]? = some y) (hv : Seg (enc y) off m vs) (ht : rowTy P ty m = true) : PE P K L ⟨d, .load ty x, T, pos, af, gd⟩ (tget tm) (.agg vs.toArray) :=
  pe_ldG hx fun w hr => by
    obtain ⟨b, o, rfl, hc⟩ := hs.at hl hj hr (by simpa using hz)
    rw [elA_some]
    exact run_load_row (hv.len ▸ ht) (fun i u hu => by have := hc (off + i) u (hv.get i u hu); rw [← this]; congr 2; omega)

/-! Builtins that read. -/
theorem pe_call {b : Builtin} {xs : Array Operand} {ts : Array TypeId} {vs : List Value} {v : Value} (h1 : xs.toList.mapM (evT tm) = some vs) (h2 : ∀ w, Rdw K L w → ∀ cs, (builtin b ts T cs vs.toArray).run P w = .ok (.value v) w) : PE P K L ⟨d, .call ⟨.builtin b, xs, ts⟩, T, pos, af, gd⟩ (tget tm) v := fun ρ w ha hr => by
  have key : ∀ (l : List Operand) (r : List Value), (∀ x ∈ l, x ∈ xs.toList) → l.mapM (evT tm) = some r → l.map ρ = r := by
    intro l
    induction l with
    | nil => intro r _ h; simpa using h
    | cons x l ih =>
      intro r hm h
      simp only [List.mapM_cons, Option.pure_def, Option.bind_eq_bind, Option.bind_eq_some_iff, Option.some.injEq] at h
      obtain ⟨v, hv, r', hr, rfl⟩ := h
      have := ha x (by simpa [Op.operands, Call.operands] using hm x (by simp)) v hv
      simp [this, ih r' (fun y hy => hm y (by simp [hy])) hr]
  have e1 := key xs.toList vs (fun x hx => hx) h1
  have e3 : xs.map ρ = vs.toArray := Array.ext' (by rw [Array.toList_map]; exact e1)
  unfold execOp
  simp only [resolve, Sem.run_bind, Sem.run_pure, Result.andThen_ok, invoke, e3, h2 w hr]
theorem pe_len {x : Operand} {t : TypeId} {a : Option Addr} {n c : Nat} (hx : evT tm x = some (.slice a n c)) (ht : tyIs P t isSliceD = true) : PE P K L ⟨d, .call ⟨.builtin .len, #[x], #[t]⟩, T, pos, af, gd⟩ (tget tm) (.int .i64 n) := pe_call (vs := [.slice a n c]) (by simp [hx]) fun w _ cs => by
  obtain ⟨de, hd, hf⟩ := tyIs_spec ht
  cases de <;> simp [isSliceD] at hf
  simp [builtin, Builtin.len_, Sem.run_bind, run_underlying hd, goInt]
theorem pe_cap {x : Operand} {t : TypeId} {a : Option Addr} {n c : Nat} (hx : evT tm x = some (.slice a n c)) (ht : tyIs P t isSliceD = true) : PE P K L ⟨d, .call ⟨.builtin .cap, #[x], #[t]⟩, T, pos, af, gd⟩ (tget tm) (.int .i64 c) := pe_call (vs := [.slice a n c]) (by simp [hx]) fun w _ cs => by
  obtain ⟨de, hd, hf⟩ := tyIs_spec ht
  cases de <;> simp [isSliceD] at hf
  simp [builtin, Builtin.cap_, Sem.run_bind, run_underlying hd, goInt]
theorem pe_min {x y : Operand} {ts : Array TypeId} {k : IntKind} {a b : Int} (hx : evT tm x = some (.int k a)) (hy : evT tm y = some (.int k b)) : PE P K L ⟨d, .call ⟨.builtin .min, #[x, y], ts⟩, T, pos, af, gd⟩ (tget tm) (.int k (min a b)) := pe_call (vs := [.int k a, .int k b]) (by simp [hx, hy]) fun w _ cs => by
  have : (if b < a then b else a) = min a b := by omega
  simp [builtin, Builtin.min_, Builtin.min2, this]
theorem pe_max {x y : Operand} {ts : Array TypeId} {k : IntKind} {a b : Int} (hx : evT tm x = some (.int k a)) (hy : evT tm y = some (.int k b)) : PE P K L ⟨d, .call ⟨.builtin .max, #[x, y], ts⟩, T, pos, af, gd⟩ (tget tm) (.int k (max a b)) := pe_call (vs := [.int k a, .int k b]) (by simp [hx, hy]) fun w _ cs => by
  have : (if a < b then b else a) = max a b := by omega
  simp [builtin, Builtin.max_, Builtin.max2, this]

/-! Slice expressions. -/
theorem run_bound {k : IntKind} {z : Int} {j y : Nat} {code : BoundsCode} (hz : z = (j : Int)) (hj : j ≤ y) (w : World) : (Instr.sliceBound (.int k z) y code).run P w = .ok j w := by
  subst hz
  simp [Instr.sliceBound, asIntOf, hj]
theorem pe_sl {t : TypeId} {x : Operand} {lo hi : Option Operand} {a : Option Addr} {n c l h sz b' : Nat} {e : TypeId} (hx : evT tm x = some (.slice a n c)) (ht : elemInfo P t = some (e, sz, b'))
    (hl : match lo with | none => l = 0 | some y => ∃ k z, evT tm y = some (.int k z) ∧ z = (l : Int)) (hh : match hi with | none => h = n | some y => ∃ k z, evT tm y = some (.int k z) ∧ z = (h : Int)) (hlh : l ≤ h) (hhc : h ≤ c) :
    PE P K L ⟨d, .slice t x lo hi none, T, pos, af, gd⟩ (tget tm) (.slice (slA a c l sz) (h - l) (c - l)) := fun ρ w ha _ => by
  have h1 := ha x (by simp [Op.operands]) _ hx
  obtain ⟨inf, hu, hin, hsz, _⟩ := elemInfo_spec ht
  have e2 : (Instr.sliceBounds true n c (lo.map ρ) (hi.map ρ) (none : Option Value)).run P w = .ok (l, h, c) w := by
    cases lo with
    | none =>
      subst hl
      cases hi with
      | none => subst hh; simp [Instr.sliceBounds]
      | some y =>
        obtain ⟨k, z, hy, hz⟩ := hh
        have := ha y (by simp [Op.operands]) _ hy
        simp [Instr.sliceBounds, Sem.run_bind, this, run_bound hz hhc]
    | some y =>
      obtain ⟨k, z, hy, hz⟩ := hl
      have e3 := ha y (by simp [Op.operands]) _ hy
      cases hi with
      | none => subst hh; simp [Instr.sliceBounds, Sem.run_bind, e3, run_bound hz hlh]
      | some y2 =>
        obtain ⟨k2, z2, hy2, hz2⟩ := hh
        have := ha y2 (by simp [Op.operands]) _ hy2
        simp [Instr.sliceBounds, Sem.run_bind, this, e3, run_bound hz2 hhc, run_bound hz hlh]
  have e4 : (none : Option Operand).map ρ = none := rfl
  unfold execOp
  simp only [h1, e4]
  simp [Instr.sliceAt, Instr.slice, Sem.run_bind, run_underlying hu, e2, run_sz hin, hsz, slA]
theorem slA_zero (a : Option Addr) (c sz : Nat) : slA a c 0 sz = a := by
  unfold slA
  split
  · rfl
  · cases a <;> simp [Addr.add]
/-- From the start on. -/
theorem pe_sl0 {t : TypeId} {x : Operand} {hi : Option Operand} {a : Option Addr} {n c h sz b' : Nat} {e : TypeId} (hx : evT tm x = some (.slice a n c)) (ht : elemInfo P t = some (e, sz, b'))
    (hh : match hi with | none => h = n | some y => ∃ k z, evT tm y = some (.int k z) ∧ z = (h : Int)) (hlh : 0 ≤ h) (hhc : h ≤ c) :
    PE P K L ⟨d, .slice t x none hi none, T, pos, af, gd⟩ (tget tm) (.slice a h c) := by
  have := pe_sl (P := P) (K := K) (L := L) (d := d) (T := T) (pos := pos) (af := af) (gd := gd) (lo := none) (l := 0) hx ht rfl hh hlh hhc
  rwa [slA_zero, Nat.sub_zero, Nat.sub_zero] at this
end
end Go.Pm
namespace Go.Pm
set_option linter.unusedSimpArgs false
set_option linter.unusedVariables false
open Go.RowKit

/-! A list is written out. -/
inductive Nrm : List Value → List Value → Prop
  | nil : Nrm [] []
  | cons {v : Value} {r r' : List Value} : Nrm r r' → Nrm (v :: r) (v :: r')
theorem Nrm.eq {l r : List Value} (h : Nrm l r) : l = r := by
  induction h with
  | nil => rfl
  | cons _ ih => rw [ih]
def cellsL (v : Value) : List Value := match v with
  | .agg cs => cs.toList
  | v => [v]
def fillL (pl : List (Nat × Nat)) : List Value → List (Nat × Value) → List Value
  | cs, [] => cs
  | cs, (i, v) :: r => match pl[i]? with
    | some (off, sz) => fillL pl (cs.take off ++ (cellsL v ++ cs.drop (off + sz))) r
    | none => []
def zeroC (P : Program) (t : TypeId) : List Value := match P.info? t with
  | some i => match i.zero with
    | some z => cellsL z
    | none => []
  | none => []
def cellsIn (P : Program) (t : TypeId) : Nat := ((P.info? t).map (·.size)).getD 0
def placesL (P : Program) (t : TypeId) : List (Nat × Nat) := match P.underlying t with
  | some (.struct fs) => fs.toList.map fun f => (f.offset, cellsIn P f.type)
  | some (.array n e) => (List.range n).map fun i => (i * cellsIn P e, cellsIn P e)
  | _ => []
def bldC (P : Program) (t : TypeId) (vals : List (Nat × Value)) : List Value := fillL (placesL P t) (zeroC P t) vals
def rep (n : Nat) (l : List Value) : List Value := match n with
  | 0 => []
  | n + 1 => l ++ rep n l
def bslC (P : Program) (t : TypeId) (n : Nat) (vals : List (Nat × Value)) : List Value := match P.underlying t with
  | some (.slice e) => fillL ((List.range n).map fun i => (i * cellsIn P e, cellsIn P e)) (rep n (zeroC P e)) vals
  | _ => []
def evP (tm : TM) : List (Nat × Operand) → Option (List (Nat × Value))
  | [] => some []
  | (i, x) :: r => match evT tm x, evP tm r with
    | some v, some vs => some ((i, v) :: vs)
    | _, _ => none
theorem evP_map {tm : TM} {ρ : Operand → Value} : ∀ {l : List (Nat × Operand)} {r : List (Nat × Value)}, (∀ p ∈ l, ∀ v, evT tm p.2 = some v → ρ p.2 = v) → evP tm l = some r → l.map (fun (i, x) => (i, ρ x)) = r
  | [], r, _, h => by simpa [evP] using h
  | (i, x) :: l, r, ha, h => by
    simp only [evP] at h
    split at h
    · rename_i v vs hv hvs
      cases h
      have h1 := ha (i, x) (by simp) v hv
      simp only at h1
      simp only [List.map_cons, h1, evP_map (fun p hp => ha p (by simp [hp])) hvs]
    · cases h

section
variable {P : Program} {n : Nat} {W : World} {K : Hl} {F : Fp} {k : List It} {tm : TM} {L L' R S M : List HP} {T : TypeId} {pos : String} {af : Array Edge} {gd : Option (Nat × Bool)} {ops : Array Oper} {rest nx : List Oper} {d : Tmp}

theorem pe_build {od : Option Tmp} {t : TypeId} {ps : Array (Nat × Operand)} {vals : List (Nat × Value)} {cs : List Value} (h1 : evP tm ps.toList = some vals) (h2 : Nrm (bldC P t vals) cs) (h3 : ∀ w, (Instr.build t vals.toArray).run P w = .ok (.agg cs.toArray) w) : PE P K L ⟨od, .build t ps, T, pos, af, gd⟩ (tget tm) (.agg cs.toArray) := fun ρ w ha _ => by
  have e1 := evP_map (ρ := ρ) (fun p hp v hv => ha p.2 (by simp only [Op.operands, List.toList_toArray, List.mem_map]; exact ⟨p, hp, rfl⟩) v hv) h1
  have e2 : (ps.map fun (i, x) => (i, ρ x)) = vals.toArray := Array.ext' (by rw [Array.toList_map]; exact e1)
  unfold execOp
  simp only [e2]
  simp [Sem.run_bind, h3 w]

/-! A block is made. -/
def ptrTo (b : Nat) : Value := .pointer (some ⟨b, 0, none⟩)
theorem al_alloc {od : Option Tmp} {t : TypeId} {cs : List Value} (h1 : Nrm (zeroC P t) cs) (h2 : ∀ w, (Instr.alloc t true (.tuple #[])).run P w = .ok (.pointer (some ⟨w.heap.size, 0, none⟩)) (w.alloc (.cells cs.toArray t))) : AL P ⟨od, .alloc t, T, pos, af, gd⟩ (tget tm) (.cells cs.toArray t) (fun b => .pointer (some ⟨b, 0, none⟩)) := fun ρ w ha => by
  unfold execOp
  simp [Sem.run_bind, h2 w]
theorem al_boxA {od : Option Tmp} {t : TypeId} {x : Operand} {cs : List Value} (hx : evT tm x = some (.agg cs.toArray)) : AL P ⟨od, .box t x, T, pos, af, gd⟩ (tget tm) (.cells cs.toArray t) (fun b => .pointer (some ⟨b, 0, none⟩)) := fun ρ w ha => by
  have h1 := ha x (by simp [Op.operands]) _ hx
  unfold execOp
  simp only [h1]
  rfl
theorem al_boxC {od : Option Tmp} {t : TypeId} {x : Operand} {v : Value} (hx : evT tm x = some v) (h1 : v.oneCell' = true) : AL P ⟨od, .box t x, T, pos, af, gd⟩ (tget tm) (.cells [v].toArray t) (fun b => .pointer (some ⟨b, 0, none⟩)) := fun ρ w ha => by
  have h2 := ha x (by simp [Op.operands]) _ hx
  have hv : v.cells = #[v] := by cases v <;> first | rfl | (simp [Value.oneCell'] at h1)
  unfold execOp
  simp only [h2, Instr.box, newVar, hv]
  rfl
theorem al_bs {od : Option Tmp} {t e : TypeId} {m sz b' : Nat} {ps : Array (Nat × Operand)} {vals : List (Nat × Value)} {cs : List Value} (h1 : evP tm ps.toList = some vals) (_ht : elemInfo P t = some (e, sz, b')) (h2 : Nrm (bslC P t m vals) cs) (h3 : ∀ w, (Instr.buildSlice t m vals.toArray).run P w = .ok (.slice (some ⟨w.heap.size, 0, none⟩) m m) (w.alloc (.cells cs.toArray e))) :
    AL P ⟨od, .buildSlice t m ps, T, pos, af, gd⟩ (tget tm) (.cells cs.toArray e) (fun b => .slice (some ⟨b, 0, none⟩) m m) := fun ρ w ha => by
  have e1 := evP_map (ρ := ρ) (fun p hp v hv => ha p.2 (by simp only [Op.operands, List.toList_toArray, List.mem_map]; exact ⟨p, hp, rfl⟩) v hv) h1
  have e2 : (ps.map fun (i, x) => (i, ρ x)) = vals.toArray := Array.ext' (by rw [Array.toList_map]; exact e1)
  unfold execOp
  simp only [e2]
  simp [Sem.run_bind, h3 w]
/-- A literal of one element that is a row: the row is kept as it was said. -/
theorem al_bs1 {od : Option Tmp} {t e : TypeId} {sz b' : Nat} {x : Operand} {cs : List Value} (hx : evT tm x = some (.agg cs.toArray)) (_ht : elemInfo P t = some (e, sz, b')) (h3 : ∀ w, (Instr.buildSlice t 1 #[(0, .agg cs.toArray)]).run P w = .ok (.slice (some ⟨w.heap.size, 0, none⟩) 1 1) (w.alloc (.cells cs.toArray e))) :
    AL P ⟨od, .buildSlice t 1 #[(0, x)], T, pos, af, gd⟩ (tget tm) (.cells cs.toArray e) (fun b => .slice (some ⟨b, 0, none⟩) 1 1) := fun ρ w ha => by
  have h1 := ha x (by simp [Op.operands]) _ hx
  unfold execOp
  simp only [List.map_toArray, List.map_cons, List.map_nil, h1]
  simp [Sem.run_bind, h3 w]
theorem JL_mc {o : Oper} {cs : List Value} {t : TypeId} {g : Nat → Value} (hd : o.dst = some d) (hn : Nat.blt d n = true) (hg : wantF ops o (tget tm) = some true) (hp : AL P o (tget tm) (.cells cs.toArray t) g) (h : ∀ b, JL P n W K F ops k rest ((d, g b) :: tm) (pts b cs t :: L)) : JL P n W K F ops k (o :: rest) tm L := JL_m hd hn hg hp h
theorem JD_mc {o : Oper} {cs : List Value} {t : TypeId} {g : Nat → Value} (hd : o.dst = some d) (hg : wantF ops o (tget tm) = some true) (hk : kindOp o.op = 1) (hp : AL P o (tget tm) (.cells cs.toArray t) g) (h : ∀ b, JD P n W K F ops k nx rest ((d, g b) :: tm) S (pts b cs t :: M)) : JD P n W K F ops k nx (o :: rest) tm S M := JD_m hd hg hk hp h

/-! Writes. -/
theorem wp_done {o : Oper} {a : Act} {w w' : World} {next : Act → World → Prop} (hr : (execOp a.eval o).run P w = .ok .skip w') (h : next (a.put o.dst undef) w') : wpI P o a w next := wpI_of_wp (by
  unfold Oper.wp
  rw [hr]
  exact h)
def one (v : Value) (L0 : List HP) : Value → List HP → Prop := fun u L' => u = v ∧ L' = L0
theorem ae_stG {od : Option Tmp} {t : TypeId} {x y : Operand} {p : Addr} {v : Value} {C L0 : List HP} (hx : evT tm x = some (.pointer (some p))) (hy : evT tm y = some v) (h : ∀ W K' w, K.le K' → Ow W K' (C ++ R) w → ∃ w', (storeVar t p v).run P w = .ok () w' ∧ Ow W K' (L0 ++ R) w') : AE P n K R C ⟨od, .store t x y, T, pos, af, gd⟩ (tget tm) (one undef L0) := fun W K' w a next hK hf hO hn => by
  obtain ⟨w', h1, h2⟩ := h W K' w hK hO
  refine wp_done (w' := w') ?_ (hn undef L0 w' ⟨rfl, rfl⟩ h2)
  unfold execOp
  simp only [hf.eval hx, hf.eval hy]
  simp [Instr.storeAt, Instr.sureAddr, Sem.run_bind, h1]
theorem ae_st {od : Option Tmp} {t T' : TypeId} {x y : Operand} {b i : Nat} {cs cs' : List Value} {v : Value} (hx : evT tm x = some (.pointer (some ⟨b, i, none⟩))) (hy : evT tm y = some v) (ht : cellTy P t = true) (h1 : v.oneCell' = true) (hs : SetAt cs i v cs') : AE P n K R [pts b cs T'] ⟨od, .store t x y, T, pos, af, gd⟩ (tget tm) (one undef [pts b cs' T']) :=
  ae_stG hx hy fun W K' w _ hO => by
    have hb := hO.blk .here
    have hl := hs.eq.2
    exact ⟨_, run_store_cell ht (show w.cell? ⟨b, i, none⟩ = some cs[i] by rw [hb.cell]; simp [hl]) (hb.free i) h1, hO.set .here hs⟩
theorem run_store_row {t : TypeId} {w : World} {b o : Nat} {cs vs : List Value} {T' : TypeId} {W : World} {K : Hl} {R : List HP} (hO : Ow W K (pts b cs T' :: R) w) (ht : rowTy P t vs.length = true) (hl : o + vs.length ≤ cs.length) (h1 : vs.all (·.oneCell') = true) : ∃ w', (storeVar t ⟨b, o, none⟩ (.agg vs.toArray)).run P w = .ok () w' ∧ Ow W K (pts b (splice cs.toArray o vs).toList T' :: R) w' := by
  have hr : ∃ i, P.info? t = some i ∧ i.size = vs.length := by
    unfold rowTy at ht
    cases hu : P.underlying t with
    | none => simp [hu] at ht
    | some d =>
      cases hi : P.info? t with
      | none => simp [hu, hi] at ht
      | some i => simp [hu, hi] at ht; exact ⟨i, rfl, ht.2⟩
  obtain ⟨i, hi, hsz⟩ := hr
  have hth := (hO.blk .here).there o vs.length (by simpa using hl)
  have hs := run_storeCells_cells (P := P) b o vs 0 w (fun j hj => by simpa using (hth j hj).1) (fun j hj => by simpa using (hth j hj).2) (by simpa using h1)
  simp only [Nat.add_zero] at hs
  refine ⟨w.setCells b o vs, ?_, hO.setCells vs o .here hl⟩
  simp [storeVar, Sem.run_bind, run_sz hi, Value.cells, hsz, hs]
theorem ae_stW {od : Option Tmp} {t T' : TypeId} {x y : Operand} {b : Nat} {cs vs : List Value} (hx : evT tm x = some (.pointer (some ⟨b, 0, none⟩))) (hy : evT tm y = some (.agg vs.toArray)) (ht : rowTy P t vs.length = true) (hl : vs.length = cs.length) (h1 : vs.all (·.oneCell') = true) : AE P n K R [pts b cs T'] ⟨od, .store t x y, T, pos, af, gd⟩ (tget tm) (one undef [pts b vs T']) :=
  ae_stG hx hy fun W K' w _ hO => by
    obtain ⟨w', h2, h3⟩ := run_store_row (t := t) hO ht (o := 0) (by omega) h1
    rw [splice_full cs.toArray vs (by simpa using hl)] at h3
    exact ⟨w', h2, by simpa using h3⟩
/-- A part of a block is written: vs from place i on. -/
inductive Put : List Value → Nat → List Value → List Value → Prop
  | e {r : List Value} : Put r 0 [] r
  | t {x v : Value} {r vs r' : List Value} : Put r 0 vs r' → Put (x :: r) 0 (v :: vs) (v :: r')
  | s {x : Value} {r vs r' : List Value} {i : Nat} : Put r i vs r' → Put (x :: r) (i + 1) vs (x :: r')
theorem Put.eq {r vs r' : List Value} {i : Nat} (h : Put r i vs r') : r' = (splice r.toArray i vs).toList ∧ i + vs.length ≤ r.length := by
  have key : i + vs.length ≤ r.length ∧ r'.length = r.length ∧ ∀ j, r'[j]? = if i ≤ j ∧ j < i + vs.length then vs[j - i]? else r[j]? := by
    induction h with
    | e => exact ⟨by simp, rfl, fun j => by rw [if_neg (by simp)]⟩
    | t _ ih =>
      obtain ⟨h1, h2, h3⟩ := ih
      refine ⟨by simp at h1 ⊢; omega, by simp [h2], fun j => ?_⟩
      cases j with
      | zero => simp
      | succ j =>
        have := h3 j
        simp only [Nat.zero_le, true_and, Nat.zero_add, Nat.sub_zero] at this
        simp only [List.getElem?_cons_succ, this, List.length_cons, Nat.zero_le, true_and, Nat.zero_add, Nat.sub_zero]
        split
        · rw [if_pos (by omega)]
        · rw [if_neg (by omega)]
    | s _ ih =>
      obtain ⟨h1, h2, h3⟩ := ih
      refine ⟨by simp at h1 ⊢; omega, by simp [h2], fun j => ?_⟩
      cases j with
      | zero => rw [if_neg (by omega)]; rfl
      | succ j =>
        simp only [List.getElem?_cons_succ, h3 j]
        split
        · rename_i hj
          rw [if_pos (by omega)]
          congr 1
          omega
        · rename_i hj
          rw [if_neg (by omega)]
  refine ⟨?_, key.1⟩
  apply List.ext_getElem?
  intro j
  have h2 := splice_get vs i r.toArray j (by simpa using key.1)
  rw [key.2.2 j, Array.getElem?_toList (xs := splice r.toArray i vs), h2]
  simp
theorem ae_stS {od : Option Tmp} {t T' : TypeId} {x y : Operand} {b i : Nat} {cs vs cs' : List Value} (hx : evT tm x = some (.pointer (some ⟨b, i, none⟩))) (hy : evT tm y = some (.agg vs.toArray)) (ht : rowTy P t vs.length = true) (hp : Put cs i vs cs') (h1 : vs.all (·.oneCell') = true) : AE P n K R [pts b cs T'] ⟨od, .store t x y, T, pos, af, gd⟩ (tget tm) (one undef [pts b cs' T']) :=
  ae_stG hx hy fun W K' w _ hO => by
    obtain ⟨w', h2, h3⟩ := run_store_row (t := t) hO ht hp.eq.2 h1
    rw [hp.eq.1]
    exact ⟨w', h2, h3⟩
/-- An element of a slice of the call's own is written. -/
theorem ae_stE {α : Type} {enc : α → List Value} {od : Option Tmp} {t e : TypeId} {x y : Operand} {a : Option Addr} {m c j off sz : Nat} {es : List α} {z z' : α} {vs : List Value} {v : Value} (hx : evT tm x = some (.pointer (some (elA a j sz off)))) (hy : evT tm y = some v) (hv : cellsL v = vs) (hl : ∀ x, (enc x).length = sz) (hz : Nat.blt 0 sz = true) (hj : es[j]? = some z) (ht : (P.info? t).map (·.size) = some vs.length) (hp : enc z' = (splice (enc z).toArray off vs).toList) (ho : off + vs.length ≤ sz) (h1 : vs.all (·.oneCell') = true) :
    AE P n K R [Ar e sz enc (.slice a m c) es] ⟨od, .store t x y, T, pos, af, gd⟩ (tget tm) (one undef [Ar e sz enc (.slice a m c) (es.set j z')]) :=
  ae_stG hx hy fun W K' w _ hO => by
    have hlt := (List.getElem?_eq_some_iff.1 hj).1
    have hmm : m = es.length := by
      obtain ⟨_, a', c', he, _⟩ := Ow.slShape hO .here
      injection he
    subst hmm
    have hzz : 0 < sz := by simpa using hz
    obtain ⟨g, cur, rfl, H2, hcl, hct, hnc, hcm⟩ := hO.slOpen .here (by omega)
    have hsz1 : (j + 1) * sz ≤ es.length * sz := Nat.mul_le_mul_right _ hlt
    have hsz2 : es.length * sz ≤ cur.length := by rw [hcl]; exact Nat.mul_le_mul_right _ hnc
    have e1 : (j + 1) * sz = j * sz + sz := Nat.succ_mul j sz
    obtain ⟨inf, hi, hs⟩ : ∃ i, P.info? t = some i ∧ i.size = vs.length := by
      cases hq : P.info? t with
      | none => simp [hq] at ht
      | some i => exact ⟨i, rfl, by simpa [hq] using ht⟩
    have hth := (H2.blk .here).there (j * sz + off) vs.length (by simp; omega)
    have hst := run_storeCells_cells (P := P) g (j * sz + off) vs 0 w (fun j hj => by simpa using (hth j hj).1) (fun j hj => by simpa using (hth j hj).2) (by simpa using h1)
    simp only [Nat.add_zero] at hst
    have hvc : v.cells.toList = vs := by rw [← hv]; cases v <;> rfl
    refine ⟨w.setCells g (j * sz + off) vs, ?_, ?_⟩
    · have hsz3 : v.cells.size = vs.length := by rw [← hvc]; simp
      rw [elA_some, Nat.zero_add]
      simp [storeVar, Sem.run_bind, run_sz hi, hsz3, hs, hvc, hst]
    · have H3 := H2.setCells vs (j * sz + off) .here (by omega)
      have hset : ∀ i u, (es.set j z')[i]? = some u → u = if i = j then z' else (es[i]?).getD u := by
        intro i u hu
        rw [List.getElem?_set] at hu
        by_cases hij : j = i
        · subst hij; simp [hlt] at hu; simp [hu]
        · rw [if_neg hij] at hu; simp [Ne.symm hij, hu]
      have hlen : (es.set j z').length = es.length := by simp
      have hx : (splice cur.toArray (j * sz + off) vs).toList.take (es.length * sz) = flat enc (es.set j z') := by
        rw [← hlen]
        refine take_rows hl (es.set j z') (by rw [hlen, Array.length_toList (xs := splice cur.toArray (j * sz + off) vs), splice_size]; simpa using hsz2) fun i hi => ?_
        have hi' : i < es.length := by simpa using hi
        have hri := rows_of hl hct i hi'
        have e2 : (i + 1) * sz = i * sz + sz := Nat.succ_mul i sz
        have hsz4 : (i + 1) * sz ≤ es.length * sz := Nat.mul_le_mul_right _ hi'
        apply List.ext_getElem?
        intro q
        by_cases hq : q < sz
        · rw [rowOf_get hq, Array.getElem?_toList (xs := splice cur.toArray (j * sz + off) vs), splice_get vs (j * sz + off) cur.toArray (i * sz + q) (by simp; omega)]
          by_cases hij : i = j
          · subst hij
            rw [List.getElem_set_self, hp, Array.getElem?_toList (xs := splice (enc z).toArray off vs), splice_get vs off (enc z).toArray q (by simp [hl]; omega)]
            have hz2 : enc z = rowOf sz cur i := by
              rw [hri]
              rw [List.getElem?_eq_getElem hi'] at hj
              cases hj; rfl
            by_cases hoff : off ≤ q ∧ q < off + vs.length
            · rw [if_pos (by omega), if_pos hoff, show i * sz + q - (i * sz + off) = q - off by omega]
            · rw [if_neg (by omega), if_neg hoff, hz2]
              simp [rowOf_get hq]
          · have hne : ¬ (j * sz + off ≤ i * sz + q ∧ i * sz + q < j * sz + off + vs.length) := by
              rintro ⟨h2, h3⟩
              rcases Nat.lt_or_ge i j with h4 | h4
              · have : (i + 1) * sz ≤ j * sz := Nat.mul_le_mul_right _ h4
                omega
              · have : (j + 1) * sz ≤ i * sz := Nat.mul_le_mul_right _ (by omega)
                omega
            rw [if_neg hne, List.getElem_set_ne (Ne.symm hij), ← hri, rowOf_get hq]
            simp
        · have l1 : (rowOf sz (splice cur.toArray (j * sz + off) vs).toList i).length ≤ sz := by unfold rowOf; rw [List.length_take]; omega
          rw [List.getElem?_eq_none (by omega), List.getElem?_eq_none (by rw [hl]; omega)]
      have H4 := H3.slShut (n := es.length) (cap := c) .here (by rw [Array.length_toList (xs := splice cur.toArray (j * sz + off) vs), splice_size]; simpa using hcl) hx hnc hcm
      show Ow W K' (Sl e sz _ (es.set j z').length (flat enc (es.set j z')) :: R) _
      rw [hlen]
      exact H4
end
end Go.Pm
namespace Go.Pm
set_option linter.unusedSimpArgs false
set_option linter.unusedVariables false
open Go.RowKit

section
variable {P : Program} {n : Nat} {W : World} {K : Hl} {F : Fp} {k : List It} {tm : TM} {L L' R S M C : List HP} {T : TypeId} {pos : String} {af : Array Edge} {gd : Option (Nat × Bool)} {ops : Array Oper} {rest : List Oper} {d : Tmp}

/-! Append. -/
def AppR {α : Type} (e : TypeId) (sz : Nat) (enc : α → List Value) (m : Nat) (es : List α) (l : Nat) : Value → List HP → Prop := fun u L' => ∃ ad c, l + m ≤ c ∧ c ≤ maxLen ∧ u = .slice ad (l + m) c ∧ L' = [Ar e sz enc (.slice ad (l + m) c) es]
theorem ae_app {α : Type} {enc : α → List Value} {od : Option Tmp} {t e : TypeId} {sz bytes m : Nat} {s x : Operand} {v y : Value} {es fs : List α} (E : El P t e sz bytes) (hs : evT tm s = some v) (hx : evT tm x = some y) (hv : Src K R y sz m (flat enc fs)) (hl : ∀ x, (enc x).length = sz) (h1 : ∀ u ∈ flat enc fs, u.oneCell' = true) (hb : (es.length + m) * bytes ≤ 140737488355328) :
    AE P n K R [Ar e sz enc v es] ⟨od, .call ⟨.builtin .append, #[s, x], #[t, t]⟩, T, pos, af, gd⟩ (tget tm) (AppR e sz enc m (es ++ fs) es.length) := fun W K' w a next hK hf hO hn => by
  have hown : w.ownsRow 0 e sz v es.length (flat enc es) := Ow.owns hO .here
  have hv := hv w ((Ow.rdw (M := [Ar e sz enc v es]) hO).le hK)
  obtain ⟨ad, cap, rfl, hlen, hnc, hcm, hnn, hvv⟩ := hv
  have hm : fs.length = m := Nat.eq_of_mul_eq_mul_right E.pos (by rw [flat_length hl] at hlen; exact hlen)
  have key : ∀ v' w', Bld e sz 0 w w' v v' (es.length + m) (flat enc es ++ flat enc fs) → next (a.put od v') w' := fun v' w' hbld => by
    have H2 : Ow W K' (Sl e sz v' (es.length + m) (flat enc es ++ flat enc fs) :: R) w' := Ow.bld hO hbld
    obtain ⟨_, ad', c', rfl, h3, h4⟩ := H2.slShape .here
    refine hn _ _ w' ⟨ad', c', h3, h4, rfl, rfl⟩ ?_
    show Ow W K' (Sl e sz _ (es ++ fs).length (flat enc (es ++ fs)) :: R) w'
    rw [List.length_append, hm, flat_append]
    exact H2
  refine wpI_of_wp ?_
  unfold Oper.wp execOp
  cases ad with
  | none =>
    obtain ⟨rfl, rfl⟩ := hnn rfl
    have hfs : fs = [] := List.eq_nil_of_length_eq_zero hm
    subst hfs
    obtain ⟨i, z, hi, _⟩ := E.inf
    have hrun := run_append_owned_none (P := P) (w := w) 0 t T e i sz E.sl hi v es.length (flat enc es) hown
    simp only [resolve, invoke, builtin, Sem.run_bind, Sem.run_pure, Result.andThen_ok, List.map_toArray, List.map_cons, List.map_nil, hf.eval hs, hf.eval hx, hrun]
    exact key v w (by have := Bld.refl hown; simpa [flat] using this)
  | some ad =>
    have hcells : ∀ j u, (flat enc fs)[j]? = some u → w.cell? (ad.add j) = some u := by
      intro j u hu
      obtain ⟨b, off, he, hc⟩ := hvv (by intro h0; rw [h0] at hu; simp at hu)
      cases he
      rw [addr_add_plain]
      exact hc j u hu
    obtain ⟨v', w', hr, hbld⟩ := run_app E T hown ad m cap (flat enc fs) hlen hcells h1 hb (Nat.zero_le _)
    simp only [resolve, invoke, builtin, Sem.run_bind, Sem.run_pure, Result.andThen_ok, List.map_toArray, List.map_cons, List.map_nil, hf.eval hs, hf.eval hx, hr]
    exact key v' w' hbld
theorem flat_one {α : Type} (enc : α → List Value) (y : α) : flat enc [y] = enc y := by simp [flat]
theorem all_one {α : Type} {enc : α → List Value} (fs : List α) (h : ∀ y ∈ fs, (enc y).all (·.oneCell') = true) : ∀ u ∈ flat enc fs, u.oneCell' = true := by
  intro u hu
  obtain ⟨y, hy, hu⟩ := List.mem_flatMap.1 hu
  exact List.all_eq_true.1 (h y hy) u hu
/-- Append of a literal of one element. -/
theorem ae_ap1 {α : Type} {enc : α → List Value} {od : Option Tmp} {t e T' : TypeId} {sz bytes g : Nat} {s x : Operand} {v : Value} {es : List α} {y : α} {cs : List Value} {R' : List HP} (E : El P t e sz bytes) (hs : evT tm s = some v) (hx : evT tm x = some (.slice (some ⟨g, 0, none⟩) 1 1)) (hg : Tk R (pts g cs T') R') (hy : cs = enc y) (hl : ∀ x, (enc x).length = sz) (h1 : cs.all (·.oneCell') = true) (hb : (es.length + 1) * bytes ≤ 140737488355328) :
    AE P n K R [Ar e sz enc v es] ⟨od, .call ⟨.builtin .append, #[s, x], #[t, t]⟩, T, pos, af, gd⟩ (tget tm) (AppR e sz enc 1 (es ++ [y]) es.length) :=
  ae_app E hs hx (by rw [flat_one, ← hy]; exact Src.lit hg (by rw [hy, hl]; omega) (by simp [maxLen])) hl (by rw [flat_one, ← hy]; exact List.all_eq_true.1 h1) hb
theorem El.ofInfo {t e : TypeId} {sz bytes : Nat} (h : elemInfo P t = some (e, sz, bytes)) (hz : (P.info? e).map (fun i => (i.zero.map (·.cells.size)) == some sz) = some true) (h0 : Nat.blt 0 sz = true) (h1 : Nat.blt 0 bytes = true) : El P t e sz bytes := by
  obtain ⟨i, hu, hi, hs, hb⟩ := elemInfo_spec h
  rw [hi] at hz
  simp only [Option.map_some, Option.some.injEq, beq_iff_eq] at hz
  cases hq : i.zero with
  | none => simp [hq] at hz
  | some z => simp only [hq, Option.map_some, Option.some.injEq] at hz; exact ⟨hu, ⟨i, z, hi, hq, hs, hb, hz⟩, by simpa using h0, by simpa using h1⟩
def elOk (P : Program) (t e : TypeId) (sz bytes : Nat) : Bool := match elemInfo P t with
  | some (e', s', b') => e' == e && s' == sz && b' == bytes && Nat.blt 0 sz && Nat.blt 0 bytes && (match P.info? e with
    | some i => match i.zero with
      | some z => z.cells.size == sz
      | none => false
    | none => false)
  | none => false
theorem El.ofOk {t e : TypeId} {sz bytes : Nat} (h : elOk P t e sz bytes = true) : El P t e sz bytes := by
  unfold elOk at h
  split at h
  · rename_i e' s' b' he
    simp only [Bool.and_eq_true, beq_iff_eq] at h
    obtain ⟨⟨⟨⟨⟨rfl, rfl⟩, rfl⟩, h0⟩, h1⟩, h2⟩ := h
    split at h2
    · rename_i i hi
      split at h2
      · rename_i z hz
        obtain ⟨i', hu, hi', hs, hb⟩ := elemInfo_spec he
        rw [hi] at hi'
        cases hi'
        exact ⟨hu, ⟨i, z, hi, hz, hs, hb, by simpa using h2⟩, by simpa using h0, by simpa using h1⟩
      · cases h2
    · cases h2
  · cases h

/-! Calls. -/
theorem Sb.all : ∀ (A R : List HP), Sb (A ++ R) A R
  | [], _ => .nil
  | _ :: A, R => .cons .here (Sb.all A R)
def ownB (P : Program) (f : FuncId) : Bool := match P.funcs[f]? with
  | some fn => fn.name != "runtime.NumGoroutine" && fn.body.isSome
  | none => false
theorem run_own {f : FuncId} (h : ownB P f = true) (args : Array Value) (w : World) : (callFunc f args).run P w = .ok (.enter f args) w := by
  unfold ownB at h
  split at h
  · rename_i fn hfn
    simp only [Bool.and_eq_true, bne_iff_ne, ne_eq] at h
    obtain ⟨b, hb⟩ := Option.isSome_iff_exists.1 h.2
    simp [callFunc, Sem.run_bind, hfn, h.1, hb]
  · cases h
theorem Kr.of {φ : World → Prop} (h : ∀ w, Rdw K R w → φ w) : Kr K R φ := fun x s d w i => h w ⟨((Hl.inn_add d.symm).1 i).1, x, s, d, ((Hl.inn_add d.symm).1 i).2⟩
theorem mapM_eval {a : Act} {f : TF} (hf : Fit n f a) : ∀ {l : List Operand} {r : List Value}, l.mapM (evF f) = some r → l.map a.eval = r
  | [], r, h => by simpa using h
  | x :: l, r, h => by
    simp only [List.mapM_cons, Option.pure_def, Option.bind_eq_bind, Option.bind_eq_some_iff, Option.some.injEq] at h
    obtain ⟨v, hv, r', hr, rfl⟩ := h
    simp [hf.eval hv, mapM_eval hf hr]
theorem ae_go {od : Option Tmp} {c : Operand} {xs : Array Operand} {ts : Array TypeId} {f : FuncId} {first caps : Array Value} {us vs : List Value} {φ : World → Prop} {Rr : Value → List HP → Prop} (hc : evT tm c = some (.func (.func f) first caps)) (ha : xs.toList.mapM (evT tm) = some us) (hv : (first ++ us.toArray ++ caps).toList = vs) (ho : ownB P f = true) (Sp : Pact P f vs.toArray φ C Rr) (hφ : ∀ w, Rdw K R w → φ w) :
    AE P n K R C ⟨od, .call ⟨.value c, xs, ts⟩, T, pos, af, gd⟩ (tget tm) Rr := fun W K' w a next hK hf hO hn => by
  have e1 : xs.map a.eval = us.toArray := Array.ext' (by rw [Array.toList_map]; exact mapM_eval hf ha)
  have e2 : first ++ us.toArray ++ caps = vs.toArray := Array.ext' hv
  refine wpI_of_wp ?_
  unfold Oper.wp execOp
  simp only [resolve, e1, hf.eval hc, Deferred.ofValue, Sem.run_bind, Sem.run_pure, Result.andThen_ok, invoke, e2, run_own ho]
  refine Sp.call hO (Sb.all _ _) (Kr.of fun w h => hφ w (h.le hK)) fun v L' hr w' H' => hn v L' w' hr H'
end
end Go.Pm
namespace Go.Pm
set_option linter.unusedSimpArgs false
set_option linter.unusedVariables false
open Go.RowKit

theorem Tk.app {L M : List HP} {A : HP} (h : Tk L A M) (S : List HP) : Tk (L ++ S) A (M ++ S) := by
  induction h with
  | here => exact .here
  | there _ ih => exact .there ih
theorem il (n : Nat) : (OfNat.ofNat n : Int) = (n : Int) := rfl
theorem il0 : (0 : Int) = ((0 : Nat) : Int) := rfl
theorem il1 : (1 : Int) = ((1 : Nat) : Int) := rfl
theorem il2 : (2 : Int) = ((2 : Nat) : Int) := rfl
theorem il3 : (3 : Int) = ((3 : Nat) : Int) := rfl
theorem il4 : (4 : Int) = ((4 : Nat) : Int) := rfl
theorem il5 : (5 : Int) = ((5 : Nat) : Int) := rfl
theorem il6 : (6 : Int) = ((6 : Nat) : Int) := rfl
theorem il7 : (7 : Int) = ((7 : Nat) : Int) := rfl
theorem il8 : (8 : Int) = ((8 : Nat) : Int) := rfl
theorem il9 : (9 : Int) = ((9 : Nat) : Int) := rfl
theorem il10 : (10 : Int) = ((10 : Nat) : Int) := rfl
theorem il11 : (11 : Int) = ((11 : Nat) : Int) := rfl
theorem il12 : (12 : Int) = ((12 : Nat) : Int) := rfl
theorem ic_succ (n : Nat) : (n : Int) + 1 = ((n + 1 : Nat) : Int) := rfl
def guardSlot (ops : Array Oper) (j : Nat) : Option Tmp := (ops[j]?).bind (·.dst)

section
variable {P : Program} {n : Nat} {W : World} {K : Hl} {F : Fp} {k : List It} {tm : TM} {L L' R R' S M M' C : List HP} {T : TypeId} {pos : String} {af : Array Edge} {gd : Option (Nat × Bool)} {ops : Array Oper} {rest nx : List Oper} {d : Tmp} {op : Op} {g : Nat × Bool}

theorem JL_skip (hg : wantF ops ⟨some d, op, T, pos, af, some g⟩ (tget tm) = some false) (hn : Nat.blt d n = true) (h : JL P n W K F ops k rest ((d, undef) :: tm) L) : JL P n W K F ops k (⟨some d, op, T, pos, af, some g⟩ :: rest) tm L :=
  JL_no hg (by simpa [inB] using hn) (fun _ h => (Option.some.inj h).symm) h (fun h => by cases h)
theorem JD_skip (hg : wantF ops ⟨some d, op, T, pos, af, some g⟩ (tget tm) = some false) (h : JD P n W K F ops k nx rest ((d, undef) :: tm) S M) : JD P n W K F ops k nx (⟨some d, op, T, pos, af, some g⟩ :: rest) tm S M := JD_no hg rfl h
theorem JL_guard {t : Tmp} {od : Option Tmp} {p : Prop} [Decidable p] (hs : guardSlot ops g.1 = some t) (hc : tget tm t = some (.bool (decide p))) (h1 : p → JL P n W K F ops k (⟨od, op, T, pos, af, some g⟩ :: rest) ((t, .bool true) :: tm) L) (h2 : ¬ p → JL P n W K F ops k (⟨od, op, T, pos, af, some g⟩ :: rest) ((t, .bool false) :: tm) L) : JL P n W K F ops k (⟨od, op, T, pos, af, some g⟩ :: rest) tm L := JL_split hc h1 h2
theorem JL_guardb {t : Tmp} {od : Option Tmp} {b : Bool} (hs : guardSlot ops g.1 = some t) (hc : tget tm t = some (.bool b)) (h1 : b = true → JL P n W K F ops k (⟨od, op, T, pos, af, some g⟩ :: rest) ((t, .bool true) :: tm) L) (h2 : b = false → JL P n W K F ops k (⟨od, op, T, pos, af, some g⟩ :: rest) ((t, .bool false) :: tm) L) : JL P n W K F ops k (⟨od, op, T, pos, af, some g⟩ :: rest) tm L := JL_splitb hc h1 h2
theorem JD_guard {t : Tmp} {od : Option Tmp} {p : Prop} [Decidable p] (hs : guardSlot ops g.1 = some t) (hc : tget tm t = some (.bool (decide p))) (h1 : p → JD P n W K F ops k nx (⟨od, op, T, pos, af, some g⟩ :: rest) ((t, .bool true) :: tm) S M) (h2 : ¬ p → JD P n W K F ops k nx (⟨od, op, T, pos, af, some g⟩ :: rest) ((t, .bool false) :: tm) S M) : JD P n W K F ops k nx (⟨od, op, T, pos, af, some g⟩ :: rest) tm S M := JD_split hc h1 h2
theorem JD_guardb {t : Tmp} {od : Option Tmp} {b : Bool} (hs : guardSlot ops g.1 = some t) (hc : tget tm t = some (.bool b)) (h1 : b = true → JD P n W K F ops k nx (⟨od, op, T, pos, af, some g⟩ :: rest) ((t, .bool true) :: tm) S M) (h2 : b = false → JD P n W K F ops k nx (⟨od, op, T, pos, af, some g⟩ :: rest) ((t, .bool false) :: tm) S M) : JD P n W K F ops k nx (⟨od, op, T, pos, af, some g⟩ :: rest) tm S M := JD_splitb hc h1 h2

/-! Elements. -/
section
variable {ty : TypeId} {x : Operand} {a : Option Addr} {m c sz n' j : Nat} {α : Type} {enc : α → List Value} {es : List α}
theorem JL_el (hx : evT tm x = some (.pointer (some (elA a j sz 0)))) (hs : Src K L (.slice a m c) sz n' (flat enc es)) (hl : ∀ x, (enc x).length = sz) (hz : Nat.blt 0 sz = true) (ht : rowTy P ty sz = true) (hn : Nat.blt d n = true) (hg : wantF ops ⟨some d, .load ty x, T, pos, af, gd⟩ (tget tm) = some true) (hj : j < es.length)
    (h : ∀ y, es[j]? = some y → JL P n W K F ops k rest ((d, .agg (enc y).toArray) :: tm) L) : JL P n W K F ops k (⟨some d, .load ty x, T, pos, af, gd⟩ :: rest) tm L :=
  JL_p rfl hn hg (pe_el hx hs hl hz ht (List.getElem?_eq_getElem hj)) (h _ (List.getElem?_eq_getElem hj))
theorem JL_elC {v : α → Value} (hx : evT tm x = some (.pointer (some (elA a j sz 0)))) (hs : Src K L (.slice a m c) sz n' (flat enc es)) (hl : ∀ x, (enc x).length = sz) (hz : Nat.blt 0 sz = true) (ht : cellTy P ty = true) (hv : ∀ y, (enc y)[0]? = some (v y)) (hn : Nat.blt d n = true) (hg : wantF ops ⟨some d, .load ty x, T, pos, af, gd⟩ (tget tm) = some true) (hj : j < es.length)
    (h : ∀ y, es[j]? = some y → JL P n W K F ops k rest ((d, v y) :: tm) L) : JL P n W K F ops k (⟨some d, .load ty x, T, pos, af, gd⟩ :: rest) tm L :=
  JL_p rfl hn hg (pe_elC hx hs hl hz ht (List.getElem?_eq_getElem hj) (hv _)) (h _ (List.getElem?_eq_getElem hj))
theorem JL_elF {off : Nat} {v : α → Value} (hx : evT tm x = some (.pointer (some (elA a j sz off)))) (hs : Src K L (.slice a m c) sz n' (flat enc es)) (hl : ∀ x, (enc x).length = sz) (hz : Nat.blt 0 sz = true) (ht : cellTy P ty = true) (hv : ∀ y, (enc y)[off]? = some (v y)) (hn : Nat.blt d n = true) (hg : wantF ops ⟨some d, .load ty x, T, pos, af, gd⟩ (tget tm) = some true) (hj : j < es.length)
    (h : ∀ y, es[j]? = some y → JL P n W K F ops k rest ((d, v y) :: tm) L) : JL P n W K F ops k (⟨some d, .load ty x, T, pos, af, gd⟩ :: rest) tm L :=
  JL_p rfl hn hg (pe_elF hx hs hl hz ht (List.getElem?_eq_getElem hj) (hv _)) (h _ (List.getElem?_eq_getElem hj))
end

/-! Stores. -/
section
variable {t T' : TypeId} {x y : Operand} {b i : Nat} {cs cs' vs : List Value} {v : Value}
theorem JL_st (hx : evT tm x = some (.pointer (some ⟨b, i, none⟩))) (hy : evT tm y = some v) (hm : Tk L (pts b cs T') R) (ht : cellTy P t = true) (h1 : v.oneCell' = true) (hs : SetAt cs i v cs') (hg : wantF ops ⟨none, .store t x y, T, pos, af, gd⟩ (tget tm) = some true) (h : JL P n W K F ops k rest tm (pts b cs' T' :: R)) : JL P n W K F ops k (⟨none, .store t x y, T, pos, af, gd⟩ :: rest) tm L :=
  JL_a0 rfl hg (.cons hm .nil) (ae_st hx hy ht h1 hs) (by rintro _ _ ⟨rfl, rfl⟩; exact h)
theorem JL_stW (hx : evT tm x = some (.pointer (some ⟨b, 0, none⟩))) (hy : evT tm y = some (.agg vs.toArray)) (hm : Tk L (pts b cs T') R) (ht : rowTy P t vs.length = true) (hl : vs.length = cs.length) (h1 : vs.all (·.oneCell') = true) (hg : wantF ops ⟨none, .store t x y, T, pos, af, gd⟩ (tget tm) = some true) (h : JL P n W K F ops k rest tm (pts b vs T' :: R)) : JL P n W K F ops k (⟨none, .store t x y, T, pos, af, gd⟩ :: rest) tm L :=
  JL_a0 rfl hg (.cons hm .nil) (ae_stW hx hy ht hl h1) (by rintro _ _ ⟨rfl, rfl⟩; exact h)
theorem JL_stS (hx : evT tm x = some (.pointer (some ⟨b, i, none⟩))) (hy : evT tm y = some (.agg vs.toArray)) (hm : Tk L (pts b cs T') R) (ht : rowTy P t vs.length = true) (hp : Put cs i vs cs') (h1 : vs.all (·.oneCell') = true) (hg : wantF ops ⟨none, .store t x y, T, pos, af, gd⟩ (tget tm) = some true) (h : JL P n W K F ops k rest tm (pts b cs' T' :: R)) : JL P n W K F ops k (⟨none, .store t x y, T, pos, af, gd⟩ :: rest) tm L :=
  JL_a0 rfl hg (.cons hm .nil) (ae_stS hx hy ht hp h1) (by rintro _ _ ⟨rfl, rfl⟩; exact h)
theorem JD_st (hx : evT tm x = some (.pointer (some ⟨b, i, none⟩))) (hy : evT tm y = some v) (hm : Tk M (pts b cs T') R) (ht : cellTy P t = true) (h1 : v.oneCell' = true) (hs : SetAt cs i v cs') (hg : wantF ops ⟨none, .store t x y, T, pos, af, gd⟩ (tget tm) = some true) (h : JD P n W K F ops k nx rest tm S (pts b cs' T' :: R)) : JD P n W K F ops k nx (⟨none, .store t x y, T, pos, af, gd⟩ :: rest) tm S M :=
  JD_a0 rfl hg rfl (.cons hm .nil) (ae_st hx hy ht h1 hs) (by rintro _ _ ⟨rfl, rfl⟩; exact h)
theorem JD_stW (hx : evT tm x = some (.pointer (some ⟨b, 0, none⟩))) (hy : evT tm y = some (.agg vs.toArray)) (hm : Tk M (pts b cs T') R) (ht : rowTy P t vs.length = true) (hl : vs.length = cs.length) (h1 : vs.all (·.oneCell') = true) (hg : wantF ops ⟨none, .store t x y, T, pos, af, gd⟩ (tget tm) = some true) (h : JD P n W K F ops k nx rest tm S (pts b vs T' :: R)) : JD P n W K F ops k nx (⟨none, .store t x y, T, pos, af, gd⟩ :: rest) tm S M :=
  JD_a0 rfl hg rfl (.cons hm .nil) (ae_stW hx hy ht hl h1) (by rintro _ _ ⟨rfl, rfl⟩; exact h)
theorem JD_stS (hx : evT tm x = some (.pointer (some ⟨b, i, none⟩))) (hy : evT tm y = some (.agg vs.toArray)) (hm : Tk M (pts b cs T') R) (ht : rowTy P t vs.length = true) (hp : Put cs i vs cs') (h1 : vs.all (·.oneCell') = true) (hg : wantF ops ⟨none, .store t x y, T, pos, af, gd⟩ (tget tm) = some true) (h : JD P n W K F ops k nx rest tm S (pts b cs' T' :: R)) : JD P n W K F ops k nx (⟨none, .store t x y, T, pos, af, gd⟩ :: rest) tm S M :=
  JD_a0 rfl hg rfl (.cons hm .nil) (ae_stS hx hy ht hp h1) (by rintro _ _ ⟨rfl, rfl⟩; exact h)
end

/-! A whole element of a slice of the call's own is written. -/
section
variable {α : Type} {enc : α → List Value} {t e : TypeId} {x y : Operand} {a : Option Addr} {m c j sz : Nat} {es : List α} {z' : α} {v : Value}
theorem ae_stEl (hx : evT tm x = some (.pointer (some (elA a j sz 0)))) (hy : evT tm y = some v) (hv : cellsL v = enc z') (hl : ∀ x, (enc x).length = sz) (hz : Nat.blt 0 sz = true) (hj : j < es.length) (ht : (P.info? t).map (·.size) = some sz) (h1 : (enc z').all (·.oneCell') = true) {od : Option Tmp} :
    AE P n K R [Ar e sz enc (.slice a m c) es] ⟨od, .store t x y, T, pos, af, gd⟩ (tget tm) (one undef [Ar e sz enc (.slice a m c) (es.set j z')]) :=
  ae_stE (z := es[j]) hx hy hv hl hz (List.getElem?_eq_getElem hj) (by rw [hl]; exact ht) (by rw [splice_full _ _ (by simp [hl])]) (by simp [hl]) h1
theorem JL_stEl (hx : evT tm x = some (.pointer (some (elA a j sz 0)))) (hy : evT tm y = some v) (hm : Tk L (Ar e sz enc (.slice a m c) es) R) (hv : cellsL v = enc z') (hl : ∀ x, (enc x).length = sz) (hz : Nat.blt 0 sz = true) (ht : (P.info? t).map (·.size) = some sz) (h1 : (enc z').all (·.oneCell') = true) (hg : wantF ops ⟨none, .store t x y, T, pos, af, gd⟩ (tget tm) = some true) (hj : j < es.length)
    (h : JL P n W K F ops k rest tm (Ar e sz enc (.slice a m c) (es.set j z') :: R)) : JL P n W K F ops k (⟨none, .store t x y, T, pos, af, gd⟩ :: rest) tm L :=
  JL_a0 rfl hg (.cons hm .nil) (ae_stEl hx hy hv hl hz hj ht h1) (by rintro _ _ ⟨rfl, rfl⟩; exact h)
theorem JD_stEl (hx : evT tm x = some (.pointer (some (elA a j sz 0)))) (hy : evT tm y = some v) (hm : Tk M (Ar e sz enc (.slice a m c) es) R) (hv : cellsL v = enc z') (hl : ∀ x, (enc x).length = sz) (hz : Nat.blt 0 sz = true) (ht : (P.info? t).map (·.size) = some sz) (h1 : (enc z').all (·.oneCell') = true) (hg : wantF ops ⟨none, .store t x y, T, pos, af, gd⟩ (tget tm) = some true) (hj : j < es.length)
    (h : JD P n W K F ops k nx rest tm S (Ar e sz enc (.slice a m c) (es.set j z') :: R)) : JD P n W K F ops k nx (⟨none, .store t x y, T, pos, af, gd⟩ :: rest) tm S M :=
  JD_a0 rfl hg rfl (.cons hm .nil) (ae_stEl hx hy hv hl hz hj ht h1) (by rintro _ _ ⟨rfl, rfl⟩; exact h)
/-- A part of an element. -/
theorem JL_stEf {z : α} {off : Nat} {vs : List Value} (hx : evT tm x = some (.pointer (some (elA a j sz off)))) (hy : evT tm y = some v) (hm : Tk L (Ar e sz enc (.slice a m c) es) R) (hj : es[j]? = some z) (hv : cellsL v = vs) (hl : ∀ x, (enc x).length = sz) (hz : Nat.blt 0 sz = true) (ht : (P.info? t).map (·.size) = some vs.length) {cs : List Value} (hp : Put (enc z) off vs cs) (hq : enc z' = cs) (h1 : vs.all (·.oneCell') = true) (hg : wantF ops ⟨none, .store t x y, T, pos, af, gd⟩ (tget tm) = some true)
    (h : JL P n W K F ops k rest tm (Ar e sz enc (.slice a m c) (es.set j z') :: R)) : JL P n W K F ops k (⟨none, .store t x y, T, pos, af, gd⟩ :: rest) tm L :=
  JL_a0 rfl hg (.cons hm .nil) (ae_stE hx hy hv hl hz hj ht (by rw [hq]; exact hp.eq.1) (by have := hp.eq.2; rw [hl] at this; exact this) h1) (by rintro _ _ ⟨rfl, rfl⟩; exact h)
end

/-! Append. -/
section
variable {α : Type} {enc : α → List Value} {t e T' : TypeId} {sz bytes m b : Nat} {s x : Operand} {v y : Value} {es fs : List α} {z : α} {cs : List Value}
theorem JL_ap1 (hi : elemInfo P t = some (e, sz, bytes)) (hs : evT tm s = some v) (hx : evT tm x = some (.slice (some ⟨b, 0, none⟩) 1 1)) (hm : Tk L (Ar e sz enc v es) R) (hb : Tk R (pts b cs T') R') (hok : elOk P t e sz bytes = true) (hy : cs = enc z) (hl : ∀ x, (enc x).length = sz) (h1 : cs.all (·.oneCell') = true) (hsz : (es.length + 1) * bytes ≤ 140737488355328)
    (hn : Nat.blt d n = true) (hg : wantF ops ⟨some d, .call ⟨.builtin .append, #[s, x], #[t, t]⟩, T, pos, af, gd⟩ (tget tm) = some true) (h : ∀ ad c, es.length + 1 ≤ c → c ≤ maxLen → JL P n W K F ops k rest ((d, .slice ad (es.length + 1) c) :: tm) (Ar e sz enc (.slice ad (es.length + 1) c) (es ++ [z]) :: R')) : JL P n W K F ops k (⟨some d, .call ⟨.builtin .append, #[s, x], #[t, t]⟩, T, pos, af, gd⟩ :: rest) tm L :=
  JL_a rfl hn hg (.cons hm .nil) (ae_ap1 (.ofOk hok) hs hx hb hy hl h1 hsz) (by
    rintro _ _ ⟨ad, c, h2, h3, rfl, rfl⟩
    refine ⟨fun a w hf hO => ?_⟩
    exact h ad c h2 h3 a w hf ((hO.perm ((hb.perm.cons _).trans (.swap ..))).drop))
theorem JD_ap1 (hi : elemInfo P t = some (e, sz, bytes)) (hs : evT tm s = some v) (hx : evT tm x = some (.slice (some ⟨b, 0, none⟩) 1 1)) (hm : Tk M (Ar e sz enc v es) R) (hb : Tk R (pts b cs T') R') (hok : elOk P t e sz bytes = true) (hy : cs = enc z) (hl : ∀ x, (enc x).length = sz) (h1 : cs.all (·.oneCell') = true) (hsz : (es.length + 1) * bytes ≤ 140737488355328)
    (hg : wantF ops ⟨some d, .call ⟨.builtin .append, #[s, x], #[t, t]⟩, T, pos, af, gd⟩ (tget tm) = some true) (h : ∀ ad c, es.length + 1 ≤ c → c ≤ maxLen → JD P n W K F ops k nx rest ((d, .slice ad (es.length + 1) c) :: tm) S (Ar e sz enc (.slice ad (es.length + 1) c) (es ++ [z]) :: R)) : JD P n W K F ops k nx (⟨some d, .call ⟨.builtin .append, #[s, x], #[t, t]⟩, T, pos, af, gd⟩ :: rest) tm S M :=
  JD_a rfl hg rfl (.cons hm .nil) (ae_app (R := R ++ S) (.ofOk hok) hs hx (by
    rw [flat_one, ← hy]
    have hb' := hb.app S
    exact Src.lit hb' (by rw [hy, hl]; omega) (by simp [maxLen])) hl (by rw [flat_one, ← hy]; exact List.all_eq_true.1 h1) hsz) (by
    rintro _ _ ⟨ad, c, h2, h3, rfl, rfl⟩
    exact h ad c h2 h3)
theorem JL_app (hi : elemInfo P t = some (e, sz, bytes)) (hs : evT tm s = some v) (hx : evT tm x = some y) (hm : Tk L (Ar e sz enc v es) R) (hv : Src K R y sz m (flat enc fs)) (hok : elOk P t e sz bytes = true) (hl : ∀ x, (enc x).length = sz) (h1 : ∀ u ∈ flat enc fs, u.oneCell' = true) (hsz : (es.length + m) * bytes ≤ 140737488355328)
    (hn : Nat.blt d n = true) (hg : wantF ops ⟨some d, .call ⟨.builtin .append, #[s, x], #[t, t]⟩, T, pos, af, gd⟩ (tget tm) = some true) (h : ∀ ad c, es.length + m ≤ c → c ≤ maxLen → JL P n W K F ops k rest ((d, .slice ad (es.length + m) c) :: tm) (Ar e sz enc (.slice ad (es.length + m) c) (es ++ fs) :: R)) : JL P n W K F ops k (⟨some d, .call ⟨.builtin .append, #[s, x], #[t, t]⟩, T, pos, af, gd⟩ :: rest) tm L :=
  JL_a rfl hn hg (.cons hm .nil) (ae_app (.ofOk hok) hs hx hv hl h1 hsz) (by
    rintro _ _ ⟨ad, c, h2, h3, rfl, rfl⟩
    exact h ad c h2 h3)
theorem JD_app (hi : elemInfo P t = some (e, sz, bytes)) (hs : evT tm s = some v) (hx : evT tm x = some y) (hm : Tk M (Ar e sz enc v es) R) (hv : Src K (R ++ S) y sz m (flat enc fs)) (hok : elOk P t e sz bytes = true) (hl : ∀ x, (enc x).length = sz) (h1 : ∀ u ∈ flat enc fs, u.oneCell' = true) (hsz : (es.length + m) * bytes ≤ 140737488355328)
    (hg : wantF ops ⟨some d, .call ⟨.builtin .append, #[s, x], #[t, t]⟩, T, pos, af, gd⟩ (tget tm) = some true) (h : ∀ ad c, es.length + m ≤ c → c ≤ maxLen → JD P n W K F ops k nx rest ((d, .slice ad (es.length + m) c) :: tm) S (Ar e sz enc (.slice ad (es.length + m) c) (es ++ fs) :: R)) : JD P n W K F ops k nx (⟨some d, .call ⟨.builtin .append, #[s, x], #[t, t]⟩, T, pos, af, gd⟩ :: rest) tm S M :=
  JD_a rfl hg rfl (.cons hm .nil) (ae_app (.ofOk hok) hs hx hv hl h1 hsz) (by
    rintro _ _ ⟨ad, c, h2, h3, rfl, rfl⟩
    exact h ad c h2 h3)
/-- An empty slice of the call's own, out of nothing. -/
theorem Ow.arNil {W : World} {w : World} (H : Ow W K L w) : Ow W K (Ar e sz enc (.slice none 0 0) ([] : List α) :: L) w := H.slNil
theorem Ow.arLit0 {W : World} {w : World} {b : Nat} {T : TypeId} (H : Ow W K L w) (h : Tk L (pts b [] T) R) : Ow W K (Ar T sz enc (.slice (some ⟨b, 0, none⟩) 0 0) ([] : List α) :: R) w := by
  show Ow W K (Sl T sz _ 0 [] :: R) w
  exact H.slLit h (by simp) (by simp [maxLen])
end

/-! Calls. -/
section
variable {c : Operand} {xs : Array Operand} {ts : Array TypeId} {f : FuncId} {first caps : Array Value} {us vs : List Value} {φ : World → Prop} {Rr : Value → List HP → Prop}
theorem JL_go (Sp : Pact P f vs.toArray φ C Rr) (hc : evT tm c = some (.func (.func f) first caps)) (ha : xs.toList.mapM (evT tm) = some us) (hv : (first ++ us.toArray ++ caps).toList = vs) (hs : Sb L C R) (hφ : ∀ w, Rdw K R w → φ w) (ho : ownB P f = true) (hn : Nat.blt d n = true) (hg : wantF ops ⟨some d, .call ⟨.value c, xs, ts⟩, T, pos, af, gd⟩ (tget tm) = some true)
    (h : ∀ v L', Rr v L' → JL P n W K F ops k rest ((d, v) :: tm) (L' ++ R)) : JL P n W K F ops k (⟨some d, .call ⟨.value c, xs, ts⟩, T, pos, af, gd⟩ :: rest) tm L := JL_a rfl hn hg hs (ae_go hc ha hv ho Sp hφ) h
theorem JL_go0 (Sp : Pact P f vs.toArray φ C Rr) (hc : evT tm c = some (.func (.func f) first caps)) (ha : xs.toList.mapM (evT tm) = some us) (hv : (first ++ us.toArray ++ caps).toList = vs) (hs : Sb L C R) (hφ : ∀ w, Rdw K R w → φ w) (ho : ownB P f = true) (hg : wantF ops ⟨none, .call ⟨.value c, xs, ts⟩, T, pos, af, gd⟩ (tget tm) = some true)
    (h : ∀ v L', Rr v L' → JL P n W K F ops k rest tm (L' ++ R)) : JL P n W K F ops k (⟨none, .call ⟨.value c, xs, ts⟩, T, pos, af, gd⟩ :: rest) tm L := JL_a0 rfl hg hs (ae_go hc ha hv ho Sp hφ) h
theorem JD_go (Sp : Pact P f vs.toArray φ C Rr) (hc : evT tm c = some (.func (.func f) first caps)) (ha : xs.toList.mapM (evT tm) = some us) (hv : (first ++ us.toArray ++ caps).toList = vs) (hs : Sb M C R) (hφ : ∀ w, Rdw K (R ++ S) w → φ w) (ho : ownB P f = true) (hg : wantF ops ⟨some d, .call ⟨.value c, xs, ts⟩, T, pos, af, gd⟩ (tget tm) = some true)
    (h : ∀ v L', Rr v L' → JD P n W K F ops k nx rest ((d, v) :: tm) S (L' ++ R)) : JD P n W K F ops k nx (⟨some d, .call ⟨.value c, xs, ts⟩, T, pos, af, gd⟩ :: rest) tm S M := JD_a rfl hg rfl hs (ae_go hc ha hv ho Sp hφ) h
theorem JD_go0 (Sp : Pact P f vs.toArray φ C Rr) (hc : evT tm c = some (.func (.func f) first caps)) (ha : xs.toList.mapM (evT tm) = some us) (hv : (first ++ us.toArray ++ caps).toList = vs) (hs : Sb M C R) (hφ : ∀ w, Rdw K (R ++ S) w → φ w) (ho : ownB P f = true) (hg : wantF ops ⟨none, .call ⟨.value c, xs, ts⟩, T, pos, af, gd⟩ (tget tm) = some true)
    (h : ∀ v L', Rr v L' → JD P n W K F ops k nx rest tm S (L' ++ R)) : JD P n W K F ops k nx (⟨none, .call ⟨.value c, xs, ts⟩, T, pos, af, gd⟩ :: rest) tm S M := JD_a0 rfl hg rfl hs (ae_go hc ha hv ho Sp hφ) h
end
end
end Go.Pm
namespace Go.Pm
set_option linter.unusedSimpArgs false
set_option linter.unusedVariables false
open Go.RowKit

section
variable {P : Program} {n : Nat} {W : World} {K : Hl} {F : Fp} {k : List It} {tm : TM} {L L' R R' S M M' C : List HP} {T : TypeId} {pos : String} {af : Array Edge} {gd : Option (Nat × Bool)} {ops : Array Oper} {rest nx : List Oper} {d : Tmp}
theorem JD_ldM {ty T' : TypeId} {x : Operand} {b i : Nat} {cs : List Value} {v : Value} (hx : evT tm x = some (.pointer (some ⟨b, i, none⟩))) (hm : Tk M (pts b cs T') M') (ht : cellTy P ty = true) (hv : cs[i]? = some v) (hg : wantF ops ⟨some d, .load ty x, T, pos, af, gd⟩ (tget tm) = some true)
    (h : JD P n W K F ops k nx rest ((d, v) :: tm) (pts b cs T' :: S) M') : JD P n W K F ops k nx (⟨some d, .load ty x, T, pos, af, gd⟩ :: rest) tm S M := JD_pM rfl hg rfl hm (pe_ld hx .here ht hv) h
theorem JD_ldWM {ty T' : TypeId} {x : Operand} {b : Nat} {cs : List Value} (hx : evT tm x = some (.pointer (some ⟨b, 0, none⟩))) (hm : Tk M (pts b cs T') M') (ht : rowTy P ty cs.length = true) (hg : wantF ops ⟨some d, .load ty x, T, pos, af, gd⟩ (tget tm) = some true)
    (h : JD P n W K F ops k nx rest ((d, .agg cs.toArray) :: tm) (pts b cs T' :: S) M') : JD P n W K F ops k nx (⟨some d, .load ty x, T, pos, af, gd⟩ :: rest) tm S M := JD_pM rfl hg rfl hm (pe_ldW hx .here ht) h
theorem JD_ldSM {ty T' : TypeId} {x : Operand} {b i m : Nat} {cs vs : List Value} (hx : evT tm x = some (.pointer (some ⟨b, i, none⟩))) (hm : Tk M (pts b cs T') M') (hn : (P.info? ty).map (·.size) = some m) (hs : Seg cs i m vs) (ht : rowTy P ty m = true) (hg : wantF ops ⟨some d, .load ty x, T, pos, af, gd⟩ (tget tm) = some true)
    (h : JD P n W K F ops k nx rest ((d, .agg vs.toArray) :: tm) (pts b cs T' :: S) M') : JD P n W K F ops k nx (⟨some d, .load ty x, T, pos, af, gd⟩ :: rest) tm S M := JD_pM rfl hg rfl hm (pe_ldS hx .here hn hs ht) h
section
variable {x : Operand} {a : Option Addr} {m c sz j : Nat} {α : Type} {enc : α → List Value} {es : List α} {e : TypeId}
theorem JD_ixM {t : TypeId} {i : Operand} {sz' b' : Nat} {k' : IntKind} {z : Int} {e' : TypeId} (hx : evT tm x = some (.slice a m c)) (hi : evT tm i = some (.int k' z)) (ht : elemInfo P t = some (e', sz', b')) (hm : Tk M (Ar e sz enc (.slice a m c) es) M') (hz : z = (j : Int)) (hj : j < m) (hg : wantF ops ⟨some d, .indexAddr t x i, T, pos, af, gd⟩ (tget tm) = some true)
    (h : JD P n W K F ops k nx rest ((d, .pointer (some (elA a j sz' 0))) :: tm) (Ar e sz enc (.slice a m c) es :: S) M') : JD P n W K F ops k nx (⟨some d, .indexAddr t x i, T, pos, af, gd⟩ :: rest) tm S M := JD_pM rfl hg rfl hm (pe_ix hx hi ht (Src.ar .here) hz hj) h
theorem JD_ixV {t : TypeId} {i : Operand} {sz' b' : Nat} {k' : IntKind} {z : Int} {e' : TypeId} (hx : evT tm x = some (.slice a m c)) (hi : evT tm i = some (.int k' z)) (ht : elemInfo P t = some (e', sz', b')) (hm : Tk M (Vr sz enc (.slice a m c) es) M') (hz : z = (j : Int)) (hj : j < m) (hg : wantF ops ⟨some d, .indexAddr t x i, T, pos, af, gd⟩ (tget tm) = some true)
    (h : JD P n W K F ops k nx rest ((d, .pointer (some (elA a j sz' 0))) :: tm) (Vr sz enc (.slice a m c) es :: S) M') : JD P n W K F ops k nx (⟨some d, .indexAddr t x i, T, pos, af, gd⟩ :: rest) tm S M := JD_pM rfl hg rfl hm (pe_ix hx hi ht (Src.vr .here) hz hj) h
variable {ty : TypeId} {n' : Nat}
theorem JD_el (hx : evT tm x = some (.pointer (some (elA a j sz 0)))) (hs : Src K S (.slice a m c) sz n' (flat enc es)) (hl : ∀ x, (enc x).length = sz) (hz : Nat.blt 0 sz = true) (ht : rowTy P ty sz = true) (hg : wantF ops ⟨some d, .load ty x, T, pos, af, gd⟩ (tget tm) = some true) (hj : j < es.length)
    (h : ∀ y, es[j]? = some y → JD P n W K F ops k nx rest ((d, .agg (enc y).toArray) :: tm) S M) : JD P n W K F ops k nx (⟨some d, .load ty x, T, pos, af, gd⟩ :: rest) tm S M :=
  JD_p rfl hg rfl (pe_el hx hs hl hz ht (List.getElem?_eq_getElem hj)) (h _ (List.getElem?_eq_getElem hj))
theorem JD_elC {v : α → Value} (hx : evT tm x = some (.pointer (some (elA a j sz 0)))) (hs : Src K S (.slice a m c) sz n' (flat enc es)) (hl : ∀ x, (enc x).length = sz) (hz : Nat.blt 0 sz = true) (ht : cellTy P ty = true) (hv : ∀ y, (enc y)[0]? = some (v y)) (hg : wantF ops ⟨some d, .load ty x, T, pos, af, gd⟩ (tget tm) = some true) (hj : j < es.length)
    (h : ∀ y, es[j]? = some y → JD P n W K F ops k nx rest ((d, v y) :: tm) S M) : JD P n W K F ops k nx (⟨some d, .load ty x, T, pos, af, gd⟩ :: rest) tm S M :=
  JD_p rfl hg rfl (pe_elC hx hs hl hz ht (List.getElem?_eq_getElem hj) (hv _)) (h _ (List.getElem?_eq_getElem hj))
theorem JD_elF {off : Nat} {v : α → Value} (hx : evT tm x = some (.pointer (some (elA a j sz off)))) (hs : Src K S (.slice a m c) sz n' (flat enc es)) (hl : ∀ x, (enc x).length = sz) (hz : Nat.blt 0 sz = true) (ht : cellTy P ty = true) (hv : ∀ y, (enc y)[off]? = some (v y)) (hg : wantF ops ⟨some d, .load ty x, T, pos, af, gd⟩ (tget tm) = some true) (hj : j < es.length)
    (h : ∀ y, es[j]? = some y → JD P n W K F ops k nx rest ((d, v y) :: tm) S M) : JD P n W K F ops k nx (⟨some d, .load ty x, T, pos, af, gd⟩ :: rest) tm S M :=
  JD_p rfl hg rfl (pe_elF hx hs hl hz ht (List.getElem?_eq_getElem hj) (hv _)) (h _ (List.getElem?_eq_getElem hj))
end
end
end Go.Pm
namespace Go.Pm
set_option linter.unusedSimpArgs false
set_option linter.unusedVariables false
open Go.RowKit
section
variable {P : Program} {n : Nat} {W : World} {K : Hl} {F : Fp} {k : List It} {tm : TM} {L S M : List HP} {T t u : TypeId} {pos : String} {af : Array Edge} {gd : Option (Nat × Bool)} {ops : Array Oper} {rest nx : List Oper} {od : Option Tmp} {x y z : Operand} {i : Nat} {fn : Fn} {as_ bs : Array Operand} {ts : Array TypeId} {ps : Array (Nat × Operand)} {lo hi mx : Option Operand} {bb : Bool} {r : List Oper} {op : Op} {g : Nat × Bool} {c d : Code} {id : Nat} {dr : Bool} {l : List Oper} {H : Act → World → Prop}
theorem gJ (h : J P n W K F k tm L) : J P n W K F k tm L := h
theorem gL (h : JL P n W K F ops k r tm L) : JL P n W K F ops k r tm L := h
theorem gD (h : JD P n W K F ops k nx r tm S M) : JD P n W K F ops k nx r tm S M := h
theorem gL_nil (h : JL P n W K F ops k [] tm L) : JL P n W K F ops k [] tm L := h
theorem gD_nil (h : JD P n W K F ops k nx [] tm S M) : JD P n W K F ops k nx [] tm S M := h
theorem gL_gd (h : JL P n W K F ops k (⟨od, op, T, pos, af, some g⟩ :: rest) tm L) : JL P n W K F ops k (⟨od, op, T, pos, af, some g⟩ :: rest) tm L := h
theorem gD_gd (h : JD P n W K F ops k nx (⟨od, op, T, pos, af, some g⟩ :: rest) tm S M) : JD P n W K F ops k nx (⟨od, op, T, pos, af, some g⟩ :: rest) tm S M := h
theorem gJ_if (h : J P n W K F (.code (.cond x c d) :: k) tm L) : J P n W K F (.code (.cond x c d) :: k) tm L := h
theorem gL_move (h : JL P n W K F ops k (⟨od, .move x, T, pos, af, gd⟩ :: rest) tm L) : JL P n W K F ops k (⟨od, .move x, T, pos, af, gd⟩ :: rest) tm L := h
theorem gD_move (h : JD P n W K F ops k nx (⟨od, .move x, T, pos, af, gd⟩ :: rest) tm S M) : JD P n W K F ops k nx (⟨od, .move x, T, pos, af, gd⟩ :: rest) tm S M := h
theorem gL_assign (h : JL P n W K F ops k (⟨od, .assign x, T, pos, af, gd⟩ :: rest) tm L) : JL P n W K F ops k (⟨od, .assign x, T, pos, af, gd⟩ :: rest) tm L := h
theorem gD_assign (h : JD P n W K F ops k nx (⟨od, .assign x, T, pos, af, gd⟩ :: rest) tm S M) : JD P n W K F ops k nx (⟨od, .assign x, T, pos, af, gd⟩ :: rest) tm S M := h
theorem gL_pick (h : JL P n W K F ops k (⟨od, .pick x y z, T, pos, af, gd⟩ :: rest) tm L) : JL P n W K F ops k (⟨od, .pick x y z, T, pos, af, gd⟩ :: rest) tm L := h
theorem gD_pick (h : JD P n W K F ops k nx (⟨od, .pick x y z, T, pos, af, gd⟩ :: rest) tm S M) : JD P n W K F ops k nx (⟨od, .pick x y z, T, pos, af, gd⟩ :: rest) tm S M := h
theorem gL_nilCheck (h : JL P n W K F ops k (⟨od, .nilCheck x, T, pos, af, gd⟩ :: rest) tm L) : JL P n W K F ops k (⟨od, .nilCheck x, T, pos, af, gd⟩ :: rest) tm L := h
theorem gD_nilCheck (h : JD P n W K F ops k nx (⟨od, .nilCheck x, T, pos, af, gd⟩ :: rest) tm S M) : JD P n W K F ops k nx (⟨od, .nilCheck x, T, pos, af, gd⟩ :: rest) tm S M := h
theorem gL_extract (h : JL P n W K F ops k (⟨od, .extract x i, T, pos, af, gd⟩ :: rest) tm L) : JL P n W K F ops k (⟨od, .extract x i, T, pos, af, gd⟩ :: rest) tm L := h
theorem gD_extract (h : JD P n W K F ops k nx (⟨od, .extract x i, T, pos, af, gd⟩ :: rest) tm S M) : JD P n W K F ops k nx (⟨od, .extract x i, T, pos, af, gd⟩ :: rest) tm S M := h
theorem gL_makeFunc (h : JL P n W K F ops k (⟨od, .makeFunc fn as_ bs, T, pos, af, gd⟩ :: rest) tm L) : JL P n W K F ops k (⟨od, .makeFunc fn as_ bs, T, pos, af, gd⟩ :: rest) tm L := h
theorem gD_makeFunc (h : JD P n W K F ops k nx (⟨od, .makeFunc fn as_ bs, T, pos, af, gd⟩ :: rest) tm S M) : JD P n W K F ops k nx (⟨od, .makeFunc fn as_ bs, T, pos, af, gd⟩ :: rest) tm S M := h
theorem gL_convert (h : JL P n W K F ops k (⟨od, .convert t u x, T, pos, af, gd⟩ :: rest) tm L) : JL P n W K F ops k (⟨od, .convert t u x, T, pos, af, gd⟩ :: rest) tm L := h
theorem gD_convert (h : JD P n W K F ops k nx (⟨od, .convert t u x, T, pos, af, gd⟩ :: rest) tm S M) : JD P n W K F ops k nx (⟨od, .convert t u x, T, pos, af, gd⟩ :: rest) tm S M := h
theorem gL_fieldAddr (h : JL P n W K F ops k (⟨od, .fieldAddr t x i, T, pos, af, gd⟩ :: rest) tm L) : JL P n W K F ops k (⟨od, .fieldAddr t x i, T, pos, af, gd⟩ :: rest) tm L := h
theorem gD_fieldAddr (h : JD P n W K F ops k nx (⟨od, .fieldAddr t x i, T, pos, af, gd⟩ :: rest) tm S M) : JD P n W K F ops k nx (⟨od, .fieldAddr t x i, T, pos, af, gd⟩ :: rest) tm S M := h
theorem gL_field (h : JL P n W K F ops k (⟨od, .field t x i, T, pos, af, gd⟩ :: rest) tm L) : JL P n W K F ops k (⟨od, .field t x i, T, pos, af, gd⟩ :: rest) tm L := h
theorem gD_field (h : JD P n W K F ops k nx (⟨od, .field t x i, T, pos, af, gd⟩ :: rest) tm S M) : JD P n W K F ops k nx (⟨od, .field t x i, T, pos, af, gd⟩ :: rest) tm S M := h
theorem gL_indexAddr (h : JL P n W K F ops k (⟨od, .indexAddr t x y, T, pos, af, gd⟩ :: rest) tm L) : JL P n W K F ops k (⟨od, .indexAddr t x y, T, pos, af, gd⟩ :: rest) tm L := h
theorem gD_indexAddr (h : JD P n W K F ops k nx (⟨od, .indexAddr t x y, T, pos, af, gd⟩ :: rest) tm S M) : JD P n W K F ops k nx (⟨od, .indexAddr t x y, T, pos, af, gd⟩ :: rest) tm S M := h
theorem gL_index (h : JL P n W K F ops k (⟨od, .index t x y, T, pos, af, gd⟩ :: rest) tm L) : JL P n W K F ops k (⟨od, .index t x y, T, pos, af, gd⟩ :: rest) tm L := h
theorem gD_index (h : JD P n W K F ops k nx (⟨od, .index t x y, T, pos, af, gd⟩ :: rest) tm S M) : JD P n W K F ops k nx (⟨od, .index t x y, T, pos, af, gd⟩ :: rest) tm S M := h
theorem gL_load (h : JL P n W K F ops k (⟨od, .load t x, T, pos, af, gd⟩ :: rest) tm L) : JL P n W K F ops k (⟨od, .load t x, T, pos, af, gd⟩ :: rest) tm L := h
theorem gD_load (h : JD P n W K F ops k nx (⟨od, .load t x, T, pos, af, gd⟩ :: rest) tm S M) : JD P n W K F ops k nx (⟨od, .load t x, T, pos, af, gd⟩ :: rest) tm S M := h
theorem gL_store (h : JL P n W K F ops k (⟨od, .store t x y, T, pos, af, gd⟩ :: rest) tm L) : JL P n W K F ops k (⟨od, .store t x y, T, pos, af, gd⟩ :: rest) tm L := h
theorem gD_store (h : JD P n W K F ops k nx (⟨od, .store t x y, T, pos, af, gd⟩ :: rest) tm S M) : JD P n W K F ops k nx (⟨od, .store t x y, T, pos, af, gd⟩ :: rest) tm S M := h
theorem gL_alloc (h : JL P n W K F ops k (⟨od, .alloc t, T, pos, af, gd⟩ :: rest) tm L) : JL P n W K F ops k (⟨od, .alloc t, T, pos, af, gd⟩ :: rest) tm L := h
theorem gD_alloc (h : JD P n W K F ops k nx (⟨od, .alloc t, T, pos, af, gd⟩ :: rest) tm S M) : JD P n W K F ops k nx (⟨od, .alloc t, T, pos, af, gd⟩ :: rest) tm S M := h
theorem gL_box (h : JL P n W K F ops k (⟨od, .box t x, T, pos, af, gd⟩ :: rest) tm L) : JL P n W K F ops k (⟨od, .box t x, T, pos, af, gd⟩ :: rest) tm L := h
theorem gD_box (h : JD P n W K F ops k nx (⟨od, .box t x, T, pos, af, gd⟩ :: rest) tm S M) : JD P n W K F ops k nx (⟨od, .box t x, T, pos, af, gd⟩ :: rest) tm S M := h
theorem gL_build (h : JL P n W K F ops k (⟨od, .build t ps, T, pos, af, gd⟩ :: rest) tm L) : JL P n W K F ops k (⟨od, .build t ps, T, pos, af, gd⟩ :: rest) tm L := h
theorem gD_build (h : JD P n W K F ops k nx (⟨od, .build t ps, T, pos, af, gd⟩ :: rest) tm S M) : JD P n W K F ops k nx (⟨od, .build t ps, T, pos, af, gd⟩ :: rest) tm S M := h
theorem gL_buildSlice (h : JL P n W K F ops k (⟨od, .buildSlice t i ps, T, pos, af, gd⟩ :: rest) tm L) : JL P n W K F ops k (⟨od, .buildSlice t i ps, T, pos, af, gd⟩ :: rest) tm L := h
theorem gD_buildSlice (h : JD P n W K F ops k nx (⟨od, .buildSlice t i ps, T, pos, af, gd⟩ :: rest) tm S M) : JD P n W K F ops k nx (⟨od, .buildSlice t i ps, T, pos, af, gd⟩ :: rest) tm S M := h
theorem gL_slice (h : JL P n W K F ops k (⟨od, .slice t x lo hi mx, T, pos, af, gd⟩ :: rest) tm L) : JL P n W K F ops k (⟨od, .slice t x lo hi mx, T, pos, af, gd⟩ :: rest) tm L := h
theorem gD_slice (h : JD P n W K F ops k nx (⟨od, .slice t x lo hi mx, T, pos, af, gd⟩ :: rest) tm S M) : JD P n W K F ops k nx (⟨od, .slice t x lo hi mx, T, pos, af, gd⟩ :: rest) tm S M := h
theorem gL_lookup (h : JL P n W K F ops k (⟨od, .lookup t x y bb, T, pos, af, gd⟩ :: rest) tm L) : JL P n W K F ops k (⟨od, .lookup t x y bb, T, pos, af, gd⟩ :: rest) tm L := h
theorem gD_lookup (h : JD P n W K F ops k nx (⟨od, .lookup t x y bb, T, pos, af, gd⟩ :: rest) tm S M) : JD P n W K F ops k nx (⟨od, .lookup t x y bb, T, pos, af, gd⟩ :: rest) tm S M := h
theorem gL_mapUpdate (h : JL P n W K F ops k (⟨od, .mapUpdate t x y z, T, pos, af, gd⟩ :: rest) tm L) : JL P n W K F ops k (⟨od, .mapUpdate t x y z, T, pos, af, gd⟩ :: rest) tm L := h
theorem gD_mapUpdate (h : JD P n W K F ops k nx (⟨od, .mapUpdate t x y z, T, pos, af, gd⟩ :: rest) tm S M) : JD P n W K F ops k nx (⟨od, .mapUpdate t x y z, T, pos, af, gd⟩ :: rest) tm S M := h
theorem gL_makeMap (h : JL P n W K F ops k (⟨od, .makeMap t lo, T, pos, af, gd⟩ :: rest) tm L) : JL P n W K F ops k (⟨od, .makeMap t lo, T, pos, af, gd⟩ :: rest) tm L := h
theorem gD_makeMap (h : JD P n W K F ops k nx (⟨od, .makeMap t lo, T, pos, af, gd⟩ :: rest) tm S M) : JD P n W K F ops k nx (⟨od, .makeMap t lo, T, pos, af, gd⟩ :: rest) tm S M := h
theorem gL_makeSlice (h : JL P n W K F ops k (⟨od, .makeSlice t x y, T, pos, af, gd⟩ :: rest) tm L) : JL P n W K F ops k (⟨od, .makeSlice t x y, T, pos, af, gd⟩ :: rest) tm L := h
theorem gD_makeSlice (h : JD P n W K F ops k nx (⟨od, .makeSlice t x y, T, pos, af, gd⟩ :: rest) tm S M) : JD P n W K F ops k nx (⟨od, .makeSlice t x y, T, pos, af, gd⟩ :: rest) tm S M := h
theorem gL_makeInterface (h : JL P n W K F ops k (⟨od, .makeInterface t x, T, pos, af, gd⟩ :: rest) tm L) : JL P n W K F ops k (⟨od, .makeInterface t x, T, pos, af, gd⟩ :: rest) tm L := h
theorem gD_makeInterface (h : JD P n W K F ops k nx (⟨od, .makeInterface t x, T, pos, af, gd⟩ :: rest) tm S M) : JD P n W K F ops k nx (⟨od, .makeInterface t x, T, pos, af, gd⟩ :: rest) tm S M := h
theorem gL_typeAssert (h : JL P n W K F ops k (⟨od, .typeAssert x t u bb, T, pos, af, gd⟩ :: rest) tm L) : JL P n W K F ops k (⟨od, .typeAssert x t u bb, T, pos, af, gd⟩ :: rest) tm L := h
theorem gD_typeAssert (h : JD P n W K F ops k nx (⟨od, .typeAssert x t u bb, T, pos, af, gd⟩ :: rest) tm S M) : JD P n W K F ops k nx (⟨od, .typeAssert x t u bb, T, pos, af, gd⟩ :: rest) tm S M := h
theorem gL_bin_add (h : JL P n W K F ops k (⟨od, .binOp .add t x y u, T, pos, af, gd⟩ :: rest) tm L) : JL P n W K F ops k (⟨od, .binOp .add t x y u, T, pos, af, gd⟩ :: rest) tm L := h
theorem gD_bin_add (h : JD P n W K F ops k nx (⟨od, .binOp .add t x y u, T, pos, af, gd⟩ :: rest) tm S M) : JD P n W K F ops k nx (⟨od, .binOp .add t x y u, T, pos, af, gd⟩ :: rest) tm S M := h
theorem gL_bin_sub (h : JL P n W K F ops k (⟨od, .binOp .sub t x y u, T, pos, af, gd⟩ :: rest) tm L) : JL P n W K F ops k (⟨od, .binOp .sub t x y u, T, pos, af, gd⟩ :: rest) tm L := h
theorem gD_bin_sub (h : JD P n W K F ops k nx (⟨od, .binOp .sub t x y u, T, pos, af, gd⟩ :: rest) tm S M) : JD P n W K F ops k nx (⟨od, .binOp .sub t x y u, T, pos, af, gd⟩ :: rest) tm S M := h
theorem gL_bin_mul (h : JL P n W K F ops k (⟨od, .binOp .mul t x y u, T, pos, af, gd⟩ :: rest) tm L) : JL P n W K F ops k (⟨od, .binOp .mul t x y u, T, pos, af, gd⟩ :: rest) tm L := h
theorem gD_bin_mul (h : JD P n W K F ops k nx (⟨od, .binOp .mul t x y u, T, pos, af, gd⟩ :: rest) tm S M) : JD P n W K F ops k nx (⟨od, .binOp .mul t x y u, T, pos, af, gd⟩ :: rest) tm S M := h
theorem gL_bin_quo (h : JL P n W K F ops k (⟨od, .binOp .quo t x y u, T, pos, af, gd⟩ :: rest) tm L) : JL P n W K F ops k (⟨od, .binOp .quo t x y u, T, pos, af, gd⟩ :: rest) tm L := h
theorem gD_bin_quo (h : JD P n W K F ops k nx (⟨od, .binOp .quo t x y u, T, pos, af, gd⟩ :: rest) tm S M) : JD P n W K F ops k nx (⟨od, .binOp .quo t x y u, T, pos, af, gd⟩ :: rest) tm S M := h
theorem gL_bin_rem (h : JL P n W K F ops k (⟨od, .binOp .rem t x y u, T, pos, af, gd⟩ :: rest) tm L) : JL P n W K F ops k (⟨od, .binOp .rem t x y u, T, pos, af, gd⟩ :: rest) tm L := h
theorem gD_bin_rem (h : JD P n W K F ops k nx (⟨od, .binOp .rem t x y u, T, pos, af, gd⟩ :: rest) tm S M) : JD P n W K F ops k nx (⟨od, .binOp .rem t x y u, T, pos, af, gd⟩ :: rest) tm S M := h
theorem gL_bin_and (h : JL P n W K F ops k (⟨od, .binOp .and t x y u, T, pos, af, gd⟩ :: rest) tm L) : JL P n W K F ops k (⟨od, .binOp .and t x y u, T, pos, af, gd⟩ :: rest) tm L := h
theorem gD_bin_and (h : JD P n W K F ops k nx (⟨od, .binOp .and t x y u, T, pos, af, gd⟩ :: rest) tm S M) : JD P n W K F ops k nx (⟨od, .binOp .and t x y u, T, pos, af, gd⟩ :: rest) tm S M := h
theorem gL_bin_or (h : JL P n W K F ops k (⟨od, .binOp .or t x y u, T, pos, af, gd⟩ :: rest) tm L) : JL P n W K F ops k (⟨od, .binOp .or t x y u, T, pos, af, gd⟩ :: rest) tm L := h
theorem gD_bin_or (h : JD P n W K F ops k nx (⟨od, .binOp .or t x y u, T, pos, af, gd⟩ :: rest) tm S M) : JD P n W K F ops k nx (⟨od, .binOp .or t x y u, T, pos, af, gd⟩ :: rest) tm S M := h
theorem gL_bin_xor (h : JL P n W K F ops k (⟨od, .binOp .xor t x y u, T, pos, af, gd⟩ :: rest) tm L) : JL P n W K F ops k (⟨od, .binOp .xor t x y u, T, pos, af, gd⟩ :: rest) tm L := h
theorem gD_bin_xor (h : JD P n W K F ops k nx (⟨od, .binOp .xor t x y u, T, pos, af, gd⟩ :: rest) tm S M) : JD P n W K F ops k nx (⟨od, .binOp .xor t x y u, T, pos, af, gd⟩ :: rest) tm S M := h
theorem gL_bin_shl (h : JL P n W K F ops k (⟨od, .binOp .shl t x y u, T, pos, af, gd⟩ :: rest) tm L) : JL P n W K F ops k (⟨od, .binOp .shl t x y u, T, pos, af, gd⟩ :: rest) tm L := h
theorem gD_bin_shl (h : JD P n W K F ops k nx (⟨od, .binOp .shl t x y u, T, pos, af, gd⟩ :: rest) tm S M) : JD P n W K F ops k nx (⟨od, .binOp .shl t x y u, T, pos, af, gd⟩ :: rest) tm S M := h
theorem gL_bin_shr (h : JL P n W K F ops k (⟨od, .binOp .shr t x y u, T, pos, af, gd⟩ :: rest) tm L) : JL P n W K F ops k (⟨od, .binOp .shr t x y u, T, pos, af, gd⟩ :: rest) tm L := h
theorem gD_bin_shr (h : JD P n W K F ops k nx (⟨od, .binOp .shr t x y u, T, pos, af, gd⟩ :: rest) tm S M) : JD P n W K F ops k nx (⟨od, .binOp .shr t x y u, T, pos, af, gd⟩ :: rest) tm S M := h
theorem gL_bin_andNot (h : JL P n W K F ops k (⟨od, .binOp .andNot t x y u, T, pos, af, gd⟩ :: rest) tm L) : JL P n W K F ops k (⟨od, .binOp .andNot t x y u, T, pos, af, gd⟩ :: rest) tm L := h
theorem gD_bin_andNot (h : JD P n W K F ops k nx (⟨od, .binOp .andNot t x y u, T, pos, af, gd⟩ :: rest) tm S M) : JD P n W K F ops k nx (⟨od, .binOp .andNot t x y u, T, pos, af, gd⟩ :: rest) tm S M := h
theorem gL_bin_eql (h : JL P n W K F ops k (⟨od, .binOp .eql t x y u, T, pos, af, gd⟩ :: rest) tm L) : JL P n W K F ops k (⟨od, .binOp .eql t x y u, T, pos, af, gd⟩ :: rest) tm L := h
theorem gD_bin_eql (h : JD P n W K F ops k nx (⟨od, .binOp .eql t x y u, T, pos, af, gd⟩ :: rest) tm S M) : JD P n W K F ops k nx (⟨od, .binOp .eql t x y u, T, pos, af, gd⟩ :: rest) tm S M := h
theorem gL_bin_neq (h : JL P n W K F ops k (⟨od, .binOp .neq t x y u, T, pos, af, gd⟩ :: rest) tm L) : JL P n W K F ops k (⟨od, .binOp .neq t x y u, T, pos, af, gd⟩ :: rest) tm L := h
theorem gD_bin_neq (h : JD P n W K F ops k nx (⟨od, .binOp .neq t x y u, T, pos, af, gd⟩ :: rest) tm S M) : JD P n W K F ops k nx (⟨od, .binOp .neq t x y u, T, pos, af, gd⟩ :: rest) tm S M := h
theorem gL_bin_lss (h : JL P n W K F ops k (⟨od, .binOp .lss t x y u, T, pos, af, gd⟩ :: rest) tm L) : JL P n W K F ops k (⟨od, .binOp .lss t x y u, T, pos, af, gd⟩ :: rest) tm L := h
theorem gD_bin_lss (h : JD P n W K F ops k nx (⟨od, .binOp .lss t x y u, T, pos, af, gd⟩ :: rest) tm S M) : JD P n W K F ops k nx (⟨od, .binOp .lss t x y u, T, pos, af, gd⟩ :: rest) tm S M := h
theorem gL_bin_leq (h : JL P n W K F ops k (⟨od, .binOp .leq t x y u, T, pos, af, gd⟩ :: rest) tm L) : JL P n W K F ops k (⟨od, .binOp .leq t x y u, T, pos, af, gd⟩ :: rest) tm L := h
theorem gD_bin_leq (h : JD P n W K F ops k nx (⟨od, .binOp .leq t x y u, T, pos, af, gd⟩ :: rest) tm S M) : JD P n W K F ops k nx (⟨od, .binOp .leq t x y u, T, pos, af, gd⟩ :: rest) tm S M := h
theorem gL_bin_gtr (h : JL P n W K F ops k (⟨od, .binOp .gtr t x y u, T, pos, af, gd⟩ :: rest) tm L) : JL P n W K F ops k (⟨od, .binOp .gtr t x y u, T, pos, af, gd⟩ :: rest) tm L := h
theorem gD_bin_gtr (h : JD P n W K F ops k nx (⟨od, .binOp .gtr t x y u, T, pos, af, gd⟩ :: rest) tm S M) : JD P n W K F ops k nx (⟨od, .binOp .gtr t x y u, T, pos, af, gd⟩ :: rest) tm S M := h
theorem gL_bin_geq (h : JL P n W K F ops k (⟨od, .binOp .geq t x y u, T, pos, af, gd⟩ :: rest) tm L) : JL P n W K F ops k (⟨od, .binOp .geq t x y u, T, pos, af, gd⟩ :: rest) tm L := h
theorem gD_bin_geq (h : JD P n W K F ops k nx (⟨od, .binOp .geq t x y u, T, pos, af, gd⟩ :: rest) tm S M) : JD P n W K F ops k nx (⟨od, .binOp .geq t x y u, T, pos, af, gd⟩ :: rest) tm S M := h
theorem gL_un_neg (h : JL P n W K F ops k (⟨od, .unOp .neg t x, T, pos, af, gd⟩ :: rest) tm L) : JL P n W K F ops k (⟨od, .unOp .neg t x, T, pos, af, gd⟩ :: rest) tm L := h
theorem gD_un_neg (h : JD P n W K F ops k nx (⟨od, .unOp .neg t x, T, pos, af, gd⟩ :: rest) tm S M) : JD P n W K F ops k nx (⟨od, .unOp .neg t x, T, pos, af, gd⟩ :: rest) tm S M := h
theorem gL_un_xor (h : JL P n W K F ops k (⟨od, .unOp .xor t x, T, pos, af, gd⟩ :: rest) tm L) : JL P n W K F ops k (⟨od, .unOp .xor t x, T, pos, af, gd⟩ :: rest) tm L := h
theorem gD_un_xor (h : JD P n W K F ops k nx (⟨od, .unOp .xor t x, T, pos, af, gd⟩ :: rest) tm S M) : JD P n W K F ops k nx (⟨od, .unOp .xor t x, T, pos, af, gd⟩ :: rest) tm S M := h
theorem gL_un_not (h : JL P n W K F ops k (⟨od, .unOp .not t x, T, pos, af, gd⟩ :: rest) tm L) : JL P n W K F ops k (⟨od, .unOp .not t x, T, pos, af, gd⟩ :: rest) tm L := h
theorem gD_un_not (h : JD P n W K F ops k nx (⟨od, .unOp .not t x, T, pos, af, gd⟩ :: rest) tm S M) : JD P n W K F ops k nx (⟨od, .unOp .not t x, T, pos, af, gd⟩ :: rest) tm S M := h
theorem gL_c_append (h : JL P n W K F ops k (⟨od, .call ⟨.builtin .append, as_, ts⟩, T, pos, af, gd⟩ :: rest) tm L) : JL P n W K F ops k (⟨od, .call ⟨.builtin .append, as_, ts⟩, T, pos, af, gd⟩ :: rest) tm L := h
theorem gD_c_append (h : JD P n W K F ops k nx (⟨od, .call ⟨.builtin .append, as_, ts⟩, T, pos, af, gd⟩ :: rest) tm S M) : JD P n W K F ops k nx (⟨od, .call ⟨.builtin .append, as_, ts⟩, T, pos, af, gd⟩ :: rest) tm S M := h
theorem gL_c_len (h : JL P n W K F ops k (⟨od, .call ⟨.builtin .len, as_, ts⟩, T, pos, af, gd⟩ :: rest) tm L) : JL P n W K F ops k (⟨od, .call ⟨.builtin .len, as_, ts⟩, T, pos, af, gd⟩ :: rest) tm L := h
theorem gD_c_len (h : JD P n W K F ops k nx (⟨od, .call ⟨.builtin .len, as_, ts⟩, T, pos, af, gd⟩ :: rest) tm S M) : JD P n W K F ops k nx (⟨od, .call ⟨.builtin .len, as_, ts⟩, T, pos, af, gd⟩ :: rest) tm S M := h
theorem gL_c_cap (h : JL P n W K F ops k (⟨od, .call ⟨.builtin .cap, as_, ts⟩, T, pos, af, gd⟩ :: rest) tm L) : JL P n W K F ops k (⟨od, .call ⟨.builtin .cap, as_, ts⟩, T, pos, af, gd⟩ :: rest) tm L := h
theorem gD_c_cap (h : JD P n W K F ops k nx (⟨od, .call ⟨.builtin .cap, as_, ts⟩, T, pos, af, gd⟩ :: rest) tm S M) : JD P n W K F ops k nx (⟨od, .call ⟨.builtin .cap, as_, ts⟩, T, pos, af, gd⟩ :: rest) tm S M := h
theorem gL_c_min (h : JL P n W K F ops k (⟨od, .call ⟨.builtin .min, as_, ts⟩, T, pos, af, gd⟩ :: rest) tm L) : JL P n W K F ops k (⟨od, .call ⟨.builtin .min, as_, ts⟩, T, pos, af, gd⟩ :: rest) tm L := h
theorem gD_c_min (h : JD P n W K F ops k nx (⟨od, .call ⟨.builtin .min, as_, ts⟩, T, pos, af, gd⟩ :: rest) tm S M) : JD P n W K F ops k nx (⟨od, .call ⟨.builtin .min, as_, ts⟩, T, pos, af, gd⟩ :: rest) tm S M := h
theorem gL_c_max (h : JL P n W K F ops k (⟨od, .call ⟨.builtin .max, as_, ts⟩, T, pos, af, gd⟩ :: rest) tm L) : JL P n W K F ops k (⟨od, .call ⟨.builtin .max, as_, ts⟩, T, pos, af, gd⟩ :: rest) tm L := h
theorem gD_c_max (h : JD P n W K F ops k nx (⟨od, .call ⟨.builtin .max, as_, ts⟩, T, pos, af, gd⟩ :: rest) tm S M) : JD P n W K F ops k nx (⟨od, .call ⟨.builtin .max, as_, ts⟩, T, pos, af, gd⟩ :: rest) tm S M := h
theorem gL_c_copy (h : JL P n W K F ops k (⟨od, .call ⟨.builtin .copy, as_, ts⟩, T, pos, af, gd⟩ :: rest) tm L) : JL P n W K F ops k (⟨od, .call ⟨.builtin .copy, as_, ts⟩, T, pos, af, gd⟩ :: rest) tm L := h
theorem gD_c_copy (h : JD P n W K F ops k nx (⟨od, .call ⟨.builtin .copy, as_, ts⟩, T, pos, af, gd⟩ :: rest) tm S M) : JD P n W K F ops k nx (⟨od, .call ⟨.builtin .copy, as_, ts⟩, T, pos, af, gd⟩ :: rest) tm S M := h
theorem gL_c_clear (h : JL P n W K F ops k (⟨od, .call ⟨.builtin .clear, as_, ts⟩, T, pos, af, gd⟩ :: rest) tm L) : JL P n W K F ops k (⟨od, .call ⟨.builtin .clear, as_, ts⟩, T, pos, af, gd⟩ :: rest) tm L := h
theorem gD_c_clear (h : JD P n W K F ops k nx (⟨od, .call ⟨.builtin .clear, as_, ts⟩, T, pos, af, gd⟩ :: rest) tm S M) : JD P n W K F ops k nx (⟨od, .call ⟨.builtin .clear, as_, ts⟩, T, pos, af, gd⟩ :: rest) tm S M := h
theorem gL_c_delete (h : JL P n W K F ops k (⟨od, .call ⟨.builtin .delete, as_, ts⟩, T, pos, af, gd⟩ :: rest) tm L) : JL P n W K F ops k (⟨od, .call ⟨.builtin .delete, as_, ts⟩, T, pos, af, gd⟩ :: rest) tm L := h
theorem gD_c_delete (h : JD P n W K F ops k nx (⟨od, .call ⟨.builtin .delete, as_, ts⟩, T, pos, af, gd⟩ :: rest) tm S M) : JD P n W K F ops k nx (⟨od, .call ⟨.builtin .delete, as_, ts⟩, T, pos, af, gd⟩ :: rest) tm S M := h
theorem gL_go (h : JL P n W K F ops k (⟨od, .call ⟨.value x, as_, ts⟩, T, pos, af, gd⟩ :: rest) tm L) : JL P n W K F ops k (⟨od, .call ⟨.value x, as_, ts⟩, T, pos, af, gd⟩ :: rest) tm L := h
theorem gD_go (h : JD P n W K F ops k nx (⟨od, .call ⟨.value x, as_, ts⟩, T, pos, af, gd⟩ :: rest) tm S M) : JD P n W K F ops k nx (⟨od, .call ⟨.value x, as_, ts⟩, T, pos, af, gd⟩ :: rest) tm S M := h
/-! A long region's text stands as two lists, appended. -/
theorem gL_app {x : Oper} {l m : List Oper} (h : JL P n W K F ops k (x :: List.append l m) tm L) : JL P n W K F ops k (List.append (x :: l) m) tm L := h
theorem gL_app0 {m : List Oper} (h : JL P n W K F ops k m tm L) : JL P n W K F ops k (List.append [] m) tm L := h
theorem gD_app {x : Oper} {l m : List Oper} (h : JD P n W K F ops k nx (x :: List.append l m) tm S M) : JD P n W K F ops k nx (List.append (x :: l) m) tm S M := h
theorem gD_app0 {m : List Oper} (h : JD P n W K F ops k nx m tm S M) : JD P n W K F ops k nx (List.append [] m) tm S M := h
end
end Go.Pm
namespace Go.Pm
set_option linter.unusedSimpArgs false
set_option linter.unusedVariables false
open Go.RowKit

section
variable {P : Program} {n : Nat} {W : World} {K : Hl} {F : Fp} {k : List It} {tm : TM} {L L' R S M : List HP} {T : TypeId} {pos : String} {af : Array Edge} {gd : Option (Nat × Bool)} {ops : Array Oper} {rest nx : List Oper} {d : Tmp}
variable {α : Type} {enc : α → List Value} {e : TypeId} {sz : Nat} {a : Option Addr} {m c : Nat} {es : List α} {w : World}

theorem Rdw.cell {b i : Nat} {cs : List Value} {v : Value} (h : Rdw K L w) (t : Tk L (pts b cs T) R) (hv : cs[i]? = some v) : w.cell? ⟨b, i, none⟩ = some v := by
  rw [(h.blk t).cell]; simpa using hv
theorem flat_take (hl : ∀ x, (enc x).length = sz) (es : List α) (j : Nat) (hj : j ≤ es.length) : (flat enc es).take (j * sz) = flat enc (es.take j) := by
  have h1 : flat enc es = flat enc (es.take j) ++ flat enc (es.drop j) := by rw [← flat_append, List.take_append_drop]
  rw [h1, List.take_append_of_le_length (by rw [flat_length hl]; simp [Nat.min_eq_left hj]), List.take_of_length_le (by rw [flat_length hl]; simp [Nat.min_eq_left hj])]

theorem Ow.arShape (H : Ow W K L w) (h : Tk L (Ar e sz enc (.slice a m c) es) R) : m = es.length ∧ m ≤ c ∧ c ≤ maxLen := by
  obtain ⟨_, a', c', he, h1, h2⟩ := Ow.slShape H h
  injection he with h3 h4 h5
  subst h4 h5
  exact ⟨rfl, h1, h2⟩
/-- The first j elements alone. -/
theorem Ow.arTake (H : Ow W K L w) (h : Tk L (Ar e sz enc (.slice a m c) es) R) (hl : ∀ x, (enc x).length = sz) (j : Nat) (hj : j ≤ es.length) : Ow W K (Ar e sz enc (.slice a j c) (es.take j) :: R) w := by
  obtain ⟨hm, hmc, hcm⟩ := H.arShape h
  refine (H.tk h).imp fun q hq => ?_
  have hlen : (es.take j).length = j := by simp; omega
  obtain ⟨h1, h2⟩ := hq
  show Sl e sz _ (es.take j).length _ q
  rw [hlen]
  refine ⟨by rw [flat_length hl, hlen], ?_⟩
  rcases h2 with ⟨h2, h3, h4⟩ | ⟨g, cap, cur, h2, h3, h4, h5, h6, h7⟩
  · injection h2 with h8 h9 h10
    subst h8 h10
    left
    have : j = 0 := by omega
    subst this
    exact ⟨rfl, rfl, h4⟩
  · injection h2 with h8 h9 h10
    subst h8 h10
    refine .inr ⟨g, c, cur, rfl, by omega, hcm, h5, ?_, h7⟩
    have h8 : cur.toList.take (j * sz) = (cur.toList.take (es.length * sz)).take (j * sz) := by
      rw [List.take_take, Nat.min_eq_left (Nat.mul_le_mul_right _ hj)]
    rw [h8, h6]
    exact flat_take hl es j hj

/-- What a slice expression from l on hands out, of a slice with elements behind l. -/
theorem slA_lt {b o l : Nat} (h : l < c) : slA (some ⟨b, o, none⟩) c l sz = some ⟨b, o + l * sz, none⟩ := by
  unfold slA
  rw [if_neg (by omega)]
  simp [addr_add_plain]

theorem ae_clear {od : Option Tmp} {t : TypeId} {x : Operand} {l b' q q' : Nat} {z : α} (hi : elemInfo P t = some (e, sz, b')) (hx : evT tm x = some (.slice (slA a c l sz) q q')) (hz : enc z = zeroC P e) (hz0 : zeroC P e ≠ []) (h1 : (zeroC P e).all (·.oneCell') = true) (hl : ∀ x, (enc x).length = sz) (hq : l + q = es.length) :
    AE P n K R [Ar e sz enc (.slice a m c) es] ⟨od, .call ⟨.builtin .clear, #[x], #[t]⟩, T, pos, af, gd⟩ (tget tm) (one (.tuple #[]) [Ar e sz enc (.slice a m c) (es.take l ++ List.replicate q z)]) := fun W K' w act next hK hf hO hn => by
  obtain ⟨hm, hmc, hcm⟩ := Ow.arShape hO .here
  subst hm
  obtain ⟨i, hu, hin, hsz, _⟩ := elemInfo_spec hi
  obtain ⟨zv, hzv, hzc⟩ : ∃ zv, i.zero = some zv ∧ zeroC P e = cellsL zv := by
    unfold zeroC at hz0 ⊢
    rw [hin] at hz0 ⊢
    dsimp only at hz0 ⊢
    cases hq : i.zero with
    | none => simp [hq] at hz0
    | some zv => exact ⟨zv, rfl, rfl⟩
  have hcl : cellsL zv = zv.cells.toList := by cases zv <;> rfl
  have hzl : zv.cells.size = sz := by
    have := hl z
    rw [hz, hzc, hcl] at this
    simpa using this
  have hsz0 : 0 < sz := by
    rcases Nat.eq_zero_or_pos sz with h0 | h0
    · exfalso
      have := hl z
      rw [hz, h0] at this
      exact hz0 (List.eq_nil_of_length_eq_zero this)
    · exact h0
  refine wpI_of_wp ?_
  unfold Oper.wp execOp
  by_cases hle : l = es.length
  · have hq0 : q = 0 := by omega
    subst hq0
    have hr : (Builtin.clear_ #[t] T #[.slice (slA a c l sz) 0 q']).run P w = .ok (.tuple #[]) w := by
      cases h9 : slA a c l sz <;> simp [Builtin.clear_, Sem.run_bind, run_underlying hu w]
    simp only [resolve, invoke, builtin, Sem.run_bind, Sem.run_pure, Result.andThen_ok, List.map_toArray, List.map_cons, List.map_nil, hf.eval hx, hr]
    refine hn _ _ w ⟨rfl, rfl⟩ ?_
    rw [hle]
    simpa using hO
  · have hlt : l < es.length := by omega
    obtain ⟨g, cur, rfl, H2, hcl2, hct, hnc, _⟩ := Ow.slOpen hO .here (by omega)
    have hzs : (Builtin.zeroCells zv.cells q).toList.length = q * sz := by simp [size_zeroCells, hzl]
    have hbd : l * sz + q * sz ≤ cur.length := by
      rw [← Nat.add_mul, hq, hcl2]
      exact Nat.mul_le_mul_right _ hnc
    have hth := (H2.blk .here).there (l * sz) (q * sz) (by simpa using hbd)
    have h1z : ∀ v ∈ (Builtin.zeroCells zv.cells q).toList, v.oneCell' = true := by
      intro v hv
      simp only [Builtin.zeroCells, Array.toList_map, List.mem_map] at hv
      obtain ⟨k, hk, rfl⟩ := hv
      have hlt2 := Nat.mod_lt k (show 0 < zv.cells.size by omega)
      rw [getElem!_pos zv.cells (k % zv.cells.size) hlt2]
      refine List.all_eq_true.1 h1 _ ?_
      rw [hzc, hcl]
      simp
    have hs := run_storeCells_cells (P := P) g (l * sz) (Builtin.zeroCells zv.cells q).toList 0 w (fun j hj => by simpa using (hth j (by omega)).1) (fun j hj => by simpa using (hth j (by omega)).2) h1z
    simp only [Nat.add_zero] at hs
    have hr : (Builtin.clear_ #[t] T #[.slice (slA (some ⟨g, 0, none⟩) c l sz) q q']).run P w = .ok (.tuple #[]) (w.setCells g (l * sz) (Builtin.zeroCells zv.cells q).toList) := by
      rw [slA_lt (by omega), Nat.zero_add]
      obtain ⟨m', hm'⟩ : ∃ m', q = m' + 1 := ⟨q - 1, by omega⟩
      rw [hm'] at hs ⊢
      simp [Builtin.clear_, Sem.run_bind, run_underlying hu w, zeroValue, typeInfo, hin, hzv, hs]
    simp only [resolve, invoke, builtin, Sem.run_bind, Sem.run_pure, Result.andThen_ok, List.map_toArray, List.map_cons, List.map_nil, hf.eval hx, hr]
    refine hn _ _ _ ⟨rfl, rfl⟩ ?_
    have H3 := H2.setCells (Builtin.zeroCells zv.cells q).toList (l * sz) .here (by omega)
    have hlen : (es.take l ++ List.replicate q z).length = es.length := by simp; omega
    have hx2 : (splice cur.toArray (l * sz) (Builtin.zeroCells zv.cells q).toList).toList.take (es.length * sz) = flat enc (es.take l ++ List.replicate q z) := by
      rw [← hlen]
      refine take_rows hl _ (by rw [hlen, Array.length_toList (xs := splice cur.toArray (l * sz) (Builtin.zeroCells zv.cells q).toList), splice_size]; simp; rw [hcl2]; exact Nat.mul_le_mul_right _ hnc) fun i hi => ?_
      have hi' : i < es.length := by rw [hlen] at hi; exact hi
      have e2 : (i + 1) * sz = i * sz + sz := Nat.succ_mul i sz
      have hsz4 : (i + 1) * sz ≤ es.length * sz := Nat.mul_le_mul_right _ hi'
      have hri := rows_of hl hct i hi'
      have hbd2 : es.length * sz ≤ cur.length := by rw [hcl2]; exact Nat.mul_le_mul_right _ hnc
      by_cases hil : i < l
      · have e3 : (i + 1) * sz ≤ l * sz := Nat.mul_le_mul_right _ hil
        rw [List.getElem_append_left (by simp; omega), rowOf_splice_lt (by rw [hzs]; omega) i hil, hri, List.getElem_take]
      · rw [List.getElem_append_right (by simp; omega), List.getElem_replicate]
        apply List.ext_getElem?
        intro j
        by_cases hj : j < sz
        · have e4 : l * sz ≤ i * sz := Nat.mul_le_mul_right _ (by omega)
          have e5 : l * sz + q * sz = es.length * sz := by rw [← Nat.add_mul, hq]
          rw [rowOf_get hj, Array.getElem?_toList (xs := splice cur.toArray (l * sz) (Builtin.zeroCells zv.cells q).toList), splice_get _ (l * sz) cur.toArray (i * sz + j) (by rw [hzs]; simpa using hbd), if_pos (by rw [hzs]; omega)]
          have e7 : i * sz + j - l * sz = (i - l) * sz + j := by rw [Nat.sub_mul]; omega
          have e6 : (i * sz + j - l * sz) % sz = j := by
            rw [e7, Nat.mul_comm, Nat.mul_add_mod, Nat.mod_eq_of_lt hj]
          have e8 : i * sz + j - l * sz < q * sz := by omega
          rw [hz, hzc, hcl]
          simp only [Builtin.zeroCells, Array.toList_map, List.getElem?_map, Array.toList_range, hzl]
          rw [List.getElem?_range e8]
          simp only [Option.map_some, e6]
          rw [getElem!_pos zv.cells j (by omega)]
          simp [hzl, hj]
        · rw [List.getElem?_eq_none (by unfold rowOf; rw [List.length_take]; omega), List.getElem?_eq_none (by rw [hl]; omega)]
    show Ow W K' (Sl e sz _ (es.take l ++ List.replicate q z).length _ :: R) _
    rw [hlen]
    exact H3.slShut (n := es.length) (cap := c) .here (by rw [Array.length_toList (xs := splice cur.toArray (l * sz) (Builtin.zeroCells zv.cells q).toList), splice_size]; simpa using hcl2) hx2 hnc hcm
theorem JL_clear {t : TypeId} {x : Operand} {l b' q q' : Nat} (z : α) (hi : elemInfo P t = some (e, sz, b')) (hx : evT tm x = some (.slice (slA a c l sz) q q')) (hm : Tk L (Ar e sz enc (.slice a m c) es) R) (hz : enc z = zeroC P e) (hz0 : zeroC P e ≠ []) (h1 : (zeroC P e).all (·.oneCell') = true) (hl : ∀ x, (enc x).length = sz) (hq : l + q = es.length)
    (hg : wantF ops ⟨none, .call ⟨.builtin .clear, #[x], #[t]⟩, T, pos, af, gd⟩ (tget tm) = some true) (h : JL P n W K F ops k rest tm (Ar e sz enc (.slice a m c) (es.take l ++ List.replicate q z) :: R)) : JL P n W K F ops k (⟨none, .call ⟨.builtin .clear, #[x], #[t]⟩, T, pos, af, gd⟩ :: rest) tm L :=
  JL_a0 rfl hg (.cons hm .nil) (ae_clear hi hx hz hz0 h1 hl hq) (by rintro _ _ ⟨rfl, rfl⟩; exact h)
end
end Go.Pm
namespace Go.Pm
set_option linter.unusedSimpArgs false
set_option linter.unusedVariables false
open Go.RowKit

/-- A map of the call's own: its entries, in the order that they were made. -/
def mp (k : IntKind) (b : Nat) (es : List (Int × Value)) : HP := fun h => ∃ ents clock, h = Hl.one b (.map ents clock) ∧ ents.toList.map (fun e => (e.key, e.val)) = es.map (fun p => (Value.int k p.1, p.2))
def alGet : List (Int × Value) → Int → Option Value
  | [], _ => none
  | (x, v) :: r, z => if x = z then some v else alGet r z
def alPut : List (Int × Value) → Int → Value → List (Int × Value)
  | [], z, v => [(z, v)]
  | (x, u) :: r, z, v => if x = z then (x, v) :: r else (x, u) :: alPut r z v
theorem alGet_put (es : List (Int × Value)) (z y : Int) (v : Value) : alGet (alPut es z v) y = if y = z then some v else alGet es y := by
  induction es with
  | nil => simp only [alPut, alGet]; by_cases h : z = y <;> simp [h, eq_comm]
  | cons p r ih =>
    obtain ⟨x, u⟩ := p
    simp only [alPut]
    by_cases hx : x = z
    · subst hx
      rw [if_pos rfl]
      simp only [alGet]
      by_cases h : x = y
      · simp [h]
      · rw [if_neg h, if_neg h, if_neg (Ne.symm h)]
    · rw [if_neg hx]
      simp only [alGet, ih]
      by_cases h : x = y
      · subst h; simp [hx]
      · simp [h]
def mapInfo (P : Program) (t : TypeId) : Option (IntKind × Value) := match P.underlying t with
  | some (.map key elem) => match P.underlying key, P.info? elem with
    | some (.int k), some i => match i.zero with
      | some z => some (k, z)
      | none => none
    | _, _ => none
  | _ => none
theorem mapInfo_spec {P : Program} {t : TypeId} {k : IntKind} {z : Value} (h : mapInfo P t = some (k, z)) : ∃ key elem i, P.underlying t = some (.map key elem) ∧ P.underlying key = some (.int k) ∧ P.info? elem = some i ∧ i.zero = some z := by
  unfold mapInfo at h
  split at h
  · rename_i key elem hu
    split at h
    · rename_i k' i hk hi
      split at h
      · rename_i z' hz
        simp only [Option.some.injEq, Prod.mk.injEq] at h
        obtain ⟨rfl, rfl⟩ := h
        exact ⟨key, elem, i, hu, hk, hi, hz⟩
      · cases h
    · cases h
  · cases h

inductive TabM (P : Program) : List (Nat × (IntKind × Value)) → Prop
  | nil : TabM P []
  | cons {p : Nat × (IntKind × Value)} {l : List (Nat × (IntKind × Value))} : mapInfo P p.1 = some p.2 → TabM P l → TabM P (p :: l)
def tabOkM (P : Program) (l : List (Nat × (IntKind × Value))) : Prop := TabM P l
theorem tabM {P : Program} {tab : List (Nat × (IntKind × Value))} {t : Nat} {x : IntKind × Value} (h : tabOkM P tab) (g : tabGet tab t = some x) : mapInfo P t = some x := by
  have hm := tabGet_mem g
  clear g
  unfold tabOkM at h
  induction h with
  | nil => cases hm
  | cons h1 _ ih =>
    rcases List.mem_cons.1 hm with e | e
    · rw [← e] at h1; exact h1
    · exact ih e

section
variable {P : Program} {n : Nat} {W : World} {K : Hl} {F : Fp} {k : List It} {tm : TM} {L L' R S M M' : List HP} {T : TypeId} {pos : String} {af : Array Edge} {gd : Option (Nat × Bool)} {ops : Array Oper} {rest nx : List Oper} {d : Tmp}

theorem findNow_al (kd : IntKind) (z : Int) : ∀ (ents : List MapEntry) (es : List (Int × Value)) (i : Nat), ents.map (fun e => (e.key, e.val)) = es.map (fun p => (Value.int kd p.1, p.2)) →
    (alGet es z = none ∧ Instr.findNow (.int kd) (.int kd z) ents i = some none) ∨ (∃ j v, alGet es z = some v ∧ Instr.findNow (.int kd) (.int kd z) ents i = some (some (i + j, v)) ∧ j < ents.length ∧ (ents[j]?).map (·.key) = some (.int kd z) ∧ ∀ u, es.length = ents.length ∧ (alPut es z u) = (es.set j (z, u)))
  | [], [], i, _ => .inl ⟨rfl, rfl⟩
  | [], p :: _, _, h => by simp at h
  | e :: ents, [], _, h => by simp at h
  | e :: ents, (x, v) :: es, i, h => by
    simp only [List.map_cons, List.cons.injEq, Prod.mk.injEq] at h
    obtain ⟨⟨h1, h2⟩, h3⟩ := h
    have hlen : es.length = ents.length := by have := congrArg List.length h3; simpa using this.symm
    by_cases hx : x = z
    · subst hx
      refine .inr ⟨0, v, by simp [alGet], ?_, by simp, by simp [h1], fun u => ⟨by simp [hlen], by simp [alPut]⟩⟩
      simp [Instr.findNow, Instr.sameNow, h1, h2]
    · have hx' : (z == x) = false := by simp [Ne.symm hx]
      have hstep : Instr.findNow (.int kd) (.int kd z) (e :: ents) i = Instr.findNow (.int kd) (.int kd z) ents (i + 1) := by
        simp [Instr.findNow, Instr.sameNow, h1, hx']
      rw [hstep]
      rcases findNow_al kd z ents es (i + 1) h3 with ⟨a, b⟩ | ⟨j, u, a, b, c, d, e⟩
      · exact .inl ⟨by simp [alGet, hx, a], b⟩
      · refine .inr ⟨j + 1, u, by simp [alGet, hx, a], by rw [b]; congr 3; omega, by simp [c], by simpa using d, fun w => ⟨by simp [hlen], ?_⟩⟩
        simp [alPut, hx, (e w).2]

theorem mp_obj {h : Hl} {b : Nat} {kd : IntKind} {es : List (Int × Value)} (hm : mp kd b es h) {w : World} (i : h.inn w) : ∃ ents clock, w.heap[b]? = some (.map ents clock) ∧ ents.toList.map (fun e => (e.key, e.val)) = es.map (fun p => (Value.int kd p.1, p.2)) := by
  obtain ⟨ents, clock, rfl, he⟩ := hm
  exact ⟨ents, clock, i b _ (by simp [Hl.one]), he⟩
theorem run_getObj {w : World} {b : Nat} {ents : Array MapEntry} {clock : Nat} (h : w.heap[b]? = some (.map ents clock)) : (getObj b).run P w = .ok (.map ents clock) w := by
  simp [getObj, Sem.run, h]
theorem run_checkKey {key : TypeId} {kd : IntKind} (hk : P.underlying key = some (.int kd)) (e : Bool) (z : Int) (w : World) : (Instr.checkKey e 10000 key (.int kd z)).run P w = .ok () w := by
  have : ∀ m, (Instr.checkKey e (m + 1) key (.int kd z)).run P w = .ok () w := fun m => by
    unfold Instr.checkKey
    simp [Sem.run_bind, run_underlying hk]
  exact this 9999
theorem run_findKey {key : TypeId} {kd : IntKind} (hk : P.underlying key = some (.int kd)) {z : Int} {es : List MapEntry} {r : Option (Nat × Value)} (h : Instr.findNow (.int kd) (.int kd z) es 0 = some r) (w : World) : (Instr.findKey key (.int kd z) es).run P w = .ok r w := by
  simp [Instr.findKey, Sem.run_bind, run_underlying hk, h]

/-- What a lookup answers. -/
def lookV (o : Option Value) (z : Value) (ok : Bool) : Value := match ok with
  | true => .tuple [o.getD z, .bool o.isSome].toArray
  | false => o.getD z
theorem pe_lookup {od : Option Tmp} {t : TypeId} {x y : Operand} {b : Nat} {kd : IntKind} {z : Int} {es : List (Int × Value)} {zv : Value} {ok : Bool} {v : Value} (hx : evT tm x = some (.map (some b))) (hy : evT tm y = some (.int kd z)) (ht : mapInfo P t = some (kd, zv)) (hm : Tk L (mp kd b es) R) (hq : lookV (alGet es z) zv ok = v) : PE P K L ⟨od, .lookup t x y ok, T, pos, af, gd⟩ (tget tm) v := fun ρ w ha hr => by
  subst hq
  have h1 := ha x (by simp [Op.operands]) _ hx
  have h2 := ha y (by simp [Op.operands]) _ hy
  obtain ⟨key, elem, i, hu, hk, hi, hz⟩ := mapInfo_spec ht
  obtain ⟨q, hq, hin⟩ := hr.tk hm
  obtain ⟨ents, clock, ho, he⟩ := mp_obj hq hin
  unfold execOp
  simp only [h1, h2]
  rcases findNow_al kd z ents.toList es 0 he with ⟨e1, e2⟩ | ⟨j, v', e1, e2, _⟩
  · simp only [Instr.lookup, Sem.run_bind, run_underlying hu, Result.andThen_ok, run_getObj ho, Sem.run_pure, run_checkKey hk, run_findKey hk e2, zeroValue, typeInfo, e1, lookV]
    cases ok <;> simp [hi, hz]
  · simp only [Instr.lookup, Sem.run_bind, run_underlying hu, Result.andThen_ok, run_getObj ho, Sem.run_pure, run_checkKey hk, run_findKey hk e2, e1, lookV]
    cases ok <;> simp
/-- The same in known memory. -/
theorem pe_lookupK {od : Option Tmp} {t : TypeId} {x y : Operand} {b : Nat} {kd : IntKind} {z : Int} {es : List (Int × Value)} {zv : Value} {ok : Bool} {v : Value} (hx : evT tm x = some (.map (some b))) (hy : evT tm y = some (.int kd z)) (ht : mapInfo P t = some (kd, zv)) (hm : Kn K (fun w => ∃ h, mp kd b es h ∧ h.inn w)) (hq : lookV (alGet es z) zv ok = v) : PE P K L ⟨od, .lookup t x y ok, T, pos, af, gd⟩ (tget tm) v := fun ρ w ha hr => by
  subst hq
  have h1 := ha x (by simp [Op.operands]) _ hx
  have h2 := ha y (by simp [Op.operands]) _ hy
  obtain ⟨key, elem, i, hu, hk, hi, hz⟩ := mapInfo_spec ht
  obtain ⟨q, hq, hin⟩ := hm w hr.1
  obtain ⟨ents, clock, ho, he⟩ := mp_obj hq hin
  unfold execOp
  simp only [h1, h2]
  rcases findNow_al kd z ents.toList es 0 he with ⟨e1, e2⟩ | ⟨j, v', e1, e2, _⟩
  · simp only [Instr.lookup, Sem.run_bind, run_underlying hu, Result.andThen_ok, run_getObj ho, Sem.run_pure, run_checkKey hk, run_findKey hk e2, zeroValue, typeInfo, e1, lookV]
    cases ok <;> simp [hi, hz]
  · simp only [Instr.lookup, Sem.run_bind, run_underlying hu, Result.andThen_ok, run_getObj ho, Sem.run_pure, run_checkKey hk, run_findKey hk e2, e1, lookV]
    cases ok <;> simp
theorem Rdw.mp {kd : IntKind} {b : Nat} {es : List (Int × Value)} {w : World} (h : Rdw K L w) (t : Tk L (mp kd b es) R) : ∃ q, Pm.mp kd b es q ∧ q.inn w := h.tk t

theorem ae_mapSet {od : Option Tmp} {t : TypeId} {x y u : Operand} {b : Nat} {kd : IntKind} {z : Int} {es : List (Int × Value)} {zv v : Value} (hx : evT tm x = some (.map (some b))) (hy : evT tm y = some (.int kd z)) (hv : evT tm u = some v) (ht : mapInfo P t = some (kd, zv)) :
    AE P n K R [mp kd b es] ⟨od, .mapUpdate t x y u, T, pos, af, gd⟩ (tget tm) (one undef [mp kd b (alPut es z v)]) := fun W K' w a next hK hf hO hn => by
  obtain ⟨key, elem, i, hu, hk, hi, hz⟩ := mapInfo_spec ht
  obtain ⟨q, hq, hin⟩ := hO.part
  obtain ⟨ents, clock, ho, he⟩ := mp_obj hq hin
  have key2 : ∀ ents' clock', ents'.toList.map (fun e => (e.key, e.val)) = (alPut es z v).map (fun p => (Value.int kd p.1, p.2)) → Ow W K' (mp kd b (alPut es z v) :: R) { w with heap := w.heap.setIfInBounds b (.map ents' clock') } := fun ents' clock' he' => by
    refine Ow.change hO rfl ((Tp.refl _).same rfl rfl) rfl (by simp) (fun h hh ih => ?_)
    obtain ⟨en, cl, rfl, _⟩ := hh
    have hlt : b < w.heap.size := (Array.getElem?_eq_some_iff.1 ho).1
    refine ⟨⟨Hl.one b (.map ents' clock'), ⟨ents', clock', rfl, he'⟩, fun c o e => ?_, fun c hc => ?_⟩, fun c hl hc => ?_⟩
    · unfold Hl.one at e
      split at e
      · rename_i hcb; subst hcb; cases e
        simp [Array.getElem?_setIfInBounds, hlt]
      · cases e
    · left
      unfold Hl.one at hc ⊢
      split at hc <;> simp_all
    · have hcb : b ≠ c := fun e => by subst e; simp [Hl.one] at hc
      simp [Array.getElem?_setIfInBounds, hcb]
  refine wp_done (w' := { w with heap := w.heap.setIfInBounds b (.map (match Instr.findNow (.int kd) (.int kd z) ents.toList 0 with | some (some (j, _)) => ents.modify j fun e => { e with key := .int kd z, val := v } | _ => ents.push { key := .int kd z, val := v, born := clock }) (match Instr.findNow (.int kd) (.int kd z) ents.toList 0 with | some (some _) => clock | _ => clock + 1)) }) ?_ (hn undef _ _ ⟨rfl, rfl⟩ (key2 _ _ ?_))
  · unfold execOp
    simp only [hf.eval hx, hf.eval hy, hf.eval hv]
    rcases findNow_al kd z ents.toList es 0 he with ⟨e1, e2⟩ | ⟨j, u', e1, e2, e3, e4, _⟩
    · simp only [Instr.mapUpdate, Sem.run_bind, run_underlying hu, Result.andThen_ok, run_getObj ho, run_checkKey hk, run_findKey hk e2, e2]
      simp [setObj, Sem.run, ho]
    · have hold : ((ents[0 + j]?).map (·.key)).getD (.int kd z) = .int kd z := by
        rw [Nat.zero_add]
        have : (ents[j]?).map (·.key) = some (.int kd z) := by simpa using e4
        rw [this]; rfl
      have hsame : (Instr.keyThatStays (.int kd z) (.int kd z)).run P w = .ok (.int kd z) w := by
        have : ∀ m, Instr.sameBits m (.int kd z) (.int kd z) = true := fun m => by cases m <;> simp [Instr.sameBits]
        simp [Instr.keyThatStays, this]
      simp only [Instr.mapUpdate, Sem.run_bind, run_underlying hu, Result.andThen_ok, run_getObj ho, run_checkKey hk, run_findKey hk e2, e2, hold, hsame]
      simp [setObj, Sem.run, ho]
  · rcases findNow_al kd z ents.toList es 0 he with ⟨e1, e2⟩ | ⟨j, u', e1, e2, e3, e4, e5⟩
    · rw [e2]
      have : ∀ (l : List (Int × Value)), alGet l z = none → alPut l z v = l ++ [(z, v)] := by
        intro l
        induction l with
        | nil => intro _; rfl
        | cons p l ih =>
          intro h
          obtain ⟨x, u⟩ := p
          simp only [alGet] at h
          split at h
          · cases h
          · rename_i hx; simp [alPut, hx, ih h]
      rw [this es e1]
      simp [he]
    · rw [e2]
      dsimp only
      rw [Nat.zero_add, (e5 v).2]
      apply List.ext_getElem?
      intro q
      have hq2 := congrArg (·[q]?) he
      simp only [List.getElem?_map] at hq2
      simp only [List.getElem?_map, Array.getElem?_toList, Array.getElem?_modify, List.getElem?_set]
      by_cases hjq : j = q
      · subst hjq
        have hl2 := (e5 v).1
        have e6 : j < es.length := by rw [hl2]; exact e3
        simp only [if_pos rfl, if_pos e6]
        have : j < ents.size := by simpa using e3
        simp [Array.getElem?_eq_getElem this]
      · rw [if_neg hjq, if_neg hjq]
        simpa using hq2

theorem al_mapNew {od : Option Tmp} {t : TypeId} : AL P ⟨od, .makeMap t none, T, pos, af, gd⟩ (tget tm) (.map #[] 0) (fun b => .map (some b)) := fun ρ w ha => by
  unfold execOp
  simp [Instr.makeMap, Sem.run_bind, newObj, Sem.run]
theorem JL_mm {t : TypeId} {kd : IntKind} {zv : Value} (ht : mapInfo P t = some (kd, zv)) (hn : Nat.blt d n = true) (hg : wantF ops ⟨some d, .makeMap t none, T, pos, af, gd⟩ (tget tm) = some true) (h : ∀ b, JL P n W K F ops k rest ((d, .map (some b)) :: tm) (mp kd b [] :: L)) : JL P n W K F ops k (⟨some d, .makeMap t none, T, pos, af, gd⟩ :: rest) tm L :=
  JL_m rfl hn hg al_mapNew fun b => JL_heap (fun w H => H.imp fun q hq => ⟨#[], 0, hq, rfl⟩) (h b)
theorem JL_mapSet {t : TypeId} {x y u : Operand} {b : Nat} {kd : IntKind} {z : Int} {es : List (Int × Value)} {zv v : Value} (hx : evT tm x = some (.map (some b))) (hy : evT tm y = some (.int kd z)) (hv : evT tm u = some v) (ht : mapInfo P t = some (kd, zv)) (hm : Tk L (mp kd b es) R) (hg : wantF ops ⟨none, .mapUpdate t x y u, T, pos, af, gd⟩ (tget tm) = some true)
    (h : JL P n W K F ops k rest tm (mp kd b (alPut es z v) :: R)) : JL P n W K F ops k (⟨none, .mapUpdate t x y u, T, pos, af, gd⟩ :: rest) tm L :=
  JL_a0 rfl hg (.cons hm .nil) (ae_mapSet hx hy hv ht) (by rintro _ _ ⟨rfl, rfl⟩; exact h)
theorem JD_mapSet {t : TypeId} {x y u : Operand} {b : Nat} {kd : IntKind} {z : Int} {es : List (Int × Value)} {zv v : Value} (hx : evT tm x = some (.map (some b))) (hy : evT tm y = some (.int kd z)) (hv : evT tm u = some v) (ht : mapInfo P t = some (kd, zv)) (hm : Tk M (mp kd b es) R) (hg : wantF ops ⟨none, .mapUpdate t x y u, T, pos, af, gd⟩ (tget tm) = some true)
    (h : JD P n W K F ops k nx rest tm S (mp kd b (alPut es z v) :: R)) : JD P n W K F ops k nx (⟨none, .mapUpdate t x y u, T, pos, af, gd⟩ :: rest) tm S M :=
  JD_a0 rfl hg rfl (.cons hm .nil) (ae_mapSet hx hy hv ht) (by rintro _ _ ⟨rfl, rfl⟩; exact h)
theorem JD_lookM {t : TypeId} {x y : Operand} {b : Nat} {kd : IntKind} {z : Int} {es : List (Int × Value)} {zv : Value} {ok : Bool} (hx : evT tm x = some (.map (some b))) (hy : evT tm y = some (.int kd z)) (ht : mapInfo P t = some (kd, zv)) (hm : Tk M (mp kd b es) M') {v : Value} (hq : lookV (alGet es z) zv ok = v) (hg : wantF ops ⟨some d, .lookup t x y ok, T, pos, af, gd⟩ (tget tm) = some true)
    (h : JD P n W K F ops k nx rest ((d, v) :: tm) (mp kd b es :: S) M') : JD P n W K F ops k nx (⟨some d, .lookup t x y ok, T, pos, af, gd⟩ :: rest) tm S M := JD_pM rfl hg rfl hm (pe_lookup hx hy ht .here hq) h
end

/-! What some memory of the call's own is enough to know. -/
def has (φ : World → Prop) : HP := fun h => ∀ w, h.inn w → φ w
def noK : Hl := fun _ => none
theorem has_of {M : List HP} {φ : World → Prop} (h : ∀ w, Rdw noK M w → φ w) : ∀ k, sats M k → has φ k := by
  intro k s w i
  refine h w ⟨?_, k, s, ?_, i⟩
  · intro b o e
    exact nomatch e
  · intro b
    exact .inr rfl
theorem Rdw.has {K : Hl} {L R : List HP} {φ : World → Prop} {w : World} (h : Rdw K L w) (t : Tk L (Pm.has φ) R) : φ w := by
  obtain ⟨k, hk, i⟩ := h.tk t
  exact hk w i
theorem Ow.has {W : World} {K : Hl} {L R M : List HP} {w : World} {φ : World → Prop} (H : Ow W K L w) (t : Sb L M R) (h : ∀ w, Rdw noK M w → φ w) : Ow W K (Pm.has φ :: R) w := H.shut t (has_of h)
theorem Ow.hasTrue {W : World} {K : Hl} {L : List HP} {w : World} {φ : World → Prop} (H : Ow W K L w) (h : ∀ w, φ w) : Ow W K (Pm.has φ :: L) w := (Ow.satsNil H).imp fun _ _ w _ => h w

/-! Append onto an empty literal. -/
section
variable {P : Program} {n : Nat} {W : World} {K : Hl} {F : Fp} {k : List It} {tm : TM} {L L' R S M M' : List HP} {T : TypeId} {pos : String} {af : Array Edge} {gd : Option (Nat × Bool)} {ops : Array Oper} {rest nx : List Oper} {d : Tmp}
variable {α : Type} {enc : α → List Value} {t e : TypeId} {sz bytes m b : Nat} {s x : Operand} {v y : Value} {fs : List α}
theorem JL_appL (enc : α → List Value) {fs : List α} (hi : elemInfo P t = some (e, sz, bytes)) (hs : evT tm s = some (.slice (some ⟨b, 0, none⟩) 0 0)) (hx : evT tm x = some y) (hm : Tk L (pts b [] e) R) (hv : Src K R y sz m (flat enc fs)) (hok : elOk P t e sz bytes = true) (hl : ∀ x, (enc x).length = sz) (h1 : ∀ u ∈ flat enc fs, u.oneCell' = true) (hsz : m * bytes ≤ 140737488355328)
    (hn : Nat.blt d n = true) (hg : wantF ops ⟨some d, .call ⟨.builtin .append, #[s, x], #[t, t]⟩, T, pos, af, gd⟩ (tget tm) = some true) (h : ∀ ad c, m ≤ c → c ≤ maxLen → JL P n W K F ops k rest ((d, .slice ad m c) :: tm) (Ar e sz enc (.slice ad m c) fs :: R)) : JL P n W K F ops k (⟨some d, .call ⟨.builtin .append, #[s, x], #[t, t]⟩, T, pos, af, gd⟩ :: rest) tm L :=
  JL_a rfl hn hg (.cons hm .nil) (fun W' K' w a next hK hf hO hn => ae_app (es := []) (.ofOk hok) hs hx hv hl h1 (by simpa using hsz) W' K' w a next hK hf (Ow.arLit0 hO .here) hn) (by
    rintro _ _ ⟨ad, c, h2, h3, rfl, rfl⟩
    simp only [List.length_nil, Nat.zero_add, List.nil_append] at h2 ⊢
    exact h ad c h2 h3)
theorem JD_appL (enc : α → List Value) {fs : List α} (hi : elemInfo P t = some (e, sz, bytes)) (hs : evT tm s = some (.slice (some ⟨b, 0, none⟩) 0 0)) (hx : evT tm x = some y) (hm : Tk M (pts b [] e) R) (hv : Src K (R ++ S) y sz m (flat enc fs)) (hok : elOk P t e sz bytes = true) (hl : ∀ x, (enc x).length = sz) (h1 : ∀ u ∈ flat enc fs, u.oneCell' = true) (hsz : m * bytes ≤ 140737488355328)
    (hg : wantF ops ⟨some d, .call ⟨.builtin .append, #[s, x], #[t, t]⟩, T, pos, af, gd⟩ (tget tm) = some true) (h : ∀ ad c, m ≤ c → c ≤ maxLen → JD P n W K F ops k nx rest ((d, .slice ad m c) :: tm) S (Ar e sz enc (.slice ad m c) fs :: R)) : JD P n W K F ops k nx (⟨some d, .call ⟨.builtin .append, #[s, x], #[t, t]⟩, T, pos, af, gd⟩ :: rest) tm S M :=
  JD_a rfl hg rfl (.cons hm .nil) (fun W' K' w a next hK hf hO hn => ae_app (es := []) (.ofOk hok) hs hx hv hl h1 (by simpa using hsz) W' K' w a next hK hf (Ow.arLit0 hO .here) hn) (by
    rintro _ _ ⟨ad, c, h2, h3, rfl, rfl⟩
    simp only [List.length_nil, Nat.zero_add, List.nil_append] at h2 ⊢
    exact h ad c h2 h3)
end
end Go.Pm
namespace Go.Pm
set_option linter.unusedSimpArgs false
set_option linter.unusedVariables false
open Go.RowKit
variable {α : Type} {enc : α → List Value} {K : Hl} {L : List HP} {a : Option Addr} {c n sz : Nat} {es : List α}
theorem flat_drop (hl : ∀ x, (enc x).length = sz) (es : List α) (j : Nat) (hj : j ≤ es.length) : (flat enc es).drop (j * sz) = flat enc (es.drop j) := by
  have h : flat enc es = flat enc (es.take j) ++ flat enc (es.drop j) := by rw [← flat_append, List.take_append_drop]
  have h2 : (flat enc (es.take j)).length = j * sz := by rw [flat_length hl, List.length_take, Nat.min_eq_left hj]
  rw [h, ← h2, List.drop_left]
theorem Vw_drop {w : World} (h : Vw w (.slice a n c) sz n (flat enc es)) (hl : ∀ x, (enc x).length = sz) (hn : es.length = n) (k m : Nat) (hk : k ≤ n) (hm : m = n - k) : Vw w (.slice (slA a c k sz) m (c - k)) sz m (flat enc (es.drop k)) := by
  subst hm
  obtain ⟨a', cap, he, h1, h2, h3, h4, h5⟩ := h
  cases he
  have hlen : (es.drop k).length = n - k := by rw [List.length_drop, hn]
  unfold slA
  by_cases hck : c = k
  · rw [if_pos hck]
    refine ⟨a, c - k, rfl, by rw [flat_length hl, hlen], by omega, by omega, fun h => ⟨by have := (h4 h).1; omega, by omega⟩, fun hne => ?_⟩
    have hnil : es.drop k = [] := List.eq_nil_of_length_eq_zero (by omega)
    rw [hnil] at hne
    exact absurd rfl hne
  · rw [if_neg hck]
    refine ⟨_, c - k, rfl, by rw [flat_length hl, hlen], by omega, by omega, fun h => ?_, fun hne => ?_⟩
    · cases a with
      | none => have := h4 rfl; omega
      | some x => cases h
    · have hd := flat_drop hl es k (by omega)
      have hne' : flat enc es ≠ [] := by
        intro h
        rw [h] at hd
        exact hne (by rw [← hd]; simp)
      obtain ⟨b, off, hb, hc⟩ := h5 hne'
      subst hb
      refine ⟨b, off + k * sz, by rw [Option.map_some, addr_add_plain], fun j u hj => ?_⟩
      rw [← hd, List.getElem?_drop] at hj
      have := hc _ _ hj
      rwa [Nat.add_assoc]
theorem Vw_take' {w : World} (h : Vw w (.slice a n c) sz n (flat enc es)) (hl : ∀ x, (enc x).length = sz) (hn : es.length = n) (j : Nat) (hj : j ≤ n) : Vw w (.slice a j c) sz j (flat enc (es.take j)) := by
  obtain ⟨a', cap, he, h1, h2, h3, h4, h5⟩ := h
  cases he
  have hlen : (es.take j).length = j := by rw [List.length_take]; omega
  have hpre : flat enc es = flat enc (es.take j) ++ flat enc (es.drop j) := by rw [← flat_append, List.take_append_drop]
  refine ⟨a, c, rfl, by rw [flat_length hl, hlen], by omega, h3, fun h => ⟨by have := (h4 h).1; omega, (h4 h).2⟩, fun hne => ?_⟩
  have hne' : flat enc es ≠ [] := by
    intro h
    rw [hpre] at h
    exact hne (List.append_eq_nil_iff.1 h).1
  obtain ⟨b, off, hb, hc⟩ := h5 hne'
  refine ⟨b, off, hb, fun k u hk => hc k u ?_⟩
  rw [hpre, List.getElem?_append_left (List.getElem?_eq_some_iff.1 hk).1]
  exact hk
theorem Src.drop (h : Src K L (.slice a n c) sz n (flat enc es)) (hl : ∀ x, (enc x).length = sz) (hn : es.length = n) (k m : Nat) (hk : k ≤ n) (hm : m = n - k) : Src K L (.slice (slA a c k sz) m (c - k)) sz m (flat enc (es.drop k)) := fun w hr => Vw_drop (h w hr) hl hn k m hk hm
theorem Src.take (h : Src K L (.slice a n c) sz n (flat enc es)) (hl : ∀ x, (enc x).length = sz) (hn : es.length = n) (j : Nat) (hj : j ≤ n) : Src K L (.slice a j c) sz j (flat enc (es.take j)) := fun w hr => Vw_take' (h w hr) hl hn j hj
end Go.Pm
namespace Go.Pm
set_option linter.unusedSimpArgs false
set_option linter.unusedVariables false
open Go.RowKit

def yldV (l : Nat) : Value := .func (.yield l) #[] #[]
/-- A call of yield: with the parts C for its own. -/
def Yld (P : Program) (K0 : Hl) (l : Nat) (args : Array Value) (C : List HP) (Φ : Value → List HP → Prop) : Prop :=
  ∀ W K w, K0.le K → Ow W K C w → ∃ fn tmps assign body, (Instr.yield l args).run P w = .ok (.round l fn tmps assign body) w ∧ RoundIn Fence.wide 0 P l fn tmps assign body w (retR W K Φ)

section
variable {P : Program} {n : Nat} {W : World} {K : Hl} {F : Fp} {k : List It} {tm : TM} {L L' R S M C : List HP} {T : TypeId} {pos : String} {af : Array Edge} {gd : Option (Nat × Bool)} {ops : Array Oper} {rest nx : List Oper} {d : Tmp}

theorem ae_yield {od : Option Tmp} {c : Operand} {xs : Array Operand} {ts : Array TypeId} {l : Nat} {us : List Value} {Φ : Value → List HP → Prop} {K0 : Hl} (Y : Yld P K0 l us.toArray C Φ) (hK0 : K0.le K) (hc : evT tm c = some (yldV l)) (ha : xs.toList.mapM (evT tm) = some us) :
    AE P n K R C ⟨od, .call ⟨.value c, xs, ts⟩, T, pos, af, gd⟩ (tget tm) Φ := fun W K' w a next hK hf hO hn => by
  have e1 : xs.map a.eval = us.toArray := Array.ext' (by rw [Array.toList_map]; exact mapM_eval hf ha)
  obtain ⟨hR, sR, dR, H1, back⟩ := hO.frame
  obtain ⟨fn, tmps, assign, body, hy, hr⟩ := Y W (K'.add hR) w (hK0.trans (hK.trans (Hl.le_add _ _))) H1
  have hev : a.eval c = .func (.yield l) #[] #[] := hf.eval hc
  have hx : (execOp a.eval ⟨od, .call ⟨.value c, xs, ts⟩, T, pos, af, gd⟩).run P w = .ok (.round l fn tmps assign body) w := by
    unfold execOp
    simp only [resolve, e1, hev, Deferred.ofValue, Sem.run_bind, Sem.run_pure, Result.andThen_ok, invoke]
    simpa using hy
  refine ⟨fun _ _ => trivial, ?_⟩
  show Oper.uponIn Fence.wide 0 P _ a next _ ((execOp a.eval ⟨od, .call ⟨.value c, xs, ts⟩, T, pos, af, gd⟩).run P w)
  rw [hx]
  refine ⟨fun h => by simp [Fence.wide] at h, RoundIn.mono hr ?_⟩
  rintro e w' ⟨v, L', h1, rfl, h2⟩
  exact hn v L' w' h1 (back L' w' h2)
theorem JL_y {c : Operand} {xs : Array Operand} {ts : Array TypeId} {l : Nat} {us : List Value} {Φ : Value → List HP → Prop} {K0 : Hl} (Y : Yld P K0 l us.toArray C Φ) (hK0 : K0.le K) (hc : evT tm c = some (yldV l)) (ha : xs.toList.mapM (evT tm) = some us) (hs : Sb L C R) (hn : Nat.blt d n = true) (hg : wantF ops ⟨some d, .call ⟨.value c, xs, ts⟩, T, pos, af, gd⟩ (tget tm) = some true)
    (h : ∀ v L', Φ v L' → JL P n W K F ops k rest ((d, v) :: tm) (L' ++ R)) : JL P n W K F ops k (⟨some d, .call ⟨.value c, xs, ts⟩, T, pos, af, gd⟩ :: rest) tm L := JL_a rfl hn hg hs (ae_yield Y hK0 hc ha) h
theorem JD_y {c : Operand} {xs : Array Operand} {ts : Array TypeId} {l : Nat} {us : List Value} {Φ : Value → List HP → Prop} {K0 : Hl} (Y : Yld P K0 l us.toArray C Φ) (hK0 : K0.le K) (hc : evT tm c = some (yldV l)) (ha : xs.toList.mapM (evT tm) = some us) (hs : Sb M C R) (hg : wantF ops ⟨some d, .call ⟨.value c, xs, ts⟩, T, pos, af, gd⟩ (tget tm) = some true)
    (h : ∀ v L', Φ v L' → JD P n W K F ops k nx rest ((d, v) :: tm) S (L' ++ R)) : JD P n W K F ops k nx (⟨some d, .call ⟨.value c, xs, ts⟩, T, pos, af, gd⟩ :: rest) tm S M := JD_a rfl hg rfl hs (ae_yield Y hK0 hc ha) h

/-- What an iterator promises: that it hands out, one by one, a list that S allows; or, told to stop, a list that Sp allows. -/
def Iter {α : Type} (P : Program) (f : FuncId) (args : Nat → List Value) (φ : World → Prop) (enc : α → List Value) (N : Nat) (S Sp : List α → Prop) : Prop :=
  ∀ (K0 : Hl) (l : Nat) (Y Yx : List α → HP), (∀ pre x, pre.length < N → Yld P K0 l (enc x).toArray [Y pre] (fun v L' => (v = .bool true ∧ L' = [Y (pre ++ [x])]) ∨ (v = .bool false ∧ L' = [Yx (pre ++ [x])]))) →
    ∀ W K w, K0.le K → Kn K φ → Ow W K [Y []] w → Calls P f (args l).toArray w (retR W K (fun _ L' => (∃ xs, S xs ∧ L' = [Y xs]) ∨ ∃ pre, Sp pre ∧ L' = [Yx pre]))
/-- The same, of such Y alone as Q lets by (what the iterator itself reads lies among the parts that a round may change). -/
def IterQ {α : Type} (P : Program) (f : FuncId) (args : Nat → List Value) (φ : World → Prop) (enc : α → List Value) (G : List α → α → Prop) (S Sp : List α → Prop) (Q : (List α → HP) → Prop) : Prop :=
  ∀ (K0 : Hl) (l : Nat) (Y Yx : List α → HP), Q Y → (∀ pre x, G pre x → Yld P K0 l (enc x).toArray [Y pre] (fun v L' => (v = .bool true ∧ L' = [Y (pre ++ [x])]) ∨ (v = .bool false ∧ L' = [Yx (pre ++ [x])]))) →
    ∀ W K w, K0.le K → Kn K φ → Ow W K [Y []] w → Calls P f (args l).toArray w (retR W K (fun _ L' => (∃ xs, S xs ∧ L' = [Y xs]) ∨ ∃ pre, Sp pre ∧ L' = [Yx pre]))
theorem Iter.q {α : Type} {f : FuncId} {args : Nat → List Value} {φ : World → Prop} {enc : α → List Value} {N : Nat} {S Sp : List α → Prop} (It : Iter P f args φ enc N S Sp) : IterQ P f args φ enc (fun pre _ => pre.length < N) S Sp (fun _ => True) := fun K0 l Y Yx _ => It K0 l Y Yx
theorem iterQ {α : Type} {f : FuncId} {fn : Func} {c : Code} {args : Nat → List Value} {φ : World → Prop} {enc : α → List Value} {G : List α → α → Prop} {St Sp : List α → Prop} {Q : (List α → HP) → Prop} (hf : P.funcs[f]? = some fn) (hb : fn.body = some c) {nt : Nat} (hn : fn.ntmps = nt) (ha : ∀ l, (Nat.ble (args l).length nt && Nat.ble nt 1000000) = true)
    (h : ∀ (K0 : Hl) (l : Nat) (Y Yx : List α → HP), Q Y → (∀ pre x, G pre x → Yld P K0 l (enc x).toArray [Y pre] (fun v L' => (v = .bool true ∧ L' = [Y (pre ++ [x])]) ∨ (v = .bool false ∧ L' = [Yx (pre ++ [x])]))) →
      ∀ W K, K0.le K → Kn K φ → J P nt W K (fpost P fn W K (fun _ L' => (∃ xs, St xs ∧ L' = [Y xs]) ∨ ∃ pre, Sp pre ∧ L' = [Yx pre])) [.code c] (argTM 0 (args l)) [Y []]) : IterQ P f args φ enc G St Sp Q := fun K0 l Y Yx hQ hY W K w hK hφ H =>
  J_start hf hb hn (by have := ha l; simp at this ⊢; omega) (by have := ha l; simp at this; show nt ≤ 1000000; omega) H (fun t v e => by have := argTM_get (args l) 0 t v e; simpa using this.2) (h K0 l Y Yx hQ hY W K hK hφ)
theorem iter {α : Type} {f : FuncId} {fn : Func} {c : Code} {args : Nat → List Value} {φ : World → Prop} {enc : α → List Value} {N : Nat} {St Sp : List α → Prop} (hf : P.funcs[f]? = some fn) (hb : fn.body = some c) {nt : Nat} (hn : fn.ntmps = nt) (ha : ∀ l, (Nat.ble (args l).length nt && Nat.ble nt 1000000) = true)
    (h : ∀ (K0 : Hl) (l : Nat) (Y Yx : List α → HP), (∀ pre x, pre.length < N → Yld P K0 l (enc x).toArray [Y pre] (fun v L' => (v = .bool true ∧ L' = [Y (pre ++ [x])]) ∨ (v = .bool false ∧ L' = [Yx (pre ++ [x])]))) →
      ∀ W K, K0.le K → Kn K φ → J P nt W K (fpost P fn W K (fun _ L' => (∃ xs, St xs ∧ L' = [Y xs]) ∨ ∃ pre, Sp pre ∧ L' = [Yx pre])) [.code c] (argTM 0 (args l)) [Y []]) : Iter P f args φ enc N St Sp := fun K0 l Y Yx hY W K w hK hφ H =>
  J_start hf hb hn (by have := ha l; simp at this ⊢; omega) (by have := ha l; simp at this; show nt ≤ 1000000; omega) H (fun t v e => by have := argTM_get (args l) 0 t v e; simpa using this.2) (h K0 l Y Yx hY W K hK hφ)

/-! A round. -/
def rndPost {α : Type} (W : World) (K : Hl) (I : List α → List HP) (Ix : Code → List α → List HP) (pre : List α) : Exit → Act → World → Prop
  | .normal, _, w => Ow W K (I pre) w
  | .ret, _, w => Ow W K (Ix .ret pre) w
  | .exit id, _, w => Ow W K (Ix (.exit id) pre) w
  | .goto t, _, w => Ow W K (Ix (.goto t) pre) w
  | _, _, _ => False
def noP : Exit → Act → World → Prop := fun _ _ _ => False
/-- The round's body may begin. -/
def RB {α : Type} (P : Program) (n : Nat) (W : World) (K3 K : Hl) (l : Nat) (I : List α → List HP) (Ix : Code → List α → List HP) (pre : List α) (body : Code) : Act → World → Prop := fun a w =>
  ∃ tm1 L1, Fit n (tget tm1) a ∧ Ow W K3 L1 w ∧ ∀ K4, K.le K4 → Kn K4 (fun w => ∃ r, w.heap[l]? = some (.loop r)) → J P n W K4 ⟨some l, rndPost W K4 I Ix pre⟩ [.code body] tm1 L1
theorem J_body {α : Type} {K0 : Hl} {l : Nat} {I : List α → List HP} {Ix : Code → List α → List HP} {pre : List α} {body : Code} (h : ∀ K4, K0.le K4 → Kn K4 (fun w => ∃ r, w.heap[l]? = some (.loop r)) → J P n W K4 ⟨some l, rndPost W K4 I Ix pre⟩ [.code body] tm L) : J P n W K F (.hole (RB P n W K K0 l I Ix pre body) :: k) tm L := .mk <|
  fun _ w hf hO => ⟨tm, L, hf, hO, h⟩
theorem J_rnd {α : Type} {l : Nat} {I : List α → List HP} {Ix : Code → List α → List HP} {pre : List α} (h : ∀ w, Ow W K L w → Ow W K (I pre) w) : J P n W K ⟨some l, rndPost W K I Ix pre⟩ [] tm L := .mk <| fun _ w _ hO => h w hO
theorem J_rndRet {α : Type} {l : Nat} {I : List α → List HP} {Ix : Code → List α → List HP} {pre : List α} (h : ∀ w, Ow W K L w → Ow W K (Ix .ret pre) w) : J P n W K ⟨some l, rndPost W K I Ix pre⟩ (.code .ret :: k) tm L := .mk <| fun _ w _ hO => wpIn_ret (runK_ret (h w hO))
theorem runK_popN {id : Nat} : ∀ {k : List It}, popK id k = none → ∀ a w, F.post (.exit id) a w → runK P F k (.exit id) a w
  | [], _, _, _, h => h
  | .blk i :: k, h, a, w, h2 => by
    simp only [popK] at h
    by_cases hi : id = i
    · subst hi; simp at h
    · have : Nat.beq id i = false := by rw [Bool.eq_false_iff]; intro hb; exact hi (Nat.eq_of_beq_eq_true hb)
      rw [this] at h
      simp only [runK, Exit.inBlock, if_neg hi]
      exact runK_popN h a w h2
  | .code _ :: k, h, a, w, h2 => by simpa only [runK, Exit.then] using runK_popN (k := k) h a w h2
  | .hole _ :: k, h, a, w, h2 => by simpa only [runK, Exit.then] using runK_popN (k := k) h a w h2
  | .jmp _ _ :: k, h, a, w, h2 => by simpa only [runK, Exit.jump] using runK_popN (k := k) h a w h2
theorem J_rndExit {α : Type} {l id : Nat} {I : List α → List HP} {Ix : Code → List α → List HP} {pre : List α} (hp : popK id k = none) (h : ∀ w, Ow W K L w → Ow W K (Ix (.exit id) pre) w) : J P n W K ⟨some l, rndPost W K I Ix pre⟩ (.code (.exit id) :: k) tm L := .mk <| fun a w _ hO => wpIn_exit (runK_popN hp a w (h w hO))

/-- The slots at a round's start. -/
def parTM : List Tmp → List Value → TM → TM
  | p :: ps, v :: vs, tm => parTM ps vs ((p, v) :: tm)
  | _, _, tm => tm
theorem Fit.par {ds : List Deferred} : ∀ (ps : List Tmp) (vs : List Value) (tm : TM) (tmps : Array Value), ps.all (Nat.blt · n) = true → (tmps.size = n ∧ n ≤ mkK ∧ ∀ t v, t ≠ mkK → tget tm t = some v → tmps[t]? = some v) →
    let t' := (ps.zip vs).foldl (fun t (p, v) => t.setIfInBounds p v) tmps
    t'.size = n ∧ n ≤ mkK ∧ ∀ t v, t ≠ mkK → tget (parTM ps vs tm) t = some v → t'[t]? = some v
  | [], _, tm, tmps, _, h => by simpa [parTM] using h
  | p :: ps, [], tm, tmps, _, h => by simpa [parTM] using h
  | p :: ps, v :: vs, tm, tmps, hp, h => by
    simp only [List.all_cons, Bool.and_eq_true] at hp
    have hpl : p < n := by simpa using hp.1
    simp only [List.zip_cons_cons, List.foldl_cons, parTM]
    refine Fit.par (ds := ds) ps vs ((p, v) :: tm) _ hp.2 ⟨by simpa using h.1, h.2.1, fun t u ht hu => ?_⟩
    simp only [Array.getElem?_setIfInBounds]
    by_cases e : p = t
    · subst e
      simp [tget] at hu
      rw [if_pos rfl, if_pos (by rw [h.1]; exact hpl), hu]
    · rw [if_neg e]
      have : Nat.beq p t = false := by rw [Bool.eq_false_iff]; intro hb; exact e (Nat.eq_of_beq_eq_true hb)
      simp only [tget, this] at hu
      exact h.2.2 t u ht hu

theorem ob_in {D : Nat} {o : Obj} {w : World} (H : Ow W K (ob D o :: L) w) : w.heap[D]? = some o := by
  obtain ⟨h, hA, i⟩ := H.part
  obtain rfl : h = Hl.one D o := hA
  exact i D _ (by simp [Hl.one])
theorem kn_ob {hR : Hl} {D : Nat} {o : Obj} {M : List HP} (s : sats M hR) (t : Tk M (ob D o) R) (hd : hR.disj K) : Kn (K.add hR) (fun w => w.heap[D]? = some o) := fun w i => by
  obtain ⟨h1, h2, hA, _, d', rfl⟩ := sats_perm t.perm _ s
  obtain rfl : h1 = Hl.one D o := hA
  exact ((Hl.inn_add d').1 ((Hl.inn_add hd.symm).1 i).2).1 D _ (by simp [Hl.one])

/-- A range over a function, outside of rounds. -/
theorem J_rangeQ {α : Type} {enc : α → List Value} {g : Operand} {ps : List Tmp} {assign body : Code} {gf : FuncId} {first lb : List Value} {φ : World → Prop} {G : List α → α → Prop} {St Sp : List α → Prop} {Q : (List α → HP) → Prop} {Ds : List Nat}
    (It : IterQ P gf (fun l => first ++ yldV l :: lb) φ enc G St Sp Q) (hro : F.ro = none) (hm : decM (tget tm mkK) = Ds) (hg : evT tm g = some (.func (.func gf) first.toArray lb.toArray)) (ho : ownB P gf = true) (hps : ps.all (Nat.blt · n) = true) (hes : ∀ x, (enc x).length = ps.length)
    (I : List α → List HP) (Ix : Code → List α → List HP) (hQ : ∀ A B : HP, Q (fun pre => sats (A :: B :: I pre))) (hs : Sb L (I []) R) (hφ : ∀ w, Rdw K R w → φ w)
    (hround : ∀ (W : World) (K3 : Hl) (l : Nat) (pre : List α) (x : α), K.le K3 → G pre x → J P n W K3 ⟨some l, noP⟩ [.code assign, .hole (RB P n W K3 K l I Ix (pre ++ [x]) body)] (parTM ps (enc x) ((mkK, encM []) :: tm)) (I pre))
    (hdone : ∀ D xs, St xs → J P n W K F k ((mkK, encM (D :: Ds)) :: tm) (dfr D :: (I xs ++ R)))
    (hstop : ∀ D c pre, Sp pre → J P n W K F (.code c :: k) ((mkK, encM (D :: Ds)) :: tm) (dfr D :: (Ix c pre ++ R))) :
    J P n W K F (.code (.rangeFunc g ps.toArray assign body) :: k) tm L := .mk <| fun a w hf hO => by
  refine wpIn_rangeFunc fun fn _ => ?_
  rw [show (wideR F.ro).round = none from hro]
  obtain ⟨rec, hrec⟩ : ∃ rec : LoopState → Option Code → Loop, rec = fun st pe => { state := st, pending := pe, fn, tmps := a.tmps, params := ps.toArray, assign, body, defers := w.heap.size } := ⟨_, rfl⟩
  obtain ⟨D, hD⟩ : ∃ D, D = w.heap.size := ⟨_, rfl⟩
  obtain ⟨l, hl⟩ : ∃ l, l = w.heap.size + 1 := ⟨_, rfl⟩
  have H1 : Ow W K (ob l (.loop (rec .ready none)) :: dfr D :: (I [] ++ R)) ((w.alloc (.deferred (some []))).alloc (.loop (rec .ready none))) := by
    have h1 := (hO.sb hs).alloc (.deferred (some []))
    have h2 := h1.alloc (.loop (rec .ready none))
    rw [World.size_alloc, ← hl, ← hD] at h2
    exact h2
  obtain ⟨W1, hW1⟩ : ∃ W1, (w.alloc (.deferred (some []))).alloc (.loop (rec .ready none)) = W1 := ⟨_, rfl⟩
  rw [hW1] at H1
  refine ⟨l, [mark D], W1, { target := .fn (.func gf) lb.toArray, args := first.toArray ++ #[yldV l] }, W1, gf, first.toArray ++ #[yldV l] ++ lb.toArray, W1, ?_, ?_, fun _ _ => trivial, ?_, fun h => by simp [Fence.wide] at h, ?_⟩
  · rw [← hW1, hrec, hl, hD]; exact run_enterLoop_outer _ _ _ _ _
  · simp only [resolve, hf.eval hg, Deferred.ofValue]
    simp [Act.eval, yldV]
  · simp only [invoke]
    exact run_own ho _ _
  -- the iterator
  let Y : List α → HP := fun pre => sats (dfr D :: ob l (.loop (rec .ready none)) :: I pre)
  let Yx : List α → HP := fun pre h => ∃ c, sats (dfr D :: ob l (.loop (rec .done (some c))) :: Ix c pre) h
  have hY : ∀ pre x, G pre x → Yld P K l (enc x).toArray [Y pre] (fun v L' => (v = .bool true ∧ L' = [Y (pre ++ [x])]) ∨ (v = .bool false ∧ L' = [Yx (pre ++ [x])])) := by
    intro pre x hlen W2 K2 w2 hKK H2
    have H3 : Ow W2 K2 (dfr D :: ob l (.loop (rec .ready none)) :: I pre) w2 := by simpa using H2.flat (As := dfr D :: ob l (.loop (rec .ready none)) :: I pre) .here
    have H4 : Ow W2 K2 (I pre ++ [ob l (.loop (rec .ready none)), dfr D]) w2 := H3.perm (by
      refine (List.Perm.swap _ _ _).trans ?_
      exact (List.perm_append_comm (l₁ := [ob l (.loop (rec .ready none)), dfr D]) (l₂ := I pre)))
    have hl2 : w2.heap[l]? = some (.loop (rec .ready none)) := ob_in (H3.perm (List.Perm.swap _ _ _))
    have hy := run_yield (P := P) (args := (enc x).toArray) hl2 (by rw [hrec]; simpa using hes x)
    refine ⟨_, _, _, _, hy, ?_⟩
    obtain ⟨hR, sR, dR, H5, back⟩ := H4.frame
    have hfit := Fit.par (n := n) (ds := []) ps (enc x) ((mkK, encM []) :: tm) a.tmps hps ⟨hf.sz, hf.lt, fun t v ht hv => hf.v t v ht (by
      have : Nat.beq mkK t = false := by rw [Bool.eq_false_iff]; intro hb; exact ht (Nat.eq_of_beq_eq_true hb).symm
      simpa [tget, this] using hv)⟩
    have hmk : tget (parTM ps (enc x) ((mkK, encM []) :: tm)) mkK = some (encM []) := by
      have key : ∀ (ps : List Tmp) (vs : List Value) (tm : TM), ps.all (Nat.blt · n) = true → tget (parTM ps vs tm) mkK = tget tm mkK := by
        intro ps
        induction ps with
        | nil => intro vs tm _; rfl
        | cons p ps ih =>
          intro vs tm hp
          simp only [List.all_cons, Bool.and_eq_true] at hp
          cases vs with
          | nil => rfl
          | cons v vs =>
            rw [parTM, ih vs _ hp.2]
            have hpl : p < n := by simpa using hp.1
            have : Nat.beq p mkK = false := by rw [Bool.eq_false_iff]; intro hb; have := Nat.eq_of_beq_eq_true hb; have := hf.lt; subst_vars; exact absurd hpl (Nat.not_lt.2 this)
            simp [tget, this]
      rw [key _ _ _ hps]
      rfl
    have hJ := (hround W2 (K2.add hR) l pre x (Hl.le.trans hKK (Hl.le_add _ _)) hlen).h _ w2 (⟨by rw [hmk, dec_enc]; rfl, hfit.1, hfit.2.1, hfit.2.2⟩ : Fit n _ { tmps := (ps.zip (enc x)).foldl (fun t (p, v) => t.setIfInBounds p v) a.tmps, defers := [] }) H5
    have htm : ((rec .ready none).params.zip (enc x).toArray).foldl (fun tmps (t, a) => tmps.setIfInBounds t a) (rec .ready none).tmps = (ps.zip (enc x)).foldl (fun t (p, v) => t.setIfInBounds p v) a.tmps := by
      rw [hrec]
      simp
    have e1 : (rec .ready none).assign = assign := by rw [hrec]
    have e2 : (rec .ready none).body = body := by rw [hrec]
    rw [htm, e1, e2]
    refine roundIn_of_wpIn (F := Fence.wide) trivial (wpIn_mono (F := wideR (some l)) hJ ?_)
    rintro e a1 w1 he
    cases e with
    | normal =>
      obtain ⟨tm1, L1, hf1, H6, hbody⟩ := he
      have H7 : Ow W2 K2 (ob l (.loop (rec .ready none)) :: (dfr D :: L1)) w1 := (back L1 w1 H6).perm (by
        exact (List.perm_append_comm (l₁ := L1) (l₂ := [ob l (.loop (rec .ready none)), dfr D])))
      have hbr := run_beginRound (P := P) (ob_in H7) (by rw [hrec])
      have H8 := H7.putOb (.loop { rec .ready none with state := .busy })
      have H9 : Ow W2 K2 (L1 ++ [ob l (.loop { rec .ready none with state := .busy }), dfr D]) _ := H8.perm (List.perm_append_comm (l₁ := [ob l (.loop { rec .ready none with state := .busy }), dfr D]) (l₂ := L1))
      obtain ⟨hR2, sR2, dR2, H10, back2⟩ := H9.frame
      refine ⟨_, hbr, wpIn_mono (F := wideR (some l)) ((hbody (K2.add hR2) (Hl.le.trans hKK (Hl.le_add _ _)) ((kn_ob sR2 .here dR2).imp fun w h => ⟨_, h⟩)).h a1 _ hf1 H10) ?_⟩
      have fin : ∀ (jump : Option Code) (M : List HP) (w3 : World), Ow W2 (K2.add hR2) M w3 → ∃ v w4, (Instr.endRound l jump).run P w3 = .ok v w4 ∧ v = .bool jump.isNone ∧ Ow W2 K2 (dfr D :: ob l (.loop (rec (if jump.isNone then .ready else .done) jump)) :: M) w4 := fun jump M w3 H11 => by
        have H12 : Ow W2 K2 (ob l (.loop { rec .ready none with state := .busy }) :: (dfr D :: M)) w3 := (back2 M w3 H11).perm (List.perm_append_comm (l₁ := M) (l₂ := [ob l (.loop { rec .ready none with state := .busy }), dfr D]))
        have her := run_endRound (P := P) jump (ob_in H12)
        refine ⟨_, _, her, rfl, ?_⟩
        have H13 := H12.putOb (.loop (rec (if jump.isNone then .ready else .done) jump))
        have e3 : ({ rec .ready none with state := .busy } : Loop) = rec .busy none := by rw [hrec]
        have e4 : (Obj.loop { ({ rec .ready none with state := .busy } : Loop) with state := if jump.isNone then .ready else .done, pending := jump }) = .loop (rec (if jump.isNone then .ready else .done) jump) := by rw [hrec]
        rw [e4]
        exact H13.perm (List.Perm.swap _ _ _)
      rintro e3 a3 w3 hp
      cases e3 with
      | normal =>
        obtain ⟨v, w4, h1, h2, h3⟩ := fin none _ w3 hp
        exact ⟨v, w4, h1, v, _, .inl ⟨h2, rfl⟩, rfl, (h3.shut (M := dfr D :: ob l (.loop (rec .ready none)) :: I (pre ++ [x])) (R := []) (A := Y (pre ++ [x])) (by simpa using Sb.all (dfr D :: ob l (.loop (rec .ready none)) :: I (pre ++ [x])) []) (fun k hk => hk))⟩
      | ret =>
        obtain ⟨v, w4, h1, h2, h3⟩ := fin (some .ret) _ w3 hp
        exact ⟨v, w4, h1, v, _, .inr ⟨h2, rfl⟩, rfl, (h3.shut (M := dfr D :: ob l (.loop (rec .done (some .ret))) :: Ix .ret (pre ++ [x])) (R := []) (A := Yx (pre ++ [x])) (by simpa using Sb.all (dfr D :: ob l (.loop (rec .done (some .ret))) :: Ix .ret (pre ++ [x])) []) (fun k hk => ⟨_, hk⟩))⟩
      | exit id =>
        obtain ⟨v, w4, h1, h2, h3⟩ := fin (some (.exit id)) _ w3 hp
        exact ⟨v, w4, h1, v, _, .inr ⟨h2, rfl⟩, rfl, (h3.shut (M := dfr D :: ob l (.loop (rec .done (some (.exit id)))) :: Ix (.exit id) (pre ++ [x])) (R := []) (A := Yx (pre ++ [x])) (by simpa using Sb.all (dfr D :: ob l (.loop (rec .done (some (.exit id)))) :: Ix (.exit id) (pre ++ [x])) []) (fun k hk => ⟨_, hk⟩))⟩
      | goto t =>
        obtain ⟨v, w4, h1, h2, h3⟩ := fin (some (.goto t)) _ w3 hp
        exact ⟨v, w4, h1, v, _, .inr ⟨h2, rfl⟩, rfl, (h3.shut (M := dfr D :: ob l (.loop (rec .done (some (.goto t)))) :: Ix (.goto t) (pre ++ [x])) (R := []) (A := Yx (pre ++ [x])) (by simpa using Sb.all (dfr D :: ob l (.loop (rec .done (some (.goto t)))) :: Ix (.goto t) (pre ++ [x])) []) (fun k hk => ⟨_, hk⟩))⟩
      | panic c => exact hp.elim
      | outgrown => exact hp.elim
    | exit id => exact he.elim
    | goto t => exact he.elim
    | ret => exact he.elim
    | panic c => exact he.elim
    | outgrown => exact he.elim
  have H2 : Ow W K ([Y []] ++ R) W1 := by
    have H3 : Ow W K ((dfr D :: ob l (.loop (rec .ready none)) :: I []) ++ R) W1 := H1.perm (List.Perm.swap _ _ _)
    exact H3.shut (M := dfr D :: ob l (.loop (rec .ready none)) :: I []) (R := R) (A := Y []) (Sb.all _ _) (fun k hk => hk)
  obtain ⟨hR, sR, dR, H3, back⟩ := H2.frame
  have hcall := It K l Y Yx (hQ _ _) hY W (K.add hR) W1 (Hl.le_add _ _) (fun w i => hφ w ⟨((Hl.inn_add dR.symm).1 i).1, hR, sR, dR, ((Hl.inn_add dR.symm).1 i).2⟩) H3
  have hcall2 : CallsIn (wideR F.ro) (0 - 1) P gf (first ++ yldV l :: lb).toArray W1 _ := callsIn_wide.2 hcall
  have eargs : first.toArray ++ #[yldV l] ++ lb.toArray = (first ++ yldV l :: lb).toArray := by simp
  rw [eargs]
  refine hcall2.mono ?_
  rintro e w3 ⟨v, L', hL', rfl, H4⟩
  have hfitD : Fit n (tget ((mkK, encM (D :: Ds)) :: tm)) { a with defers := [mark D] ++ a.defers } := ⟨by
    show [mark D] ++ a.defers = (decM (some (encM (D :: Ds)))).map mark
    rw [dec_enc, hf.d, hm]
    rfl, hf.sz, hf.lt, fun t v ht hv => hf.v t v ht (by
      have : Nat.beq mkK t = false := by rw [Bool.eq_false_iff]; intro hb; exact ht (Nat.eq_of_beq_eq_true hb).symm
      simpa [tget, this] using hv)⟩
  have fin : ∀ (st : LoopState) (pe : Option Code) (M : List HP), st ≠ .busy → Ow W K (dfr D :: ob l (.loop (rec st pe)) :: (M ++ R)) w3 → ∃ w4, (Instr.endLoop l).run P w3 = .ok pe w4 ∧ Ow W K (dfr D :: (M ++ R)) w4 := fun st pe M hb H5 => by
    have H6 := H5.perm (List.Perm.swap _ _ _)
    have hel := run_endLoop (P := P) (ob_in H6) (by rw [hrec]; exact hb)
    have e3 : (rec st pe).pending = pe := by rw [hrec]
    rw [e3] at hel
    exact ⟨_, hel, (H6.putOb _).drop⟩
  rcases hL' with ⟨xs, hx, rfl⟩ | ⟨pre, hx, rfl⟩
  · have H5 : Ow W K ((dfr D :: ob l (.loop (rec .ready none)) :: I xs) ++ R) w3 := (back [Y xs] w3 H4).flat (As := dfr D :: ob l (.loop (rec .ready none)) :: I xs) .here
    obtain ⟨w4, h1, h2⟩ := fin .ready none (I xs) (by simp) H5
    exact ⟨none, w4, h1, (hdone D xs hx).h _ w4 hfitD h2⟩
  · obtain ⟨c, H5⟩ := (back [Yx pre] w3 H4).open (A := Yx pre) .here (Bs := fun c => dfr D :: ob l (.loop (rec .done (some c))) :: Ix c pre) (fun _ h => h)
    obtain ⟨w4, h1, h2⟩ := fin .done (some c) (Ix c pre) (by simp) H5
    exact ⟨some c, w4, h1, (hstop D c pre hx).h _ w4 hfitD h2⟩
/-- A range over a function, outside of rounds. -/
theorem J_range {α : Type} {enc : α → List Value} {g : Operand} {ps : List Tmp} {assign body : Code} {gf : FuncId} {first lb : List Value} {φ : World → Prop} {N : Nat} {St Sp : List α → Prop} {Ds : List Nat}
    (It : Iter P gf (fun l => first ++ yldV l :: lb) φ enc N St Sp) (hro : F.ro = none) (hm : decM (tget tm mkK) = Ds) (hg : evT tm g = some (.func (.func gf) first.toArray lb.toArray)) (ho : ownB P gf = true) (hps : ps.all (Nat.blt · n) = true) (hes : ∀ x, (enc x).length = ps.length)
    (I : List α → List HP) (Ix : Code → List α → List HP) (hs : Sb L (I []) R) (hφ : ∀ w, Rdw K R w → φ w)
    (hround : ∀ (W : World) (K3 : Hl) (l : Nat) (pre : List α) (x : α), K.le K3 → pre.length < N → J P n W K3 ⟨some l, noP⟩ [.code assign, .hole (RB P n W K3 K l I Ix (pre ++ [x]) body)] (parTM ps (enc x) ((mkK, encM []) :: tm)) (I pre))
    (hdone : ∀ D xs, St xs → J P n W K F k ((mkK, encM (D :: Ds)) :: tm) (dfr D :: (I xs ++ R)))
    (hstop : ∀ D c pre, Sp pre → J P n W K F (.code c :: k) ((mkK, encM (D :: Ds)) :: tm) (dfr D :: (Ix c pre ++ R))) :
    J P n W K F (.code (.rangeFunc g ps.toArray assign body) :: k) tm L :=
  J_rangeQ (G := fun pre _ => pre.length < N) (Q := fun _ => True) It.q hro hm hg ho hps hes I Ix (fun _ _ => trivial) hs hφ hround hdone hstop
end
end Go.Pm
namespace Go.Pm
set_option linter.unusedSimpArgs false
set_option linter.unusedVariables false
open Go.RowKit

section
variable {P : Program} {n : Nat} {W : World} {K : Hl} {F : Fp} {k : List It} {tm : TM} {L L' R S M C : List HP} {T : TypeId} {pos : String} {af : Array Edge} {gd : Option (Nat × Bool)} {ops : Array Oper} {rest nx : List Oper} {d : Option Tmp}

/-- A struct of two numbers. -/
def eq2 (P : Program) (t : TypeId) (k j : IntKind) : Bool := !P.stoodInHeld t && !P.eqGuardType P.depth t && (match P.underlying t with
  | some (.struct fs) => match fs.toList with
    | [f, g] => f.name != "_" && g.name != "_" && f.offset == 0 && g.offset == 1 && decide (intTy P f.type = some k) && decide (intTy P g.type = some j)
    | _ => false
  | _ => false)
theorem intTy_spec {t : TypeId} {k : IntKind} (h : intTy P t = some k) : P.underlying t = some (.int k) := by
  unfold intTy at h
  split at h
  · rename_i k' hu; cases h; exact hu
  · cases h
theorem run_eq2 {t : TypeId} {k j : IntKind} (h : eq2 P t k j = true) (a b a' b' : Int) (w : World) : (Op.equalIn 10000 t (.agg #[.int k a, .int j b]) (.agg #[.int k a', .int j b'])).run P w = .ok (decide (a = a' ∧ b = b')) w := by
  simp only [eq2, Bool.and_eq_true, Bool.not_eq_true'] at h
  obtain ⟨⟨h1, _⟩, h2⟩ := h
  split at h2
  · rename_i fs hu
    split at h2
    · rename_i f g hfg
      simp only [Bool.and_eq_true, bne_iff_ne, ne_eq, beq_iff_eq, decide_eq_true_eq] at h2
      obtain ⟨⟨⟨⟨⟨n1, n2⟩, o1⟩, o2⟩, i1⟩, i2⟩ := h2
      have e1 := intTy_spec i1
      have e2 := intTy_spec i2
      have hf : P.fieldsOf t = fs := by simp [Program.fieldsOf, hu]
      rw [run_equalIn_struct w 9999 t _ _ (by rw [hf]; exact hu) h1, hf, hfg]
      have p1 : ∀ (x y : Value) w, (part f.type #[x, y] f.offset).run P w = .ok x w := fun x y w => by
        simp [part, Sem.run_bind, run_agg e1, TypeDesc.isRow, o1]
      have p2 : ∀ (x y : Value) w, (part g.type #[x, y] g.offset).run P w = .ok y w := fun x y w => by
        simp [part, Sem.run_bind, run_agg e2, TypeDesc.isRow, o2]
      simp only [Op.eqFields, if_pos (show f.name ≠ "_" from n1), if_pos (show g.name ≠ "_" from n2), Sem.run_bind, p1, p2, Result.andThen_ok, run_equalIn_int w 9998 _ _ _ _ _ e1]
      by_cases ha : a = a'
      · subst ha
        simp only [beq_self_eq_true, Bool.not_true, Bool.false_eq_true, if_false, Sem.run_bind, p2, Result.andThen_ok, run_equalIn_int w 9998 _ _ _ _ _ e2]
        by_cases hb : b = b'
        · subst hb; simp
        · simp [hb]
      · simp [ha]
    · cases h2
  · cases h2
theorem run_g2 {op : BinOp} {t : TypeId} {k j : IntKind} (h : eq2 P t k j = true) (x y : Operand) (xs ys : Array Value) (w : World) : (eqGuard op t x y (.agg xs) (.agg ys)).run P w = .ok () w := by
  simp only [eq2, Bool.and_eq_true, Bool.not_eq_true'] at h
  exact run_eqGuard_agg w op t x y xs ys h.1.2
theorem pe_eq2 {xt yt : TypeId} {x y : Operand} {k j : IntKind} {a b a' b' : Int} (hx : evT tm x = some (.agg [.int k a, .int j b].toArray)) (hy : evT tm y = some (.agg [.int k a', .int j b'].toArray)) (h : eq2 P xt k j = true) : PE P K L ⟨d, .binOp .eql xt x y yt, T, pos, af, gd⟩ (tget tm) (.bool (decide (a = a' ∧ b = b'))) := pe_bin hx hy fun w => by
  simp only [Sem.run_bind, run_g2 h, Result.andThen_ok, run_eql_struct]
  rw [run_eq2 h]
  rfl
theorem pe_ne2 {xt yt : TypeId} {x y : Operand} {k j : IntKind} {a b a' b' : Int} (hx : evT tm x = some (.agg [.int k a, .int j b].toArray)) (hy : evT tm y = some (.agg [.int k a', .int j b'].toArray)) (h : eq2 P xt k j = true) : PE P K L ⟨d, .binOp .neq xt x y yt, T, pos, af, gd⟩ (tget tm) (.bool (decide (¬ (a = a' ∧ b = b')))) := pe_bin hx hy fun w => by
  simp only [Sem.run_bind, run_g2 h, Result.andThen_ok, run_neq_struct]
  rw [run_eq2 h]
  by_cases hp : a = a' ∧ b = b' <;> simp [hp, Result.andThen]

theorem pe_indexA {t : TypeId} {x i : Operand} {cs : List Value} {m j : Nat} {kk : IntKind} {z : Int} {v : Value} (hx : evT tm x = some (.agg cs.toArray)) (hi : evT tm i = some (.int kk z)) (ht : arrInfo P t = some (m, 1, false)) (hz : z = (j : Int)) (hj : j < m) (hv : cs[j]? = some v) : PE P K L ⟨d, .index t x i, T, pos, af, gd⟩ (tget tm) v := fun ρ w ha _ => by
  have h1 := ha x (by simp [Op.operands]) _ hx
  have h2 := ha i (by simp [Op.operands]) _ hi
  obtain ⟨e, inf, de, hu, hin, hsz, hd, hr⟩ := arrInfo_spec ht
  subst hz
  unfold execOp
  simp only [h1, h2]
  have h3 : (0 : Int) ≤ (j : Int) ∧ (j : Int) < (m : Int) := by omega
  simp [Instr.index, Sem.run_bind, run_underlying hu, asIntOf, h3, hj, run_sz hin, hsz, part, run_agg hd, hr, hv]

/-- A cell of which the world is known to hold v. -/
theorem pe_ldH {ty : TypeId} {x : Operand} {p : Addr} {v : Value} (hx : evT tm x = some (.pointer (some p))) (ht : cellTy P ty = true) (h : ∀ w, Rdw K L w → w.cell? p = some v) : PE P K L ⟨d, .load ty x, T, pos, af, gd⟩ (tget tm) v :=
  pe_ldG hx fun w hr => run_load_cell ht (h w hr)
/-- A row that the known memory holds. -/
theorem pe_ldKR {ty : TypeId} {x : Operand} {b i : Nat} {cs : List Value} (hx : evT tm x = some (.pointer (some ⟨b, i, none⟩))) (h : Kn K (fun w => w.rangeAt b i cs)) (ht : rowTy P ty cs.length = true) : PE P K L ⟨d, .load ty x, T, pos, af, gd⟩ (tget tm) (.agg cs.toArray) :=
  pe_ldG hx fun w hr => run_load_row ht (h w hr.1)
theorem pe_ldKS {ty : TypeId} {x : Operand} {b i m : Nat} {T' : TypeId} {cs vs : List Value} (hx : evT tm x = some (.pointer (some ⟨b, i, none⟩))) (h : Kn K (fun w => Blk w b cs.toArray T')) (_hn : (P.info? ty).map (·.size) = some m) (hs : Seg cs i m vs) (ht : rowTy P ty m = true) : PE P K L ⟨d, .load ty x, T, pos, af, gd⟩ (tget tm) (.agg vs.toArray) :=
  pe_ldKR hx (fun w i j v hv => by rw [(h w i).cell]; simpa using hs.get j v hv) (by rw [hs.len]; exact ht)
theorem pe_ldKC {ty : TypeId} {x : Operand} {b i : Nat} {T' : TypeId} {cs : List Value} {v : Value} (hx : evT tm x = some (.pointer (some ⟨b, i, none⟩))) (h : Kn K (fun w => Blk w b cs.toArray T')) (hs : cs[i]? = some v) (ht : cellTy P ty = true) : PE P K L ⟨d, .load ty x, T, pos, af, gd⟩ (tget tm) v :=
  pe_ldG hx fun w hr => run_load_cell ht (by rw [(h w hr.1).cell]; simpa using hs)
/-- A cell that lies within a part. -/
theorem ae_stH {A B : HP} {od : Option Tmp} {t : TypeId} {x y : Operand} {p : Addr} {v : Value} (hx : evT tm x = some (.pointer (some p))) (hy : evT tm y = some v) (ht : cellTy P t = true) (h1 : v.oneCell' = true)
    (h : ∀ W K' w, Ow W K' (A :: R) w → ∃ u, w.cell? p = some u ∧ w.frozen? p = false ∧ Ow W K' (B :: R) (w.setCell p v)) : AE P n K R [A] ⟨od, .store t x y, T, pos, af, gd⟩ (tget tm) (one undef [B]) :=
  ae_stG hx hy fun W K' w _ hO => by
    obtain ⟨u, h2, h3, h4⟩ := h W K' w hO
    exact ⟨_, run_store_cell ht h2 h3 h1, h4⟩
theorem JL_stH {A B : HP} {t : TypeId} {x y : Operand} {p : Addr} {v : Value} (hx : evT tm x = some (.pointer (some p))) (hy : evT tm y = some v) (ht : cellTy P t = true) (h1 : v.oneCell' = true) (hm : Tk L A R)
    (h : ∀ W K' w, Ow W K' (A :: R) w → ∃ u, w.cell? p = some u ∧ w.frozen? p = false ∧ Ow W K' (B :: R) (w.setCell p v)) (hg : wantF ops ⟨none, .store t x y, T, pos, af, gd⟩ (tget tm) = some true) (hk : JL P n W K F ops k rest tm (B :: R)) : JL P n W K F ops k (⟨none, .store t x y, T, pos, af, gd⟩ :: rest) tm L :=
  JL_a0 rfl hg (.cons hm .nil) (ae_stH hx hy ht h1 h) (by rintro _ _ ⟨rfl, rfl⟩; exact hk)
end

/-! Calls, with what is found by the same means every time. -/
section
variable {P : Program} {n : Nat} {W : World} {K : Hl} {F : Fp} {k : List It} {tm : TM} {L R S M C : List HP} {T : TypeId} {pos : String} {af : Array Edge} {gd : Option (Nat × Bool)} {ops : Array Oper} {rest nx : List Oper} {d : Tmp}
variable {c : Operand} {xs : Array Operand} {ts : Array TypeId} {f : FuncId} {first caps : Array Value} {us vs : List Value} {φ : World → Prop} {Rr : Value → List HP → Prop}
theorem JL_goq (Sp : Pact P f vs.toArray φ C Rr) (hc : evT tm c = some (.func (.func f) first caps) := by rfl) (ha : xs.toList.mapM (evT tm) = some us := by rfl) (hv : (first ++ us.toArray ++ caps).toList = vs := by first | rfl | (simp; done) | fail) (hs : Sb L C R := by first | ((with_reducible (repeat (first | exact Sb.nil | apply Sb.cons | exact Tk.here | apply Tk.there))); done) | fail) (hφ : ∀ w, Rdw K R w → φ w) (h : ∀ v L', Rr v L' → JL P n W K F ops k rest ((d, v) :: tm) (L' ++ R)) (ho : ownB P f = true := by first | assumption | decide +kernel) (hn : Nat.blt d n = true := by rfl) (hg : wantF ops ⟨some d, .call ⟨.value c, xs, ts⟩, T, pos, af, gd⟩ (tget tm) = some true := by rfl) :
    JL P n W K F ops k (⟨some d, .call ⟨.value c, xs, ts⟩, T, pos, af, gd⟩ :: rest) tm L := JL_a rfl hn hg hs (ae_go hc ha hv ho Sp hφ) h
theorem JL_go0q (Sp : Pact P f vs.toArray φ C Rr) (hc : evT tm c = some (.func (.func f) first caps) := by rfl) (ha : xs.toList.mapM (evT tm) = some us := by rfl) (hv : (first ++ us.toArray ++ caps).toList = vs := by first | rfl | (simp; done) | fail) (hs : Sb L C R := by first | ((with_reducible (repeat (first | exact Sb.nil | apply Sb.cons | exact Tk.here | apply Tk.there))); done) | fail) (hφ : ∀ w, Rdw K R w → φ w) (h : ∀ v L', Rr v L' → JL P n W K F ops k rest tm (L' ++ R)) (ho : ownB P f = true := by first | assumption | decide +kernel) (hg : wantF ops ⟨none, .call ⟨.value c, xs, ts⟩, T, pos, af, gd⟩ (tget tm) = some true := by rfl) :
    JL P n W K F ops k (⟨none, .call ⟨.value c, xs, ts⟩, T, pos, af, gd⟩ :: rest) tm L := JL_a0 rfl hg hs (ae_go hc ha hv ho Sp hφ) h
theorem JD_goq (Sp : Pact P f vs.toArray φ C Rr) (hc : evT tm c = some (.func (.func f) first caps) := by rfl) (ha : xs.toList.mapM (evT tm) = some us := by rfl) (hv : (first ++ us.toArray ++ caps).toList = vs := by first | rfl | (simp; done) | fail) (hs : Sb M C R := by first | ((with_reducible (repeat (first | exact Sb.nil | apply Sb.cons | exact Tk.here | apply Tk.there))); done) | fail) (hφ : ∀ w, Rdw K (R ++ S) w → φ w) (h : ∀ v L', Rr v L' → JD P n W K F ops k nx rest ((d, v) :: tm) S (L' ++ R)) (ho : ownB P f = true := by first | assumption | decide +kernel) (hg : wantF ops ⟨some d, .call ⟨.value c, xs, ts⟩, T, pos, af, gd⟩ (tget tm) = some true := by rfl) :
    JD P n W K F ops k nx (⟨some d, .call ⟨.value c, xs, ts⟩, T, pos, af, gd⟩ :: rest) tm S M := JD_a rfl hg rfl hs (ae_go hc ha hv ho Sp hφ) h
theorem JD_go0q (Sp : Pact P f vs.toArray φ C Rr) (hc : evT tm c = some (.func (.func f) first caps) := by rfl) (ha : xs.toList.mapM (evT tm) = some us := by rfl) (hv : (first ++ us.toArray ++ caps).toList = vs := by first | rfl | (simp; done) | fail) (hs : Sb M C R := by first | ((with_reducible (repeat (first | exact Sb.nil | apply Sb.cons | exact Tk.here | apply Tk.there))); done) | fail) (hφ : ∀ w, Rdw K (R ++ S) w → φ w) (h : ∀ v L', Rr v L' → JD P n W K F ops k nx rest tm S (L' ++ R)) (ho : ownB P f = true := by first | assumption | decide +kernel) (hg : wantF ops ⟨none, .call ⟨.value c, xs, ts⟩, T, pos, af, gd⟩ (tget tm) = some true := by rfl) :
    JD P n W K F ops k nx (⟨none, .call ⟨.value c, xs, ts⟩, T, pos, af, gd⟩ :: rest) tm S M := JD_a0 rfl hg rfl hs (ae_go hc ha hv ho Sp hφ) h
end
/-- Ahead of a step that acts, where the order is drawn: the parts said otherwise. -/
theorem JD_heapA {P : Program} {n : Nat} {W : World} {K : Hl} {F : Fp} {ops : Array Oper} {k : List It} {nx rest : List Oper} {o : Oper} {tm : TM} {S M M' : List HP} (hg : wantF ops o (tget tm) = some true) (hk : kindOp o.op = 2) (hh : ∀ W K w, Ow W K M w → Ow W K M' w) (h : JD P n W K F ops k nx (o :: rest) tm S M') : JD P n W K F ops k nx (o :: rest) tm S M := .mk <| fun W2 K' w a hK hf hO => by
  obtain ⟨hR, sR, dR, H1, back⟩ := hO.frame (L := M) (R := S)
  have hO' : Ow W2 K' (M' ++ S) w := back M' w (hh W2 (K'.add hR) w H1)
  rcases h.h W2 K' w a hK hf hO' with ⟨hg', _⟩ | ⟨_, h2⟩
  · rw [hg] at hg'; cases hg'
  · refine .inr ⟨hg, .inr (.inr ⟨hk, ?_⟩)⟩
    rcases h2 with ⟨k0, _⟩ | ⟨k0, _⟩ | ⟨_, h3⟩
    · rw [hk] at k0; cases k0
    · rw [hk] at k0; cases k0
    · exact h3

/-! Numbers. -/
theorem bits_andNot {a : Int} {m : Nat} (h0 : 0 ≤ a) (h1 : a < 4294967296) (hm : m ≤ 32) : bits .andNot .u32 a (2 ^ m - 1) = a - a % 2 ^ m := by
  obtain ⟨x, rfl⟩ : ∃ x : Nat, a = x := ⟨a.toNat, by omega⟩
  have hx : x < 2 ^ 32 := by omega
  have hpm : 2 ^ m ≤ 2 ^ 32 := Nat.pow_le_pow_right (by omega) hm
  have hp0 : 0 < 2 ^ m := Nat.pow_pos (by omega)
  have e0 : ((2 : Int) ^ m - 1) = ((2 ^ m - 1 : Nat) : Int) := by
    rw [Int.ofNat_sub hp0]; simp
  have e1 : (x : Int) - (x : Int) % 2 ^ m = ((x - x % 2 ^ m : Nat) : Int) := by
    rw [Int.ofNat_sub (Nat.mod_le _ _)]; simp
  rw [e0, e1]
  have key : (BitVec.ofInt 32 (x : Int) &&& ~~~ BitVec.ofInt 32 ((2 ^ m - 1 : Nat) : Int)).toNat = x - x % 2 ^ m := by
    rw [BitVec.toNat_and, BitVec.toNat_not]
    simp only [BitVec.toNat_ofInt]
    have e2 : ((x : Int) % (2 ^ 32 : Nat)).toNat = x := by omega
    have e3 : (((2 ^ m - 1 : Nat) : Int) % (2 ^ 32 : Nat)).toNat = 2 ^ m - 1 := by
      have : (2 ^ m - 1 : Nat) < 2 ^ 32 := by omega
      rw [← Int.natCast_emod, Nat.mod_eq_of_lt this]; simp
    rw [e2, e3]
    apply Nat.eq_of_testBit_eq
    intro i
    rw [Nat.testBit_and]
    have e4 : x - x % 2 ^ m = 2 ^ m * (x / 2 ^ m) := by have := Nat.div_add_mod x (2 ^ m); omega
    rw [e4, Nat.testBit_two_pow_mul, Nat.testBit_div_two_pow]
    have e5 : (2 ^ 32 - 1 - (2 ^ m - 1)).testBit i = (decide (i < 32) && !decide (i < m)) := by
      rw [show 2 ^ 32 - 1 - (2 ^ m - 1) = 2 ^ 32 - ((2 ^ m - 1) + 1) by omega, Nat.testBit_two_pow_sub_succ (by omega), Nat.testBit_two_pow_sub_one]
    rw [e5]
    by_cases hi : i < 32
    · by_cases hmi : m ≤ i
      · simp [hi, hmi, Nat.not_lt.2 hmi]
      · simp [hi, hmi, Nat.lt_of_not_le hmi]
    · have : x.testBit i = false := Nat.testBit_lt_two_pow (Nat.lt_of_lt_of_le hx (Nat.pow_le_pow_right (by omega) (by omega)))
      by_cases hmi : m ≤ i <;> simp [hi, this, hmi]
  show IntKind.u32.wrap ((BitVec.ofInt 32 (x : Int) &&& ~~~ BitVec.ofInt 32 ((2 ^ m - 1 : Nat) : Int)).toNat : Int) = _
  rw [key, w_u32 (by omega) (by omega)]
theorem bits_and1 {a : Int} (h0 : 0 ≤ a) (h1 : a < 9223372036854775808) : bits .and .i64 a 1 = a % 2 := by
  obtain ⟨x, rfl⟩ : ∃ x : Nat, a = x := ⟨a.toNat, by omega⟩
  have key : (BitVec.ofInt 64 (x : Int) &&& BitVec.ofInt 64 1).toNat = x % 2 := by
    rw [BitVec.toNat_and]
    simp only [BitVec.toNat_ofInt]
    have e2 : ((x : Int) % (2 ^ 64 : Nat)).toNat = x := by omega
    rw [e2]
    exact Nat.and_one_is_mod x
  show IntKind.i64.wrap ((BitVec.ofInt 64 (x : Int) &&& BitVec.ofInt 64 1).toNat : Int) = _
  rw [key, w_i64 (by omega) (by omega)]
  simp
end Go.Pm
namespace Go.Pm
set_option linter.unusedSimpArgs false
set_option linter.unusedVariables false
open Go.RowKit
theorem xR {p : Prop} (h : p := by rfl) : p := h
theorem xC {p : Prop} (h : p := by decide +kernel) : p := h
theorem xW {p : Prop} (h : p := by first | decide +kernel | rfl) : p := h
theorem xT {p : Prop} (h : p := by first | ((with_reducible (repeat (first | exact Tk.here | apply Tk.there))); done) | fail) : p := h
theorem xA {p : Prop} (h : p := by first | ((with_reducible (repeat (first | exact Tk.here | apply Tk.there))); done) | ((simp only [List.cons_append, List.nil_append]); (with_reducible (repeat (first | exact Tk.here | apply Tk.there))); done) | fail) : p := h
theorem xS {p : Prop} (h : p := by first | ((with_reducible (repeat (first | exact Sb.nil | apply Sb.cons | exact Tk.here | apply Tk.there))); done) | fail) : p := h
theorem xG {p : Prop} (h : p := by first | ((repeat (first | exact Seg.e | apply Seg.t | apply Seg.s)); done) | fail) : p := h
theorem xE {p : Prop} (h : p := by first | ((repeat (first | exact SetAt.z | apply SetAt.s)); done) | fail) : p := h
theorem xP {p : Prop} (h : p := by first | ((repeat (first | exact Put.e | apply Put.t | apply Put.s)); done) | fail) : p := h
theorem xN {p : Prop} (h : p := by first | ((repeat (first | exact Nrm.nil | apply Nrm.cons)); done) | fail) : p := h
theorem xI {p : Prop} (h : p := by first | exact il0 | exact il1 | exact il2 | exact il3 | exact ic_succ _ | rfl | exact (Int.toNat_of_nonneg (by omega)).symm) : p := h
theorem xV {p : Prop} (h : p := by first | exact Src.kn (by assumption) | exact Src.ar xA | exact Src.vr xA | exact Src.sl xA | exact Src.ofV xA) : p := h
theorem xO {p : Prop} (h : p := by omega) : p := h
theorem xL {p : Prop} (h : p := by intro _; rfl) : p := h
theorem xK {p : Prop} (h : p := by intro _; kernel_rfl) : p := h
theorem xU {p : Prop} (h : p := by exact all_one _ (by intro _ _; rfl)) : p := h
theorem xD {p : Prop} (h : p := by first | ((repeat (first | exact Pick.nil | apply Pick.cons rfl)); done) | fail) : p := h
theorem xH {p : Prop} (h : p := by assumption) : p := h
theorem xB {p : Prop} (h : p := by first | assumption | decide +kernel) : p := h
theorem xF {p : Prop} (h : p := by exact fun _ _ => trivial) : p := h
theorem xZ {p : Prop} (h : p := by first | ((with_reducible (repeat (first | exact Sb.nil | apply Sb.cons | exact Tk.here | apply Tk.there))); done) | ((repeat (first | exact Sb.nil | apply Sb.cons | exact Tk.here | apply Tk.there)); done)) : p := h
theorem xQ {p : Prop} (h : p := by first | rfl | (simp; done) | fail) : p := h
end Go.Pm
