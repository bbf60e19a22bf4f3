/-
  Jr, Jo, Jq: merged.
-/
import Derived.Test.YtdnokmpnemaoaaaGreatZViewChooses9
import Derived.Laws.StructEq
namespace Go.Pm
set_option linter.unusedSimpArgs false
set_option linter.unusedVariables false
open Go.RowKit

def yldV (l : Nat) : Value := .func (.yield l) #[] #[]
def Yld (P : Program) (K0 : Hl) (l : Nat) (args : Array Value) (C : List HP) (Φ : Value → List HP → Prop) : Prop :=
  ∀ W K w, K0.le K → Ow W K C w → ∃ fn tmps assign body, (Instr.yield l args).run P w = .ok (.round l fn tmps assign body) w ∧ RoundIn Fence.wide 0 P l fn tmps assign body w (retR W K Φ)

section
variable {P : Program} {n : Nat} {W : World} {K : Hl} {F : Fp} {k : List It} {tm : TM} {L L' R S M C : List HP} {T : TypeId} {pos : String} {af : Array Edge} {gd : Option (Nat × Bool)} {ops : Array Oper} {rest nx : List Oper} {d : Tmp}

theorem ae_yield {od : Option Tmp} {c : Operand} {xs : Array Operand} {ts : Array TypeId} {l : Nat} {us : List Value} {Φ : Value → List HP → Prop} {K0 : Hl} (Y : Yld P K0 l us.toArray C Φ) (hK0 : K0.le K) (hc : evT tm c = some (yldV l)) (ha : xs.toList.mapM (evT tm) = some us) :
    AE P n K R C ⟨od, .call ⟨.value c, xs, ts⟩, T, pos, af, gd⟩ (tget tm) Φ := fun W K' w a next hK hf hO hn => by
  have e1 : xs.map a.eval = us.toArray := Array.ext' (by rw [Array.toList_map]; exact mapM_eval hf ha)
  obtain ⟨hR, sR, dR, H1, back⟩ := hO.frame
  obtain ⟨fn, tmps, assign, body, hy, hr⟩ := Y W (K'.add hR) w (hK0.trans (hK.trans (Hl.le_add _ _))) H1
  have hev : a.eval c = .func (.yield l) #[] #[] := hf.eval hc
  have hx : (execOp a.eval ⟨od, .call ⟨.value c, xs, ts⟩, T, pos, af, gd⟩).run P w = .ok (.round l fn tmps assign body) w := by
    unfold execOp
    simp only [resolve, e1, hev, Deferred.ofValue, Sem.run_bind, Sem.run_pure, Result.andThen_ok, invoke]
    simpa using hy
  refine ⟨fun _ _ => trivial, ?_⟩
  show Oper.uponIn Fence.wide 0 P _ a next _ ((execOp a.eval ⟨od, .call ⟨.value c, xs, ts⟩, T, pos, af, gd⟩).run P w)
  rw [hx]
  refine ⟨fun h => by simp [Fence.wide] at h, RoundIn.mono hr ?_⟩
  rintro e w' ⟨v, L', h1, rfl, h2⟩
  exact hn v L' w' h1 (back L' w' h2)
theorem JL_y {c : Operand} {xs : Array Operand} {ts : Array TypeId} {l : Nat} {us : List Value} {Φ : Value → List HP → Prop} {K0 : Hl} (Y : Yld P K0 l us.toArray C Φ) (hK0 : K0.le K) (hc : evT tm c = some (yldV l)) (ha : xs.toList.mapM (evT tm) = some us) (hs : Sb L C R) (hn : Nat.blt d n = true) (hg : wantF ops ⟨some d, .call ⟨.value c, xs, ts⟩, T, pos, af, gd⟩ (tget tm) = some true)
    (h : ∀ v L', Φ v L' → JL P n W K F ops k rest ((d, v) :: tm) (L' ++ R)) : JL P n W K F ops k (⟨some d, .call ⟨.value c, xs, ts⟩, T, pos, af, gd⟩ :: rest) tm L := JL_a rfl hn hg hs (ae_yield Y hK0 hc ha) h
theorem JD_y {c : Operand} {xs : Array Operand} {ts : Array TypeId} {l : Nat} {us : List Value} {Φ : Value → List HP → Prop} {K0 : Hl} (Y : Yld P K0 l us.toArray C Φ) (hK0 : K0.le K) (hc : evT tm c = some (yldV l)) (ha : xs.toList.mapM (evT tm) = some us) (hs : Sb M C R) (hg : wantF ops ⟨some d, .call ⟨.value c, xs, ts⟩, T, pos, af, gd⟩ (tget tm) = some true)
    (h : ∀ v L', Φ v L' → JD P n W K F ops k nx rest ((d, v) :: tm) S (L' ++ R)) : JD P n W K F ops k nx (⟨some d, .call ⟨.value c, xs, ts⟩, T, pos, af, gd⟩ :: rest) tm S M := JD_a rfl hg rfl hs (ae_yield Y hK0 hc ha) h

def Iter {α : Type} (P : Program) (f : FuncId) (args : Nat → List Value) (φ : World → Prop) (enc : α → List Value) (N : Nat) (S Sp : List α → Prop) : Prop :=
  ∀ (K0 : Hl) (l : Nat) (Y Yx : List α → HP), (∀ pre x, pre.length < N → Yld P K0 l (enc x).toArray [Y pre] (fun v L' => (v = .bool true ∧ L' = [Y (pre ++ [x])]) ∨ (v = .bool false ∧ L' = [Yx (pre ++ [x])]))) →
    ∀ W K w, K0.le K → Kn K φ → Ow W K [Y []] w → Calls P f (args l).toArray w (retR W K (fun _ L' => (∃ xs, S xs ∧ L' = [Y xs]) ∨ ∃ pre, Sp pre ∧ L' = [Yx pre]))
def IterQ {α : Type} (P : Program) (f : FuncId) (args : Nat → List Value) (φ : World → Prop) (enc : α → List Value) (G : List α → α → Prop) (S Sp : List α → Prop) (Q : (List α → HP) → Prop) : Prop :=
  ∀ (K0 : Hl) (l : Nat) (Y Yx : List α → HP), Q Y → (∀ pre x, G pre x → Yld P K0 l (enc x).toArray [Y pre] (fun v L' => (v = .bool true ∧ L' = [Y (pre ++ [x])]) ∨ (v = .bool false ∧ L' = [Yx (pre ++ [x])]))) →
    ∀ W K w, K0.le K → Kn K φ → Ow W K [Y []] w → Calls P f (args l).toArray w (retR W K (fun _ L' => (∃ xs, S xs ∧ L' = [Y xs]) ∨ ∃ pre, Sp pre ∧ L' = [Yx pre]))
theorem Iter.q {α : Type} {f : FuncId} {args : Nat → List Value} {φ : World → Prop} {enc : α → List Value} {N : Nat} {S Sp : List α → Prop} (It : Iter P f args φ enc N S Sp) : IterQ P f args φ enc (fun pre _ => pre.length < N) S Sp (fun _ => True) := fun K0 l Y Yx _ => It K0 l Y Yx
theorem iterQ {α : Type} {f : FuncId} {fn : Func} {c : Code} {args : Nat → List Value} {φ : World → Prop} {enc : α → List Value} {G : List α → α → Prop} {St Sp : List α → Prop} {Q : (List α → HP) → Prop} (hf : P.funcs[f]? = some fn) (hb : fn.body = some c) {nt : Nat} (hn : fn.ntmps = nt) (ha : ∀ l, (Nat.ble (args l).length nt && Nat.ble nt 1000000) = true)
    (h : ∀ (K0 : Hl) (l : Nat) (Y Yx : List α → HP), Q Y → (∀ pre x, G pre x → Yld P K0 l (enc x).toArray [Y pre] (fun v L' => (v = .bool true ∧ L' = [Y (pre ++ [x])]) ∨ (v = .bool false ∧ L' = [Yx (pre ++ [x])]))) →
      ∀ W K, K0.le K → Kn K φ → J P nt W K (fpost P fn W K (fun _ L' => (∃ xs, St xs ∧ L' = [Y xs]) ∨ ∃ pre, Sp pre ∧ L' = [Yx pre])) [.code c] (argTM 0 (args l)) [Y []]) : IterQ P f args φ enc G St Sp Q := fun K0 l Y Yx hQ hY W K w hK hφ H =>
  J_start hf hb hn (by have := ha l; simp at this ⊢; omega) (by have := ha l; simp at this; show nt ≤ 1000000; omega) H (fun t v e => by have := argTM_get (args l) 0 t v e; simpa using this.2) (h K0 l Y Yx hQ hY W K hK hφ)
theorem iter {α : Type} {f : FuncId} {fn : Func} {c : Code} {args : Nat → List Value} {φ : World → Prop} {enc : α → List Value} {N : Nat} {St Sp : List α → Prop} (hf : P.funcs[f]? = some fn) (hb : fn.body = some c) {nt : Nat} (hn : fn.ntmps = nt) (ha : ∀ l, (Nat.ble (args l).length nt && Nat.ble nt 1000000) = true)
    (h : ∀ (K0 : Hl) (l : Nat) (Y Yx : List α → HP), (∀ pre x, pre.length < N → Yld P K0 l (enc x).toArray [Y pre] (fun v L' => (v = .bool true ∧ L' = [Y (pre ++ [x])]) ∨ (v = .bool false ∧ L' = [Yx (pre ++ [x])]))) →
      ∀ W K, K0.le K → Kn K φ → J P nt W K (fpost P fn W K (fun _ L' => (∃ xs, St xs ∧ L' = [Y xs]) ∨ ∃ pre, Sp pre ∧ L' = [Yx pre])) [.code c] (argTM 0 (args l)) [Y []]) : Iter P f args φ enc N St Sp := fun K0 l Y Yx hY W K w hK hφ H =>
  J_start hf hb hn (by have := ha l; simp at this ⊢; omega) (by have := ha l; simp at this; show nt ≤ 1000000; omega) H (fun t v e => by have := argTM_get (args l) 0 t v e; simpa using this.2) (h K0 l Y Yx hY W K hK hφ)

/-! A round. -/
def rndPost {α : Type} (W : World) (K : Hl) (I : List α → List HP) (Ix : Code → List α → List HP) (pre : List α) : Exit → Act → World → Prop
  | .normal, _, w => Ow W K (I pre) w
  | .ret, _, w => Ow W K (Ix .ret pre) w
  | .exit id, _, w => Ow W K (Ix (.exit id) pre) w
  | .goto t, _, w => Ow W K (Ix (.goto t) pre) w
  | _, _, _ => False
def noP : Exit → Act → World → Prop := fun _ _ _ => False
def RB {α : Type} (P : Program) (n : Nat) (W : World) (K3 K : Hl) (l : Nat) (I : List α → List HP) (Ix : Code → List α → List HP) (pre : List α) (body : Code) : Act → World → Prop := fun a w =>
  ∃ tm1 L1, Fit n (tget tm1) a ∧ Ow W K3 L1 w ∧ ∀ K4, K.le K4 → Kn K4 (fun w => ∃ r, w.heap[l]? = some (.loop r)) → J P n W K4 ⟨some l, rndPost W K4 I Ix pre⟩ [.code body] tm1 L1
theorem J_body {α : Type} {K0 : Hl} {l : Nat} {I : List α → List HP} {Ix : Code → List α → List HP} {pre : List α} {body : Code} (h : ∀ K4, K0.le K4 → Kn K4 (fun w => ∃ r, w.heap[l]? = some (.loop r)) → J P n W K4 ⟨some l, rndPost W K4 I Ix pre⟩ [.code body] tm L) : J P n W K F (.hole (RB P n W K K0 l I Ix pre body) :: k) tm L := .mk <|
  fun _ w hf hO => ⟨tm, L, hf, hO, h⟩
theorem J_rnd {α : Type} {l : Nat} {I : List α → List HP} {Ix : Code → List α → List HP} {pre : List α} (h : ∀ w, Ow W K L w → Ow W K (I pre) w) : J P n W K ⟨some l, rndPost W K I Ix pre⟩ [] tm L := .mk <| fun _ w _ hO => h w hO
theorem J_rndRet {α : Type} {l : Nat} {I : List α → List HP} {Ix : Code → List α → List HP} {pre : List α} (h : ∀ w, Ow W K L w → Ow W K (Ix .ret pre) w) : J P n W K ⟨some l, rndPost W K I Ix pre⟩ (.code .ret :: k) tm L := .mk <| fun _ w _ hO => wpIn_ret (runK_ret (h w hO))
theorem runK_popN {id : Nat} : ∀ {k : List It}, popK id k = none → ∀ a w, F.post (.exit id) a w → runK P F k (.exit id) a w
  | [], _, _, _, h => h
  | .blk i :: k, h, a, w, h2 => by
    simp only [popK] at h
    by_cases hi : id = i
    · subst hi; simp at h
    · have : Nat.beq id i = false := by rw [Bool.eq_false_iff]; intro hb; exact hi (Nat.eq_of_beq_eq_true hb)
      rw [this] at h
      simp only [runK, Exit.inBlock, if_neg hi]
      exact runK_popN h a w h2
  | .code _ :: k, h, a, w, h2 => by simpa only [runK, Exit.then] using runK_popN (k := k) h a w h2
  | .hole _ :: k, h, a, w, h2 => by simpa only [runK, Exit.then] using runK_popN (k := k) h a w h2
  | .jmp _ _ :: k, h, a, w, h2 => by simpa only [runK, Exit.jump] using runK_popN (k := k) h a w h2
theorem J_rndExit {α : Type} {l id : Nat} {I : List α → List HP} {Ix : Code → List α → List HP} {pre : List α} (hp : popK id k = none) (h : ∀ w, Ow W K L w → Ow W K (Ix (.exit id) pre) w) : J P n W K ⟨some l, rndPost W K I Ix pre⟩ (.code (.exit id) :: k) tm L := .mk <| fun a w _ hO => wpIn_exit (runK_popN hp a w (h w hO))

def parTM : List Tmp → List Value → TM → TM
  | p :: ps, v :: vs, tm => parTM ps vs ((p, v) :: tm)
  | _, _, tm => tm
theorem Fit.par {ds : List Deferred} : ∀ (ps : List Tmp) (vs : List Value) (tm : TM) (tmps : Array Value), ps.all (Nat.blt · n) = true → (tmps.size = n ∧ n ≤ mkK ∧ ∀ t v, t ≠ mkK → tget tm t = some v → tmps[t]? = some v) →
    let t' := (ps.zip vs).foldl (fun t (p, v) => t.setIfInBounds p v) tmps
    t'.size = n ∧ n ≤ mkK ∧ ∀ t v, t ≠ mkK → tget (parTM ps vs tm) t = some v → t'[t]? = some v
  | [], _, tm, tmps, _, h => by simpa [parTM] using h
  | p :: ps, [], tm, tmps, _, h => by simpa [parTM] using h
  | p :: ps, v :: vs, tm, tmps, hp, h => by
    simp only [List.all_cons, Bool.and_eq_true] at hp
    have hpl : p < n := by simpa using hp.1
    simp only [List.zip_cons_cons, List.foldl_cons, parTM]
    refine Fit.par (ds := ds) ps vs ((p, v) :: tm) _ hp.2 ⟨by simpa using h.1, h.2.1, fun t u ht hu => ?_⟩
    simp only [Array.getElem?_setIfInBounds]
    by_cases e : p = t
    · subst e
      simp [tget] at hu
      rw [if_pos rfl, if_pos (by rw [h.1]; exact hpl), hu]
    · rw [if_neg e]
      have : Nat.beq p t = false := by rw [Bool.eq_false_iff]; intro hb; exact e (Nat.eq_of_beq_eq_true hb)
      simp only [tget, this] at hu
      exact h.2.2 t u ht hu

theorem ob_in {D : Nat} {o : Obj} {w : World} (H : Ow W K (ob D o :: L) w) : w.heap[D]? = some o := by
  obtain ⟨h, hA, i⟩ := H.part
  obtain rfl : h = Hl.one D o := hA
  exact i D _ (by simp [Hl.one])
theorem kn_ob {hR : Hl} {D : Nat} {o : Obj} {M : List HP} (s : sats M hR) (t : Tk M (ob D o) R) (hd : hR.disj K) : Kn (K.add hR) (fun w => w.heap[D]? = some o) := fun w i => by
  obtain ⟨h1, h2, hA, _, d', rfl⟩ := sats_perm t.perm _ s
  obtain rfl : h1 = Hl.one D o := hA
  exact ((Hl.inn_add d').1 ((Hl.inn_add hd.symm).1 i).2).1 D _ (by simp [Hl.one])

theorem J_rangeQ {α : Type} {enc : α → List Value} {g : Operand} {ps : List Tmp} {assign body : Code} {gf : FuncId} {first lb : List Value} {φ : World → Prop} {G : List α → α → Prop} {St Sp : List α → Prop} {Q : (List α → HP) → Prop} {Ds : List Nat}
    (It : IterQ P gf (fun l => first ++ yldV l :: lb) φ enc G St Sp Q) (hro : F.ro = none) (hm : decM (tget tm mkK) = Ds) (hg : evT tm g = some (.func (.func gf) first.toArray lb.toArray)) (ho : ownB P gf = true) (hps : ps.all (Nat.blt · n) = true) (hes : ∀ x, (enc x).length = ps.length)
    (I : List α → List HP) (Ix : Code → List α → List HP) (hQ : ∀ A B : HP, Q (fun pre => sats (A :: B :: I pre))) (hs : Sb L (I []) R) (hφ : ∀ w, Rdw K R w → φ w)
    (hround : ∀ (W : World) (K3 : Hl) (l : Nat) (pre : List α) (x : α), K.le K3 → G pre x → J P n W K3 ⟨some l, noP⟩ [.code assign, .hole (RB P n W K3 K l I Ix (pre ++ [x]) body)] (parTM ps (enc x) ((mkK, encM []) :: tm)) (I pre))
    (hdone : ∀ D xs, St xs → J P n W K F k ((mkK, encM (D :: Ds)) :: tm) (dfr D :: (I xs ++ R)))
    (hstop : ∀ D c pre, Sp pre → J P n W K F (.code c :: k) ((mkK, encM (D :: Ds)) :: tm) (dfr D :: (Ix c pre ++ R))) :
    J P n W K F (.code (.rangeFunc g ps.toArray assign body) :: k) tm L := .mk <| fun a w hf hO => by
  refine wpIn_rangeFunc fun fn _ => ?_
  rw [show (wideR F.ro).round = none from hro]
  obtain ⟨rec, hrec⟩ : ∃ rec : LoopState → Option Code → Loop, rec = fun st pe => { state := st, pending := pe, fn, tmps := a.tmps, params := ps.toArray, assign, body, defers := w.heap.size } := ⟨_, rfl⟩
  obtain ⟨D, hD⟩ : ∃ D, D = w.heap.size := ⟨_, rfl⟩
  obtain ⟨l, hl⟩ : ∃ l, l = w.heap.size + 1 := ⟨_, rfl⟩
  have H1 : Ow W K (ob l (.loop (rec .ready none)) :: dfr D :: (I [] ++ R)) ((w.alloc (.deferred (some []))).alloc (.loop (rec .ready none))) := by
    have h1 := (hO.sb hs).alloc (.deferred (some []))
    have h2 := h1.alloc (.loop (rec .ready none))
    rw [World.size_alloc, ← hl, ← hD] at h2
    exact h2
  obtain ⟨W1, hW1⟩ : ∃ W1, (w.alloc (.deferred (some []))).alloc (.loop (rec .ready none)) = W1 := ⟨_, rfl⟩
  rw [hW1] at H1
  refine ⟨l, [mark D], W1, { target := .fn (.func gf) lb.toArray, args := first.toArray ++ #[yldV l] }, W1, gf, first.toArray ++ #[yldV l] ++ lb.toArray, W1, ?_, ?_, fun _ _ => trivial, ?_, fun h => by simp [Fence.wide] at h, ?_⟩
  · rw [← hW1, hrec, hl, hD]; exact run_enterLoop_outer _ _ _ _ _
  · simp only [resolve, hf.eval hg, Deferred.ofValue]
    simp [Act.eval, yldV]
  · simp only [invoke]
    exact run_own ho _ _
  -- the iterator
  let Y : List α → HP := fun pre => sats (dfr D :: ob l (.loop (rec .ready none)) :: I pre)
  let Yx : List α → HP := fun pre h => ∃ c, sats (dfr D :: ob l (.loop (rec .done (some c))) :: Ix c pre) h
  have hY : ∀ pre x, G pre x → Yld P K l (enc x).toArray [Y pre] (fun v L' => (v = .bool true ∧ L' = [Y (pre ++ [x])]) ∨ (v = .bool false ∧ L' = [Yx (pre ++ [x])])) := by
    intro pre x hlen W2 K2 w2 hKK H2
    have H3 : Ow W2 K2 (dfr D :: ob l (.loop (rec .ready none)) :: I pre) w2 := by simpa using H2.flat (As := dfr D :: ob l (.loop (rec .ready none)) :: I pre) .here
    have H4 : Ow W2 K2 (I pre ++ [ob l (.loop (rec .ready none)), dfr D]) w2 := H3.perm (by
      refine (List.Perm.swap _ _ _).trans ?_
      exact (List.perm_append_comm (l₁ := [ob l (.loop (rec .ready none)), dfr D]) (l₂ := I pre)))
    have hl2 : w2.heap[l]? = some (.loop (rec .ready none)) := ob_in (H3.perm (List.Perm.swap _ _ _))
    have hy := run_yield (P := P) (args := (enc x).toArray) hl2 (by rw [hrec]; simpa using hes x)
    refine ⟨_, _, _, _, hy, ?_⟩
    obtain ⟨hR, sR, dR, H5, back⟩ := H4.frame
    have hfit := Fit.par (n := n) (ds := []) ps (enc x) ((mkK, encM []) :: tm) a.tmps hps ⟨hf.sz, hf.lt, fun t v ht hv => hf.v t v ht (by
      have : Nat.beq mkK t = false := by rw [Bool.eq_false_iff]; intro hb; exact ht (Nat.eq_of_beq_eq_true hb).symm
      simpa [tget, this] using hv)⟩
    have hmk : tget (parTM ps (enc x) ((mkK, encM []) :: tm)) mkK = some (encM []) := by
      have key : ∀ (ps : List Tmp) (vs : List Value) (tm : TM), ps.all (Nat.blt · n) = true → tget (parTM ps vs tm) mkK = tget tm mkK := by
        intro ps
        induction ps with
        | nil => intro vs tm _; rfl
        | cons p ps ih =>
          intro vs tm hp
          simp only [List.all_cons, Bool.and_eq_true] at hp
          cases vs with
          | nil => rfl
          | cons v vs =>
            rw [parTM, ih vs _ hp.2]
            have hpl : p < n := by simpa using hp.1
            have : Nat.beq p mkK = false := by rw [Bool.eq_false_iff]; intro hb; have := Nat.eq_of_beq_eq_true hb; have := hf.lt; subst_vars; exact absurd hpl (Nat.not_lt.2 this)
            simp [tget, this]
      rw [key _ _ _ hps]
      rfl
    have hJ := (hround W2 (K2.add hR) l pre x (Hl.le.trans hKK (Hl.le_add _ _)) hlen).h _ w2 (⟨by rw [hmk, dec_enc]; rfl, hfit.1, hfit.2.1, hfit.2.2⟩ : Fit n _ { tmps := (ps.zip (enc x)).foldl (fun t (p, v) => t.setIfInBounds p v) a.tmps, defers := [] }) H5
    have htm : ((rec .ready none).params.zip (enc x).toArray).foldl (fun tmps (t, a) => tmps.setIfInBounds t a) (rec .ready none).tmps = (ps.zip (enc x)).foldl (fun t (p, v) => t.setIfInBounds p v) a.tmps := by
      rw [hrec]
      simp
    have e1 : (rec .ready none).assign = assign := by rw [hrec]
    have e2 : (rec .ready none).body = body := by rw [hrec]
    rw [htm, e1, e2]
    refine roundIn_of_wpIn (F := Fence.wide) trivial (wpIn_mono (F := wideR (some l)) hJ ?_)
    rintro e a1 w1 he
    cases e with
    | normal =>
      obtain ⟨tm1, L1, hf1, H6, hbody⟩ := he
      have H7 : Ow W2 K2 (ob l (.loop (rec .ready none)) :: (dfr D :: L1)) w1 := (back L1 w1 H6).perm (by
        exact (List.perm_append_comm (l₁ := L1) (l₂ := [ob l (.loop (rec .ready none)), dfr D])))
      have hbr := run_beginRound (P := P) (ob_in H7) (by rw [hrec])
      have H8 := H7.putOb (.loop { rec .ready none with state := .busy })
      have H9 : Ow W2 K2 (L1 ++ [ob l (.loop { rec .ready none with state := .busy }), dfr D]) _ := H8.perm (List.perm_append_comm (l₁ := [ob l (.loop { rec .ready none with state := .busy }), dfr D]) (l₂ := L1))
      obtain ⟨hR2, sR2, dR2, H10, back2⟩ := H9.frame
      refine ⟨_, hbr, wpIn_mono (F := wideR (some l)) ((hbody (K2.add hR2) (Hl.le.trans hKK (Hl.le_add _ _)) ((kn_ob sR2 .here dR2).imp fun w h => ⟨_, h⟩)).h a1 _ hf1 H10) ?_⟩
      have fin : ∀ (jump : Option Code) (M : List HP) (w3 : World), Ow W2 (K2.add hR2) M w3 → ∃ v w4, (Instr.endRound l jump).run P w3 = .ok v w4 ∧ v = .bool jump.isNone ∧ Ow W2 K2 (dfr D :: ob l (.loop (rec (if jump.isNone then .ready else .done) jump)) :: M) w4 := fun jump M w3 H11 => by
        have H12 : Ow W2 K2 (ob l (.loop { rec .ready none with state := .busy }) :: (dfr D :: M)) w3 := (back2 M w3 H11).perm (List.perm_append_comm (l₁ := M) (l₂ := [ob l (.loop { rec .ready none with state := .busy }), dfr D]))
        have her := run_endRound (P := P) jump (ob_in H12)
        refine ⟨_, _, her, rfl, ?_⟩
        have H13 := H12.putOb (.loop (rec (if jump.isNone then .ready else .done) jump))
        have e3 : ({ rec .ready none with state := .busy } : Loop) = rec .busy none := by rw [hrec]
        have e4 : (Obj.loop { ({ rec .ready none with state := .busy } : Loop) with state := if jump.isNone then .ready else .done, pending := jump }) = .loop (rec (if jump.isNone then .ready else .done) jump) := by rw [hrec]
        rw [e4]
        exact H13.perm (List.Perm.swap _ _ _)
      rintro e3 a3 w3 hp
      cases e3 with
      | normal =>
        obtain ⟨v, w4, h1, h2, h3⟩ := fin none _ w3 hp
        exact ⟨v, w4, h1, v, _, .inl ⟨h2, rfl⟩, rfl, (h3.shut (M := dfr D :: ob l (.loop (rec .ready none)) :: I (pre ++ [x])) (R := []) (A := Y (pre ++ [x])) (by simpa using Sb.all (dfr D :: ob l (.loop (rec .ready none)) :: I (pre ++ [x])) []) (fun k hk => hk))⟩
      | ret =>
        obtain ⟨v, w4, h1, h2, h3⟩ := fin (some .ret) _ w3 hp
        exact ⟨v, w4, h1, v, _, .inr ⟨h2, rfl⟩, rfl, (h3.shut (M := dfr D :: ob l (.loop (rec .done (some .ret))) :: Ix .ret (pre ++ [x])) (R := []) (A := Yx (pre ++ [x])) (by simpa using Sb.all (dfr D :: ob l (.loop (rec .done (some .ret))) :: Ix .ret (pre ++ [x])) []) (fun k hk => ⟨_, hk⟩))⟩
      | exit id =>
        obtain ⟨v, w4, h1, h2, h3⟩ := fin (some (.exit id)) _ w3 hp
        exact ⟨v, w4, h1, v, _, .inr ⟨h2, rfl⟩, rfl, (h3.shut (M := dfr D :: ob l (.loop (rec .done (some (.exit id)))) :: Ix (.exit id) (pre ++ [x])) (R := []) (A := Yx (pre ++ [x])) (by simpa using Sb.all (dfr D :: ob l (.loop (rec .done (some (.exit id)))) :: Ix (.exit id) (pre ++ [x])) []) (fun k hk => ⟨_, hk⟩))⟩
      | goto t =>
        obtain ⟨v, w4, h1, h2, h3⟩ := fin (some (.goto t)) _ w3 hp
        exact ⟨v, w4, h1, v, _, .inr ⟨h2, rfl⟩, rfl, (h3.shut (M := dfr D :: ob l (.loop (rec .done (some (.goto t)))) :: Ix (.goto t) (pre ++ [x])) (R := []) (A := Yx (pre ++ [x])) (by simpa using Sb.all (dfr D :: ob l (.loop (rec .done (some (.goto t)))) :: Ix (.goto t) (pre ++ [x])) []) (fun k hk => ⟨_, hk⟩))⟩
      | panic c => exact hp.elim
      | outgrown => exact hp.elim
    | exit id => exact he.elim
    | goto t => exact he.elim
    | ret => exact he.elim
    | panic c => exact he.elim
    | outgrown => exact he.elim
  have H2 : Ow W K ([Y []] ++ R) W1 := by
    have H3 : Ow W K ((dfr D :: ob l (.loop (rec .ready none)) :: I []) ++ R) W1 := H1.perm (List.Perm.swap _ _ _)
    exact H3.shut (M := dfr D :: ob l (.loop (rec .ready none)) :: I []) (R := R) (A := Y []) (Sb.all _ _) (fun k hk => hk)
  obtain ⟨hR, sR, dR, H3, back⟩ := H2.frame
  have hcall := It K l Y Yx (hQ _ _) hY W (K.add hR) W1 (Hl.le_add _ _) (fun w i => hφ w ⟨((Hl.inn_add dR.symm).1 i).1, hR, sR, dR, ((Hl.inn_add dR.symm).1 i).2⟩) H3
  have hcall2 : CallsIn (wideR F.ro) (0 - 1) P gf (first ++ yldV l :: lb).toArray W1 _ := callsIn_wide.2 hcall
  have eargs : first.toArray ++ #[yldV l] ++ lb.toArray = (first ++ yldV l :: lb).toArray := by simp
  rw [eargs]
  refine hcall2.mono ?_
  rintro e w3 ⟨v, L', hL', rfl, H4⟩
  have hfitD : Fit n (tget ((mkK, encM (D :: Ds)) :: tm)) { a with defers := [mark D] ++ a.defers } := ⟨by
    show [mark D] ++ a.defers = (decM (some (encM (D :: Ds)))).map mark
    rw [dec_enc, hf.d, hm]
    rfl, hf.sz, hf.lt, fun t v ht hv => hf.v t v ht (by
      have : Nat.beq mkK t = false := by rw [Bool.eq_false_iff]; intro hb; exact ht (Nat.eq_of_beq_eq_true hb).symm
      simpa [tget, this] using hv)⟩
  have fin : ∀ (st : LoopState) (pe : Option Code) (M : List HP), st ≠ .busy → Ow W K (dfr D :: ob l (.loop (rec st pe)) :: (M ++ R)) w3 → ∃ w4, (Instr.endLoop l).run P w3 = .ok pe w4 ∧ Ow W K (dfr D :: (M ++ R)) w4 := fun st pe M hb H5 => by
    have H6 := H5.perm (List.Perm.swap _ _ _)
    have hel := run_endLoop (P := P) (ob_in H6) (by rw [hrec]; exact hb)
    have e3 : (rec st pe).pending = pe := by rw [hrec]
    rw [e3] at hel
    exact ⟨_, hel, (H6.putOb _).drop⟩
  rcases hL' with ⟨xs, hx, rfl⟩ | ⟨pre, hx, rfl⟩
  · have H5 : Ow W K ((dfr D :: ob l (.loop (rec .ready none)) :: I xs) ++ R) w3 := (back [Y xs] w3 H4).flat (As := dfr D :: ob l (.loop (rec .ready none)) :: I xs) .here
    obtain ⟨w4, h1, h2⟩ := fin .ready none (I xs) (by simp) H5
    exact ⟨none, w4, h1, (hdone D xs hx).h _ w4 hfitD h2⟩
  · obtain ⟨c, H5⟩ := (back [Yx pre] w3 H4).open (A := Yx pre) .here (Bs := fun c => dfr D :: ob l (.loop (rec .done (some c))) :: Ix c pre) (fun _ h => h)
    obtain ⟨w4, h1, h2⟩ := fin .done (some c) (Ix c pre) (by simp) H5
    exact ⟨some c, w4, h1, (hstop D c pre hx).h _ w4 hfitD h2⟩
theorem J_range {α : Type} {enc : α → List Value} {g : Operand} {ps : List Tmp} {assign body : Code} {gf : FuncId} {first lb : List Value} {φ : World → Prop} {N : Nat} {St Sp : List α → Prop} {Ds : List Nat}
    (It : Iter P gf (fun l => first ++ yldV l :: lb) φ enc N St Sp) (hro : F.ro = none) (hm : decM (tget tm mkK) = Ds) (hg : evT tm g = some (.func (.func gf) first.toArray lb.toArray)) (ho : ownB P gf = true) (hps : ps.all (Nat.blt · n) = true) (hes : ∀ x, (enc x).length = ps.length)
    (I : List α → List HP) (Ix : Code → List α → List HP) (hs : Sb L (I []) R) (hφ : ∀ w, Rdw K R w → φ w)
    (hround : ∀ (W : World) (K3 : Hl) (l : Nat) (pre : List α) (x : α), K.le K3 → pre.length < N → J P n W K3 ⟨some l, noP⟩ [.code assign, .hole (RB P n W K3 K l I Ix (pre ++ [x]) body)] (parTM ps (enc x) ((mkK, encM []) :: tm)) (I pre))
    (hdone : ∀ D xs, St xs → J P n W K F k ((mkK, encM (D :: Ds)) :: tm) (dfr D :: (I xs ++ R)))
    (hstop : ∀ D c pre, Sp pre → J P n W K F (.code c :: k) ((mkK, encM (D :: Ds)) :: tm) (dfr D :: (Ix c pre ++ R))) :
    J P n W K F (.code (.rangeFunc g ps.toArray assign body) :: k) tm L :=
  J_rangeQ (G := fun pre _ => pre.length < N) (Q := fun _ => True) It.q hro hm hg ho hps hes I Ix (fun _ _ => trivial) hs hφ hround hdone hstop
end
end Go.Pm
namespace Go.Pm
set_option linter.unusedSimpArgs false
set_option linter.unusedVariables false
open Go.RowKit

section
variable {P : Program} {n : Nat} {W : World} {K : Hl} {F : Fp} {k : List It} {tm : TM} {L L' R S M C : List HP} {T : TypeId} {pos : String} {af : Array Edge} {gd : Option (Nat × Bool)} {ops : Array Oper} {rest nx : List Oper} {d : Option Tmp}

def eq2 (P : Program) (t : TypeId) (k j : IntKind) : Bool := !P.stoodInHeld t && !P.eqGuardType P.depth t && (match P.underlying t with
  | some (.struct fs) => match fs.toList with
    | [f, g] => f.name != "_" && g.name != "_" && f.offset == 0 && g.offset == 1 && decide (intTy P f.type = some k) && decide (intTy P g.type = some j)
    | _ => false
  | _ => false)
theorem intTy_spec {t : TypeId} {k : IntKind} (h : intTy P t = some k) : P.underlying t = some (.int k) := by
  unfold intTy at h
  split at h
  · rename_i k' hu; cases h; exact hu
  · cases h
theorem run_eq2 {t : TypeId} {k j : IntKind} (h : eq2 P t k j = true) (a b a' b' : Int) (w : World) : (Op.equalIn 10000 t (.agg #[.int k a, .int j b]) (.agg #[.int k a', .int j b'])).run P w = .ok (decide (a = a' ∧ b = b')) w := by
  simp only [eq2, Bool.and_eq_true, Bool.not_eq_true'] at h
  obtain ⟨⟨h1, _⟩, h2⟩ := h
  split at h2
  · rename_i fs hu
    split at h2
    · rename_i f g hfg
      simp only [Bool.and_eq_true, bne_iff_ne, ne_eq, beq_iff_eq, decide_eq_true_eq] at h2
      obtain ⟨⟨⟨⟨⟨n1, n2⟩, o1⟩, o2⟩, i1⟩, i2⟩ := h2
      have e1 := intTy_spec i1
      have e2 := intTy_spec i2
      have hf : P.fieldsOf t = fs := by simp [Program.fieldsOf, hu]
      rw [run_equalIn_struct w 9999 t _ _ (by rw [hf]; exact hu) h1, hf, hfg]
      have p1 : ∀ (x y : Value) w, (part f.type #[x, y] f.offset).run P w = .ok x w := fun x y w => by
        simp [part, Sem.run_bind, run_agg e1, TypeDesc.isRow, o1]
      have p2 : ∀ (x y : Value) w, (part g.type #[x, y] g.offset).run P w = .ok y w := fun x y w => by
        simp [part, Sem.run_bind, run_agg e2, TypeDesc.isRow, o2]
      simp only [Op.eqFields, if_pos (show f.name ≠ "_" from n1), if_pos (show g.name ≠ "_" from n2), Sem.run_bind, p1, p2, Result.andThen_ok, run_equalIn_int w 9998 _ _ _ _ _ e1]
      by_cases ha : a = a'
      · subst ha
        simp only [beq_self_eq_true, Bool.not_true, Bool.false_eq_true, if_false, Sem.run_bind, p2, Result.andThen_ok, run_equalIn_int w 9998 _ _ _ _ _ e2]
        by_cases hb : b = b'
        · subst hb; simp
        · simp [hb]
      · simp [ha]
    · cases h2
  · cases h2
theorem run_g2 {op : BinOp} {t : TypeId} {k j : IntKind} (h : eq2 P t k j = true) (x y : Operand) (xs ys : Array Value) (w : World) : (eqGuard op t x y (.agg xs) (.agg ys)).run P w = .ok () w := by
  simp only [eq2, Bool.and_eq_true, Bool.not_eq_true'] at h
  exact run_eqGuard_agg w op t x y xs ys h.1.2
theorem pe_eq2 {xt yt : TypeId} {x y : Operand} {k j : IntKind} {a b a' b' : Int} (hx : evT tm x = some (.agg [.int k a, .int j b].toArray)) (hy : evT tm y = some (.agg [.int k a', .int j b'].toArray)) (h : eq2 P xt k j = true) : PE P K L ⟨d, .binOp .eql xt x y yt, T, pos, af, gd⟩ (tget tm) (.bool (decide (a = a' ∧ b = b'))) := pe_bin hx hy fun w => by
  simp only [Sem.run_bind, run_g2 h, Result.andThen_ok, run_eql_struct]
  rw [run_eq2 h]
  rfl
theorem pe_ne2 {xt yt : TypeId} {x y : Operand} {k j : IntKind} {a b a' b' : Int} (hx : evT tm x = some (.agg [.int k a, .int j b].toArray)) (hy : evT tm y = some (.agg [.int k a', .int j b'].toArray)) (h : eq2 P xt k j = true) : PE P K L ⟨d, .binOp .neq xt x y yt, T, pos, af, gd⟩ (tget tm) (.bool (decide (¬ (a = a' ∧ b = b')))) := pe_bin hx hy fun w => by
  simp only [Sem.run_bind, run_g2 h, Result.andThen_ok, run_neq_struct]
  rw [run_eq2 h]
  by_cases hp : a = a' ∧ b = b' <;> simp [hp, Result.andThen]

theorem pe_indexA {t : TypeId} {x i : Operand} {cs : List Value} {m j : Nat} {kk : IntKind} {z : Int} {v : Value} (hx : evT tm x = some (.agg cs.toArray)) (hi : evT tm i = some (.int kk z)) (ht : arrInfo P t = some (m, 1, false)) (hz : z = (j : Int)) (hj : j < m) (hv : cs[j]? = some v) : PE P K L ⟨d, .index t x i, T, pos, af, gd⟩ (tget tm) v := fun ρ w ha _ => by
  have h1 := ha x (by simp [Op.operands]) _ hx
  have h2 := ha i (by simp [Op.operands]) _ hi
  obtain ⟨e, inf, de, hu, hin, hsz, hd, hr⟩ := arrInfo_spec ht
  subst hz
  unfold execOp
  simp only [h1, h2]
  have h3 : (0 : Int) ≤ (j : Int) ∧ (j : Int) < (m : Int) := by omega
  simp [Instr.index, Sem.run_bind, run_underlying hu, asIntOf, h3, hj, run_sz hin, hsz, part, run_agg hd, hr, hv]

theorem pe_ldH {ty : TypeId} {x : Operand} {p : Addr} {v : Value} (hx : evT tm x = some (.pointer (some p))) (ht : cellTy P ty = true) (h : ∀ w, Rdw K L w → w.cell? p = some v) : PE P K L ⟨d, .load ty x, T, pos, af, gd⟩ (tget tm) v :=
  pe_ldG hx fun w hr => run_load_cell ht (h w hr)
theorem pe_ldKR {ty : TypeId} {x : Operand} {b i : Nat} {cs : List Value} (hx : evT tm x = some (.pointer (some ⟨b, i, none⟩))) (h : Kn K (fun w => w.rangeAt b i cs)) (ht : rowTy P ty cs.length = true) : PE P K L ⟨d, .load ty x, T, pos, af, gd⟩ (tget tm) (.agg cs.toArray) :=
  pe_ldG hx fun w hr => run_load_row ht (h w hr.1)
theorem pe_ldKS {ty : TypeId} {x : Operand} {b i m : Nat} {T' : TypeId} {cs vs : List Value} (hx : evT tm x = some (.pointer (some ⟨b, i, none⟩))) (h : Kn K (fun w => Blk w b cs.toArray T')) (_hn : (P.info? ty).map (·.size) = some m) (hs : Seg cs i m vs) (ht : rowTy P ty m = true) : PE P K L ⟨d, .load ty x, T, pos, af, gd⟩ (tget tm) (.agg vs.toArray) :=
  pe_ldKR hx (fun w i j v hv => by rw [(h w i).cell]; simpa using hs.get j v hv) (by rw [hs.len]; exact ht)
theorem pe_ldKC {ty : TypeId} {x : Operand} {b i : Nat} {T' : TypeId} {cs : List Value} {v : Value} (hx : evT tm x = some (.pointer (some ⟨b, i, none⟩))) (h : Kn K (fun w => Blk w b cs.toArray T')) (hs : cs[i]? = some v) (ht : cellTy P ty = true) : PE P K L ⟨d, .load ty x, T, pos, af, gd⟩ (tget tm) v :=
  pe_ldG hx fun w hr => run_load_cell ht (by rw [(h w hr.1).cell]; simpa using hs)
theorem ae_stH {A B : HP} {od : Option Tmp} {t : TypeId} {x y : Operand} {p : Addr} {v : Value} (hx : evT tm x = some (.pointer (some p))) (hy : evT tm y = some v) (ht : cellTy P t = true) (h1 : v.oneCell' = true)
    (h : ∀ W K' w, Ow W K' (A :: R) w → ∃ u, w.cell? p = some u ∧ w.frozen? p = false ∧ Ow W K' (B :: R) (w.setCell p v)) : AE P n K R [A] ⟨od, .store t x y, T, pos, af, gd⟩ (tget tm) (one undef [B]) :=
  ae_stG hx hy fun W K' w _ hO => by
    obtain ⟨u, h2, h3, h4⟩ := h W K' w hO
    exact ⟨_, run_store_cell ht h2 h3 h1, h4⟩
theorem JL_stH {A B : HP} {t : TypeId} {x y : Operand} {p : Addr} {v : Value} (hx : evT tm x = some (.pointer (some p))) (hy : evT tm y = some v) (ht : cellTy P t = true) (h1 : v.oneCell' = true) (hm : Tk L A R)
    (h : ∀ W K' w, Ow W K' (A :: R) w → ∃ u, w.cell? p = some u ∧ w.frozen? p = false ∧ Ow W K' (B :: R) (w.setCell p v)) (hg : wantF ops ⟨none, .store t x y, T, pos, af, gd⟩ (tget tm) = some true) (hk : JL P n W K F ops k rest tm (B :: R)) : JL P n W K F ops k (⟨none, .store t x y, T, pos, af, gd⟩ :: rest) tm L :=
  JL_a0 rfl hg (.cons hm .nil) (ae_stH hx hy ht h1 h) (by rintro _ _ ⟨rfl, rfl⟩; exact hk)
end

/-! Calls, with what is found by the same means every time. -/
section
variable {P : Program} {n : Nat} {W : World} {K : Hl} {F : Fp} {k : List It} {tm : TM} {L R S M C : List HP} {T : TypeId} {pos : String} {af : Array Edge} {gd : Option (Nat × Bool)} {ops : Array Oper} {rest nx : List Oper} {d : Tmp}
variable {c : Operand} {xs : Array Operand} {ts : Array TypeId} {f : FuncId} {first caps : Array Value} {us vs : List Value} {φ : World → Prop} {Rr : Value → List HP → Prop}
theorem JL_goq (Sp : Pact P f vs.toArray φ C Rr) (hc : evT tm c = some (.func (.func f) first caps) := by rfl) (ha : xs.toList.mapM (evT tm) = some us := by rfl) (hv : (first ++ us.toArray ++ caps).toList = vs := by first | rfl | (simp; done) | fail) (hs : Sb L C R := by first | ((with_reducible (repeat (first | exact Sb.nil | apply Sb.cons | exact Tk.here | apply Tk.there))); done) | fail) (hφ : ∀ w, Rdw K R w → φ w) (h : ∀ v L', Rr v L' → JL P n W K F ops k rest ((d, v) :: tm) (L' ++ R)) (ho : ownB P f = true := by first | assumption | decide +kernel) (hn : Nat.blt d n = true := by rfl) (hg : wantF ops ⟨some d, .call ⟨.value c, xs, ts⟩, T, pos, af, gd⟩ (tget tm) = some true := by rfl) :
    JL P n W K F ops k (⟨some d, .call ⟨.value c, xs, ts⟩, T, pos, af, gd⟩ :: rest) tm L := JL_a rfl hn hg hs (ae_go hc ha hv ho Sp hφ) h
theorem JD_goq (Sp : Pact P f vs.toArray φ C Rr) (hc : evT tm c = some (.func (.func f) first caps) := by rfl) (ha : xs.toList.mapM (evT tm) = some us := by rfl) (hv : (first ++ us.toArray ++ caps).toList = vs := by first | rfl | (simp; done) | fail) (hs : Sb M C R := by first | ((with_reducible (repeat (first | exact Sb.nil | apply Sb.cons | exact Tk.here | apply Tk.there))); done) | fail) (hφ : ∀ w, Rdw K (R ++ S) w → φ w) (h : ∀ v L', Rr v L' → JD P n W K F ops k nx rest ((d, v) :: tm) S (L' ++ R)) (ho : ownB P f = true := by first | assumption | decide +kernel) (hg : wantF ops ⟨some d, .call ⟨.value c, xs, ts⟩, T, pos, af, gd⟩ (tget tm) = some true := by rfl) :
    JD P n W K F ops k nx (⟨some d, .call ⟨.value c, xs, ts⟩, T, pos, af, gd⟩ :: rest) tm S M := JD_a rfl hg rfl hs (ae_go hc ha hv ho Sp hφ) h
end
theorem JD_heapA {P : Program} {n : Nat} {W : World} {K : Hl} {F : Fp} {ops : Array Oper} {k : List It} {nx rest : List Oper} {o : Oper} {tm : TM} {S M M' : List HP} (hg : wantF ops o (tget tm) = some true) (hk : kindOp o.op = 2) (hh : ∀ W K w, Ow W K M w → Ow W K M' w) (h : JD P n W K F ops k nx (o :: rest) tm S M') : JD P n W K F ops k nx (o :: rest) tm S M := .mk <| fun W2 K' w a hK hf hO => by
  obtain ⟨hR, sR, dR, H1, back⟩ := hO.frame (L := M) (R := S)
  have hO' : Ow W2 K' (M' ++ S) w := back M' w (hh W2 (K'.add hR) w H1)
  rcases h.h W2 K' w a hK hf hO' with ⟨hg', _⟩ | ⟨_, h2⟩
  · rw [hg] at hg'; cases hg'
  · refine .inr ⟨hg, .inr (.inr ⟨hk, ?_⟩)⟩
    rcases h2 with ⟨k0, _⟩ | ⟨k0, _⟩ | ⟨_, h3⟩
    · rw [hk] at k0; cases k0
    · rw [hk] at k0; cases k0
    · exact h3

/-! Numbers. -/
theorem bits_andNot {a : Int} {m : Nat} (h0 : 0 ≤ a) (h1 : a < 4294967296) (hm : m ≤ 32) : bits .andNot .u32 a (2 ^ m - 1) = a - a % 2 ^ m := by
  obtain ⟨x, rfl⟩ : ∃ x : Nat, a = x := ⟨a.toNat, by omega⟩
  have hx : x < 2 ^ 32 := by omega
  have hpm : 2 ^ m ≤ 2 ^ 32 := Nat.pow_le_pow_right (by omega) hm
  have hp0 : 0 < 2 ^ m := Nat.pow_pos (by omega)
  have e0 : ((2 : Int) ^ m - 1) = ((2 ^ m - 1 : Nat) : Int) := by
    rw [Int.ofNat_sub hp0]; simp
  have e1 : (x : Int) - (x : Int) % 2 ^ m = ((x - x % 2 ^ m : Nat) : Int) := by
    rw [Int.ofNat_sub (Nat.mod_le _ _)]; simp
  rw [e0, e1]
  have key : (BitVec.ofInt 32 (x : Int) &&& ~~~ BitVec.ofInt 32 ((2 ^ m - 1 : Nat) : Int)).toNat = x - x % 2 ^ m := by
    rw [BitVec.toNat_and, BitVec.toNat_not]
    simp only [BitVec.toNat_ofInt]
    have e2 : ((x : Int) % (2 ^ 32 : Nat)).toNat = x := by omega
    have e3 : (((2 ^ m - 1 : Nat) : Int) % (2 ^ 32 : Nat)).toNat = 2 ^ m - 1 := by
      have : (2 ^ m - 1 : Nat) < 2 ^ 32 := by omega
      rw [← Int.natCast_emod, Nat.mod_eq_of_lt this]; simp
    rw [e2, e3]
    apply Nat.eq_of_testBit_eq
    intro i
    rw [Nat.testBit_and]
    have e4 : x - x % 2 ^ m = 2 ^ m * (x / 2 ^ m) := by have := Nat.div_add_mod x (2 ^ m); omega
    rw [e4, Nat.testBit_two_pow_mul, Nat.testBit_div_two_pow]
    have e5 : (2 ^ 32 - 1 - (2 ^ m - 1)).testBit i = (decide (i < 32) && !decide (i < m)) := by
      rw [show 2 ^ 32 - 1 - (2 ^ m - 1) = 2 ^ 32 - ((2 ^ m - 1) + 1) by omega, Nat.testBit_two_pow_sub_succ (by omega), Nat.testBit_two_pow_sub_one]
    rw [e5]
    by_cases hi : i < 32
    · by_cases hmi : m ≤ i
      · simp [hi, hmi, Nat.not_lt.2 hmi]
      · simp [hi, hmi, Nat.lt_of_not_le hmi]
    · have : x.testBit i = false := Nat.testBit_lt_two_pow (Nat.lt_of_lt_of_le hx (Nat.pow_le_pow_right (by omega) (by omega)))
      by_cases hmi : m ≤ i <;> simp [hi, this, hmi]
  show IntKind.u32.wrap ((BitVec.ofInt 32 (x : Int) &&& ~~~ BitVec.ofInt 32 ((2 ^ m - 1 : Nat) : Int)).toNat : Int) = _
  rw [key, w_u32 (by omega) (by omega)]
theorem bits_and1 {a : Int} (h0 : 0 ≤ a) (h1 : a < 9223372036854775808) : bits .and .i64 a 1 = a % 2 := by
  obtain ⟨x, rfl⟩ : ∃ x : Nat, a = x := ⟨a.toNat, by omega⟩
  have key : (BitVec.ofInt 64 (x : Int) &&& BitVec.ofInt 64 1).toNat = x % 2 := by
    rw [BitVec.toNat_and]
    simp only [BitVec.toNat_ofInt]
    have e2 : ((x : Int) % (2 ^ 64 : Nat)).toNat = x := by omega
    rw [e2]
    exact Nat.and_one_is_mod x
  show IntKind.i64.wrap ((BitVec.ofInt 64 (x : Int) &&& BitVec.ofInt 64 1).toNat : Int) = _
  rw [key, w_i64 (by omega) (by omega)]
  simp
end Go.Pm
namespace Go.Pm
set_option linter.unusedSimpArgs false
set_option linter.unusedVariables false
open Go.RowKit
theorem xR {p : Prop} (h : p := by rfl) : p := h
theorem xC {p : Prop} (h : p := by decide +kernel) : p := h
theorem xW {p : Prop} (h : p := by first | decide +kernel | rfl) : p := h
theorem xT {p : Prop} (h : p := by first | ((with_reducible (repeat (first | exact Tk.here | apply Tk.there))); done) | fail) : p := h
theorem xA {p : Prop} (h : p := by first | ((with_reducible (repeat (first | exact Tk.here | apply Tk.there))); done) | ((simp only [List.cons_append, List.nil_append]); (with_reducible (repeat (first | exact Tk.here | apply Tk.there))); done) | fail) : p := h
theorem xS {p : Prop} (h : p := by first | ((with_reducible (repeat (first | exact Sb.nil | apply Sb.cons | exact Tk.here | apply Tk.there))); done) | fail) : p := h
theorem xG {p : Prop} (h : p := by first | ((repeat (first | exact Seg.e | apply Seg.t | apply Seg.s)); done) | fail) : p := h
theorem xE {p : Prop} (h : p := by first | ((repeat (first | exact SetAt.z | apply SetAt.s)); done) | fail) : p := h
theorem xP {p : Prop} (h : p := by first | ((repeat (first | exact Put.e | apply Put.t | apply Put.s)); done) | fail) : p := h
theorem xN {p : Prop} (h : p := by first | ((repeat (first | exact Nrm.nil | apply Nrm.cons)); done) | fail) : p := h
theorem xI {p : Prop} (h : p := by first | exact il0 | exact il1 | exact il2 | exact il3 | exact ic_succ _ | rfl | exact (Int.toNat_of_nonneg (by omega)).symm) : p := h
theorem xV {p : Prop} (h : p := by first | exact Src.kn (by assumption) | exact Src.ar xA | exact Src.vr xA | exact Src.sl xA | exact Src.ofV xA) : p := h
theorem xO {p : Prop} (h : p := by omega) : p := h
theorem xL {p : Prop} (h : p := by intro _; rfl) : p := h
theorem xK {p : Prop} (h : p := by intro _; kernel_rfl) : p := h
theorem xU {p : Prop} (h : p := by exact all_one _ (by intro _ _; rfl)) : p := h
theorem xD {p : Prop} (h : p := by first | ((repeat (first | exact Pick.nil | apply Pick.cons rfl)); done) | fail) : p := h
theorem xH {p : Prop} (h : p := by assumption) : p := h
theorem xF {p : Prop} (h : p := by exact fun _ _ => trivial) : p := h
theorem xZ {p : Prop} (h : p := by first | ((with_reducible (repeat (first | exact Sb.nil | apply Sb.cons | exact Tk.here | apply Tk.there))); done) | ((repeat (first | exact Sb.nil | apply Sb.cons | exact Tk.here | apply Tk.there)); done)) : p := h
end Go.Pm
