/-
  Ranges over functions: what a call of yield does, what an iterator promises, the statement.
-/
import Derived.Test.YtohahlcjkhgimaaJn
namespace Go.Pm
set_option linter.unusedSimpArgs false
set_option linter.unusedVariables false
open Go.RowKit

def yldV (l : Nat) : Value := .func (.yield l) #[] #[]
/-- A call of yield: with the parts C for its own. -/
def Yld (P : Program) (K0 : Hl) (l : Nat) (args : Array Value) (C : List HP) (Φ : Value → List HP → Prop) : Prop :=
  ∀ W K w, K0.le K → Ow W K C w → ∃ fn tmps assign body, (Instr.yield l args).run P w = .ok (.round l fn tmps assign body) w ∧ RoundIn Fence.wide 0 P l fn tmps assign body w (retR W K Φ)

section
variable {P : Program} {n : Nat} {W : World} {K : Hl} {F : Fp} {k : List It} {tm : TM} {L L' R S M C : List HP} {T : TypeId} {pos : String} {af : Array Edge} {gd : Option (Nat × Bool)} {ops : Array Oper} {rest nx : List Oper} {d : Tmp}

theorem ae_yield {od : Option Tmp} {c : Operand} {xs : Array Operand} {ts : Array TypeId} {l : Nat} {us : List Value} {Φ : Value → List HP → Prop} {K0 : Hl} (Y : Yld P K0 l us.toArray C Φ) (hK0 : K0.le K) (hc : evT tm c = some (yldV l)) (ha : xs.toList.mapM (evT tm) = some us) :
    AE P n K R C ⟨od, .call ⟨.value c, xs, ts⟩, T, pos, af, gd⟩ (tget tm) Φ := fun W K' w a next hK hf hO hn => by
  have e1 : xs.map a.eval = us.toArray := Array.ext' (by rw [Array.toList_map]; exact mapM_eval hf ha)
  obtain ⟨hR, sR, dR, H1, back⟩ := hO.frame
  obtain ⟨fn, tmps, assign, body, hy, hr⟩ := Y W (K'.add hR) w (hK0.trans (hK.trans (Hl.le_add _ _))) H1
  have hev : a.eval c = .func (.yield l) #[] #[] := hf.eval hc
  have hx : (execOp a.eval ⟨od, .call ⟨.value c, xs, ts⟩, T, pos, af, gd⟩).run P w = .ok (.round l fn tmps assign body) w := by
    unfold execOp
    simp only [resolve, e1, hev, Deferred.ofValue, Sem.run_bind, Sem.run_pure, Result.andThen_ok, invoke]
    simpa using hy
  refine ⟨fun _ _ => trivial, ?_⟩
  show Oper.uponIn Fence.wide 0 P _ a next _ ((execOp a.eval ⟨od, .call ⟨.value c, xs, ts⟩, T, pos, af, gd⟩).run P w)
  rw [hx]
  refine ⟨fun h => by simp [Fence.wide] at h, RoundIn.mono hr ?_⟩
  rintro e w' ⟨v, L', h1, rfl, h2⟩
  exact hn v L' w' h1 (back L' w' h2)
theorem JL_y {c : Operand} {xs : Array Operand} {ts : Array TypeId} {l : Nat} {us : List Value} {Φ : Value → List HP → Prop} {K0 : Hl} (Y : Yld P K0 l us.toArray C Φ) (hK0 : K0.le K) (hc : evT tm c = some (yldV l)) (ha : xs.toList.mapM (evT tm) = some us) (hs : Sb L C R) (hn : Nat.blt d n = true) (hg : wantF ops ⟨some d, .call ⟨.value c, xs, ts⟩, T, pos, af, gd⟩ (tget tm) = some true)
    (h : ∀ v L', Φ v L' → JL P n W K F ops k rest ((d, v) :: tm) (L' ++ R)) : JL P n W K F ops k (⟨some d, .call ⟨.value c, xs, ts⟩, T, pos, af, gd⟩ :: rest) tm L := JL_a rfl hn hg hs (ae_yield Y hK0 hc ha) h
theorem JD_y {c : Operand} {xs : Array Operand} {ts : Array TypeId} {l : Nat} {us : List Value} {Φ : Value → List HP → Prop} {K0 : Hl} (Y : Yld P K0 l us.toArray C Φ) (hK0 : K0.le K) (hc : evT tm c = some (yldV l)) (ha : xs.toList.mapM (evT tm) = some us) (hs : Sb M C R) (hg : wantF ops ⟨some d, .call ⟨.value c, xs, ts⟩, T, pos, af, gd⟩ (tget tm) = some true)
    (h : ∀ v L', Φ v L' → JD P n W K F ops k nx rest ((d, v) :: tm) S (L' ++ R)) : JD P n W K F ops k nx (⟨some d, .call ⟨.value c, xs, ts⟩, T, pos, af, gd⟩ :: rest) tm S M := JD_a rfl hg rfl hs (ae_yield Y hK0 hc ha) h

/-- What an iterator promises: that it hands out, one by one, a list that S allows; or, told to stop, a list that Sp allows. -/
def Iter {α : Type} (P : Program) (f : FuncId) (args : Nat → List Value) (φ : World → Prop) (enc : α → List Value) (N : Nat) (S Sp : List α → Prop) : Prop :=
  ∀ (K0 : Hl) (l : Nat) (Y Yx : List α → HP), (∀ pre x, pre.length < N → Yld P K0 l (enc x).toArray [Y pre] (fun v L' => (v = .bool true ∧ L' = [Y (pre ++ [x])]) ∨ (v = .bool false ∧ L' = [Yx (pre ++ [x])]))) →
    ∀ W K w, K0.le K → Kn K φ → Ow W K [Y []] w → Calls P f (args l).toArray w (retR W K (fun _ L' => (∃ xs, S xs ∧ L' = [Y xs]) ∨ ∃ pre, Sp pre ∧ L' = [Yx pre]))
theorem iter {α : Type} {f : FuncId} {fn : Func} {c : Code} {args : Nat → List Value} {φ : World → Prop} {enc : α → List Value} {N : Nat} {St Sp : List α → Prop} (hf : P.funcs[f]? = some fn) (hb : fn.body = some c) {nt : Nat} (hn : fn.ntmps = nt) (ha : ∀ l, (Nat.ble (args l).length nt && Nat.ble nt 1000000) = true)
    (h : ∀ (K0 : Hl) (l : Nat) (Y Yx : List α → HP), (∀ pre x, pre.length < N → Yld P K0 l (enc x).toArray [Y pre] (fun v L' => (v = .bool true ∧ L' = [Y (pre ++ [x])]) ∨ (v = .bool false ∧ L' = [Yx (pre ++ [x])]))) →
      ∀ W K, K0.le K → Kn K φ → J P nt W K (fpost P fn W K (fun _ L' => (∃ xs, St xs ∧ L' = [Y xs]) ∨ ∃ pre, Sp pre ∧ L' = [Yx pre])) [.code c] (argTM 0 (args l)) [Y []]) : Iter P f args φ enc N St Sp := fun K0 l Y Yx hY W K w hK hφ H =>
  J_start hf hb hn (by have := ha l; simp at this ⊢; omega) (by have := ha l; simp at this; show nt ≤ 1000000; omega) H (fun t v e => by have := argTM_get (args l) 0 t v e; simpa using this.2) (h K0 l Y Yx hY W K hK hφ)

/-! A round. -/
def rndPost {α : Type} (W : World) (K : Hl) (I : List α → List HP) (Ix : Code → List α → List HP) (pre : List α) : Exit → Act → World → Prop
  | .normal, _, w => Ow W K (I pre) w
  | .ret, _, w => Ow W K (Ix .ret pre) w
  | .exit id, _, w => Ow W K (Ix (.exit id) pre) w
  | .goto t, _, w => Ow W K (Ix (.goto t) pre) w
  | _, _, _ => False
def noP : Exit → Act → World → Prop := fun _ _ _ => False
/-- The round's body may begin. -/
def RB {α : Type} (P : Program) (n : Nat) (W : World) (K3 K : Hl) (l : Nat) (I : List α → List HP) (Ix : Code → List α → List HP) (pre : List α) (body : Code) : Act → World → Prop := fun a w =>
  ∃ tm1 L1, Fit n (tget tm1) a ∧ Ow W K3 L1 w ∧ ∀ K4, K.le K4 → Kn K4 (fun w => ∃ r, w.heap[l]? = some (.loop r)) → J P n W K4 ⟨some l, rndPost W K4 I Ix pre⟩ [.code body] tm1 L1
theorem J_body {α : Type} {K0 : Hl} {l : Nat} {I : List α → List HP} {Ix : Code → List α → List HP} {pre : List α} {body : Code} (h : ∀ K4, K0.le K4 → Kn K4 (fun w => ∃ r, w.heap[l]? = some (.loop r)) → J P n W K4 ⟨some l, rndPost W K4 I Ix pre⟩ [.code body] tm L) : J P n W K F (.hole (RB P n W K K0 l I Ix pre body) :: k) tm L := .mk <|
  fun _ w hf hO => ⟨tm, L, hf, hO, h⟩
theorem J_rnd {α : Type} {l : Nat} {I : List α → List HP} {Ix : Code → List α → List HP} {pre : List α} (h : ∀ w, Ow W K L w → Ow W K (I pre) w) : J P n W K ⟨some l, rndPost W K I Ix pre⟩ [] tm L := .mk <| fun _ w _ hO => h w hO
theorem J_rndRet {α : Type} {l : Nat} {I : List α → List HP} {Ix : Code → List α → List HP} {pre : List α} (h : ∀ w, Ow W K L w → Ow W K (Ix .ret pre) w) : J P n W K ⟨some l, rndPost W K I Ix pre⟩ (.code .ret :: k) tm L := .mk <| fun _ w _ hO => wpIn_ret (runK_ret (h w hO))
theorem runK_popN {id : Nat} : ∀ {k : List It}, popK id k = none → ∀ a w, F.post (.exit id) a w → runK P F k (.exit id) a w
  | [], _, _, _, h => h
  | .blk i :: k, h, a, w, h2 => by
    simp only [popK] at h
    by_cases hi : id = i
    · subst hi; simp at h
    · have : Nat.beq id i = false := by rw [Bool.eq_false_iff]; intro hb; exact hi (Nat.eq_of_beq_eq_true hb)
      rw [this] at h
      simp only [runK, Exit.inBlock, if_neg hi]
      exact runK_popN h a w h2
  | .code _ :: k, h, a, w, h2 => by simpa only [runK, Exit.then] using runK_popN (k := k) h a w h2
  | .hole _ :: k, h, a, w, h2 => by simpa only [runK, Exit.then] using runK_popN (k := k) h a w h2
  | .jmp _ _ :: k, h, a, w, h2 => by simpa only [runK, Exit.jump] using runK_popN (k := k) h a w h2
theorem J_rndExit {α : Type} {l id : Nat} {I : List α → List HP} {Ix : Code → List α → List HP} {pre : List α} (hp : popK id k = none) (h : ∀ w, Ow W K L w → Ow W K (Ix (.exit id) pre) w) : J P n W K ⟨some l, rndPost W K I Ix pre⟩ (.code (.exit id) :: k) tm L := .mk <| fun a w _ hO => wpIn_exit (runK_popN hp a w (h w hO))

/-- The slots at a round's start. -/
def parTM : List Tmp → List Value → TM → TM
  | p :: ps, v :: vs, tm => parTM ps vs ((p, v) :: tm)
  | _, _, tm => tm
theorem Fit.par {ds : List Deferred} : ∀ (ps : List Tmp) (vs : List Value) (tm : TM) (tmps : Array Value), ps.all (Nat.blt · n) = true → (tmps.size = n ∧ n ≤ mkK ∧ ∀ t v, t ≠ mkK → tget tm t = some v → tmps[t]? = some v) →
    let t' := (ps.zip vs).foldl (fun t (p, v) => t.setIfInBounds p v) tmps
    t'.size = n ∧ n ≤ mkK ∧ ∀ t v, t ≠ mkK → tget (parTM ps vs tm) t = some v → t'[t]? = some v
  | [], _, tm, tmps, _, h => by simpa [parTM] using h
  | p :: ps, [], tm, tmps, _, h => by simpa [parTM] using h
  | p :: ps, v :: vs, tm, tmps, hp, h => by
    simp only [List.all_cons, Bool.and_eq_true] at hp
    have hpl : p < n := by simpa using hp.1
    simp only [List.zip_cons_cons, List.foldl_cons, parTM]
    refine Fit.par (ds := ds) ps vs ((p, v) :: tm) _ hp.2 ⟨by simpa using h.1, h.2.1, fun t u ht hu => ?_⟩
    simp only [Array.getElem?_setIfInBounds]
    by_cases e : p = t
    · subst e
      simp [tget] at hu
      rw [if_pos rfl, if_pos (by rw [h.1]; exact hpl), hu]
    · rw [if_neg e]
      have : Nat.beq p t = false := by rw [Bool.eq_false_iff]; intro hb; exact e (Nat.eq_of_beq_eq_true hb)
      simp only [tget, this] at hu
      exact h.2.2 t u ht hu

theorem ob_in {D : Nat} {o : Obj} {w : World} (H : Ow W K (ob D o :: L) w) : w.heap[D]? = some o := by
  obtain ⟨h, hA, i⟩ := H.part
  obtain rfl : h = Hl.one D o := hA
  exact i D _ (by simp [Hl.one])
theorem kn_ob {hR : Hl} {D : Nat} {o : Obj} {M : List HP} (s : sats M hR) (t : Tk M (ob D o) R) (hd : hR.disj K) : Kn (K.add hR) (fun w => w.heap[D]? = some o) := fun w i => by
  obtain ⟨h1, h2, hA, _, d', rfl⟩ := sats_perm t.perm _ s
  obtain rfl : h1 = Hl.one D o := hA
  exact ((Hl.inn_add d').1 ((Hl.inn_add hd.symm).1 i).2).1 D _ (by simp [Hl.one])

/-- A range over a function, outside of rounds. -/
theorem J_range {α : Type} {enc : α → List Value} {g : Operand} {ps : List Tmp} {assign body : Code} {gf : FuncId} {first lb : List Value} {φ : World → Prop} {N : Nat} {St Sp : List α → Prop} {Ds : List Nat}
    (It : Iter P gf (fun l => first ++ yldV l :: lb) φ enc N St Sp) (hro : F.ro = none) (hm : decM (tget tm mkK) = Ds) (hg : evT tm g = some (.func (.func gf) first.toArray lb.toArray)) (ho : ownB P gf = true) (hps : ps.all (Nat.blt · n) = true) (hes : ∀ x, (enc x).length = ps.length)
    (I : List α → List HP) (Ix : Code → List α → List HP) (hs : Sb L (I []) R) (hφ : ∀ w, Rdw K R w → φ w)
    (hround : ∀ (W : World) (K3 : Hl) (l : Nat) (pre : List α) (x : α), K.le K3 → pre.length < N → J P n W K3 ⟨some l, noP⟩ [.code assign, .hole (RB P n W K3 K l I Ix (pre ++ [x]) body)] (parTM ps (enc x) ((mkK, encM []) :: tm)) (I pre))
    (hdone : ∀ D xs, St xs → J P n W K F k ((mkK, encM (D :: Ds)) :: tm) (dfr D :: (I xs ++ R)))
    (hstop : ∀ D c pre, Sp pre → J P n W K F (.code c :: k) ((mkK, encM (D :: Ds)) :: tm) (dfr D :: (Ix c pre ++ R))) :
    J P n W K F (.code (.rangeFunc g ps.toArray assign body) :: k) tm L := .mk <| fun a w hf hO => by
  refine wpIn_rangeFunc fun fn _ => ?_
  rw [show (wideR F.ro).round = none from hro]
  obtain ⟨rec, hrec⟩ : ∃ rec : LoopState → Option Code → Loop, rec = fun st pe => { state := st, pending := pe, fn, tmps := a.tmps, params := ps.toArray, assign, body, defers := w.heap.size } := ⟨_, rfl⟩
  obtain ⟨D, hD⟩ : ∃ D, D = w.heap.size := ⟨_, rfl⟩
  obtain ⟨l, hl⟩ : ∃ l, l = w.heap.size + 1 := ⟨_, rfl⟩
  have H1 : Ow W K (ob l (.loop (rec .ready none)) :: dfr D :: (I [] ++ R)) ((w.alloc (.deferred (some []))).alloc (.loop (rec .ready none))) := by
    have h1 := (hO.sb hs).alloc (.deferred (some []))
    have h2 := h1.alloc (.loop (rec .ready none))
    rw [World.size_alloc, ← hl, ← hD] at h2
    exact h2
  obtain ⟨W1, hW1⟩ : ∃ W1, (w.alloc (.deferred (some []))).alloc (.loop (rec .ready none)) = W1 := ⟨_, rfl⟩
  rw [hW1] at H1
  refine ⟨l, [mark D], W1, { target := .fn (.func gf) lb.toArray, args := first.toArray ++ #[yldV l] }, W1, gf, first.toArray ++ #[yldV l] ++ lb.toArray, W1, ?_, ?_, fun _ _ => trivial, ?_, fun h => by simp [Fence.wide] at h, ?_⟩
  · rw [← hW1, hrec, hl, hD]; exact run_enterLoop_outer _ _ _ _ _
  · simp only [resolve, hf.eval hg, Deferred.ofValue]
    simp [Act.eval, yldV]
  · simp only [invoke]
    exact run_own ho _ _
  -- the iterator
  let Y : List α → HP := fun pre => sats (dfr D :: ob l (.loop (rec .ready none)) :: I pre)
  let Yx : List α → HP := fun pre h => ∃ c, sats (dfr D :: ob l (.loop (rec .done (some c))) :: Ix c pre) h
  have hY : ∀ pre x, pre.length < N → Yld P K l (enc x).toArray [Y pre] (fun v L' => (v = .bool true ∧ L' = [Y (pre ++ [x])]) ∨ (v = .bool false ∧ L' = [Yx (pre ++ [x])])) := by
    intro pre x hlen W2 K2 w2 hKK H2
    have H3 : Ow W2 K2 (dfr D :: ob l (.loop (rec .ready none)) :: I pre) w2 := by simpa using H2.flat (As := dfr D :: ob l (.loop (rec .ready none)) :: I pre) .here
    have H4 : Ow W2 K2 (I pre ++ [ob l (.loop (rec .ready none)), dfr D]) w2 := H3.perm (by
      refine (List.Perm.swap _ _ _).trans ?_
      exact (List.perm_append_comm (l₁ := [ob l (.loop (rec .ready none)), dfr D]) (l₂ := I pre)))
    have hl2 : w2.heap[l]? = some (.loop (rec .ready none)) := ob_in (H3.perm (List.Perm.swap _ _ _))
    have hy := run_yield (P := P) (args := (enc x).toArray) hl2 (by rw [hrec]; simpa using hes x)
    refine ⟨_, _, _, _, hy, ?_⟩
    obtain ⟨hR, sR, dR, H5, back⟩ := H4.frame
    have hfit := Fit.par (n := n) (ds := []) ps (enc x) ((mkK, encM []) :: tm) a.tmps hps ⟨hf.sz, hf.lt, fun t v ht hv => hf.v t v ht (by
      have : Nat.beq mkK t = false := by rw [Bool.eq_false_iff]; intro hb; exact ht (Nat.eq_of_beq_eq_true hb).symm
      simpa [tget, this] using hv)⟩
    have hmk : tget (parTM ps (enc x) ((mkK, encM []) :: tm)) mkK = some (encM []) := by
      have key : ∀ (ps : List Tmp) (vs : List Value) (tm : TM), ps.all (Nat.blt · n) = true → tget (parTM ps vs tm) mkK = tget tm mkK := by
        intro ps
        induction ps with
        | nil => intro vs tm _; rfl
        | cons p ps ih =>
          intro vs tm hp
          simp only [List.all_cons, Bool.and_eq_true] at hp
          cases vs with
          | nil => rfl
          | cons v vs =>
            rw [parTM, ih vs _ hp.2]
            have hpl : p < n := by simpa using hp.1
            have : Nat.beq p mkK = false := by rw [Bool.eq_false_iff]; intro hb; have := Nat.eq_of_beq_eq_true hb; have := hf.lt; subst_vars; exact absurd hpl (Nat.not_lt.2 this)
            simp [tget, this]
      rw [key _ _ _ hps]
      rfl
    have hJ := (hround W2 (K2.add hR) l pre x (Hl.le.trans hKK (Hl.le_add _ _)) hlen).h _ w2 (⟨by rw [hmk, dec_enc]; rfl, hfit.1, hfit.2.1, hfit.2.2⟩ : Fit n _ { tmps := (ps.zip (enc x)).foldl (fun t (p, v) => t.setIfInBounds p v) a.tmps, defers := [] }) H5
    have htm : ((rec .ready none).params.zip (enc x).toArray).foldl (fun tmps (t, a) => tmps.setIfInBounds t a) (rec .ready none).tmps = (ps.zip (enc x)).foldl (fun t (p, v) => t.setIfInBounds p v) a.tmps := by
      rw [hrec]
      simp
    have e1 : (rec .ready none).assign = assign := by rw [hrec]
    have e2 : (rec .ready none).body = body := by rw [hrec]
    rw [htm, e1, e2]
    refine roundIn_of_wpIn (F := Fence.wide) trivial (wpIn_mono (F := wideR (some l)) hJ ?_)
    rintro e a1 w1 he
    cases e with
    | normal =>
      obtain ⟨tm1, L1, hf1, H6, hbody⟩ := he
      have H7 : Ow W2 K2 (ob l (.loop (rec .ready none)) :: (dfr D :: L1)) w1 := (back L1 w1 H6).perm (by
        exact (List.perm_append_comm (l₁ := L1) (l₂ := [ob l (.loop (rec .ready none)), dfr D])))
      have hbr := run_beginRound (P := P) (ob_in H7) (by rw [hrec])
      have H8 := H7.putOb (.loop { rec .ready none with state := .busy })
      have H9 : Ow W2 K2 (L1 ++ [ob l (.loop { rec .ready none with state := .busy }), dfr D]) _ := H8.perm (List.perm_append_comm (l₁ := [ob l (.loop { rec .ready none with state := .busy }), dfr D]) (l₂ := L1))
      obtain ⟨hR2, sR2, dR2, H10, back2⟩ := H9.frame
      refine ⟨_, hbr, wpIn_mono (F := wideR (some l)) ((hbody (K2.add hR2) (Hl.le.trans hKK (Hl.le_add _ _)) ((kn_ob sR2 .here dR2).imp fun w h => ⟨_, h⟩)).h a1 _ hf1 H10) ?_⟩
      have fin : ∀ (jump : Option Code) (M : List HP) (w3 : World), Ow W2 (K2.add hR2) M w3 → ∃ v w4, (Instr.endRound l jump).run P w3 = .ok v w4 ∧ v = .bool jump.isNone ∧ Ow W2 K2 (dfr D :: ob l (.loop (rec (if jump.isNone then .ready else .done) jump)) :: M) w4 := fun jump M w3 H11 => by
        have H12 : Ow W2 K2 (ob l (.loop { rec .ready none with state := .busy }) :: (dfr D :: M)) w3 := (back2 M w3 H11).perm (List.perm_append_comm (l₁ := M) (l₂ := [ob l (.loop { rec .ready none with state := .busy }), dfr D]))
        have her := run_endRound (P := P) jump (ob_in H12)
        refine ⟨_, _, her, rfl, ?_⟩
        have H13 := H12.putOb (.loop (rec (if jump.isNone then .ready else .done) jump))
        have e3 : ({ rec .ready none with state := .busy } : Loop) = rec .busy none := by rw [hrec]
        have e4 : (Obj.loop { ({ rec .ready none with state := .busy } : Loop) with state := if jump.isNone then .ready else .done, pending := jump }) = .loop (rec (if jump.isNone then .ready else .done) jump) := by rw [hrec]
        rw [e4]
        exact H13.perm (List.Perm.swap _ _ _)
      rintro e3 a3 w3 hp
      cases e3 with
      | normal =>
        obtain ⟨v, w4, h1, h2, h3⟩ := fin none _ w3 hp
        exact ⟨v, w4, h1, v, _, .inl ⟨h2, rfl⟩, rfl, (h3.shut (M := dfr D :: ob l (.loop (rec .ready none)) :: I (pre ++ [x])) (R := []) (A := Y (pre ++ [x])) (by simpa using Sb.all (dfr D :: ob l (.loop (rec .ready none)) :: I (pre ++ [x])) []) (fun k hk => hk))⟩
      | ret =>
        obtain ⟨v, w4, h1, h2, h3⟩ := fin (some .ret) _ w3 hp
        exact ⟨v, w4, h1, v, _, .inr ⟨h2, rfl⟩, rfl, (h3.shut (M := dfr D :: ob l (.loop (rec .done (some .ret))) :: Ix .ret (pre ++ [x])) (R := []) (A := Yx (pre ++ [x])) (by simpa using Sb.all (dfr D :: ob l (.loop (rec .done (some .ret))) :: Ix .ret (pre ++ [x])) []) (fun k hk => ⟨_, hk⟩))⟩
      | exit id =>
        obtain ⟨v, w4, h1, h2, h3⟩ := fin (some (.exit id)) _ w3 hp
        exact ⟨v, w4, h1, v, _, .inr ⟨h2, rfl⟩, rfl, (h3.shut (M := dfr D :: ob l (.loop (rec .done (some (.exit id)))) :: Ix (.exit id) (pre ++ [x])) (R := []) (A := Yx (pre ++ [x])) (by simpa using Sb.all (dfr D :: ob l (.loop (rec .done (some (.exit id)))) :: Ix (.exit id) (pre ++ [x])) []) (fun k hk => ⟨_, hk⟩))⟩
      | goto t =>
        obtain ⟨v, w4, h1, h2, h3⟩ := fin (some (.goto t)) _ w3 hp
        exact ⟨v, w4, h1, v, _, .inr ⟨h2, rfl⟩, rfl, (h3.shut (M := dfr D :: ob l (.loop (rec .done (some (.goto t)))) :: Ix (.goto t) (pre ++ [x])) (R := []) (A := Yx (pre ++ [x])) (by simpa using Sb.all (dfr D :: ob l (.loop (rec .done (some (.goto t)))) :: Ix (.goto t) (pre ++ [x])) []) (fun k hk => ⟨_, hk⟩))⟩
      | panic c => exact hp.elim
      | outgrown => exact hp.elim
    | exit id => exact he.elim
    | goto t => exact he.elim
    | ret => exact he.elim
    | panic c => exact he.elim
    | outgrown => exact he.elim
  have H2 : Ow W K ([Y []] ++ R) W1 := by
    have H3 : Ow W K ((dfr D :: ob l (.loop (rec .ready none)) :: I []) ++ R) W1 := H1.perm (List.Perm.swap _ _ _)
    exact H3.shut (M := dfr D :: ob l (.loop (rec .ready none)) :: I []) (R := R) (A := Y []) (Sb.all _ _) (fun k hk => hk)
  obtain ⟨hR, sR, dR, H3, back⟩ := H2.frame
  have hcall := It K l Y Yx hY W (K.add hR) W1 (Hl.le_add _ _) (fun w i => hφ w ⟨((Hl.inn_add dR.symm).1 i).1, hR, sR, dR, ((Hl.inn_add dR.symm).1 i).2⟩) H3
  have hcall2 : CallsIn (wideR F.ro) (0 - 1) P gf (first ++ yldV l :: lb).toArray W1 _ := callsIn_wide.2 hcall
  have eargs : first.toArray ++ #[yldV l] ++ lb.toArray = (first ++ yldV l :: lb).toArray := by simp
  rw [eargs]
  refine hcall2.mono ?_
  rintro e w3 ⟨v, L', hL', rfl, H4⟩
  have hfitD : Fit n (tget ((mkK, encM (D :: Ds)) :: tm)) { a with defers := [mark D] ++ a.defers } := ⟨by
    show [mark D] ++ a.defers = (decM (some (encM (D :: Ds)))).map mark
    rw [dec_enc, hf.d, hm]
    rfl, hf.sz, hf.lt, fun t v ht hv => hf.v t v ht (by
      have : Nat.beq mkK t = false := by rw [Bool.eq_false_iff]; intro hb; exact ht (Nat.eq_of_beq_eq_true hb).symm
      simpa [tget, this] using hv)⟩
  have fin : ∀ (st : LoopState) (pe : Option Code) (M : List HP), st ≠ .busy → Ow W K (dfr D :: ob l (.loop (rec st pe)) :: (M ++ R)) w3 → ∃ w4, (Instr.endLoop l).run P w3 = .ok pe w4 ∧ Ow W K (dfr D :: (M ++ R)) w4 := fun st pe M hb H5 => by
    have H6 := H5.perm (List.Perm.swap _ _ _)
    have hel := run_endLoop (P := P) (ob_in H6) (by rw [hrec]; exact hb)
    have e3 : (rec st pe).pending = pe := by rw [hrec]
    rw [e3] at hel
    exact ⟨_, hel, (H6.putOb _).drop⟩
  rcases hL' with ⟨xs, hx, rfl⟩ | ⟨pre, hx, rfl⟩
  · have H5 : Ow W K ((dfr D :: ob l (.loop (rec .ready none)) :: I xs) ++ R) w3 := (back [Y xs] w3 H4).flat (As := dfr D :: ob l (.loop (rec .ready none)) :: I xs) .here
    obtain ⟨w4, h1, h2⟩ := fin .ready none (I xs) (by simp) H5
    exact ⟨none, w4, h1, (hdone D xs hx).h _ w4 hfitD h2⟩
  · obtain ⟨c, H5⟩ := (back [Yx pre] w3 H4).open (A := Yx pre) .here (Bs := fun c => dfr D :: ob l (.loop (rec .done (some c))) :: Ix c pre) (fun _ h => h)
    obtain ⟨w4, h1, h2⟩ := fin .done (some c) (Ix c pre) (by simp) H5
    exact ⟨some c, w4, h1, (hstop D c pre hx).h _ w4 hfitD h2⟩
end
end Go.Pm
