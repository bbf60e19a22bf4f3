/-
  The walk in our own words, fourth part: what is left to run is a list; rules for code, loops, returns, regions.
-/
import Derived.Test.YtgocmihmgnllcaaJc
namespace Go.Pm
set_option linter.unusedSimpArgs false
set_option linter.unusedVariables false
open Go.RowKit

inductive It where
  | code (c : Code)
  | blk (id : Nat)
  | hole (H : Act → World → Prop)

def runK (P : Program) (F : Exit → Act → World → Prop) : List It → Exit → Act → World → Prop
  | [] => F
  | .code c :: k => Exit.then (c.wp P (runK P F k)) (runK P F k)
  | .blk id :: k => Exit.inBlock id (runK P F k)
  | .hole H :: k => Exit.then H (runK P F k)

structure J (P : Program) (n : Nat) (W : World) (K : Hl) (F : Exit → Act → World → Prop) (k : List It) (tm : TM) (L : List HP) : Prop where
  mk ::
  h : ∀ a w, Fit n (tget tm) a → Ow W K L w → runK P F k .normal a w
instance {P : Program} {n : Nat} {W : World} {K : Hl} {F : Exit → Act → World → Prop} {k : List It} {tm : TM} {L : List HP} : CoeFun (J P n W K F k tm L) (fun _ => ∀ a w, Fit n (tget tm) a → Ow W K L w → runK P F k .normal a w) := ⟨J.h⟩
/-- Within a region: the operations that are left. -/
structure JL (P : Program) (n : Nat) (W : World) (K : Hl) (F : Exit → Act → World → Prop) (ops : Array Oper) (k : List It) (rest : List Oper) (tm : TM) (L : List HP) : Prop where
  mk ::
  h : ∀ a w, Fit n (tget tm) a → Ow W K L w → wpList P ops (runK P F k) rest a w
instance {P : Program} {n : Nat} {W : World} {K : Hl} {F : Exit → Act → World → Prop} {ops : Array Oper} {k : List It} {rest : List Oper} {tm : TM} {L : List HP} : CoeFun (JL P n W K F ops k rest tm L) (fun _ => ∀ a w, Fit n (tget tm) a → Ow W K L w → wpList P ops (runK P F k) rest a w) := ⟨JL.h⟩
/-- Behind a region. -/
def fin0 (P : Program) (n : Nat) (W : World) (K : Hl) (F : Exit → Act → World → Prop) (k : List It) (f : TF) (L : List HP) : Prop :=
  ∀ a w, Fit n f a → Ow W K L w → runK P F k .normal a w
/-- Within a region that draws: S stands still, M may be changed. -/
structure JD (P : Program) (n : Nat) (W : World) (K : Hl) (F : Exit → Act → World → Prop) (ops : Array Oper) (k : List It) (nx rest : List Oper) (tm : TM) (S M : List HP) : Prop where
  mk ::
  h : DW P n K ops (fun f L => DW P n K ops (fin0 P n W K F k) nx f [] L) rest (tget tm) S M

section
variable {P : Program} {n : Nat} {W : World} {K : Hl} {F : Exit → Act → World → Prop} {k k' : List It} {tm tm' : TM} {L L' R : List HP}

/-! Code. -/
theorem J_seq {x y : Code} (h : J P n W K F (.code x :: .code y :: k) tm L) : J P n W K F (.code (.seq x y) :: k) tm L := .mk <| fun a w hf hO => wp_seq (h a w hf hO)
theorem J_skip (h : J P n W K F k tm L) : J P n W K F (.code .skip :: k) tm L := .mk <| fun a w hf hO => wp_skip (h a w hf hO)
theorem J_label {l : Nat} (h : J P n W K F k tm L) : J P n W K F (.code (.label l) :: k) tm L := .mk <| fun a w hf hO => wp_label (h a w hf hO)
theorem J_block {id : Nat} {c : Code} (h : J P n W K F (.code c :: .blk id :: k) tm L) : J P n W K F (.code (.block id c) :: k) tm L := .mk <| fun a w hf hO => wp_block (h a w hf hO)
theorem J_blk {id : Nat} (h : J P n W K F k tm L) : J P n W K F (.blk id :: k) tm L := ⟨h.h⟩
def popK (id : Nat) : List It → Option (List It)
  | [] => none
  | .blk i :: k => bif Nat.beq id i then some k else popK id k
  | .code _ :: k => popK id k
  | .hole _ :: k => popK id k
theorem runK_pop {id : Nat} : ∀ {k k' : List It}, popK id k = some k' → ∀ a w, runK P F k' .normal a w → runK P F k (.exit id) a w
  | [], _, h, _, _, _ => by cases h
  | .blk i :: k, k', h, a, w, h2 => by
    simp only [popK] at h
    by_cases hi : id = i
    · subst hi
      simp at h
      subst h
      simp only [runK, Exit.inBlock, if_pos]
      exact h2
    · have : Nat.beq id i = false := by rw [Bool.eq_false_iff]; intro hb; exact hi (Nat.eq_of_beq_eq_true hb)
      rw [this] at h
      simp only [runK, Exit.inBlock, if_neg hi]
      exact runK_pop h a w h2
  | .code _ :: k, k', h, a, w, h2 => by simpa only [runK, Exit.then] using runK_pop (k := k) h a w h2
  | .hole _ :: k, k', h, a, w, h2 => by simpa only [runK, Exit.then] using runK_pop (k := k) h a w h2
theorem J_exit {id : Nat} (hp : popK id k = some k') (h : J P n W K F k' tm L) : J P n W K F (.code (.exit id) :: k) tm L := .mk <| fun a w hf hO => wp_exit (runK_pop hp a w (h a w hf hO))
theorem runK_ret : ∀ {k : List It} {a : Act} {w : World}, F .ret a w → runK P F k .ret a w
  | [], _, _, h => h
  | .code _ :: k, _, _, h => runK_ret (k := k) h
  | .blk _ :: k, _, _, h => runK_ret (k := k) h
  | .hole _ :: k, _, _, h => runK_ret (k := k) h
theorem J_if {c : Operand} {x y : Code} {p : Prop} [Decidable p] (hc : evT tm c = some (.bool (decide p))) (ht : p → J P n W K F (.code x :: k) tm L) (hf : ¬ p → J P n W K F (.code y :: k) tm L) : J P n W K F (.code (.cond c x y) :: k) tm L := .mk <| fun a w hfit hO => by
  by_cases hp : p
  · exact wp_cond_true (by rw [hfit.eval hc]; simp [hp]) (ht hp a w hfit hO)
  · exact wp_cond_false (by rw [hfit.eval hc]; simp [hp]) (hf hp a w hfit hO)
theorem J_ifb {c : Operand} {x y : Code} {b : Bool} (hc : evT tm c = some (.bool b)) (ht : b = true → J P n W K F (.code x :: k) tm L) (hf : b = false → J P n W K F (.code y :: k) tm L) : J P n W K F (.code (.cond c x y) :: k) tm L := .mk <| fun a w hfit hO => by
  cases b with
  | true => exact wp_cond_true (hfit.eval hc) (ht rfl a w hfit hO)
  | false => exact wp_cond_false (hfit.eval hc) (hf rfl a w hfit hO)
theorem J_ift {c : Operand} {x y : Code} (hc : evT tm c = some (.bool true)) (ht : J P n W K F (.code x :: k) tm L) : J P n W K F (.code (.cond c x y) :: k) tm L := .mk <| fun a w hfit hO => wp_cond_true (hfit.eval hc) (ht a w hfit hO)
theorem J_iff {c : Operand} {x y : Code} (hc : evT tm c = some (.bool false)) (ht : J P n W K F (.code y :: k) tm L) : J P n W K F (.code (.cond c x y) :: k) tm L := .mk <| fun a w hfit hO => wp_cond_false (hfit.eval hc) (ht a w hfit hO)

/-! What is known is used, forgotten, said otherwise. -/
def subTM : TM → TM → Prop
  | [], _ => True
  | (t, v) :: r, tm => tget tm t = some v ∧ subTM r tm
theorem subTM.get : ∀ {s tm : TM}, subTM s tm → ∀ t v, tget s t = some v → tget tm t = some v
  | [], _, _, _, _, h => by cases h
  | (u, x) :: r, tm, h, t, v, hg => by
    simp only [tget] at hg
    by_cases hu : u = t
    · subst hu; simp at hg; subst hg; exact h.1
    · have : Nat.beq u t = false := by rw [Bool.eq_false_iff]; intro hb; exact hu (Nat.eq_of_beq_eq_true hb)
      rw [this] at hg
      exact subTM.get h.2 t v hg
theorem Fit.sub {a : Act} (h : Fit n (tget tm) a) (hs : subTM tm' tm) : Fit n (tget tm') a := ⟨h.d, h.sz, fun t v e => h.v t v (hs.get t v e)⟩
theorem J_heap (hh : ∀ w, Ow W K L w → Ow W K L' w) (h : J P n W K F k tm L') : J P n W K F k tm L := .mk <| fun a w hf hO => h a w hf (hh w hO)
theorem J_open {α : Type} {Lx : α → List HP} (hh : ∀ w, Ow W K L w → ∃ x, Ow W K (Lx x) w) (h : ∀ x, J P n W K F k tm (Lx x)) : J P n W K F k tm L := .mk <| fun a w hf hO => by
  obtain ⟨x, hx⟩ := hh w hO
  exact h x a w hf hx
theorem J_fact {φ : Prop} (hh : ∀ w, Ow W K L w → φ) (h : φ → J P n W K F k tm L) : J P n W K F k tm L := .mk <| fun a w hf hO => h (hh w hO) a w hf hO
theorem J_keep (s : TM) (hs : subTM s tm) (h : J P n W K F k s L) : J P n W K F k tm L := .mk <| fun a w hf hO => h a w (hf.sub hs) hO
theorem J_perm (p : L.Perm L') (h : J P n W K F k tm L') : J P n W K F k tm L := J_heap (fun _ H => H.perm p) h

/-! Returns. -/
def retR (W : World) (K : Hl) (Rr : Value → List HP → Prop) : Ending → World → Prop := fun e w' => ∃ v L', Rr v L' ∧ e = .returned v ∧ Ow W K L' w'
section
variable {fn : Func} {Rr : Value → List HP → Prop}
theorem J_ret0 (hr : fn.results = #[]) (hk : ∀ w, Ow W K L w → ∃ L', Rr (.tuple #[]) L' ∧ Ow W K L' w) : J P n W K (bodyPost P fn (retR W K Rr)) (.code .ret :: k) tm L := .mk <| fun a w hf hO => wp_ret (runK_ret (by
  obtain ⟨L', h1, h2⟩ := hk w hO
  exact ⟨hf.d, _, results_none hr _ _ _, _, L', h1, rfl, h2⟩))
theorem J_end0 (hr : fn.results = #[]) (hk : ∀ w, Ow W K L w → ∃ L', Rr (.tuple #[]) L' ∧ Ow W K L' w) : J P n W K (bodyPost P fn (retR W K Rr)) [] tm L := .mk <| fun a w hf hO => by
  obtain ⟨L', h1, h2⟩ := hk w hO
  exact ⟨hf.d, _, results_none hr _ _ _, _, L', h1, rfl, h2⟩
theorem Fit.getD {a : Act} (h : Fit n (tget tm) a) {t : Nat} {v : Value} (e : tget tm t = some v) : a.tmps.getD t undef = v := by
  have := h.v t v e
  simp [Array.getD_eq_getD_getElem?, this]
theorem J_ret1 {t : Tmp} {v : Value} (hr : fn.results = #[.tmp t]) (hv : tget tm t = some v) (hk : ∀ w, Ow W K L w → ∃ L', Rr v L' ∧ Ow W K L' w) : J P n W K (bodyPost P fn (retR W K Rr)) (.code .ret :: k) tm L := .mk <| fun a w hf hO => wp_ret (runK_ret (by
  obtain ⟨L', h1, h2⟩ := hk w hO
  exact ⟨hf.d, _, results_tmp hr _ _ _, _, L', h1, by rw [hf.getD hv], h2⟩))
theorem J_ret2 {t u : Tmp} {v x : Value} (hr : fn.results = #[.tmp t, .tmp u]) (hv : tget tm t = some v) (hx : tget tm u = some x) (hk : ∀ w, Ow W K L w → ∃ L', Rr (.tuple #[v, x]) L' ∧ Ow W K L' w) : J P n W K (bodyPost P fn (retR W K Rr)) (.code .ret :: k) tm L := .mk <| fun a w hf hO => wp_ret (runK_ret (by
  obtain ⟨L', h1, h2⟩ := hk w hO
  exact ⟨hf.d, _, results_tmp2 hr _ _ _, _, L', h1, by rw [hf.getD hv, hf.getD hx], h2⟩))
theorem J_ret3 {t u s : Tmp} {v x y : Value} (hr : fn.results = #[.tmp t, .tmp u, .tmp s]) (hv : tget tm t = some v) (hx : tget tm u = some x) (hy : tget tm s = some y) (hk : ∀ w, Ow W K L w → ∃ L', Rr (.tuple #[v, x, y]) L' ∧ Ow W K L' w) : J P n W K (bodyPost P fn (retR W K Rr)) (.code .ret :: k) tm L := .mk <| fun a w hf hO => wp_ret (runK_ret (by
  obtain ⟨L', h1, h2⟩ := hk w hO
  exact ⟨hf.d, .tuple #[v, x, y], by simp [results, hr, hf.v _ _ hv, hf.v _ _ hx, hf.v _ _ hy], _, L', h1, rfl, h2⟩))
theorem J_ret4 {t u s r : Tmp} {v x y z : Value} (hr : fn.results = #[.tmp t, .tmp u, .tmp s, .tmp r]) (hv : tget tm t = some v) (hx : tget tm u = some x) (hy : tget tm s = some y) (hz : tget tm r = some z) (hk : ∀ w, Ow W K L w → ∃ L', Rr (.tuple #[v, x, y, z]) L' ∧ Ow W K L' w) : J P n W K (bodyPost P fn (retR W K Rr)) (.code .ret :: k) tm L := .mk <| fun a w hf hO => wp_ret (runK_ret (by
  obtain ⟨L', h1, h2⟩ := hk w hO
  exact ⟨hf.d, .tuple #[v, x, y, z], by simp [results, hr, hf.v _ _ hv, hf.v _ _ hx, hf.v _ _ hy, hf.v _ _ hz], _, L', h1, rfl, h2⟩))
/-- A result that lies in a variable of one cell, of several. -/
theorem J_retC {t : Tmp} {ty T : TypeId} {b : Nat} {cs : List Value} (hr : fn.results = #[.cell t ty]) (hv : tget tm t = some (.pointer (some ⟨b, 0, none⟩))) (hm : Tk L (pts b cs T) R) (ht : rowTy P ty cs.length = true) (hk : ∀ w, Ow W K L w → ∃ L', Rr (.agg cs.toArray) L' ∧ Ow W K L' w) : J P n W K (bodyPost P fn (retR W K Rr)) (.code .ret :: k) tm L := .mk <| fun a w hf hO => wp_ret (runK_ret (by
  obtain ⟨L', h1, h2⟩ := hk w hO
  refine ⟨hf.d, _, ?_, _, L', h1, rfl, h2⟩
  have h3 := run_load_row (P := P) (w := w) (t := ty) (b := b) (o := 0) ht (by simpa using (hO.blk hm).range)
  have h4 := hf.v t _ hv
  simp [results, hr, h4, h3, Array.getD_eq_getD_getElem?, asAddr]))
end

/-- A call begins. -/
theorem J_start {f : FuncId} {fn : Func} {c : Code} {args : Array Value} {w : World} {Rr : Value → List HP → Prop} (hf : P.funcs[f]? = some fn) (hb : fn.body = some c) {nt : Nat} (hn : fn.ntmps = nt) (ha : args.size ≤ nt) (H : Ow W K L w) {tm : TM} (ht : ∀ t v, tget tm t = some v → args[t]? = some v)
    (h : J P nt W K (bodyPost P fn (retR W K Rr)) [.code c] tm L) : Calls P f args w (retR W K Rr) := by
  subst hn
  refine calls_of_wp hf hb (h _ w ⟨rfl, by simp; omega, fun t v e => ?_⟩ H)
  have h1 := ht t v e
  have hlt := (Array.getElem?_eq_some_iff.1 h1).1
  rw [Array.getElem?_append_left hlt]
  exact h1
def argTM : Nat → List Value → TM
  | _, [] => []
  | i, v :: r => (i, v) :: argTM (i + 1) r
theorem argTM_get : ∀ (l : List Value) (i t : Nat) (v : Value), tget (argTM i l) t = some v → i ≤ t ∧ l[t - i]? = some v
  | [], _, _, _, h => by cases h
  | x :: r, i, t, v, h => by
    simp only [argTM, tget] at h
    by_cases hu : i = t
    · subst hu; simp at h; subst h; simp
    · have : Nat.beq i t = false := by rw [Bool.eq_false_iff]; intro hb; exact hu (Nat.eq_of_beq_eq_true hb)
      rw [this] at h
      obtain ⟨h1, h2⟩ := argTM_get r (i + 1) t v h
      refine ⟨by omega, ?_⟩
      rw [show t - i = (t - (i + 1)) + 1 by omega]
      simpa using h2
theorem pact {f : FuncId} {fn : Func} {c : Code} {args : List Value} {φ : World → Prop} {pre : List HP} {Rr : Value → List HP → Prop} (hf : P.funcs[f]? = some fn) (hb : fn.body = some c) {nt : Nat} (hn : fn.ntmps = nt) (ha : Nat.ble args.length nt = true)
    (h : ∀ W K, Kn K φ → J P nt W K (bodyPost P fn (retR W K Rr)) [.code c] (argTM 0 args) pre) : Pact P f args.toArray φ pre Rr := fun W K w hK H =>
  J_start hf hb hn (by simpa using ha) H (fun t v e => by have := argTM_get args 0 t v e; simpa using this.2) (h W K hK)

/-! Loops. -/
def Inv {α : Type} (n : Nat) (W : World) (K : Hl) (m : α → Nat) (I : α → Prop) (tmI : α → TM) (LI : α → List HP) (b : Nat) : Act → World → Prop := fun a w => ∃ x, m x < b ∧ I x ∧ Fit n (tget (tmI x)) a ∧ Ow W K (LI x) w
theorem J_loop {α : Type} (x0 : α) (m : α → Nat) (I : α → Prop) (tmI : α → TM) (LI : α → List HP) {c : Code} (h0 : I x0) (ht : subTM (tmI x0) tm) (hL : ∀ w, Ow W K L w → Ow W K (LI x0) w)
    (hr : ∀ x, I x → J P n W K F (.code c :: .hole (Inv n W K m I tmI LI (m x)) :: k) (tmI x) (LI x)) : J P n W K F (.code (.loop c) :: k) tm L := .mk <| fun a w hf hO => by
  classical
  have key : ∀ b a w, (∃ x, m x < b ∧ I x ∧ Fit n (tget (tmI x)) a ∧ Ow W K (LI x) w) → ∃ b', (∃ x, m x = b' ∧ I x ∧ Fit n (tget (tmI x)) a ∧ Ow W K (LI x) w) ∧ b' < b ∧ ∀ c, (∃ x, m x = c ∧ I x ∧ Fit n (tget (tmI x)) a ∧ Ow W K (LI x) w) → b' ≤ c := by
    intro b a w
    induction b using Nat.strongRecOn with
    | _ b ih =>
      rintro ⟨x, hx, h1, h2, h3⟩
      by_cases hy : ∃ y, m y < m x ∧ I y ∧ Fit n (tget (tmI y)) a ∧ Ow W K (LI y) w
      · obtain ⟨b', h4, h5, h6⟩ := ih (m x) hx hy
        exact ⟨b', h4, by omega, h6⟩
      · refine ⟨m x, ⟨x, rfl, h1, h2, h3⟩, hx, fun c ⟨y, h4, h5⟩ => ?_⟩
        rcases Nat.lt_or_ge (m y) (m x) with h6 | h6
        · exact (hy ⟨y, h6, h5⟩).elim
        · omega
  let Iv : Act → World → Prop := fun a w => ∃ x, I x ∧ Fit n (tget (tmI x)) a ∧ Ow W K (LI x) w
  let μ : Act → World → Nat := fun a w => if h : ∃ b, (∃ x, m x = b ∧ I x ∧ Fit n (tget (tmI x)) a ∧ Ow W K (LI x) w) ∧ ∀ c, (∃ x, m x = c ∧ I x ∧ Fit n (tget (tmI x)) a ∧ Ow W K (LI x) w) → b ≤ c then h.choose else 0
  have hμ : ∀ a w, Iv a w → (∃ x, m x = μ a w ∧ I x ∧ Fit n (tget (tmI x)) a ∧ Ow W K (LI x) w) ∧ ∀ c, (∃ x, m x = c ∧ I x ∧ Fit n (tget (tmI x)) a ∧ Ow W K (LI x) w) → μ a w ≤ c := by
    rintro a w ⟨x, h1, h2, h3⟩
    obtain ⟨b', h4, _, h5⟩ := key (m x + 1) a w ⟨x, by omega, h1, h2, h3⟩
    have hex : ∃ b, (∃ x, m x = b ∧ I x ∧ Fit n (tget (tmI x)) a ∧ Ow W K (LI x) w) ∧ ∀ c, (∃ x, m x = c ∧ I x ∧ Fit n (tget (tmI x)) a ∧ Ow W K (LI x) w) → b ≤ c := ⟨b', h4, h5⟩
    have : μ a w = hex.choose := by simp only [μ]; rw [dif_pos hex]
    rw [this]
    exact hex.choose_spec
  refine wp_loop Iv μ ⟨x0, h0, hf.sub ht, hL w hO⟩ fun a w hI => ?_
  obtain ⟨⟨x, h1, h2, h3, h4⟩, _⟩ := hμ a w hI
  refine wp_mono (hr x h2 a w h3 h4) ?_
  intro e a' w' he
  cases e with
  | normal =>
    obtain ⟨y, h5, h6, h7, h8⟩ := he
    have hI' : Iv a' w' := ⟨y, h6, h7, h8⟩
    refine ⟨hI', ?_⟩
    have := (hμ a' w' hI').2 (m y) ⟨y, rfl, h6, h7, h8⟩
    omega
  | _ => exact he
theorem J_again {α : Type} {m : α → Nat} {I : α → Prop} {tmI : α → TM} {LI : α → List HP} {b : Nat} (x : α) (hm : m x < b) (hI : I x) (ht : subTM (tmI x) tm) (hL : ∀ w, Ow W K L w → Ow W K (LI x) w) : J P n W K F (.hole (Inv n W K m I tmI LI b) :: k) tm L := .mk <|
  fun _ w hf hO => ⟨x, hm, hI, hf.sub ht, hL w hO⟩
/-- Ways that meet again. -/
def Meet {α : Type} (n : Nat) (W : World) (K : Hl) (I : α → Prop) (tmI : α → TM) (LI : α → List HP) : Act → World → Prop := fun a w => ∃ x, I x ∧ Fit n (tget (tmI x)) a ∧ Ow W K (LI x) w
theorem J_cut {α : Type} (I : α → Prop) (tmI : α → TM) (LI : α → List HP) {c : Code} (h1 : J P n W K F (.code c :: .hole (Meet n W K I tmI LI) :: k) tm L) (h2 : ∀ x, I x → J P n W K F k (tmI x) (LI x)) : J P n W K F (.code c :: k) tm L := .mk <| fun a w hf hO => by
  refine wp_mono (h1 a w hf hO) ?_
  intro e a' w' he
  cases e with
  | normal => obtain ⟨x, h3, h4, h5⟩ := he; exact h2 x h3 a' w' h4 h5
  | _ => exact he
theorem J_meet {α : Type} {I : α → Prop} {tmI : α → TM} {LI : α → List HP} (x : α) (hI : I x) (ht : subTM (tmI x) tm) (hL : ∀ w, Ow W K L w → Ow W K (LI x) w) : J P n W K F (.hole (Meet n W K I tmI LI) :: k) tm L := .mk <|
  fun _ w hf hO => ⟨x, hI, hf.sub ht, hL w hO⟩

/-! Regions. -/
theorem J_reg {id : Nat} {l : List Oper} (h : JL P n W K F l.toArray k l tm L) : J P n W K F (.code (.region id l.toArray false) :: k) tm L := .mk <| fun a w hf hO => wp_region_lit (h a w hf hO)
/-- Operations by their places. -/
inductive Pick (lo : List Oper) : List Nat → List Oper → Prop
  | nil : Pick lo [] []
  | cons {i : Nat} {o : Oper} {l : List Nat} {r : List Oper} : lo[i]? = some o → Pick lo l r → Pick lo (i :: l) (o :: r)
theorem Pick.eq {lo : List Oper} {l : List Nat} {r : List Oper} (h : Pick lo l r) : l.map (opAt lo.toArray) = r := by
  induction h with
  | nil => rfl
  | cons h _ ih => simp [opAt, h, ih]
theorem J_draw {id : Nat} {lo : List Oper} (l l2 : List Nat) {r r2 : List Oper} (hm : P.follows .mixedOrders = true) (hl : okOrder n lo.toArray l l2 = true) (h1 : Pick lo l r) (h2 : Pick lo l2 r2) (h : JD P n W K F lo.toArray k r2 r tm [] L) : J P n W K F (.code (.region id lo.toArray true) :: k) tm L := .mk <| fun _ _ hf hO => by
  rw [← h1.eq, ← h2.eq] at h
  exact DW_region (fun _ _ _ p h a w h1 h2 => h a w h1 (h2.perm p.symm)) hm hl (fun _ _ a w h h1 h2 => h a w h1 h2) h.h hf hO

section
variable {ops : Array Oper} {o : Oper} {rest : List Oper} {S M M' : List HP} {nx : List Oper} {d : Tmp} {v : Value} {Φ : Value → List HP → Prop} {C : List HP}
theorem JL_nil (h : J P n W K F k tm L) : JL P n W K F ops k [] tm L := ⟨h.h⟩
theorem JL_heap (hh : ∀ w, Ow W K L w → Ow W K L' w) (h : JL P n W K F ops k rest tm L') : JL P n W K F ops k rest tm L := .mk <| fun a w hf hO => h a w hf (hh w hO)
theorem JL_open {α : Type} {Lx : α → List HP} (hh : ∀ w, Ow W K L w → ∃ x, Ow W K (Lx x) w) (h : ∀ x, JL P n W K F ops k rest tm (Lx x)) : JL P n W K F ops k rest tm L := .mk <| fun a w hf hO => by
  obtain ⟨x, hx⟩ := hh w hO
  exact h x a w hf hx
theorem JL_fact {φ : Prop} (hh : ∀ w, Ow W K L w → φ) (h : φ → JL P n W K F ops k rest tm L) : JL P n W K F ops k rest tm L := .mk <| fun a w hf hO => h (hh w hO) a w hf hO
theorem JL_no (hg : wantF ops o (tget tm) = some false) (hd : inB n o.dst = true) (hv : ∀ a, o.dst = some a → a = d) (h : JL P n W K F ops k rest ((d, undef) :: tm) L) (h0 : o.dst = none → JL P n W K F ops k rest tm L) : JL P n W K F ops k (o :: rest) tm L := .mk <| fun a w hf hO => by
  show if Region.wanted o (yielded ops a.tmps) = true then _ else _
  rw [wantF_eq hg hf, if_neg (by simp)]
  cases hdst : o.dst with
  | none => exact h0 hdst a w hf hO
  | some t =>
    obtain rfl := hv t hdst
    refine h _ w ?_ hO
    rw [← upd_cons]
    rw [hdst] at hd
    exact hf.put hd _
theorem JL_step (hg : wantF ops o (tget tm) = some true) (h : ∀ a w, Fit n (tget tm) a → Ow W K L w → o.wp P a w (wpList P ops (runK P F k) rest) (fun _ _ _ => False)) : JL P n W K F ops k (o :: rest) tm L := .mk <| fun a w hf hO => by
  show if Region.wanted o (yielded ops a.tmps) = true then _ else _
  rw [wantF_eq hg hf, if_pos rfl]
  exact .inl (Oper.wp_monoQ (h a w hf hO))
theorem JL_p (hd : o.dst = some d) (hn : Nat.blt d n = true) (hg : wantF ops o (tget tm) = some true) (hp : PE P K L o (tget tm) v) (h : JL P n W K F ops k rest ((d, v) :: tm) L) : JL P n W K F ops k (o :: rest) tm L := JL_step hg fun a w hf hO => by
  unfold Oper.wp
  rw [hp a.eval w (hf.agree o) (Ow.rdw (M := []) hO)]
  show wpList P ops (runK P F k) rest (a.put o.dst v) w
  rw [hd]
  refine h _ w ?_ hO
  rw [← upd_cons]
  exact hf.put (by simpa [inB] using hn) _
theorem JL_m {x : Obj} {g : Nat → Value} (hd : o.dst = some d) (hn : Nat.blt d n = true) (hg : wantF ops o (tget tm) = some true) (hp : AL P o (tget tm) x g) (h : ∀ b, JL P n W K F ops k rest ((d, g b) :: tm) (ob b x :: L)) : JL P n W K F ops k (o :: rest) tm L := JL_step hg fun a w hf hO => by
  unfold Oper.wp
  rw [hp a.eval w (hf.agree o)]
  show wpList P ops (runK P F k) rest (a.put o.dst (g w.heap.size)) (w.alloc x)
  rw [hd]
  refine h _ _ _ ?_ (hO.al x)
  rw [← upd_cons]
  exact hf.put (by simpa [inB] using hn) _
theorem JL_a (hd : o.dst = some d) (hn : Nat.blt d n = true) (hg : wantF ops o (tget tm) = some true) (hs : Sb L C R) (hp : AE P n K R C o (tget tm) Φ) (h : ∀ v L', Φ v L' → JL P n W K F ops k rest ((d, v) :: tm) (L' ++ R)) : JL P n W K F ops k (o :: rest) tm L := JL_step hg fun a w hf hO =>
  hp W K w a _ (Hl.le.refl K) hf (hO.sb hs) fun v L' w' hv hO' => by
    rw [hd]
    refine h v L' hv _ w' ?_ hO'
    rw [← upd_cons]
    exact hf.put (by simpa [inB] using hn) _
theorem JL_a0 (hd : o.dst = none) (hg : wantF ops o (tget tm) = some true) (hs : Sb L C R) (hp : AE P n K R C o (tget tm) Φ) (h : ∀ v L', Φ v L' → JL P n W K F ops k rest tm (L' ++ R)) : JL P n W K F ops k (o :: rest) tm L := JL_step hg fun a w hf hO =>
  hp W K w a _ (Hl.le.refl K) hf (hO.sb hs) fun v L' w' hv hO' => by
    rw [hd]
    exact h v L' hv _ w' hf hO'
theorem tget_over {t : Tmp} {c : Bool} {b : Bool} (hc : tget tm t = some (.bool c)) (hb : c = b) : tget ((t, .bool b) :: tm) = tget tm := by
  subst hb
  rw [← upd_cons]
  funext u
  simp only [upd]
  split
  · rename_i h; subst h; exact hc.symm
  · rfl
/-- A guard's test is decided. -/
theorem JL_split {t : Tmp} {p : Prop} [Decidable p] (hc : tget tm t = some (.bool (decide p))) (h1 : p → JL P n W K F ops k rest ((t, .bool true) :: tm) L) (h2 : ¬ p → JL P n W K F ops k rest ((t, .bool false) :: tm) L) : JL P n W K F ops k rest tm L := .mk <| fun a w hf hO => by
  by_cases hp : p
  · exact h1 hp a w (by rw [tget_over hc (by simp [hp])]; exact hf) hO
  · exact h2 hp a w (by rw [tget_over hc (by simp [hp])]; exact hf) hO
theorem JL_splitb {t : Tmp} {b : Bool} (hc : tget tm t = some (.bool b)) (h1 : b = true → JL P n W K F ops k rest ((t, .bool true) :: tm) L) (h2 : b = false → JL P n W K F ops k rest ((t, .bool false) :: tm) L) : JL P n W K F ops k rest tm L := .mk <| fun a w hf hO => by
  cases b with
  | true => exact h1 rfl a w (by rw [tget_over hc rfl]; exact hf) hO
  | false => exact h2 rfl a w (by rw [tget_over hc rfl]; exact hf) hO

/-! The same where the order is drawn. -/
theorem JD_nil (h : J P n W K F k tm (M ++ S)) : JD P n W K F ops k [] [] tm S M := .mk <| fun _ _ a w h1 h2 => h.h a w h1 (by simpa using h2)
/-- Behind all that may change its order. -/
theorem JD_bar (h : JD P n W K F ops k [] (o :: nx) tm [] (M ++ S)) : JD P n W K F ops k (o :: nx) [] tm S M := .mk <| fun _ => by
  refine DW_finMono ?_ _ _ _ _ h.h
  intro f L hh
  exact fun a w h1 h2 => hh ⟨W, K, w, a, Hl.le.refl K, h1, by simpa using h2⟩ a w h1 (by simpa using h2)
theorem JD_split {t : Tmp} {p : Prop} [Decidable p] (hc : tget tm t = some (.bool (decide p))) (h1 : p → JD P n W K F ops k nx rest ((t, .bool true) :: tm) S M) (h2 : ¬ p → JD P n W K F ops k nx rest ((t, .bool false) :: tm) S M) : JD P n W K F ops k nx rest tm S M := by
  by_cases hp : p
  · have := h1 hp
    refine ⟨?_⟩
    have h3 := this.h
    rwa [tget_over hc (by simp [hp])] at h3
  · have := h2 hp
    refine ⟨?_⟩
    have h3 := this.h
    rwa [tget_over hc (by simp [hp])] at h3
theorem JD_splitb {t : Tmp} {b : Bool} (hc : tget tm t = some (.bool b)) (h1 : b = true → JD P n W K F ops k nx rest ((t, .bool true) :: tm) S M) (h2 : b = false → JD P n W K F ops k nx rest ((t, .bool false) :: tm) S M) : JD P n W K F ops k nx rest tm S M := by
  cases b with
  | true => have h3 := (h1 rfl).h; refine ⟨?_⟩; rwa [tget_over hc rfl] at h3
  | false => have h3 := (h2 rfl).h; refine ⟨?_⟩; rwa [tget_over hc rfl] at h3
theorem JD_no (hg : wantF ops o (tget tm) = some false) (hd : o.dst = some d) (h : JD P n W K F ops k nx rest ((d, undef) :: tm) S M) : JD P n W K F ops k nx (o :: rest) tm S M := .mk <| fun _ _ _ _ _ _ _ => .inl ⟨hg, by rw [hd, upd_cons]; exact h.h⟩
theorem JD_p (hd : o.dst = some d) (hg : wantF ops o (tget tm) = some true) (hk : kindOp o.op = 0) (hp : PE P K S o (tget tm) v) (h : JD P n W K F ops k nx rest ((d, v) :: tm) S M) : JD P n W K F ops k nx (o :: rest) tm S M := .mk <| fun _ _ _ _ _ _ _ => .inr ⟨hg, .inl ⟨hk, [], M, v, .refl _, hp, by rw [hd, upd_cons]; exact h.h⟩⟩
/-- What is read stands still from here on. -/
theorem JD_pM {A : HP} (hd : o.dst = some d) (hg : wantF ops o (tget tm) = some true) (hk : kindOp o.op = 0) (ht : Tk M A M') (hp : PE P K (A :: S) o (tget tm) v) (h : JD P n W K F ops k nx rest ((d, v) :: tm) (A :: S) M') : JD P n W K F ops k nx (o :: rest) tm S M := .mk <| fun _ _ _ _ _ _ _ => .inr ⟨hg, .inl ⟨hk, [A], M', v, ht.perm, hp, by rw [hd, upd_cons]; exact h.h⟩⟩
theorem JD_m {x : Obj} {g : Nat → Value} (hd : o.dst = some d) (hg : wantF ops o (tget tm) = some true) (hk : kindOp o.op = 1) (hp : AL P o (tget tm) x g) (h : ∀ b, JD P n W K F ops k nx rest ((d, g b) :: tm) S (ob b x :: M)) : JD P n W K F ops k nx (o :: rest) tm S M := .mk <| fun _ _ _ _ _ _ _ => .inr ⟨hg, .inr (.inl ⟨hk, x, g, hp, fun b => by rw [hd, upd_cons]; exact (h b).h⟩)⟩
theorem JD_a (hd : o.dst = some d) (hg : wantF ops o (tget tm) = some true) (hk : kindOp o.op = 2) (hs : Sb M C R) (hp : AE P n K (R ++ S) C o (tget tm) Φ) (h : ∀ v L', Φ v L' → JD P n W K F ops k nx rest ((d, v) :: tm) S (L' ++ R)) : JD P n W K F ops k nx (o :: rest) tm S M := .mk <| fun W2 K' w a hK hf hO => .inr ⟨hg, .inr (.inr ⟨hk, by
  refine hp W2 K' w a _ hK hf (by rw [← List.append_assoc]; exact hO.perm (hs.perm.append_right S)) fun v L' w' hv hO' => ⟨v, rfl, L' ++ R, by rw [List.append_assoc]; exact hO', ?_⟩
  rw [hd, upd_cons]
  exact (h v L' hv).h⟩)⟩
theorem JD_a0 (hd : o.dst = none) (hg : wantF ops o (tget tm) = some true) (hk : kindOp o.op = 2) (hs : Sb M C R) (hp : AE P n K (R ++ S) C o (tget tm) Φ) (h : ∀ v L', Φ v L' → JD P n W K F ops k nx rest tm S (L' ++ R)) : JD P n W K F ops k nx (o :: rest) tm S M := .mk <| fun W2 K' w a hK hf hO => .inr ⟨hg, .inr (.inr ⟨hk, by
  refine hp W2 K' w a _ hK hf (by rw [← List.append_assoc]; exact hO.perm (hs.perm.append_right S)) fun v L' w' hv hO' => ⟨v, rfl, L' ++ R, by rw [List.append_assoc]; exact hO', ?_⟩
  rw [hd]
  exact (h v L' hv).h⟩)⟩
end
end
end Go.Pm
