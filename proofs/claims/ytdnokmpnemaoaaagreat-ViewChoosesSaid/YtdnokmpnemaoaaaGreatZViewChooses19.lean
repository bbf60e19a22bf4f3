/-
  Cq4, Cq7, Ru1, Cq8, Cq9, Cq10, Ru3, Bq1: merged.
-/
import Derived.Test.YtdnokmpnemaoaaaGreatZViewChooses18
namespace Go.Proofs.YtdnokmpnemaoaaaGreat.C
set_option linter.unusedSimpArgs false
set_option linter.unusedVariables false
set_option maxRecDepth 20000
set_option maxHeartbeats 4000000
open Go.RowKit Go.Pm

def allB : List Sp → Nat → Nat → Bool
  | [], _, _ => true
  | s :: r, k, n => decide (StepOk s k n) && allB r (k + 1) n
theorem allB_iff : ∀ (l : List Sp) (k n : Nat), allB l k n = true ↔ ∀ i s, l[i]? = some s → StepOk s ((k + i : Nat) : Int) n
  | [], k, n => by simp [allB]
  | x :: r, k, n => by
    unfold allB
    rw [Bool.and_eq_true, decide_eq_true_eq, allB_iff r (k + 1) n]
    constructor
    · rintro ⟨h1, h2⟩ i s hi
      cases i with
      | zero => cases hi; exact h1
      | succ i =>
        have := h2 i s hi
        rwa [show k + (i + 1) = k + 1 + i by omega]
    · intro h
      refine ⟨h 0 x rfl, fun i s hi => ?_⟩
      have := h (i + 1) s hi
      rwa [show k + 1 + i = k + (i + 1) by omega]
def checkE (l : List Sp) : Int :=
  if 4096 < l.length then 3 else if allB l 0 l.length = true ∧ (l.getLast?.any fun s => decide (s.op = 22 ∨ s.op = 23)) = true then 0 else 260
theorem checkE_long {l : List Sp} (h : 4096 < l.length) : checkE l = 3 := if_pos h
theorem checkE_bad {l : List Sp} (h : ¬ 4096 < l.length) {i : Nat} {s : Sp} (hi : l[i]? = some s) (hs : ¬ StepOk s i l.length) : checkE l = 260 := by
  unfold checkE
  rw [if_neg h, if_neg]
  rintro ⟨h1, _⟩
  have := (allB_iff l 0 l.length).1 h1 i s hi
  rw [Nat.zero_add] at this
  exact hs this
theorem checkE_last {l : List Sp} (h : ¬ 4096 < l.length) (hl : ∀ s, l[l.length - 1]? = some s → ¬ (s.op = 22 ∨ s.op = 23)) : checkE l = 260 := by
  unfold checkE
  rw [if_neg h, if_neg]
  rintro ⟨_, h1⟩
  rw [List.getLast?_eq_getElem?] at h1
  cases he : l[l.length - 1]? with
  | none => rw [he] at h1; simp at h1
  | some s => rw [he] at h1; exact hl s he (by simpa using h1)
theorem checkE_ok {l : List Sp} (h : ¬ 4096 < l.length) (ha : ∀ i, i < l.length → ∀ s, l[i]? = some s → StepOk s i l.length) {s : Sp} (hs : l[l.length - 1]? = some s) (ho : s.op = 22 ∨ s.op = 23) : checkE l = 0 := by
  unfold checkE
  rw [if_neg h, if_pos]
  refine ⟨(allB_iff l 0 l.length).2 fun i s hi => ?_, ?_⟩
  · rw [Nat.zero_add]
    exact ha i (List.getElem?_eq_some_iff.1 hi).1 s hi
  · rw [List.getLast?_eq_getElem?, hs]
    simpa using ho
theorem step_b (s : Sp) (k n : Int) (hs : SpN s) (b : Bool) (hb : decide (StepOk s k n) = b) : Pact Tryz.prog 119 #[.agg (spC s).toArray, .int .i64 k, .int .i64 n] (fun _ => True) [] (ret0 (.bool b)) := hb ▸ step_s s k n hs
theorem check_s (a : Option Addr) (c : Nat) (l : List Sp) (hn : ∀ s ∈ l, SpN s) (hl : l.length ≤ 1000000000000) : Pact Tryz.prog 89 #[.slice a l.length c] (fun w => Vw w (.slice a l.length c) 7 l.length (flat spC l)) [] (ret0 (.int .i64 (checkE l))) := by
  refine pact Tryz.func89 rfl Tryz.ntmps89 rfl ?_
  intro W K hK
  by_cases h1 : 4096 < l.length
  · (repeat' (first | (refine gL ?_; first | refine yL0 ?_ | refine yL ?_ | (refine yM ?_; intro _)) | refine yJ ?_ | (refine yI ?_ ?_ <;> intro _ <;> try exact xX) | (refine yK ?_ ?_ <;> intro hgb <;> first | subst hgb | fail_if_success have : type_of% hgb := rfl) | fail))
    exact J_ret1 rfl (by rfl) fun w H => ⟨_, ⟨by rw [checkE_long h1], rfl⟩, H.sel .nil⟩
  (repeat' (first | (refine gL ?_; first | refine yL0 ?_ | refine yL ?_ | (refine yM ?_; intro _)) | refine yJ ?_ | (refine yI ?_ ?_ <;> intro _ <;> try exact xX) | (refine yK ?_ ?_ <;> intro hgb <;> first | subst hgb | fail_if_success have : type_of% hgb := rfl) | fail))
  refine J_loop (α := Nat) 0 (fun k => l.length - k) (fun k => k ≤ l.length ∧ ∀ i, i < k → ∀ s, l[i]? = some s → StepOk s i l.length) (fun k => [(0, .slice a l.length c), (2, .int .i64 0), (9, .slice a l.length c), (10, .int .i64 l.length), (11, .int .i64 k)])
    (fun _ => []) ⟨Nat.zero_le _, fun i h => absurd h (Nat.not_lt_zero _)⟩ ⟨rfl, rfl, rfl, rfl, rfl, trivial⟩ (fun w H => H.sel .nil) ?_
  rintro k ⟨hk, hall⟩
  by_cases hlt : k < l.length
  · obtain ⟨s, hs⟩ : ∃ s, l[k]? = some s := ⟨_, List.getElem?_eq_getElem hlt⟩
    have hsn := hn s (List.mem_of_getElem? hs)
    by_cases hok : StepOk s k l.length
    · (repeat' (first | (refine gL ?_; first | refine yL0 ?_ | refine yL ?_ | (refine gL_go ?_; (refine JL_goq (step_b s k l.length hsn true (decide_eq_true hok)) (hφ := xF) (h := ?_); rintro _ _ ⟨rfl, rfl⟩; try simp only [cAp, nAp])) | (refine yM ?_; intro _)) | refine yJ ?_ | (refine yI ?_ ?_ <;> intro _ <;> try exact xX) | (refine yK ?_ ?_ <;> intro hgb <;> first | subst hgb | fail_if_success have : type_of% hgb := rfl) | fail))
      refine J_again (k + 1) (by omega) ⟨hlt, fun i hi s' hs' => ?_⟩ ⟨rfl, rfl, rfl, rfl, rfl, trivial⟩ (fun w H => H.sel .nil)
      by_cases hik : i = k
      · subst hik; rw [hs] at hs'; cases hs'; exact hok
      · exact hall i (by omega) s' hs'
    · (repeat' (first | (refine gL ?_; first | refine yL0 ?_ | refine yL ?_ | (refine gL_go ?_; (refine JL_goq (step_b s k l.length hsn false (decide_eq_false hok)) (hφ := xF) (h := ?_); rintro _ _ ⟨rfl, rfl⟩; try simp only [cAp, nAp])) | (refine yM ?_; intro _)) | refine yJ ?_ | (refine yI ?_ ?_ <;> intro _ <;> try exact xX) | (refine yK ?_ ?_ <;> intro hgb <;> first | subst hgb | fail_if_success have : type_of% hgb := rfl) | fail))
      exact J_ret1 rfl (by rfl) fun w H => ⟨_, ⟨by rw [checkE_bad h1 hs hok], rfl⟩, H.sel .nil⟩
  · obtain rfl : k = l.length := by omega
    by_cases h0 : l.length = 0
    · (repeat' (first | (refine gL ?_; first | refine yL0 ?_ | refine yL ?_ | (refine yM ?_; intro _)) | refine yJ ?_ | (refine yI ?_ ?_ <;> intro _ <;> try exact xX) | (refine yK ?_ ?_ <;> intro hgb <;> first | subst hgb | fail_if_success have : type_of% hgb := rfl) | fail))
      exact J_ret1 rfl (by rfl) fun w H => ⟨_, ⟨by rw [checkE_last h1 (fun s hs => by rw [List.getElem?_eq_none (by omega)] at hs; cases hs)], rfl⟩, H.sel .nil⟩
    · obtain ⟨s, hs⟩ : ∃ s, l[l.length - 1]? = some s := ⟨_, List.getElem?_eq_getElem (by omega)⟩
      have hs2 : l[((l.length : Int) - 1).toNat]? = some s := by rw [show ((l.length : Int) - 1).toNat = l.length - 1 by omega]; exact hs
      (repeat' (first | (refine gL ?_; first | refine yL0 ?_ | refine yL ?_ | (refine yM ?_; intro _)) | refine yJ ?_ | (refine yI ?_ ?_ <;> intro _ <;> try exact xX) | (refine yK ?_ ?_ <;> intro hgb <;> first | subst hgb | fail_if_success have : type_of% hgb := rfl) | fail))
      all_goals (refine J_ret1 rfl (by rfl) fun w H => ⟨_, ⟨?_, rfl⟩, H.sel .nil⟩; refine congrArg (Value.int .i64) ?_; first | exact (checkE_ok h1 hall hs (by omega)).symm | exact (checkE_last h1 (fun s' hs' => by rw [hs] at hs'; cases hs'; omega)).symm)
theorem check_b (a : Option Addr) (c : Nat) (l : List Sp) (hn : ∀ s ∈ l, SpN s) (hl : l.length ≤ 1000000000000) (e : Int) (he : checkE l = e) : Pact Tryz.prog 89 #[.slice a l.length c] (fun w => Vw w (.slice a l.length c) 7 l.length (flat spC l)) [] (ret0 (.int .i64 e)) := he ▸ check_s a c l hn hl
def cnt (l : List Sp) : Nat := l.countP fun s => decide (s.op ≤ 12)

structure Cd where
  op : Int
  n : Int
  pa : Int
  pl : Int
  a : Option Addr
  c : Nat
  l : List Cd
structure St where
  op : Int
  n : Int
  m : Int
  cd : Cd
  ta : Option Addr
  tc : Nat
  th : List St
  ea : Option Addr
  ec : Nat
  el : List St
abbrev cdC (x : Cd) : List Value := [.int .i64 x.op, .slice x.a x.l.length x.c, .int .u32 x.pa, .int .i64 x.pl, .int .i64 x.n]
abbrev stC (s : St) : List Value := [.int .i64 s.op, .int .i64 s.cd.op, .slice s.cd.a s.cd.l.length s.cd.c, .int .u32 s.cd.pa, .int .i64 s.cd.pl, .int .i64 s.cd.n, .slice s.ta s.th.length s.tc, .slice s.ea s.el.length s.ec, .int .i64 s.n, .int .i64 s.m]
structure CdN (x : Cd) : Prop where
  op : I64 x.op
  n : I64 x.n
  pa : U32 x.pa
  pl : I64 x.pl
structure StN (s : St) : Prop where
  op : I64 s.op
  n : I64 s.n
  m : I64 s.m
  cd : CdN s.cd
def CdR : Nat → Cd → Prop
  | 0, x => CdN x ∧ x.l.length ≤ 140737488355328
  | d + 1, x => CdN x ∧ x.l.length ≤ 140737488355328 ∧ ∀ y ∈ x.l, CdR d y
def CdV (w : World) : Nat → Cd → Prop
  | 0, _ => True
  | d + 1, x => Vw w (.slice x.a x.l.length x.c) 5 x.l.length (flat cdC x.l) ∧ ∀ y ∈ x.l, CdV w d y
def CdF : Nat → Cd → Prop
  | 0, x => CdN x ∧ x.l = []
  | d + 1, x => CdN x ∧ x.l.length ≤ 5 ∧ ∀ y ∈ x.l, CdF d y
def LsR : Nat → List St → Prop
  | 0, l => l.length ≤ 140737488355328
  | d + 1, l => l.length ≤ 140737488355328 ∧ ∀ s ∈ l, StN s ∧ CdR 5 s.cd ∧ LsR d s.th ∧ LsR d s.el
def LsV (w : World) : Nat → Option Addr → Nat → List St → Prop
  | 0, _, _, _ => True
  | d + 1, a, c, l => Vw w (.slice a l.length c) 10 l.length (flat stC l) ∧ ∀ s ∈ l, CdV w 5 s.cd ∧ LsV w d s.ta s.tc s.th ∧ LsV w d s.ea s.ec s.el
def LsF : Nat → List St → Prop
  | 0, l => l = []
  | d + 1, l => l.length ≤ 6 ∧ ∀ s ∈ l, StN s ∧ CdF 5 s.cd ∧ LsF d s.th ∧ LsF d s.el
theorem CdR.len {d : Nat} {x : Cd} (h : CdR d x) : x.l.length ≤ 140737488355328 := by
  cases d with
  | zero => exact h.2
  | succ d => exact h.2.1
structure Lc where
  k : Nat
  ys : List Cd
  a : Option Addr
  c : Nat
abbrev Pa := List (Bool × List Int)
def Wi (p q : Pf) : Prop := Rt p ∧ Rt q ∧ p.2 ≤ q.2 ∧ q.1 / pw p.2 = p.1 / pw p.2
instance (p q : Pf) : Decidable (Wi p q) := inferInstanceAs (Decidable (_ ∧ _ ∧ _ ∧ _))
def firstN : Pa → Option Int
  | (false, a :: _) :: _ => some a
  | _ => none
def originN (p : Pa) : Option Int := match p.getLast? with
  | some (false, l) => l.getLast?
  | _ => none
def lenN : Pa → Nat
  | [] => 0
  | s :: p => (if s.1 then 1 else s.2.length) + lenN p
def hasN (p : Pa) (n : Int) : Bool := p.any fun s => decide (n ∈ s.2)
def testN (op n : Int) (q p : Pf) (x : Nf) : Bool :=
  if op = 4 then decide (Wi q p) && decide (p.2 ≤ n) else if op = 5 then decide (p = q) else if op = 6 then hasN x.path n
  else if op = 7 then decide (firstN x.path = some n) else if op = 8 then decide (originN x.path = some n) else if op = 9 then decide (n < lenN x.path)
  else if op = 10 then decide (n ∈ x.comms) else if op = 11 then decide (x.origin = n) else if op = 12 then x.med.any fun m => decide (n < m) else false
def preN (n : Int) (m : Nat) : Pa → Pa
  | (false, l) :: r => (false, List.replicate m n ++ l) :: r
  | p => (false, List.replicate m n) :: p
def doN (op n m : Int) (x : Nf) : Option Nf :=
  if op = 4 then (if ckP x.path 0 = true ∧ m ≤ 64 - (tot x.path : Int) then some { x with path := preN n m.toNat x.path } else none)
  else if op = 5 then some { x with loc := some n } else if op = 6 then some { x with med := some n }
  else if op = 7 then (if n ∈ x.comms then some x else if 32 ≤ x.comms.length then none else some { x with comms := x.comms ++ [n] })
  else if op = 8 then some { x with comms := x.comms.filter fun c => decide (c ≠ n) } else if op = 9 then some { x with comms := [] } else none
def nextN (s : Sp) (p : Pf) (x : Nf) : Option (Int × Nf) :=
  if s.op ≤ 12 then some ((if testN s.op s.n (s.a, s.l) p x then s.x else s.y), x) else if s.op = 21 then some (s.x, x) else (doN (s.op - 20) s.n s.m x).map fun y => (s.x, y)
def playW (T : List Sp) (p : Pf) (k : Nat) (x : Nf) : Option Nf × Nat :=
  match T[k]? with
  | none => (none, 1)
  | some s =>
    if s.op = 22 then (some x, 1) else if s.op = 23 then (none, 1) else
    match nextN s p x with
    | none => (none, 1)
    | some (z, y) => if k < z.toNat ∧ z.toNat < T.length then ((playW T p z.toNat y).1, (playW T p z.toNat y).2 + 1) else (none, 1)
termination_by T.length - k
def RightT (T : List Sp) : Prop := ∀ (k : Nat) (s : Sp), T[k]? = some s → StepOk s k T.length
theorem playW_acc {T : List Sp} {p : Pf} {k : Nat} {x : Nf} {s : Sp} (h : T[k]? = some s) (ho : s.op = 22) : playW T p k x = (some x, 1) := by
  rw [playW, h]; simp only [if_pos ho]
theorem playW_rej {T : List Sp} {p : Pf} {k : Nat} {x : Nf} {s : Sp} (h : T[k]? = some s) (ho : s.op = 23) : playW T p k x = (none, 1) := by
  rw [playW, h]; simp only [if_pos ho, if_neg (show ¬ s.op = 22 by omega)]
theorem playW_no {T : List Sp} {p : Pf} {k : Nat} {x : Nf} {s : Sp} (h : T[k]? = some s) (h2 : s.op ≠ 22) (hn : nextN s p x = none) : playW T p k x = (none, 1) := by
  rw [playW, h]; simp only [if_neg h2, hn]
  split <;> rfl
theorem next_ahead {T : List Sp} {p : Pf} {k : Nat} {x y : Nf} {s : Sp} {z : Int} (hk : StepOk s k T.length) (h2 : s.op ≠ 22) (h3 : s.op ≠ 23) (hn : nextN s p x = some (z, y)) : (k : Int) < z ∧ z < T.length := by
  unfold nextN at hn
  rcases hk with ⟨ho, _, _, hx, hy⟩ | ⟨ho, _, _, _, hx, _⟩ | ⟨ho, _⟩ | ⟨ho, _, _, hx, _⟩
  · rw [if_pos ho.2] at hn
    simp only [Option.some.injEq, Prod.mk.injEq] at hn
    split at hn <;> omega
  · rw [if_neg (by omega), if_pos ho] at hn
    simp only [Option.some.injEq, Prod.mk.injEq] at hn
    omega
  · omega
  · rw [if_neg (by omega), if_neg (by omega)] at hn
    obtain ⟨y', _, e⟩ := Option.map_eq_some_iff.1 hn
    simp only [Prod.mk.injEq] at e
    omega
theorem playW_step {T : List Sp} {p : Pf} {k : Nat} {x y : Nf} {s : Sp} {z : Int} (h : T[k]? = some s) (hk : StepOk s k T.length) (h2 : s.op ≠ 22) (h3 : s.op ≠ 23) (hn : nextN s p x = some (z, y)) : playW T p k x = ((playW T p z.toNat y).1, (playW T p z.toNat y).2 + 1) := by
  have ha := next_ahead hk h2 h3 hn
  rw [playW, h]; simp only [if_neg h2, if_neg h3, hn]
  rw [if_pos (by omega)]
theorem right_of_check {T : List Sp} (h : checkE T = 0) : RightT T := by
  unfold checkE at h
  split at h
  · cases h
  · split at h
    · rename_i h2
      intro k s hs
      have := (allB_iff T 0 T.length).1 h2.1 k s hs
      rwa [Nat.zero_add] at this
    · cases h
/-! What a condition, what statements mean. -/

theorem LsR.len {d : Nat} {l : List St} (h : LsR d l) : l.length ≤ 140737488355328 := by
  cases d with
  | zero => exact h
  | succ d => exact h.1
structure Lf where
  k : Nat
  ys : List St
  a : Option Addr
  c : Nat
def SeenS (d : Nat) (s : St) (w : World) : Prop := CdV w 5 s.cd ∧ LsV w d s.ta s.tc s.th ∧ LsV w d s.ea s.ec s.el

theorem preP {P : Program} {f : FuncId} {args : Array Value} {φ ψ : World → Prop} {C : List HP} {Rr : Value → List HP → Prop} (S : Pact P f args φ C Rr) (h : ∀ w, ψ w → φ w) : Pact P f args ψ C Rr := fun W K w hK H => S W K w (hK.imp h) H
def Kids (φ : Cd → World → Prop) (x : Cd) (w : World) : Prop := (x.l ≠ [] → Vw w (.slice x.a x.l.length x.c) 5 x.l.length (flat cdC x.l)) ∧ ∀ y ∈ x.l, φ y w
theorem CdF.kids {d : Nat} {x : Cd} (h : CdF d x) {w : World} (hv : CdV w d x) : Kids (fun y w => CdV w (d - 1) y) x w := by
  cases d with
  | zero => rw [Kids, h.2]; exact ⟨fun h => absurd rfl h, fun y hy => absurd hy List.not_mem_nil⟩
  | succ d => exact ⟨fun _ => hv.1, hv.2⟩
theorem CdF.len {d : Nat} {x : Cd} (h : CdF d x) : x.l.length ≤ 5 := by
  cases d with
  | zero => rw [h.2]; simp
  | succ d => exact h.2.1
theorem CdF.sub {d : Nat} {x y : Cd} (h : CdF d x) (hy : y ∈ x.l) : CdF (d - 1) y := by
  cases d with
  | zero => rw [h.2] at hy; cases hy
  | succ d => exact h.2.2 y hy
def tests : Nat → Cd → Nat
  | 0, _ => 1
  | d + 1, x => if x.l = [] then 1 else (x.l.map (tests d)).sum
/-! none, cond. -/

theorem any_yes {α : Type} {g : α → Bool} {l : List α} {y : α} (h : y ∈ l) (hg : g y = true) : l.any g = true := List.any_eq_true.2 ⟨y, h, hg⟩
theorem any_take {α : Type} {g : α → Bool} {l : List α} {k : Nat} {y : α} (h : l[k]? = some y) (ha : (l.take k).any g = false) (hg : g y = false) : (l.take (k + 1)).any g = false := by
  rw [List.take_add_one, h, List.any_append, ha]
  simp [hg]

theorem phas1_s (s : Sg) (hl : s.as_.length ≤ 35184372088832) (gb : Nat) (n : Int) : Pact Tryz.prog 87 [.agg (sgC s).toArray, .pointer (some ⟨gb, 0, none⟩)].toArray (fun w => segV w s) [pts gb [.int .u32 n] 22] (fun u L' => u = .bool (decide (n ∈ s.as_)) ∧ L' = [pts gb [.int .u32 n] 22]) := by
  refine pact Tryz.func87 rfl Tryz.ntmps87 rfl ?_
  intro W K hK
  (repeat' (first | (refine gL ?_; first | refine yL0 ?_ | refine yL ?_ | (refine gL_go ?_; (refine JL_goq (contains_s s.a s.c s.as_ n hl) (hφ := (by (try simp only [cAp, nAp]); exact fun w hr => hK w hr.1)) (h := ?_); rintro _ _ ⟨rfl, rfl⟩; try simp only [cAp, nAp])) | (refine yM ?_; intro _)) | refine yJ ?_ | fail))
  exact J_ret1 rfl (by rfl) fun w H => ⟨_, ⟨rfl, rfl⟩, H.sel xZ⟩
theorem indG_s (a : Option Addr) (c : Nat) (l : List Sg) (db : Nat) (n : Int) (hl : l.length ≤ 1000) (hs : ∀ s ∈ l, SgN s) : Pact Tryz.prog 117 #[.slice a l.length c, .func (.func 87) #[] #[.pointer (some ⟨db, 0, none⟩)]] (fun w => PathV w a c l) [pts db [.int .u32 n] 22] (fun u L' => ∃ z : Int, (decide (0 ≤ z) = l.any fun s => decide (n ∈ s.as_)) ∧ u = .int .i64 z ∧ L' = [pts db [.int .u32 n] 22]) := by
  refine pact Tryz.func117 rfl Tryz.ntmps117 rfl ?_
  intro W K hK
  have ho : ownB Tryz.prog 87 = true := by decide +kernel
  have hkv : Kn K (fun w => Vw w (.slice a l.length c) 2 l.length (flat sgC l)) := hK.imp fun w h => h.vw
  (repeat' (first | (refine gL ?_; first | refine yL0 ?_ | refine yL ?_) | refine yJ ?_ | (refine yI ?_ ?_ <;> intro _ <;> try exact xX) | (refine yK ?_ ?_ <;> intro hgb <;> first | subst hgb | fail_if_success have : type_of% hgb := rfl) | fail))
  refine J_loop (α := Nat) 0 (fun k => l.length - k) (fun k => k ≤ l.length ∧ ((l.take k).any fun s => decide (n ∈ s.as_)) = false) (fun k => [(0, .slice a l.length c), (1, .func (.func 87) #[] #[.pointer (some ⟨db, 0, none⟩)]), (7, .int .i64 l.length), (8, .int .i64 k)]) (fun _ => [pts db [.int .u32 n] 22]) ⟨Nat.zero_le _, rfl⟩ ⟨rfl, rfl, rfl, rfl, trivial⟩ (fun w H => H.sel xZ) ?_
  rintro k ⟨hk, hall⟩
  by_cases hlt : k < l.length
  · obtain ⟨y, hy⟩ : ∃ y, l[k]? = some y := ⟨_, List.getElem?_eq_getElem hlt⟩
    have hm := List.mem_of_getElem? hy
    have hPy := phas1_s y (hs y hm).1 db n
    rcases hby : decide (n ∈ y.as_) with _ | _
    all_goals rw [hby] at hPy
    · (repeat' (first | (refine gL ?_; first | refine yL0 ?_ | refine yL ?_ | (refine gL_go ?_; (refine JL_goq (hPy) (hφ := (by (try simp only [cAp, nAp]); exact fun w hr => (hK w hr.1).segs y hm)) (h := ?_); rintro _ _ ⟨rfl, rfl⟩; try simp only [cAp, nAp]))) | refine yJ ?_ | (refine yI ?_ ?_ <;> intro _ <;> try exact xX) | (refine yK ?_ ?_ <;> intro hgb <;> first | subst hgb | fail_if_success have : type_of% hgb := rfl) | fail))
      exact J_again (k + 1) (by omega) ⟨by omega, any_take hy hall hby⟩ ⟨rfl, rfl, rfl, rfl, trivial⟩ (fun w H => H.sel xZ)
    · (repeat' (first | (refine gL ?_; first | refine yL0 ?_ | refine yL ?_ | (refine gL_go ?_; (refine JL_goq (hPy) (hφ := (by (try simp only [cAp, nAp]); exact fun w hr => (hK w hr.1).segs y hm)) (h := ?_); rintro _ _ ⟨rfl, rfl⟩; try simp only [cAp, nAp]))) | refine yJ ?_ | (refine yI ?_ ?_ <;> intro _ <;> try exact xX) | (refine yK ?_ ?_ <;> intro hgb <;> first | subst hgb | fail_if_success have : type_of% hgb := rfl) | fail))
      exact J_ret1 rfl (by rfl) fun w H => ⟨_, ⟨k, by rw [any_yes hm hby]; simp, rfl, rfl⟩, H.sel xZ⟩
  · obtain rfl : k = l.length := by omega
    rw [List.take_length] at hall
    (repeat' (first | (refine gL ?_; first | refine yL0 ?_ | refine yL ?_) | refine yJ ?_ | (refine yI ?_ ?_ <;> intro _ <;> try exact xX) | (refine yK ?_ ?_ <;> intro hgb <;> first | subst hgb | fail_if_success have : type_of% hgb := rfl) | fail))
    exact J_ret1 rfl (by rfl) fun w H => ⟨_, ⟨-1, by rw [hall]; rfl, rfl, rfl⟩, H.sel xZ⟩
theorem contG_s (a : Option Addr) (c : Nat) (l : List Sg) (db : Nat) (n : Int) (hl : l.length ≤ 1000) (hs : ∀ s ∈ l, SgN s) : Pact Tryz.prog 86 #[.slice a l.length c, .func (.func 87) #[] #[.pointer (some ⟨db, 0, none⟩)]] (fun w => PathV w a c l) [pts db [.int .u32 n] 22] (fun u L' => u = .bool (l.any fun s => decide (n ∈ s.as_)) ∧ L' = [pts db [.int .u32 n] 22]) := by
  refine pact Tryz.func86 rfl Tryz.ntmps86 rfl ?_
  intro W K hK
  (repeat' (first | (refine gL ?_; first | refine yL0 ?_ | refine yL ?_ | (refine gL_go ?_; (refine JL_goq (indG_s a c l db n hl hs) (hφ := (by (try simp only [cAp, nAp]); exact fun w hr => hK w hr.1)) (h := ?_); rintro _ _ ⟨z, hz, rfl, rfl⟩; try simp only [cAp, nAp]))) | refine yJ ?_ | fail))
  exact J_ret1 rfl (by rfl) fun w H => ⟨_, ⟨by rw [← hz], rfl⟩, H.sel xZ⟩
theorem hasN_pN (p : List Sg) (n : Int) : hasN (pN p) n = p.any fun s => decide (n ∈ s.as_) := by
  unfold hasN pN
  rw [List.any_map]
  rfl
theorem phas_s (a : Option Addr) (c : Nat) (p : List Sg) (n : Int) (hl : p.length ≤ 1000) (hs : ∀ s ∈ p, SgN s) : Pact Tryz.prog 52 #[.slice a p.length c, .int .u32 n] (fun w => PathV w a c p) [] (ret0 (.bool (hasN (pN p) n))) := by
  refine pact Tryz.func52 rfl Tryz.ntmps52 rfl ?_
  intro W K hK
  (repeat' (first | (refine gL ?_; first | refine yL0 ?_ | refine yL ?_ | (refine gL_go ?_; (refine JL_goq (contG_s a c p _ n hl hs) (hφ := (by (try simp only [cAp, nAp]); exact fun w hr => hK w hr.1)) (h := ?_); rintro _ _ ⟨rfl, rfl⟩; try simp only [cAp, nAp])) | (refine yM ?_; intro _)) | refine yJ ?_ | fail))
  exact J_ret1 rfl (by rfl) fun w H => ⟨_, ⟨by rw [hasN_pN], rfl⟩, H.sel .nil⟩
theorem lenN_append (p q : Pa) : lenN (p ++ q) = lenN p + lenN q := by
  induction p with
  | nil => simp [lenN]
  | cons s p ih => simp [lenN, ih]; omega
theorem lenN_le (p : List Sg) (h : ∀ s ∈ p, SgN s) : lenN (pN p) ≤ p.length * 35184372088832 := by
  induction p with
  | nil => simp [lenN, pN]
  | cons s p ih =>
    have h1 := ih (fun x hx => h x (List.mem_cons_of_mem _ hx))
    have h2 := (h s (List.mem_cons_self ..)).1
    have : lenN (pN (s :: p)) = (if s.set then 1 else s.as_.length) + lenN (pN p) := rfl
    rw [this, List.length_cons]
    split <;> omega
theorem plen_s (a : Option Addr) (c : Nat) (p : List Sg) (h8 : p.length ≤ 1000) (hsm : ∀ s ∈ p, SgN s) : Pact Tryz.prog 128 #[.slice a p.length c] (fun w => PathV w a c p) [] (ret0 (.int .i64 (lenN (pN p)))) := by
  refine pact Tryz.func128 rfl Tryz.ntmps128 rfl ?_
  intro W K hK
  have hv : Kn K (fun w => Vw w (.slice a p.length c) 2 p.length (flat sgC p)) := hK.imp fun _ h => h.vw
  (repeat' (first | (refine gL ?_; first | refine yL0 ?_ | refine yL ?_ | (refine yM ?_; intro _)) | refine yJ ?_ | (refine yI ?_ ?_ <;> intro _ <;> try exact xX) | (refine yK ?_ ?_ <;> intro hgb <;> first | subst hgb | fail_if_success have : type_of% hgb := rfl) | fail))
  refine J_loop (α := Nat) 0 (fun x => p.length - x) (fun x => x ≤ p.length) (fun x => [(3, .int .i64 (lenN (pN (p.take x)))), (6, .slice a p.length c), (7, .int .i64 p.length), (8, .int .i64 x)]) (fun x => []) (Nat.zero_le _) ⟨rfl, rfl, rfl, rfl, trivial⟩ (fun w H => H) ?_
  rintro k hk
  have htk := lenN_le (p.take k) (fun s hs => hsm s (List.take_subset _ _ hs))
  have hlk : (p.take k).length ≤ 1000 := by rw [List.length_take]; omega
  obtain ⟨N, hN⟩ : ∃ N, lenN (pN (p.take k)) = N := ⟨_, rfl⟩
  rw [hN] at htk ⊢
  have hNb : N ≤ 35184372088832000 := by omega
  by_cases hlt : k < p.length
  · obtain ⟨s, hs⟩ : ∃ s, p[k]? = some s := ⟨_, List.getElem?_eq_getElem hlt⟩
    have hm := List.mem_of_getElem? hs
    have hsn1 := (hsm s hm).1
    have hst : lenN (pN (p.take (k + 1))) = N + (if s.set then 1 else s.as_.length) := by
      rw [take_snoc hs]
      unfold pN at hN ⊢
      rw [List.map_append, lenN_append, hN]
      simp [lenN]
    (repeat' (first | (refine gL ?_; first | refine yL0 ?_ | refine yL ?_ | (refine yM ?_; intro _)) | refine yJ ?_ | (refine yI ?_ ?_ <;> intro _ <;> try exact xX) | (refine yK ?_ ?_ <;> intro hgb <;> first | subst hgb | fail_if_success have : type_of% hgb := rfl) | fail))
    all_goals (refine J_again (k + 1) (by omega) (by omega) ⟨?_, rfl, rfl, rfl, trivial⟩ (fun w H => H.sel .nil); rw [hst]; show some _ = some _; simp [*])
  · have hke : k = p.length := by omega
    rw [hke, List.take_length] at hN
    (repeat' (first | (refine gL ?_; first | refine yL0 ?_ | refine yL ?_ | (refine yM ?_; intro _)) | refine yJ ?_ | (refine yI ?_ ?_ <;> intro _ <;> try exact xX) | (refine yK ?_ ?_ <;> intro hgb <;> first | subst hgb | fail_if_success have : type_of% hgb := rfl) | fail))
    exact J_ret1 rfl (by rfl) fun w H => ⟨_, ⟨by rw [hN], rfl⟩, H.sel .nil⟩
theorem pfirst_s (a : Option Addr) (c : Nat) (p : List Sg) (h8 : p.length ≤ 1000) (hsm : ∀ s ∈ p, SgN s) : Pact Tryz.prog 172 #[.slice a p.length c] (fun w => PathV w a c p) [] (ret0 (.tuple #[.int .u32 ((firstN (pN p)).getD 0), .bool (firstN (pN p)).isSome])) := by
  refine pact Tryz.func172 rfl Tryz.ntmps172 rfl ?_
  intro W K hK
  have hv : Kn K (fun w => Vw w (.slice a p.length c) 2 p.length (flat sgC p)) := hK.imp fun _ h => h.vw
  cases p with
  | nil =>
    (repeat' (first | (refine gL ?_; first | refine yL0 ?_ | refine yL ?_) | refine yJ ?_ | (refine yI ?_ ?_ <;> intro _ <;> try exact xX) | (refine yK ?_ ?_ <;> intro hgb <;> first | subst hgb | fail_if_success have : type_of% hgb := rfl) | fail))
    refine J_ret2 rfl (by rfl) (by rfl) fun w H => ⟨[], ⟨rfl, rfl⟩, H.sel .nil⟩
  | cons s p =>
    have hs : (s :: p)[0]? = some s := rfl
    have hlen : (s :: p).length = p.length + 1 := rfl
    have hsn1 := (hsm s (by simp)).1
    have hu : Kn K (fun w => Vw w (.slice s.a s.as_.length s.c) 1 s.as_.length (flat u32C s.as_)) := hK.imp fun _ h => h.segs s (by simp)
    have hf : firstN (pN (s :: p)) = if s.set then none else s.as_.head? := by
      obtain ⟨st, sa, sc, l⟩ := s
      cases st <;> cases l <;> rfl
    rw [hf]
    rcases hset : s.set with _ | _
    · by_cases hl0 : s.as_ = []
      · have hle : s.as_.length = 0 := by rw [hl0]; rfl
        (repeat' (first | (refine gL ?_; first | refine yL0 ?_ | refine yL ?_) | refine yJ ?_ | (refine yI ?_ ?_ <;> intro _ <;> try exact xX) | (refine yK ?_ ?_ <;> intro hgb <;> first | subst hgb | fail_if_success have : type_of% hgb := rfl) | fail))
        all_goals (first | (exfalso; omega) | (exfalso; simp_all; done) | skip)
        all_goals (refine J_ret2 rfl (by rfl) (by rfl) fun w H => ⟨[], ⟨?_, rfl⟩, H.sel .nil⟩; rw [hl0]; rfl)
      · obtain ⟨z, l, hzl⟩ := List.exists_cons_of_ne_nil hl0
        have hz : s.as_[0]? = some z := by rw [hzl]; rfl
        have hal := List.length_pos_iff.2 hl0
        (repeat' (first | (refine gL ?_; first | refine yL0 ?_ | refine yL ?_) | refine yJ ?_ | (refine yI ?_ ?_ <;> intro _ <;> try exact xX) | (refine yK ?_ ?_ <;> intro hgb <;> first | subst hgb | fail_if_success have : type_of% hgb := rfl) | fail))
        all_goals (first | (exfalso; omega) | (exfalso; simp_all; done) | skip)
        all_goals (refine J_ret2 rfl (by rfl) (by rfl) fun w H => ⟨[], ⟨?_, rfl⟩, H.sel .nil⟩; rw [hzl]; rfl)
    · (repeat' (first | (refine gL ?_; first | refine yL0 ?_ | refine yL ?_) | refine yJ ?_ | (refine yI ?_ ?_ <;> intro _ <;> try exact xX) | (refine yK ?_ ?_ <;> intro hgb <;> first | subst hgb | fail_if_success have : type_of% hgb := rfl) | fail))
      all_goals (first | (exfalso; omega) | (exfalso; simp_all; done) | skip)
      all_goals exact J_ret2 rfl (by rfl) (by rfl) fun w H => ⟨[], ⟨rfl, rfl⟩, H.sel .nil⟩
theorem last_get {α : Type} {l : List α} (h : l ≠ []) : ∃ s, l[((l.length : Int) - 1).toNat]? = some s ∧ l.getLast? = some s := by
  have hl := List.length_pos_iff.2 h
  refine ⟨l[l.length - 1], ?_, ?_⟩
  · rw [show ((l.length : Int) - 1).toNat = l.length - 1 by omega]
    exact List.getElem?_eq_getElem (by omega)
  · rw [List.getLast?_eq_getElem?]
    exact List.getElem?_eq_getElem (by omega)
theorem originN_last {p : List Sg} {s : Sg} (h : p.getLast? = some s) : originN (pN p) = if s.set then none else s.as_.getLast? := by
  unfold originN pN
  rw [List.getLast?_map, h]
  simp only [Option.map_some]
  cases s.set <;> rfl
theorem porigin_s (a : Option Addr) (c : Nat) (p : List Sg) (h8 : p.length ≤ 1000) (hsm : ∀ s ∈ p, SgN s) : Pact Tryz.prog 173 #[.slice a p.length c] (fun w => PathV w a c p) [] (ret0 (.tuple #[.int .u32 ((originN (pN p)).getD 0), .bool (originN (pN p)).isSome])) := by
  refine pact Tryz.func173 rfl Tryz.ntmps173 rfl ?_
  intro W K hK
  have hv : Kn K (fun w => Vw w (.slice a p.length c) 2 p.length (flat sgC p)) := hK.imp fun _ h => h.vw
  by_cases h0 : p = []
  · subst h0
    (repeat' (first | (refine gL ?_; first | refine yL0 ?_ | refine yL ?_ | (refine yM ?_; intro _)) | refine yJ ?_ | (refine yI ?_ ?_ <;> intro _ <;> try exact xX) | (refine yK ?_ ?_ <;> intro hgb <;> first | subst hgb | fail_if_success have : type_of% hgb := rfl) | fail))
    refine J_ret2 rfl (by rfl) (by rfl) fun w H => ⟨[], ⟨rfl, rfl⟩, H.sel .nil⟩
  · have hpl := List.length_pos_iff.2 h0
    obtain ⟨s, hs, hs2⟩ := last_get h0
    have ho := originN_last hs2
    have hm := List.mem_of_getElem? hs
    have hsn1 := (hsm s hm).1
    have hu : Kn K (fun w => Vw w (.slice s.a s.as_.length s.c) 1 s.as_.length (flat u32C s.as_)) := hK.imp fun _ h => h.segs s hm
    rw [ho]
    rcases hset : s.set with _ | _
    · by_cases hl0 : s.as_ = []
      · have hle : s.as_.length = 0 := by rw [hl0]; rfl
        (repeat' (first | (refine gL ?_; first | refine yL0 ?_ | refine yL ?_ | (refine yM ?_; intro _)) | refine yJ ?_ | (refine yI ?_ ?_ <;> intro _ <;> try exact xX) | (refine yK ?_ ?_ <;> intro hgb <;> first | subst hgb | fail_if_success have : type_of% hgb := rfl) | fail))
        all_goals (first | (exfalso; omega) | (exfalso; simp_all; done) | skip)
        all_goals (refine J_ret2 rfl (by rfl) (by rfl) fun w H => ⟨[], ⟨?_, rfl⟩, H.sel .nil⟩; rw [hl0]; rfl)
      · have hal := List.length_pos_iff.2 hl0
        obtain ⟨z, hz, hz2⟩ := last_get hl0
        (repeat' (first | (refine gL ?_; first | refine yL0 ?_ | refine yL ?_ | (refine yM ?_; intro _)) | refine yJ ?_ | (refine yI ?_ ?_ <;> intro _ <;> try exact xX) | (refine yK ?_ ?_ <;> intro hgb <;> first | subst hgb | fail_if_success have : type_of% hgb := rfl) | fail))
        all_goals (first | (exfalso; omega) | (exfalso; simp_all; done) | skip)
        all_goals (refine J_ret2 rfl (by rfl) (by rfl) fun w H => ⟨[], ⟨?_, rfl⟩, H.sel .nil⟩; rw [hz2]; rfl)
    · (repeat' (first | (refine gL ?_; first | refine yL0 ?_ | refine yL ?_ | (refine yM ?_; intro _)) | refine yJ ?_ | (refine yI ?_ ?_ <;> intro _ <;> try exact xX) | (refine yK ?_ ?_ <;> intro hgb <;> first | subst hgb | fail_if_success have : type_of% hgb := rfl) | fail))
      all_goals (first | (exfalso; omega) | (exfalso; simp_all; done) | skip)
      all_goals exact J_ret2 rfl (by rfl) (by rfl) fun w H => ⟨[], ⟨rfl, rfl⟩, H.sel .nil⟩
end Go.Proofs.YtdnokmpnemaoaaaGreat.C
namespace Go.Proofs.YtdnokmpnemaoaaaGreat.B
set_option linter.unusedSimpArgs false
set_option linter.unusedVariables false
set_option maxRecDepth 20000
set_option maxHeartbeats 4000000
open Go.RowKit Go.Pm

def i64C (n : Int) : List Value := [.int .i64 n]
structure Cd extends At where
  peer : Int
  as_ : Int
  id : Int
  addr : Int
def cdC (c : Cd) : List Value := [.int .i64 c.peer, .int .u32 c.as_, .int .u32 c.id, .int .u32 c.addr, .int .i64 c.origin, .slice c.pa c.path.length c.pc, .int .u32 c.next, .bool c.hasMed, .int .u32 c.med, .bool c.hasLocal, .int .u32 c.loc, .bool c.atomic, .bool c.hasMaker, .int .u32 c.makerAS, .int .u32 c.maker, .slice c.ca c.comms.length c.cc, .slice c.oa c.others.length c.oc]
structure CdN (c : Cd) : Prop where
  peer : I64 c.peer
  as_ : U32 c.as_
  id : U32 c.id
  addr : U32 c.addr
  f : AtF c.toAt
theorem CdN.med {c : Cd} (h : CdN c) : U32 c.med := h.f.num.med
theorem CdN.loc {c : Cd} (h : CdN c) : U32 c.loc := h.f.num.loc
def cLocal (c : Cd) : Int := if c.hasLocal then c.loc else 100
def cMed (c : Cd) : Int := if c.hasMed then c.med else 0
def cNb (c : Cd) : Int := (C.firstN (pN c.path)).getD c.as_
theorem len_s (c : Cd) (h : CdN c) : Pact Tryz.prog 128 #[.slice c.pa c.path.length c.pc] (fun w => PathV w c.pa c.pc c.path) [] (ret0 (.int .i64 (C.lenN (pN c.path)))) := C.plen_s c.pa c.pc c.path (by have := h.f.path; omega) h.f.num.path
theorem local_s (c : Cd) (h : CdN c) : Pact Tryz.prog 126 #[.agg (cdC c).toArray] (fun _ => True) [] (ret0 (.int .i64 (cLocal c))) := by
  obtain ⟨h0, h1⟩ := h.loc
  refine pact Tryz.func126 rfl Tryz.ntmps126 rfl ?_
  intro W K _
  (repeat' (first | (refine gL ?_; first | refine yL0 ?_ | refine yL ?_ | (refine yM ?_; intro _)) | refine yJ ?_ | (refine yI ?_ ?_ <;> intro _ <;> try exact xX) | (refine yK ?_ ?_ <;> intro hgb <;> first | subst hgb | fail_if_success have : type_of% hgb := rfl) | fail))
  all_goals (refine J_ret1 rfl (by rfl) fun w H => ⟨[], ⟨?_, rfl⟩, H.sel .nil⟩)
  · simp [cLocal, *]
  · simp [cLocal, *]
theorem med_s (c : Cd) (h : CdN c) : Pact Tryz.prog 159 #[.agg (cdC c).toArray] (fun _ => True) [] (ret0 (.int .i64 (cMed c))) := by
  obtain ⟨h0, h1⟩ := h.med
  refine pact Tryz.func159 rfl Tryz.ntmps159 rfl ?_
  intro W K _
  (repeat' (first | (refine gL ?_; first | refine yL0 ?_ | refine yL ?_ | (refine yM ?_; intro _)) | refine yJ ?_ | (refine yI ?_ ?_ <;> intro _ <;> try exact xX) | (refine yK ?_ ?_ <;> intro hgb <;> first | subst hgb | fail_if_success have : type_of% hgb := rfl) | fail))
  all_goals (refine J_ret1 rfl (by rfl) fun w H => ⟨[], ⟨?_, rfl⟩, H.sel .nil⟩)
  · simp [cMed, *]
  · simp [cMed, *]
theorem nb_s (c : Cd) (h : CdN c) : Pact Tryz.prog 158 #[.agg (cdC c).toArray] (fun w => PathV w c.pa c.pc c.path) [] (ret0 (.int .u32 (cNb c))) := by
  refine pact Tryz.func158 rfl Tryz.ntmps158 rfl ?_
  intro W K hK
  (repeat' (first | (refine gL ?_; first | refine yL0 ?_ | refine yL ?_ | (refine gL_go ?_; (refine JL_goq (C.pfirst_s c.pa c.pc c.path (by have := h.f.path; omega) h.f.num.path) (hφ := (by (try simp only [cAp, nAp]); exact fun w hr => hK w hr.1)) (h := ?_); rintro _ _ ⟨rfl, rfl⟩; try simp only [cAp, nAp])) | (refine yM ?_; intro _)) | refine yJ ?_ | (refine yI ?_ ?_ <;> intro _ <;> try exact xX) | (refine yK ?_ ?_ <;> intro hgb <;> first | subst hgb | fail_if_success have : type_of% hgb := rfl) | fail))
  all_goals (refine J_ret1 rfl (by rfl) fun w H => ⟨[], ⟨?_, rfl⟩, H.sel .nil⟩)
  all_goals (unfold cNb; cases h2 : C.firstN (pN c.path) <;> simp_all)
end Go.Proofs.YtdnokmpnemaoaaaGreat.B
