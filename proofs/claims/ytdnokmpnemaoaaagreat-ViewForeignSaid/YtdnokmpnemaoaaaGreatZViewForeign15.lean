/-
  Cq7, Ru1, Cq8, Cq9, Cq10, Ru3, Bq1, Bq3, Bq4: merged.
-/
import Derived.Test.YtdnokmpnemaoaaaGreatZViewForeign14
namespace Go.Proofs.YtdnokmpnemaoaaaGreat.C
set_option linter.unusedSimpArgs false
set_option linter.unusedVariables false
open Go.RowKit Go.Pm

structure Cd where
  op : Int
  n : Int
  pa : Int
  pl : Int
  a : Option Addr
  c : Nat
  l : List Cd
structure St where
  op : Int
  n : Int
  m : Int
  cd : Cd
  ta : Option Addr
  tc : Nat
  th : List St
  ea : Option Addr
  ec : Nat
  el : List St
abbrev cdC (x : Cd) : List Value := [.int .i64 x.op, .slice x.a x.l.length x.c, .int .u32 x.pa, .int .i64 x.pl, .int .i64 x.n]
abbrev stC (s : St) : List Value := [.int .i64 s.op, .int .i64 s.cd.op, .slice s.cd.a s.cd.l.length s.cd.c, .int .u32 s.cd.pa, .int .i64 s.cd.pl, .int .i64 s.cd.n, .slice s.ta s.th.length s.tc, .slice s.ea s.el.length s.ec, .int .i64 s.n, .int .i64 s.m]
structure CdN (x : Cd) : Prop where
  op : I64 x.op
  n : I64 x.n
  pa : U32 x.pa
  pl : I64 x.pl
structure StN (s : St) : Prop where
  op : I64 s.op
  n : I64 s.n
  m : I64 s.m
  cd : CdN s.cd
def CdR : Nat → Cd → Prop
  | 0, x => CdN x ∧ x.l.length ≤ 140737488355328
  | d + 1, x => CdN x ∧ x.l.length ≤ 140737488355328 ∧ ∀ y ∈ x.l, CdR d y
def CdV (w : World) : Nat → Cd → Prop
  | 0, _ => True
  | d + 1, x => Vw w (.slice x.a x.l.length x.c) 5 x.l.length (flat cdC x.l) ∧ ∀ y ∈ x.l, CdV w d y
def CdF : Nat → Cd → Prop
  | 0, x => CdN x ∧ x.l = []
  | d + 1, x => CdN x ∧ x.l.length ≤ 5 ∧ ∀ y ∈ x.l, CdF d y
def LsR : Nat → List St → Prop
  | 0, l => l.length ≤ 140737488355328
  | d + 1, l => l.length ≤ 140737488355328 ∧ ∀ s ∈ l, StN s ∧ CdR 5 s.cd ∧ LsR d s.th ∧ LsR d s.el
theorem CdR.len {d : Nat} {x : Cd} (h : CdR d x) : x.l.length ≤ 140737488355328 := by
  cases d with
  | zero => exact h.2
  | succ d => exact h.2.1
structure Lc where
  k : Nat
  ys : List Cd
  a : Option Addr
  c : Nat
end Go.Proofs.YtdnokmpnemaoaaaGreat.C
namespace Go.Proofs.YtdnokmpnemaoaaaGreat.C
set_option linter.unusedSimpArgs false
set_option linter.unusedVariables false
open Go.RowKit Go.Pm
abbrev Pa := List (Bool × List Int)
def Wi (p q : Pf) : Prop := Rt p ∧ Rt q ∧ p.2 ≤ q.2 ∧ q.1 / pw p.2 = p.1 / pw p.2
instance (p q : Pf) : Decidable (Wi p q) := inferInstanceAs (Decidable (_ ∧ _ ∧ _ ∧ _))
def firstN : Pa → Option Int
  | (false, a :: _) :: _ => some a
  | _ => none
def lenN : Pa → Nat
  | [] => 0
  | s :: p => (if s.1 then 1 else s.2.length) + lenN p
def hasN (p : Pa) (n : Int) : Bool := p.any fun s => decide (n ∈ s.2)
/-! What a condition, what statements mean. -/
end Go.Proofs.YtdnokmpnemaoaaaGreat.C
namespace Go.Proofs.YtdnokmpnemaoaaaGreat.C
set_option linter.unusedSimpArgs false
set_option linter.unusedVariables false
open Go.RowKit Go.Pm

theorem LsR.len {d : Nat} {l : List St} (h : LsR d l) : l.length ≤ 140737488355328 := by
  cases d with
  | zero => exact h
  | succ d => exact h.1
structure Lf where
  k : Nat
  ys : List St
  a : Option Addr
  c : Nat
end Go.Proofs.YtdnokmpnemaoaaaGreat.C
namespace Go.Proofs.YtdnokmpnemaoaaaGreat.C
set_option linter.unusedSimpArgs false
set_option linter.unusedVariables false
open Go.RowKit Go.Pm

theorem preP {P : Program} {f : FuncId} {args : Array Value} {φ ψ : World → Prop} {C : List HP} {Rr : Value → List HP → Prop} (S : Pact P f args φ C Rr) (h : ∀ w, ψ w → φ w) : Pact P f args ψ C Rr := fun W K w hK H => S W K w (hK.imp h) H
def Kids (φ : Cd → World → Prop) (x : Cd) (w : World) : Prop := (x.l ≠ [] → Vw w (.slice x.a x.l.length x.c) 5 x.l.length (flat cdC x.l)) ∧ ∀ y ∈ x.l, φ y w
theorem CdF.kids {d : Nat} {x : Cd} (h : CdF d x) {w : World} (hv : CdV w d x) : Kids (fun y w => CdV w (d - 1) y) x w := by
  cases d with
  | zero => rw [Kids, h.2]; exact ⟨fun h => absurd rfl h, fun y hy => absurd hy List.not_mem_nil⟩
  | succ d => exact ⟨fun _ => hv.1, hv.2⟩
theorem CdF.len {d : Nat} {x : Cd} (h : CdF d x) : x.l.length ≤ 5 := by
  cases d with
  | zero => rw [h.2]; simp
  | succ d => exact h.2.1
theorem CdF.sub {d : Nat} {x y : Cd} (h : CdF d x) (hy : y ∈ x.l) : CdF (d - 1) y := by
  cases d with
  | zero => rw [h.2] at hy; cases hy
  | succ d => exact h.2.2 y hy
def tests : Nat → Cd → Nat
  | 0, _ => 1
  | d + 1, x => if x.l = [] then 1 else (x.l.map (tests d)).sum
/-! none, cond. -/
end Go.Proofs.YtdnokmpnemaoaaaGreat.C
namespace Go.Proofs.YtdnokmpnemaoaaaGreat.C
set_option linter.unusedSimpArgs false
set_option linter.unusedVariables false
open Go.RowKit Go.Pm

theorem any_yes {α : Type} {g : α → Bool} {l : List α} {y : α} (h : y ∈ l) (hg : g y = true) : l.any g = true := List.any_eq_true.2 ⟨y, h, hg⟩
theorem any_take {α : Type} {g : α → Bool} {l : List α} {k : Nat} {y : α} (h : l[k]? = some y) (ha : (l.take k).any g = false) (hg : g y = false) : (l.take (k + 1)).any g = false := by
  rw [List.take_add_one, h, List.any_append, ha]
  simp [hg]
end Go.Proofs.YtdnokmpnemaoaaaGreat.C
namespace Go.Proofs.YtdnokmpnemaoaaaGreat.C
set_option linter.unusedSimpArgs false
set_option linter.unusedVariables false
set_option maxRecDepth 20000
set_option maxHeartbeats 4000000
open Go.RowKit Go.Pm

theorem phas1_s (s : Sg) (hl : s.as_.length ≤ 35184372088832) (gb : Nat) (n : Int) : Pact Tryz.prog 87 [.agg (sgC s).toArray, .pointer (some ⟨gb, 0, none⟩)].toArray (fun w => segV w s) [pts gb [.int .u32 n] 22] (fun u L' => u = .bool (decide (n ∈ s.as_)) ∧ L' = [pts gb [.int .u32 n] 22]) := by
  refine pact Tryz.func87 rfl Tryz.ntmps87 rfl ?_
  intro W K hK
  (repeat' (first | ((with_reducible apply gL); (first | refine yL0 ?_ | refine yL ?_ | ((with_reducible apply gL_go); (first | (refine JL_goq (contains_s s.a s.c s.as_ n hl) (hφ := (by (try simp only [List.cons_append, List.nil_append]); exact fun w hr => hK w hr.1)) (h := ?_); rintro _ _ ⟨rfl, rfl⟩; try simp only [List.cons_append, List.nil_append]) | fail)) | (refine yM ?_; intro _) | fail)) | refine yJ ?_ | fail))
  exact J_ret1 rfl (by rfl) fun w H => ⟨_, ⟨rfl, rfl⟩, H.sel xZ⟩
theorem indG_s (a : Option Addr) (c : Nat) (l : List Sg) (db : Nat) (n : Int) (hl : l.length ≤ 1000) (hs : ∀ s ∈ l, SgN s) : Pact Tryz.prog 117 #[.slice a l.length c, .func (.func 87) #[] #[.pointer (some ⟨db, 0, none⟩)]] (fun w => PathV w a c l) [pts db [.int .u32 n] 22] (fun u L' => ∃ z : Int, (decide (0 ≤ z) = l.any fun s => decide (n ∈ s.as_)) ∧ u = .int .i64 z ∧ L' = [pts db [.int .u32 n] 22]) := by
  refine pact Tryz.func117 rfl Tryz.ntmps117 rfl ?_
  intro W K hK
  have ho : ownB Tryz.prog 87 = true := by decide +kernel
  have hkv : Kn K (fun w => Vw w (.slice a l.length c) 2 l.length (flat sgC l)) := hK.imp fun w h => h.vw
  (repeat' (first | ((with_reducible apply gL); (first | refine yL0 ?_ | refine yL ?_ | fail)) | refine yJ ?_ | ((with_reducible apply gJ_if); (first | (refine J_if xR ?_ ?_ <;> intro _ <;> (try (exfalso; first | contradiction | omega))) | (refine J_ifb xR ?_ ?_ <;> (intro hgb; subst hgb)) | (refine J_ifb xR ?_ ?_ <;> intro _) | fail)) | fail))
  refine J_loop (α := Nat) 0 (fun k => l.length - k) (fun k => k ≤ l.length ∧ ((l.take k).any fun s => decide (n ∈ s.as_)) = false) (fun k => [(0, .slice a l.length c), (1, .func (.func 87) #[] #[.pointer (some ⟨db, 0, none⟩)]), (7, .int .i64 l.length), (8, .int .i64 k)]) (fun _ => [pts db [.int .u32 n] 22]) ⟨Nat.zero_le _, rfl⟩ ⟨rfl, rfl, rfl, rfl, trivial⟩ (fun w H => H.sel xZ) ?_
  rintro k ⟨hk, hall⟩
  by_cases hlt : k < l.length
  · obtain ⟨y, hy⟩ : ∃ y, l[k]? = some y := ⟨_, List.getElem?_eq_getElem hlt⟩
    have hm := List.mem_of_getElem? hy
    have hPy := phas1_s y (hs y hm).1 db n
    rcases hby : decide (n ∈ y.as_) with _ | _
    all_goals rw [hby] at hPy
    · (repeat' (first | ((with_reducible apply gL); (first | refine yL0 ?_ | refine yL ?_ | ((with_reducible apply gL_go); (first | (refine JL_goq (hPy) (hφ := (by (try simp only [List.cons_append, List.nil_append]); exact fun w hr => (hK w hr.1).segs y hm)) (h := ?_); rintro _ _ ⟨rfl, rfl⟩; try simp only [List.cons_append, List.nil_append]) | fail)) | fail)) | refine yJ ?_ | ((with_reducible apply gJ_if); (first | (refine J_if xR ?_ ?_ <;> intro _ <;> (try (exfalso; first | contradiction | omega))) | (refine J_ifb xR ?_ ?_ <;> (intro hgb; subst hgb)) | (refine J_ifb xR ?_ ?_ <;> intro _) | fail)) | fail))
      exact J_again (k + 1) (by omega) ⟨by omega, any_take hy hall hby⟩ ⟨rfl, rfl, rfl, rfl, trivial⟩ (fun w H => H.sel xZ)
    · (repeat' (first | ((with_reducible apply gL); (first | refine yL0 ?_ | refine yL ?_ | ((with_reducible apply gL_go); (first | (refine JL_goq (hPy) (hφ := (by (try simp only [List.cons_append, List.nil_append]); exact fun w hr => (hK w hr.1).segs y hm)) (h := ?_); rintro _ _ ⟨rfl, rfl⟩; try simp only [List.cons_append, List.nil_append]) | fail)) | fail)) | refine yJ ?_ | ((with_reducible apply gJ_if); (first | (refine J_if xR ?_ ?_ <;> intro _ <;> (try (exfalso; first | contradiction | omega))) | (refine J_ifb xR ?_ ?_ <;> (intro hgb; subst hgb)) | (refine J_ifb xR ?_ ?_ <;> intro _) | fail)) | fail))
      exact J_ret1 rfl (by rfl) fun w H => ⟨_, ⟨k, by rw [any_yes hm hby]; simp, rfl, rfl⟩, H.sel xZ⟩
  · obtain rfl : k = l.length := by omega
    rw [List.take_length] at hall
    (repeat' (first | ((with_reducible apply gL); (first | refine yL0 ?_ | refine yL ?_ | fail)) | refine yJ ?_ | ((with_reducible apply gJ_if); (first | (refine J_if xR ?_ ?_ <;> intro _ <;> (try (exfalso; first | contradiction | omega))) | (refine J_ifb xR ?_ ?_ <;> (intro hgb; subst hgb)) | (refine J_ifb xR ?_ ?_ <;> intro _) | fail)) | fail))
    exact J_ret1 rfl (by rfl) fun w H => ⟨_, ⟨-1, by rw [hall]; rfl, rfl, rfl⟩, H.sel xZ⟩
theorem contG_s (a : Option Addr) (c : Nat) (l : List Sg) (db : Nat) (n : Int) (hl : l.length ≤ 1000) (hs : ∀ s ∈ l, SgN s) : Pact Tryz.prog 86 #[.slice a l.length c, .func (.func 87) #[] #[.pointer (some ⟨db, 0, none⟩)]] (fun w => PathV w a c l) [pts db [.int .u32 n] 22] (fun u L' => u = .bool (l.any fun s => decide (n ∈ s.as_)) ∧ L' = [pts db [.int .u32 n] 22]) := by
  refine pact Tryz.func86 rfl Tryz.ntmps86 rfl ?_
  intro W K hK
  (repeat' (first | ((with_reducible apply gL); (first | refine yL0 ?_ | refine yL ?_ | ((with_reducible apply gL_go); (first | (refine JL_goq (indG_s a c l db n hl hs) (hφ := (by (try simp only [List.cons_append, List.nil_append]); exact fun w hr => hK w hr.1)) (h := ?_); rintro _ _ ⟨z, hz, rfl, rfl⟩; try simp only [List.cons_append, List.nil_append]) | fail)) | fail)) | refine yJ ?_ | fail))
  exact J_ret1 rfl (by rfl) fun w H => ⟨_, ⟨by rw [← hz], rfl⟩, H.sel xZ⟩
theorem hasN_pN (p : List Sg) (n : Int) : hasN (pN p) n = p.any fun s => decide (n ∈ s.as_) := by
  unfold hasN pN
  rw [List.any_map]
  rfl
theorem phas_s (a : Option Addr) (c : Nat) (p : List Sg) (n : Int) (hl : p.length ≤ 1000) (hs : ∀ s ∈ p, SgN s) : Pact Tryz.prog 52 #[.slice a p.length c, .int .u32 n] (fun w => PathV w a c p) [] (ret0 (.bool (hasN (pN p) n))) := by
  refine pact Tryz.func52 rfl Tryz.ntmps52 rfl ?_
  intro W K hK
  (repeat' (first | ((with_reducible apply gL); (first | refine yL0 ?_ | refine yL ?_ | ((with_reducible apply gL_go); (first | (refine JL_goq (contG_s a c p _ n hl hs) (hφ := (by (try simp only [List.cons_append, List.nil_append]); exact fun w hr => hK w hr.1)) (h := ?_); rintro _ _ ⟨rfl, rfl⟩; try simp only [List.cons_append, List.nil_append]) | fail)) | (refine yM ?_; intro _) | fail)) | refine yJ ?_ | fail))
  exact J_ret1 rfl (by rfl) fun w H => ⟨_, ⟨by rw [hasN_pN], rfl⟩, H.sel .nil⟩
theorem lenN_append (p q : Pa) : lenN (p ++ q) = lenN p + lenN q := by
  induction p with
  | nil => simp [lenN]
  | cons s p ih => simp [lenN, ih]; omega
theorem lenN_le (p : List Sg) (h : ∀ s ∈ p, SgN s) : lenN (pN p) ≤ p.length * 35184372088832 := by
  induction p with
  | nil => simp [lenN, pN]
  | cons s p ih =>
    have h1 := ih (fun x hx => h x (List.mem_cons_of_mem _ hx))
    have h2 := (h s (List.mem_cons_self ..)).1
    have : lenN (pN (s :: p)) = (if s.set then 1 else s.as_.length) + lenN (pN p) := rfl
    rw [this, List.length_cons]
    split <;> omega
theorem plen_s (a : Option Addr) (c : Nat) (p : List Sg) (h8 : p.length ≤ 1000) (hsm : ∀ s ∈ p, SgN s) : Pact Tryz.prog 128 #[.slice a p.length c] (fun w => PathV w a c p) [] (ret0 (.int .i64 (lenN (pN p)))) := by
  refine pact Tryz.func128 rfl Tryz.ntmps128 rfl ?_
  intro W K hK
  have hv : Kn K (fun w => Vw w (.slice a p.length c) 2 p.length (flat sgC p)) := hK.imp fun _ h => h.vw
  (repeat' (first | ((with_reducible apply gL); (first | refine yL0 ?_ | refine yL ?_ | (refine yM ?_; intro _) | fail)) | refine yJ ?_ | ((with_reducible apply gJ_if); (first | (refine J_if xR ?_ ?_ <;> intro _ <;> (try (exfalso; first | contradiction | omega))) | (refine J_ifb xR ?_ ?_ <;> (intro hgb; subst hgb)) | (refine J_ifb xR ?_ ?_ <;> intro _) | fail)) | fail))
  refine J_loop (α := Nat) 0 (fun x => p.length - x) (fun x => x ≤ p.length) (fun x => [(3, .int .i64 (lenN (pN (p.take x)))), (6, .slice a p.length c), (7, .int .i64 p.length), (8, .int .i64 x)]) (fun x => []) (Nat.zero_le _) ⟨rfl, rfl, rfl, rfl, trivial⟩ (fun w H => H) ?_
  rintro k hk
  have htk := lenN_le (p.take k) (fun s hs => hsm s (List.take_subset _ _ hs))
  have hlk : (p.take k).length ≤ 1000 := by rw [List.length_take]; omega
  obtain ⟨N, hN⟩ : ∃ N, lenN (pN (p.take k)) = N := ⟨_, rfl⟩
  rw [hN] at htk ⊢
  have hNb : N ≤ 35184372088832000 := by omega
  by_cases hlt : k < p.length
  · obtain ⟨s, hs⟩ : ∃ s, p[k]? = some s := ⟨_, List.getElem?_eq_getElem hlt⟩
    have hm := List.mem_of_getElem? hs
    have hsn1 := (hsm s hm).1
    have hst : lenN (pN (p.take (k + 1))) = N + (if s.set then 1 else s.as_.length) := by
      rw [take_snoc hs]
      unfold pN at hN ⊢
      rw [List.map_append, lenN_append, hN]
      simp [lenN]
    (repeat' (first | ((with_reducible apply gL); (first | refine yL0 ?_ | refine yL ?_ | (refine yM ?_; intro _) | fail)) | refine yJ ?_ | ((with_reducible apply gJ_if); (first | (refine J_if xR ?_ ?_ <;> intro _ <;> (try (exfalso; first | contradiction | omega))) | (refine J_ifb xR ?_ ?_ <;> (intro hgb; subst hgb)) | (refine J_ifb xR ?_ ?_ <;> intro _) | fail)) | fail))
    all_goals (refine J_again (k + 1) (by omega) (by omega) ⟨?_, rfl, rfl, rfl, trivial⟩ (fun w H => H.sel .nil); rw [hst]; show some _ = some _; simp [*])
  · have hke : k = p.length := by omega
    rw [hke, List.take_length] at hN
    (repeat' (first | ((with_reducible apply gL); (first | refine yL0 ?_ | refine yL ?_ | (refine yM ?_; intro _) | fail)) | refine yJ ?_ | ((with_reducible apply gJ_if); (first | (refine J_if xR ?_ ?_ <;> intro _ <;> (try (exfalso; first | contradiction | omega))) | (refine J_ifb xR ?_ ?_ <;> (intro hgb; subst hgb)) | (refine J_ifb xR ?_ ?_ <;> intro _) | fail)) | fail))
    exact J_ret1 rfl (by rfl) fun w H => ⟨_, ⟨by rw [hN], rfl⟩, H.sel .nil⟩
theorem pfirst_s (a : Option Addr) (c : Nat) (p : List Sg) (h8 : p.length ≤ 1000) (hsm : ∀ s ∈ p, SgN s) : Pact Tryz.prog 172 #[.slice a p.length c] (fun w => PathV w a c p) [] (ret0 (.tuple #[.int .u32 ((firstN (pN p)).getD 0), .bool (firstN (pN p)).isSome])) := by
  refine pact Tryz.func172 rfl Tryz.ntmps172 rfl ?_
  intro W K hK
  have hv : Kn K (fun w => Vw w (.slice a p.length c) 2 p.length (flat sgC p)) := hK.imp fun _ h => h.vw
  cases p with
  | nil =>
    (repeat' (first | ((with_reducible apply gL); (first | refine yL0 ?_ | refine yL ?_ | ((with_reducible apply gL_gd); (first | (refine JL_guard xR xR ?_ ?_ <;> intro _ <;> (try (exfalso; first | contradiction | omega))) | (refine JL_guardb xR xR ?_ ?_ <;> (intro hgb; subst hgb)) | (refine JL_guardb xR xR ?_ ?_ <;> (intro hgb; fail_if_success (have : type_of% hgb := rfl))) | fail)) | fail)) | refine yJ ?_ | ((with_reducible apply gJ_if); (first | (refine J_if xR ?_ ?_ <;> intro _ <;> (try (exfalso; first | contradiction | omega))) | (refine J_ifb xR ?_ ?_ <;> (intro hgb; subst hgb)) | (refine J_ifb xR ?_ ?_ <;> intro _) | fail)) | fail))
    refine J_ret2 rfl (by rfl) (by rfl) fun w H => ⟨[], ⟨rfl, rfl⟩, H.sel .nil⟩
  | cons s p =>
    have hs : (s :: p)[0]? = some s := rfl
    have hlen : (s :: p).length = p.length + 1 := rfl
    have hsn1 := (hsm s (by simp)).1
    have hu : Kn K (fun w => Vw w (.slice s.a s.as_.length s.c) 1 s.as_.length (flat u32C s.as_)) := hK.imp fun _ h => h.segs s (by simp)
    have hf : firstN (pN (s :: p)) = if s.set then none else s.as_.head? := by
      obtain ⟨st, sa, sc, l⟩ := s
      cases st <;> cases l <;> rfl
    rw [hf]
    rcases hset : s.set with _ | _
    · by_cases hl0 : s.as_ = []
      · have hle : s.as_.length = 0 := by rw [hl0]; rfl
        (repeat' (first | ((with_reducible apply gL); (first | refine yL0 ?_ | refine yL ?_ | ((with_reducible apply gL_gd); (first | (refine JL_guard xR xR ?_ ?_ <;> intro _ <;> (try (exfalso; first | contradiction | omega))) | (refine JL_guardb xR xR ?_ ?_ <;> (intro hgb; subst hgb)) | (refine JL_guardb xR xR ?_ ?_ <;> (intro hgb; fail_if_success (have : type_of% hgb := rfl))) | fail)) | fail)) | refine yJ ?_ | ((with_reducible apply gJ_if); (first | (refine J_if xR ?_ ?_ <;> intro _ <;> (try (exfalso; first | contradiction | omega))) | (refine J_ifb xR ?_ ?_ <;> (intro hgb; subst hgb)) | (refine J_ifb xR ?_ ?_ <;> intro _) | fail)) | fail))
        all_goals (first | (exfalso; omega) | (exfalso; simp_all; done) | skip)
        all_goals (refine J_ret2 rfl (by rfl) (by rfl) fun w H => ⟨[], ⟨?_, rfl⟩, H.sel .nil⟩; rw [hl0]; rfl)
      · obtain ⟨z, l, hzl⟩ := List.exists_cons_of_ne_nil hl0
        have hz : s.as_[0]? = some z := by rw [hzl]; rfl
        have hal := List.length_pos_iff.2 hl0
        (repeat' (first | ((with_reducible apply gL); (first | refine yL0 ?_ | refine yL ?_ | ((with_reducible apply gL_gd); (first | (refine JL_guard xR xR ?_ ?_ <;> intro _ <;> (try (exfalso; first | contradiction | omega))) | (refine JL_guardb xR xR ?_ ?_ <;> (intro hgb; subst hgb)) | (refine JL_guardb xR xR ?_ ?_ <;> (intro hgb; fail_if_success (have : type_of% hgb := rfl))) | fail)) | fail)) | refine yJ ?_ | ((with_reducible apply gJ_if); (first | (refine J_if xR ?_ ?_ <;> intro _ <;> (try (exfalso; first | contradiction | omega))) | (refine J_ifb xR ?_ ?_ <;> (intro hgb; subst hgb)) | (refine J_ifb xR ?_ ?_ <;> intro _) | fail)) | fail))
        all_goals (first | (exfalso; omega) | (exfalso; simp_all; done) | skip)
        all_goals (refine J_ret2 rfl (by rfl) (by rfl) fun w H => ⟨[], ⟨?_, rfl⟩, H.sel .nil⟩; rw [hzl]; rfl)
    · (repeat' (first | ((with_reducible apply gL); (first | refine yL0 ?_ | refine yL ?_ | ((with_reducible apply gL_gd); (first | (refine JL_guard xR xR ?_ ?_ <;> intro _ <;> (try (exfalso; first | contradiction | omega))) | (refine JL_guardb xR xR ?_ ?_ <;> (intro hgb; subst hgb)) | (refine JL_guardb xR xR ?_ ?_ <;> (intro hgb; fail_if_success (have : type_of% hgb := rfl))) | fail)) | fail)) | refine yJ ?_ | ((with_reducible apply gJ_if); (first | (refine J_if xR ?_ ?_ <;> intro _ <;> (try (exfalso; first | contradiction | omega))) | (refine J_ifb xR ?_ ?_ <;> (intro hgb; subst hgb)) | (refine J_ifb xR ?_ ?_ <;> intro _) | fail)) | fail))
      all_goals (first | (exfalso; omega) | (exfalso; simp_all; done) | skip)
      all_goals exact J_ret2 rfl (by rfl) (by rfl) fun w H => ⟨[], ⟨rfl, rfl⟩, H.sel .nil⟩
end Go.Proofs.YtdnokmpnemaoaaaGreat.C
namespace Go.Proofs.YtdnokmpnemaoaaaGreat.B
set_option linter.unusedSimpArgs false
set_option linter.unusedVariables false
set_option maxRecDepth 20000
set_option maxHeartbeats 4000000
open Go.RowKit Go.Pm

def i64C (n : Int) : List Value := [.int .i64 n]
structure Cd extends At where
  peer : Int
  as_ : Int
  id : Int
  addr : Int
def cdC (c : Cd) : List Value := [.int .i64 c.peer, .int .u32 c.as_, .int .u32 c.id, .int .u32 c.addr, .int .i64 c.origin, .slice c.pa c.path.length c.pc, .int .u32 c.next, .bool c.hasMed, .int .u32 c.med, .bool c.hasLocal, .int .u32 c.loc, .bool c.atomic, .bool c.hasMaker, .int .u32 c.makerAS, .int .u32 c.maker, .slice c.ca c.comms.length c.cc, .slice c.oa c.others.length c.oc]
structure CdN (c : Cd) : Prop where
  peer : I64 c.peer
  as_ : U32 c.as_
  id : U32 c.id
  addr : U32 c.addr
  f : AtF c.toAt
theorem CdN.med {c : Cd} (h : CdN c) : U32 c.med := h.f.num.med
theorem CdN.loc {c : Cd} (h : CdN c) : U32 c.loc := h.f.num.loc
def cLocal (c : Cd) : Int := if c.hasLocal then c.loc else 100
def cMed (c : Cd) : Int := if c.hasMed then c.med else 0
def cNb (c : Cd) : Int := (C.firstN (pN c.path)).getD c.as_
theorem len_s (c : Cd) (h : CdN c) : Pact Tryz.prog 128 #[.slice c.pa c.path.length c.pc] (fun w => PathV w c.pa c.pc c.path) [] (ret0 (.int .i64 (C.lenN (pN c.path)))) := C.plen_s c.pa c.pc c.path (by have := h.f.path; omega) h.f.num.path
theorem local_s (c : Cd) (h : CdN c) : Pact Tryz.prog 126 #[.agg (cdC c).toArray] (fun _ => True) [] (ret0 (.int .i64 (cLocal c))) := by
  obtain ⟨h0, h1⟩ := h.loc
  refine pact Tryz.func126 rfl Tryz.ntmps126 rfl ?_
  intro W K _
  (repeat' (first | ((with_reducible apply gL); (first | refine yL0 ?_ | refine yL ?_ | (refine yM ?_; intro _) | fail)) | refine yJ ?_ | ((with_reducible apply gJ_if); (first | (refine J_if xR ?_ ?_ <;> intro _ <;> (try (exfalso; first | contradiction | omega))) | (refine J_ifb xR ?_ ?_ <;> (intro hgb; subst hgb)) | (refine J_ifb xR ?_ ?_ <;> intro _) | fail)) | fail))
  all_goals (refine J_ret1 rfl (by rfl) fun w H => ⟨[], ⟨?_, rfl⟩, H.sel .nil⟩)
  · simp [cLocal, *]
  · simp [cLocal, *]
theorem med_s (c : Cd) (h : CdN c) : Pact Tryz.prog 159 #[.agg (cdC c).toArray] (fun _ => True) [] (ret0 (.int .i64 (cMed c))) := by
  obtain ⟨h0, h1⟩ := h.med
  refine pact Tryz.func159 rfl Tryz.ntmps159 rfl ?_
  intro W K _
  (repeat' (first | ((with_reducible apply gL); (first | refine yL0 ?_ | refine yL ?_ | (refine yM ?_; intro _) | fail)) | refine yJ ?_ | ((with_reducible apply gJ_if); (first | (refine J_if xR ?_ ?_ <;> intro _ <;> (try (exfalso; first | contradiction | omega))) | (refine J_ifb xR ?_ ?_ <;> (intro hgb; subst hgb)) | (refine J_ifb xR ?_ ?_ <;> intro _) | fail)) | fail))
  all_goals (refine J_ret1 rfl (by rfl) fun w H => ⟨[], ⟨?_, rfl⟩, H.sel .nil⟩)
  · simp [cMed, *]
  · simp [cMed, *]
theorem nb_s (c : Cd) (h : CdN c) : Pact Tryz.prog 158 #[.agg (cdC c).toArray] (fun w => PathV w c.pa c.pc c.path) [] (ret0 (.int .u32 (cNb c))) := by
  refine pact Tryz.func158 rfl Tryz.ntmps158 rfl ?_
  intro W K hK
  (repeat' (first | ((with_reducible apply gL); (first | refine yL0 ?_ | refine yL ?_ | ((with_reducible apply gL_go); (first | (refine JL_goq (C.pfirst_s c.pa c.pc c.path (by have := h.f.path; omega) h.f.num.path) (hφ := (by (try simp only [List.cons_append, List.nil_append]); exact fun w hr => hK w hr.1)) (h := ?_); rintro _ _ ⟨rfl, rfl⟩; try simp only [List.cons_append, List.nil_append]) | fail)) | (refine yM ?_; intro _) | fail)) | refine yJ ?_ | ((with_reducible apply gJ_if); (first | (refine J_if xR ?_ ?_ <;> intro _ <;> (try (exfalso; first | contradiction | omega))) | (refine J_ifb xR ?_ ?_ <;> (intro hgb; subst hgb)) | (refine J_ifb xR ?_ ?_ <;> intro _) | fail)) | fail))
  all_goals (refine J_ret1 rfl (by rfl) fun w H => ⟨[], ⟨?_, rfl⟩, H.sel .nil⟩)
  all_goals (unfold cNb; cases h2 : C.firstN (pN c.path) <;> simp_all)
end Go.Proofs.YtdnokmpnemaoaaaGreat.B
namespace Go.Proofs.YtdnokmpnemaoaaaGreat.B
set_option linter.unusedSimpArgs false
set_option linter.unusedVariables false
set_option maxRecDepth 20000
set_option maxHeartbeats 4000000
open Go.RowKit Go.Pm

structure On where
  c : Cd
  at_ : Int
def onC (o : On) : List Value := cdC o.c ++ [.int .i64 o.at_]
def pathsV (es : List On) (w : World) : Prop := ∀ o ∈ es, PathV w o.c.pa o.c.pc o.c.path
def Key (k : IntKind) (F : FuncId) (κ : On → Int) : Prop := ownB Tryz.prog F = true ∧ ∀ o : On, CdN o.c → I64 o.at_ → Pact Tryz.prog F #[.agg (onC o).toArray] (fun w => PathV w o.c.pa o.c.pc o.c.path) [] (ret0 (.int k (κ o)))
def Tst (F : FuncId) (caps : List Value) (D : On → Bool) (φ : World → Prop) : Prop := ownB Tryz.prog F = true ∧ ∀ o : On, CdN o.c → I64 o.at_ → Pact Tryz.prog F (.agg (onC o).toArray :: caps).toArray (fun w => φ w ∧ PathV w o.c.pa o.c.pc o.c.path) [] (ret0 (.bool (D o)))

theorem key1 : Key .i64 125 (fun o => -cLocal o.c) := by
  refine ⟨by decide +kernel, fun o h ha => ?_⟩
  · have hb : 0 ≤ cLocal o.c ∧ cLocal o.c ≤ 4294967295 := by have := h.loc; unfold U32 at this; unfold cLocal; split <;> omega
    refine pact Tryz.func125 rfl Tryz.ntmps125 rfl ?_
    intro W K hK
    (repeat' (first | ((with_reducible apply gL); (first | refine yL0 ?_ | refine yL ?_ | ((with_reducible apply gL_go); (first | (refine JL_goq (local_s o.c h) (hφ := xF) (h := ?_); rintro _ _ ⟨rfl, rfl⟩; try simp only [List.cons_append, List.nil_append]) | fail)) | (refine yM ?_; intro _) | fail)) | refine yJ ?_ | fail))
    all_goals (refine J_ret1 rfl (by rfl) fun w H => ⟨[], ⟨?_, rfl⟩, H.sel .nil⟩)
    simp
theorem key2 : Key .i64 127 (fun o => (C.lenN (pN o.c.path) : Int)) := by
  refine ⟨by decide +kernel, fun o h ha => ?_⟩
  · refine pact Tryz.func127 rfl Tryz.ntmps127 rfl ?_
    intro W K hK
    (repeat' (first | ((with_reducible apply gL); (first | refine yL0 ?_ | refine yL ?_ | ((with_reducible apply gL_go); (first | (refine JL_goq (len_s o.c h) (hφ := (by (try simp only [List.cons_append, List.nil_append]); exact fun w hr => hK w hr.1)) (h := ?_); rintro _ _ ⟨rfl, rfl⟩; try simp only [List.cons_append, List.nil_append]) | fail)) | (refine yM ?_; intro _) | fail)) | refine yJ ?_ | fail))
    all_goals (refine J_ret1 rfl (by rfl) fun w H => ⟨[], ⟨rfl, rfl⟩, H.sel .nil⟩)
theorem key3 : Key .i64 129 (fun o => o.c.origin) := by
  refine ⟨by decide +kernel, fun o h ha => ?_⟩
  · refine pact Tryz.func129 rfl Tryz.ntmps129 rfl ?_
    intro W K hK
    (repeat' (first | ((with_reducible apply gL); (first | refine yL0 ?_ | refine yL ?_ | (refine yM ?_; intro _) | fail)) | refine yJ ?_ | fail))
    all_goals (refine J_ret1 rfl (by rfl) fun w H => ⟨[], ⟨rfl, rfl⟩, H.sel .nil⟩)

theorem key4 : Key .u32 132 (fun o => o.c.id) := by
  refine ⟨by decide +kernel, fun o h ha => ?_⟩
  · refine pact Tryz.func132 rfl Tryz.ntmps132 rfl ?_
    intro W K hK
    (repeat' (first | ((with_reducible apply gL); (first | refine yL0 ?_ | refine yL ?_ | (refine yM ?_; intro _) | fail)) | refine yJ ?_ | fail))
    all_goals (refine J_ret1 rfl (by rfl) fun w H => ⟨[], ⟨rfl, rfl⟩, H.sel .nil⟩)

theorem key5 : Key .u32 133 (fun o => o.c.addr) := by
  refine ⟨by decide +kernel, fun o h ha => ?_⟩
  · refine pact Tryz.func133 rfl Tryz.ntmps133 rfl ?_
    intro W K hK
    (repeat' (first | ((with_reducible apply gL); (first | refine yL0 ?_ | refine yL ?_ | (refine yM ?_; intro _) | fail)) | refine yJ ?_ | fail))
    all_goals (refine J_ret1 rfl (by rfl) fun w H => ⟨[], ⟨rfl, rfl⟩, H.sel .nil⟩)

theorem key6 : Key .i64 134 (fun o => o.c.peer) := by
  refine ⟨by decide +kernel, fun o h ha => ?_⟩
  · refine pact Tryz.func134 rfl Tryz.ntmps134 rfl ?_
    intro W K hK
    (repeat' (first | ((with_reducible apply gL); (first | refine yL0 ?_ | refine yL ?_ | (refine yM ?_; intro _) | fail)) | refine yJ ?_ | fail))
    all_goals (refine J_ret1 rfl (by rfl) fun w H => ⟨[], ⟨rfl, rfl⟩, H.sel .nil⟩)

theorem key7 : Key .i64 135 (fun o => o.at_) := by
  refine ⟨by decide +kernel, fun o h ha => ?_⟩
  · refine pact Tryz.func135 rfl Tryz.ntmps135 rfl ?_
    intro W K hK
    (repeat' (first | ((with_reducible apply gL); (first | refine yL0 ?_ | refine yL ?_ | (refine yM ?_; intro _) | fail)) | refine yJ ?_ | fail))
    all_goals (refine J_ret1 rfl (by rfl) fun w H => ⟨[], ⟨rfl, rfl⟩, H.sel .nil⟩)

theorem tstI (F : FuncId) (κ : On → Int) (m : Int) (g1 g2 : Nat) (hk : Key .i64 F κ) : Tst 157 [.pointer (some ⟨g1, 0, none⟩), .pointer (some ⟨g2, 0, none⟩)] (fun o => decide (κ o ≠ m)) (fun w => w.cell? ⟨g1, 0, none⟩ = some (.func (.func F) #[] #[]) ∧ w.cell? ⟨g2, 0, none⟩ = some (.int .i64 m)) := by
  refine ⟨by decide +kernel, fun o h ha => ?_⟩
  have ho := hk.1
  refine pact Tryz.func157 rfl Tryz.ntmps157 rfl ?_
  intro W K hK
  have h1 := hK.left.left
  have h2 := hK.left.right
  (repeat' (first | ((with_reducible apply gL); (first | refine yL0 ?_ | refine yL ?_ | (refine yM ?_; intro _) | fail)) | ((with_reducible apply gD); (first | (refine JD_nil ?_; try simp only [List.cons_append, List.nil_append]) | (refine JD_bar ?_; try simp only [List.cons_append, List.nil_append]) | refine yD ?_ | ((with_reducible apply gD_go); (first | (refine JD_goq (hk.2 o h ha) (hφ := (by (try simp only [List.cons_append, List.nil_append]); exact fun w hr => (hK w hr.1).2)) (h := ?_); rintro _ _ ⟨rfl, rfl⟩; try simp only [List.cons_append, List.nil_append]) | fail)) | fail)) | refine yJ ?_ | refine J_draw (id := 1) [0, 1, 3, 2] [4, 5] mixed xC xD xD ?_ | fail))
  all_goals (refine J_ret1 rfl (by rfl) fun w H => ⟨[], ⟨rfl, rfl⟩, H.sel .nil⟩)
theorem tstA (F : FuncId) (κ : On → Int) (m : Int) (g1 g2 : Nat) (hk : Key .u32 F κ) : Tst 161 [.pointer (some ⟨g1, 0, none⟩), .pointer (some ⟨g2, 0, none⟩)] (fun o => decide (κ o ≠ m)) (fun w => w.cell? ⟨g1, 0, none⟩ = some (.func (.func F) #[] #[]) ∧ w.cell? ⟨g2, 0, none⟩ = some (.int .u32 m)) := by
  refine ⟨by decide +kernel, fun o h ha => ?_⟩
  have ho := hk.1
  refine pact Tryz.func161 rfl Tryz.ntmps161 rfl ?_
  intro W K hK
  have h1 := hK.left.left
  have h2 := hK.left.right
  (repeat' (first | ((with_reducible apply gL); (first | refine yL0 ?_ | refine yL ?_ | (refine yM ?_; intro _) | fail)) | ((with_reducible apply gD); (first | (refine JD_nil ?_; try simp only [List.cons_append, List.nil_append]) | (refine JD_bar ?_; try simp only [List.cons_append, List.nil_append]) | refine yD ?_ | ((with_reducible apply gD_go); (first | (refine JD_goq (hk.2 o h ha) (hφ := (by (try simp only [List.cons_append, List.nil_append]); exact fun w hr => (hK w hr.1).2)) (h := ?_); rintro _ _ ⟨rfl, rfl⟩; try simp only [List.cons_append, List.nil_append]) | fail)) | fail)) | refine yJ ?_ | refine J_draw (id := 1) [0, 1, 3, 2] [4, 5] mixed xC xD xD ?_ | fail))
  all_goals (refine J_ret1 rfl (by rfl) fun w H => ⟨[], ⟨rfl, rfl⟩, H.sel .nil⟩)

def idxOf (D : On → Bool) : List On → Nat → Int
  | [], _ => -1
  | o :: r, k => if D o then k else idxOf D r (k + 1)
theorem idxOf_drop (D : On → Bool) {es : List On} {k : Nat} {o : On} (h : es[k]? = some o) : idxOf D (es.drop k) k = if D o then (k : Int) else idxOf D (es.drop (k + 1)) (k + 1) := by
  obtain ⟨hk, rfl⟩ := List.getElem?_eq_some_iff.1 h
  rw [List.drop_eq_getElem_cons hk]; rfl

theorem index_s (a : Option Addr) (c : Nat) (es : List On) (F : FuncId) (caps : List Value) (D : On → Bool) (φ : World → Prop) (hT : Tst F caps D φ) (hn : ∀ o ∈ es, CdN o.c ∧ I64 o.at_) (hl : es.length ≤ 9223372036854775807) :
    Pact Tryz.prog 178 #[.slice a es.length c, .func (.func F) #[] caps.toArray] (fun w => Vw w (.slice a es.length c) 18 es.length (flat onC es) ∧ φ w ∧ pathsV es w) [] (ret0 (.int .i64 (idxOf D es 0))) := by
  have ho := hT.1
  refine pact Tryz.func178 rfl Tryz.ntmps178 rfl ?_
  intro W K hK
  have hv := hK.left
  (repeat' (first | ((with_reducible apply gL); (first | refine yL0 ?_ | refine yL ?_ | fail)) | refine yJ ?_ | ((with_reducible apply gJ_if); (first | (refine J_if xR ?_ ?_ <;> intro _ <;> (try (exfalso; first | contradiction | omega))) | (refine J_ifb xR ?_ ?_ <;> (intro hgb; subst hgb)) | (refine J_ifb xR ?_ ?_ <;> intro _) | fail)) | fail))
  refine J_loop (α := Nat) 0 (fun k => es.length - k) (fun k => k ≤ es.length ∧ idxOf D es 0 = idxOf D (es.drop k) k) (fun k => [(0, .slice a es.length c), (1, .func (.func F) #[] caps.toArray), (7, .int .i64 es.length), (8, .int .i64 k)]) (fun _ => []) ⟨Nat.zero_le _, rfl⟩ ⟨rfl, rfl, rfl, rfl, trivial⟩ (fun w H => H) ?_
  rintro k ⟨hk, he⟩
  by_cases hlt : k < es.length
  · obtain ⟨o, hs⟩ : ∃ o, es[k]? = some o := ⟨_, List.getElem?_eq_getElem hlt⟩
    have hm := List.mem_of_getElem? hs
    rw [idxOf_drop D hs] at he
    (repeat' (first | ((with_reducible apply gL); (first | refine yL0 ?_ | refine yL ?_ | ((with_reducible apply gL_go); (first | (refine JL_goq (hT.2 o (hn o hm).1 (hn o hm).2) (hφ := (by (try simp only [List.cons_append, List.nil_append]); exact fun w hr => ⟨(hK w hr.1).2.1, (hK w hr.1).2.2 o hm⟩)) (h := ?_); rintro _ _ ⟨rfl, rfl⟩; try simp only [List.cons_append, List.nil_append]) | fail)) | fail)) | refine yJ ?_ | ((with_reducible apply gJ_if); (first | (refine J_if xR ?_ ?_ <;> intro _ <;> (try (exfalso; first | contradiction | omega))) | (refine J_ifb xR ?_ ?_ <;> (intro hgb; subst hgb)) | (refine J_ifb xR ?_ ?_ <;> intro _) | fail)) | fail))
    · refine J_ret1 rfl (by rfl) fun w H => ⟨[], ⟨?_, rfl⟩, H.sel .nil⟩
      simp_all
    · refine J_again (k + 1) (by omega) ⟨by omega, ?_⟩ ⟨rfl, rfl, rfl, rfl, trivial⟩ (fun w H => H)
      simp_all
  · obtain rfl : k = es.length := by omega
    (repeat' (first | ((with_reducible apply gL); (first | refine yL0 ?_ | refine yL ?_ | fail)) | refine yJ ?_ | ((with_reducible apply gJ_if); (first | (refine J_if xR ?_ ?_ <;> intro _ <;> (try (exfalso; first | contradiction | omega))) | (refine J_ifb xR ?_ ?_ <;> (intro hgb; subst hgb)) | (refine J_ifb xR ?_ ?_ <;> intro _) | fail)) | fail))
    refine J_ret1 rfl (by rfl) fun w H => ⟨[], ⟨?_, rfl⟩, H.sel .nil⟩
    rw [he, List.drop_length]; rfl
end Go.Proofs.YtdnokmpnemaoaaaGreat.B
namespace Go.Proofs.YtdnokmpnemaoaaaGreat.B
set_option linter.unusedSimpArgs false
set_option linter.unusedVariables false
set_option maxRecDepth 20000
set_option maxHeartbeats 4000000
open Go.RowKit Go.Pm

def keepL (D : On → Bool) (es : List On) : List On := es.filter (fun o => !D o)
theorem keepL_snoc (D : On → Bool) {es : List On} {j : Nat} {o : On} (h : es[j]? = some o) : keepL D (es.take (j + 1)) = keepL D (es.take j) ++ (if D o then [] else [o]) := by
  rw [take_snoc h]
  unfold keepL
  rw [List.filter_append]
  congr 1
  cases hD : D o <;> simp [List.filter_cons, hD]
theorem keepL_len (D : On → Bool) (es : List On) : (keepL D es).length ≤ es.length := List.length_filter_le _ _
theorem idxOf_none (D : On → Bool) : ∀ (es : List On) (k : Nat), idxOf D es k = -1 → keepL D es = es
  | [], _, _ => rfl
  | o :: r, k, h => by
    unfold idxOf at h
    cases hD : D o
    · rw [hD] at h
      have := idxOf_none D r (k + 1) h
      unfold keepL at this ⊢
      simp [List.filter_cons, hD, this]
    · rw [hD] at h; simp at h
theorem idxOf_some (D : On → Bool) : ∀ (es : List On) (k : Nat), idxOf D es k ≠ -1 → ∃ i, ∃ (hi : i < es.length), idxOf D es k = (k : Int) + i ∧ D es[i] = true ∧ keepL D (es.take i) = es.take i
  | [], k, h => (h rfl).elim
  | o :: r, k, h => by
    cases hD : D o
    · have he : idxOf D (o :: r) k = idxOf D r (k + 1) := by show (if D o then _ else _) = _; rw [hD]; rfl
      rw [he] at h
      obtain ⟨i, hi, h1, h2, h3⟩ := idxOf_some D r (k + 1) h
      refine ⟨i + 1, by simp; exact hi, by rw [he, h1]; omega, by simpa using h2, ?_⟩
      unfold keepL at h3 ⊢
      simp [List.filter_cons, hD, h3]
    · refine ⟨0, by simp, ?_, by simpa using hD, rfl⟩
      show (if D o then _ else _) = _
      rw [hD]; simp

def onZ : On := ⟨⟨⟨0, none, 0, [], 0, false, 0, false, 0, false, false, 0, 0, none, 0, [], none, 0, []⟩, 0, 0, 0, 0⟩, 0⟩
def DelR (D : On → Bool) (es : List On) (v : Value) (L' : List HP) : Prop := ∃ a' c', v = .slice a' (keepL D es).length c' ∧ L' = [Ar 162 18 onC (.slice a' (keepL D es).length c') (keepL D es)]
structure Lp where
  j : Nat
  xs : List On
theorem delete_s (a : Option Addr) (c : Nat) (es : List On) (F : FuncId) (caps : List Value) (D : On → Bool) (φ : World → Prop) (hT : Tst F caps D φ) (hn : ∀ o ∈ es, CdN o.c ∧ I64 o.at_) (hl : es.length ≤ 9223372036854775807) :
    Pact Tryz.prog 156 #[.slice a es.length c, .func (.func F) #[] caps.toArray] (fun w => φ w ∧ pathsV es w) [Ar 162 18 onC (.slice a es.length c) es] (DelR D es) := by
  have ho := hT.1
  refine pact Tryz.func156 rfl Tryz.ntmps156 rfl ?_
  intro W K hK
  refine J_fact (φ := es.length ≤ c ∧ c ≤ maxLen) (fun w H => (H.arShape .here).2) ?_
  rintro ⟨hnc, hcm⟩
  unfold maxLen at hcm
  by_cases hi : idxOf D es 0 = -1
  · (repeat' (first | ((with_reducible apply gL); (first | refine yL0 ?_ | refine yL ?_ | ((with_reducible apply gL_go); (first | (refine JL_goq (index_s a c es F caps D φ hT hn hl) (hφ := (by (try simp only [List.cons_append, List.nil_append]); exact fun w hr => ⟨Src.ar .here w hr, (hK w hr.1).1, (hK w hr.1).2⟩)) (h := ?_); rintro _ _ ⟨rfl, rfl⟩; try simp only [List.cons_append, List.nil_append]) | fail)) | (refine yM ?_; intro _) | fail)) | refine yJ ?_ | ((with_reducible apply gJ_if); (first | (refine J_if xR ?_ ?_ <;> intro _ <;> (try (exfalso; first | contradiction | omega))) | (refine J_ifb xR ?_ ?_ <;> (intro hgb; subst hgb)) | (refine J_ifb xR ?_ ?_ <;> intro _) | fail)) | fail))
    refine J_ret1 rfl (by rfl) fun w H => ⟨_, ⟨a, c, ?_, rfl⟩, ?_⟩ <;> rw [idxOf_none D es 0 hi]
    exact H
  · obtain ⟨i, hil, hie, hD, hkeep⟩ := idxOf_some D es 0 hi
    have hx := index_s a c es F caps D φ hT hn hl
    rw [hie, Int.natCast_zero, Int.zero_add] at hx
    have hk1 : keepL D (es.take (i + 1)) = es.take i := by rw [keepL_snoc D (List.getElem?_eq_getElem hil), hkeep, hD]; simp
    have hkl : (es.take i).length = i := by simp; omega
    (repeat' (first | ((with_reducible apply gL); (first | refine yL0 ?_ | refine yL ?_ | ((with_reducible apply gL_go); (first | (refine JL_goq (hx) (hφ := (by (try simp only [List.cons_append, List.nil_append]); exact fun w hr => ⟨Src.ar .here w hr, (hK w hr.1).1, (hK w hr.1).2⟩)) (h := ?_); rintro _ _ ⟨rfl, rfl⟩; try simp only [List.cons_append, List.nil_append]) | fail)) | (refine yM ?_; intro _) | fail)) | refine yJ ?_ | ((with_reducible apply gJ_if); (first | (refine J_if xR ?_ ?_ <;> intro _ <;> (try (exfalso; first | contradiction | omega))) | (refine J_ifb xR ?_ ?_ <;> (intro hgb; subst hgb)) | (refine J_ifb xR ?_ ?_ <;> intro _) | fail)) | fail))
    refine J_loop (α := Lp) ⟨i + 1, es⟩ (fun x => es.length - x.j) (fun x => x.j ≤ es.length ∧ x.xs.length = es.length ∧ (keepL D (es.take x.j)).length < x.j ∧ x.xs.take (keepL D (es.take x.j)).length = keepL D (es.take x.j) ∧ x.xs.drop x.j = es.drop x.j)
      (fun x => [(0, .slice a es.length c), (1, .func (.func F) #[] caps.toArray), (5, .int .i64 (keepL D (es.take x.j)).length), (6, .int .i64 x.j)]) (fun x => [Ar 162 18 onC (.slice a es.length c) x.xs]) ?_ ?_ (fun w H => H) ?_
    · dsimp only; rw [hk1, hkl]; exact ⟨hil, rfl, by omega, rfl, rfl⟩
    · dsimp only; rw [hk1, hkl]; exact ⟨rfl, rfl, rfl, rfl, trivial⟩
    rintro ⟨j, xs⟩ ⟨hj, hxl, hkj, hxt, hxd⟩
    dsimp only at hj hxl hkj hxt hxd ⊢
    by_cases hlt : j < es.length
    · obtain ⟨o, hs⟩ : ∃ o, es[j]? = some o := ⟨_, List.getElem?_eq_getElem hlt⟩
      have hm := List.mem_of_getElem? hs
      have hxs : xs[j]? = some o := by have := congrArg (·[0]?) hxd; simpa [hs] using this
      have hke := keepL_snoc D hs
      (repeat' (first | ((with_reducible apply gL); (first | refine yL0 ?_ | refine yL ?_ | ((with_reducible apply gL_go); (first | (refine JL_goq (hT.2 o (hn o hm).1 (hn o hm).2) (hφ := (by (try simp only [List.cons_append, List.nil_append]); exact fun w hr => ⟨(hK w hr.1).1, (hK w hr.1).2 o hm⟩)) (h := ?_); rintro _ _ ⟨rfl, rfl⟩; try simp only [List.cons_append, List.nil_append]) | fail)) | (refine yM ?_; intro _) | fail)) | refine yJ ?_ | ((with_reducible apply gJ_if); (first | (refine J_if xR ?_ ?_ <;> intro _ <;> (try (exfalso; first | contradiction | omega))) | (refine J_ifb xR ?_ ?_ <;> (intro hgb; subst hgb)) | (refine J_ifb xR ?_ ?_ <;> intro _) | fail)) | fail))
      · rename_i hD0
        have hke2 : keepL D (es.take (j + 1)) = keepL D (es.take j) ++ [o] := by rw [hke, if_neg hD0]
        have hil2 : (keepL D (es.take j)).length < xs.length := by omega
        refine J_again ⟨j + 1, xs.set (keepL D (es.take j)).length o⟩ (by dsimp only; omega) ?_ ?_ (fun w H => H.sel xZ)
        · dsimp only
          rw [hke2]
          refine ⟨hlt, by simp [hxl], by simp; omega, ?_, ?_⟩
          · rw [List.length_append, List.length_singleton, List.take_add_one, List.getElem?_set_self hil2, List.take_set_of_le (Nat.le_refl _), hxt]
            rfl
          · rw [List.drop_set_of_lt (by omega), ← List.drop_drop, hxd, List.drop_drop]
        · refine ⟨rfl, rfl, ?_, rfl, trivial⟩
          show some _ = some _
          rw [hke2, List.length_append]
          rfl
      · rename_i hD0
        have hke2 : keepL D (es.take (j + 1)) = keepL D (es.take j) := by rw [hke, if_pos (by simpa using hD0)]; simp
        refine J_again ⟨j + 1, xs⟩ (by dsimp only; omega) ?_ ?_ (fun w H => H.sel xZ)
        · dsimp only
          rw [hke2]
          exact ⟨hlt, hxl, by omega, hxt, by rw [← List.drop_drop, hxd, List.drop_drop]⟩
        · refine ⟨rfl, rfl, ?_, rfl, trivial⟩
          show some _ = some _
          rw [hke2]
    · obtain rfl : j = es.length := by omega
      rw [List.take_length] at *
      (repeat' (first | ((with_reducible apply gL); (first | refine yL0 ?_ | ((with_reducible apply gL_c_clear); (first | refine JL_clear onZ (tabE etab_ok (by rfl)) (by rfl) (by with_reducible exact Tk.here) (by rfl) (by decide +kernel) (by decide +kernel) (by intro _; rfl) (by omega) (by rfl) ?_ | fail)) | refine yL ?_ | (refine yM ?_; intro _) | fail)) | refine yJ ?_ | ((with_reducible apply gJ_if); (first | (refine J_if xR ?_ ?_ <;> intro _ <;> (try (exfalso; first | contradiction | omega))) | (refine J_ifb xR ?_ ?_ <;> (intro hgb; subst hgb)) | (refine J_ifb xR ?_ ?_ <;> intro _) | fail)) | fail))
      refine J_ret1 rfl (by rfl) fun w H => ⟨_, ⟨a, c, rfl, rfl⟩, ?_⟩
      have hkl2 := keepL_len D es
      have H2 := H.arTake .here (by intro _; rfl) (keepL D es).length (by simp; omega)
      rw [List.take_append_of_le_length (by simp; omega), List.take_take, Nat.min_self, hxt] at H2
      exact H2
end Go.Proofs.YtdnokmpnemaoaaaGreat.B
