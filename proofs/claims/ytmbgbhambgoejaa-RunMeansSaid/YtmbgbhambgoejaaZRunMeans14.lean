/-
  Cq9, Cq10: merged.
-/
import Derived.Test.YtmbgbhambgoejaaZRunMeans13
namespace Go.Proofs.Ytmbgbhambgoejaa.C
set_option linter.unusedSimpArgs false
set_option linter.unusedVariables false
set_option maxRecDepth 20000
set_option maxHeartbeats 4000000
open Go.RowKit Go.Pm

theorem preP {P : Program} {f : FuncId} {args : Array Value} {φ ψ : World → Prop} {C : List HP} {Rr : Value → List HP → Prop} (S : Pact P f args φ C Rr) (h : ∀ w, ψ w → φ w) : Pact P f args ψ C Rr := fun W K w hK H => S W K w (hK.imp h) H
def Kids (φ : Cd → World → Prop) (x : Cd) (w : World) : Prop := (x.l ≠ [] → Vw w (.slice x.a x.l.length x.c) 5 x.l.length (flat cdC x.l)) ∧ ∀ y ∈ x.l, φ y w
theorem CdF.kids {d : Nat} {x : Cd} (h : CdF d x) {w : World} (hv : CdV w d x) : Kids (fun y w => CdV w (d - 1) y) x w := by
  cases d with
  | zero => rw [Kids, h.2]; exact ⟨fun h => absurd rfl h, fun y hy => absurd hy List.not_mem_nil⟩
  | succ d => exact ⟨fun _ => hv.1, hv.2⟩
theorem CdF.len {d : Nat} {x : Cd} (h : CdF d x) : x.l.length ≤ 5 := by
  cases d with
  | zero => rw [h.2]; simp
  | succ d => exact h.2.1
theorem CdF.sub {d : Nat} {x y : Cd} (h : CdF d x) (hy : y ∈ x.l) : CdF (d - 1) y := by
  cases d with
  | zero => rw [h.2] at hy; cases hy
  | succ d => exact h.2.2 y hy
def tests : Nat → Cd → Nat
  | 0, _ => 1
  | d + 1, x => if x.l = [] then 1 else (x.l.map (tests d)).sum
theorem tests_eq {d : Nat} {x : Cd} (h : CdF d x) : tests d x = if x.l = [] then 1 else (x.l.map (tests (d - 1))).sum := by
  cases d with
  | zero => rw [if_pos h.2]; rfl
  | succ d => simp only [tests, Nat.add_sub_cancel]
theorem sum_le {α : Type} {f : α → Nat} {b : Nat} : ∀ {l : List α}, (∀ y ∈ l, f y ≤ b) → (l.map f).sum ≤ l.length * b
  | [], _ => by simp
  | y :: r, h => by
    have h1 := h y (by simp)
    have h2 := sum_le (l := r) fun z hz => h z (List.mem_cons_of_mem _ hz)
    simp only [List.map_cons, List.sum_cons, List.length_cons, Nat.succ_mul]
    omega
theorem sum_part {α : Type} {f : α → Nat} (l : List α) (k : Nat) : ((l.take k).map f).sum ≤ (l.map f).sum := by
  have : (l.map f).sum = ((l.take k).map f).sum + ((l.drop k).map f).sum := by
    rw [← List.sum_append, ← List.map_append, List.take_append_drop]
  omega
theorem tests_le : ∀ {d : Nat} {x : Cd}, CdF d x → tests d x ≤ 5 ^ d
  | 0, _, _ => Nat.le_refl _
  | d + 1, x, h => by
    rw [tests]
    split
    · exact Nat.one_le_pow _ _ (by omega)
    · have h1 := sum_le (l := x.l) (f := tests d) fun y hy => tests_le (h.2.2 y hy)
      have h2 : x.l.length * 5 ^ d ≤ 5 * 5 ^ d := Nat.mul_le_mul_right _ h.2.1
      rw [Nat.pow_succ]
      omega
/-! none, cond. -/
def noneB (x : Cd) : Bool := decide (x.op = 0 ∧ x.n = 0 ∧ (x.pa = 0 ∧ x.pl = 0) ∧ x.l.length = 0)
def okHead (x : Cd) : Bool := decide (x.n = 0 ∧ (x.pa = 0 ∧ x.pl = 0) ∧ (x.op = 3 → x.l.length = 1) ∧ (x.op < 3 → 2 ≤ x.l.length))
def okLeaf (x : Cd) : Bool := decide (x.l.length = 0) && decide (TestOk x.op x.n (x.pa, x.pl))
def condB : Nat → Cd → Bool
  | 0, x => if 1 ≤ x.op ∧ x.op ≤ 3 then okHead x else okLeaf x
  | d + 1, x => if 1 ≤ x.op ∧ x.op ≤ 3 then okHead x && x.l.all (condB d) else okLeaf x
def condG (g : Cd → Bool) (x : Cd) : Bool := if 1 ≤ x.op ∧ x.op ≤ 3 then okHead x && x.l.all g else okLeaf x
theorem condB_eq {d : Nat} {x : Cd} (h : CdF d x) : condB d x = condG (condB (d - 1)) x := by
  cases d with
  | zero =>
    unfold condG
    simp only [condB, h.2, List.all_nil, Bool.and_true]
  | succ d => rfl
theorem rnone_s (x : Cd) : Pact Try.prog 20 #[.agg (cdC x).toArray] (fun _ => True) [] (ret0 (.bool (noneB x))) := by
  refine pact Try.func20 rfl Try.ntmps20 rfl ?_
  intro W K _
  (repeat' (first | ((with_reducible apply gL); (first | refine yL0 ?_ | refine yL ?_ | ((with_reducible apply gL_go); (first | (refine JL_goq (rbare_s (x.pa, x.pl)) (hφ := xF) (h := ?_); rintro _ _ ⟨rfl, rfl⟩; try simp only [List.cons_append, List.nil_append]) | fail)) | (refine yM ?_; intro _) | ((with_reducible apply gL_gd); (first | (refine JL_guard xR xR ?_ ?_ <;> intro _ <;> (try (exfalso; first | contradiction | omega))) | (refine JL_guardb xR xR ?_ ?_ <;> (intro hgb; subst hgb)) | (refine JL_guardb xR xR ?_ ?_ <;> (intro hgb; fail_if_success (have : type_of% hgb := rfl))) | fail)) | fail)) | refine yJ ?_ | fail))
  all_goals (refine J_ret1 rfl (by rfl) fun w H => ⟨_, ⟨?_, rfl⟩, H.sel .nil⟩; refine congrArg Value.bool ?_; unfold noneB; rw [Bool.eq_iff_iff]; simp only [decide_eq_true_eq, true_iff, Bool.false_eq_true, false_iff]; omega)
theorem all_no {α : Type} {g : α → Bool} {l : List α} {y : α} (h : y ∈ l) (hg : g y = false) : l.all g = false := by
  rw [List.all_eq_false]
  exact ⟨y, h, by simp [hg]⟩
theorem all_take {α : Type} {g : α → Bool} {l : List α} {k : Nat} {y : α} (h : l[k]? = some y) (ha : (l.take k).all g = true) (hg : g y = true) : (l.take (k + 1)).all g = true := by
  rw [List.take_add_one, h, List.all_append, ha]
  simp [hg]
theorem rcond_core (x : Cd) (φ : Cd → World → Prop) (g : Cd → Bool) (deep : Int) (hx : CdN x) (hl : x.l.length ≤ 5) (hd : 0 ≤ deep ∧ deep ≤ 64) (hP : ∀ y ∈ x.l, Pact Try.prog 18 #[.agg (cdC y).toArray, .int .i64 (deep + 1)] (φ y) [] (ret0 (.bool (g y)))) : Pact Try.prog 18 #[.agg (cdC x).toArray, .int .i64 deep] (Kids φ x) [] (ret0 (.bool (condG g x))) := by
  refine pact Try.func18 rfl Try.ntmps18 rfl ?_
  intro W K hK
  have hp : PfN (x.pa, x.pl) := ⟨hx.pa, hx.pl⟩
  unfold condG
  by_cases ho : 1 ≤ x.op ∧ x.op ≤ 3
  · rw [if_pos ho]
    rcases hh : okHead x with _ | _
    · have hh2 := hh
      simp only [okHead, decide_eq_false_iff_not] at hh2
      (repeat' (first | ((with_reducible apply gL); (first | refine yL0 ?_ | refine yL ?_ | ((with_reducible apply gL_go); (first | (refine JL_goq (rbare_s (x.pa, x.pl)) (hφ := xF) (h := ?_); rintro _ _ ⟨rfl, rfl⟩; try simp only [List.cons_append, List.nil_append]) | fail)) | (refine yM ?_; intro _) | ((with_reducible apply gL_gd); (first | (refine JL_guard xR xR ?_ ?_ <;> intro _ <;> (try (exfalso; first | contradiction | omega))) | (refine JL_guardb xR xR ?_ ?_ <;> (intro hgb; subst hgb)) | (refine JL_guardb xR xR ?_ ?_ <;> (intro hgb; fail_if_success (have : type_of% hgb := rfl))) | fail)) | fail)) | refine yJ ?_ | ((with_reducible apply gJ_if); (first | (refine J_if xR ?_ ?_ <;> intro _ <;> (try (exfalso; first | contradiction | omega))) | (refine J_ifb xR ?_ ?_ <;> (intro hgb; subst hgb)) | (refine J_ifb xR ?_ ?_ <;> intro _) | fail)) | fail))
      all_goals exact J_ret1 rfl (by rfl) fun w H => ⟨_, ⟨rfl, rfl⟩, H.sel .nil⟩
    · have hh2 := hh
      simp only [okHead, decide_eq_true_eq] at hh2
      have hne : x.l ≠ [] := by
        intro h
        rw [h] at hh2
        simp only [List.length_nil] at hh2
        omega
      have hkv : Kn K (fun w => Vw w (.slice x.a x.l.length x.c) 5 x.l.length (flat cdC x.l)) := hK.imp fun w h => h.1 hne
      (repeat' (first | ((with_reducible apply gL); (first | refine yL0 ?_ | refine yL ?_ | ((with_reducible apply gL_go); (first | (refine JL_goq (rbare_s (x.pa, x.pl)) (hφ := xF) (h := ?_); rintro _ _ ⟨rfl, rfl⟩; try simp only [List.cons_append, List.nil_append]) | fail)) | (refine yM ?_; intro _) | ((with_reducible apply gL_gd); (first | (refine JL_guard xR xR ?_ ?_ <;> intro _ <;> (try (exfalso; first | contradiction | omega))) | (refine JL_guardb xR xR ?_ ?_ <;> (intro hgb; subst hgb)) | (refine JL_guardb xR xR ?_ ?_ <;> (intro hgb; fail_if_success (have : type_of% hgb := rfl))) | fail)) | fail)) | refine yJ ?_ | ((with_reducible apply gJ_if); (first | (refine J_if xR ?_ ?_ <;> intro _ <;> (try (exfalso; first | contradiction | omega))) | (refine J_ifb xR ?_ ?_ <;> (intro hgb; subst hgb)) | (refine J_ifb xR ?_ ?_ <;> intro _) | fail)) | fail))
      all_goals (
        rename Nat => b1
        refine J_loop (α := Nat) 0 (fun k => x.l.length - k) (fun k => k ≤ x.l.length ∧ (x.l.take k).all g = true) (fun k => [(1, .int .i64 deep), (2, .pointer (some ⟨b1, 0, none⟩)), (5, .int .i64 k)]) (fun _ => [pts b1 (cdC x) 50]) ⟨Nat.zero_le _, rfl⟩ ⟨rfl, rfl, rfl, trivial⟩ (fun w H => H.sel xZ) ?_
        rintro k ⟨hk, hall⟩
        by_cases hlt : k < x.l.length
        · obtain ⟨y, hs⟩ : ∃ y, x.l[k]? = some y := ⟨_, List.getElem?_eq_getElem hlt⟩
          have hm := List.mem_of_getElem? hs
          have hPy := hP y hm
          rcases hgy : g y with _ | _
          all_goals rw [hgy] at hPy
          · (repeat' (first | ((with_reducible apply gL); (first | refine yL0 ?_ | refine yL ?_ | ((with_reducible apply gL_go); (first | (refine JL_goq (hPy) (hφ := (by (try simp only [List.cons_append, List.nil_append]); exact fun w hr => (hK w hr.1).2 y hm)) (h := ?_); rintro _ _ ⟨rfl, rfl⟩; try simp only [List.cons_append, List.nil_append]) | fail)) | (refine yM ?_; intro _) | ((with_reducible apply gL_gd); (first | (refine JL_guard xR xR ?_ ?_ <;> intro _ <;> (try (exfalso; first | contradiction | omega))) | (refine JL_guardb xR xR ?_ ?_ <;> (intro hgb; subst hgb)) | (refine JL_guardb xR xR ?_ ?_ <;> (intro hgb; fail_if_success (have : type_of% hgb := rfl))) | fail)) | fail)) | refine yJ ?_ | ((with_reducible apply gJ_if); (first | (refine J_if xR ?_ ?_ <;> intro _ <;> (try (exfalso; first | contradiction | omega))) | (refine J_ifb xR ?_ ?_ <;> (intro hgb; subst hgb)) | (refine J_ifb xR ?_ ?_ <;> intro _) | fail)) | fail))
            refine J_ret1 rfl (by rfl) fun w H => ⟨_, ⟨?_, rfl⟩, H.sel .nil⟩
            rw [Bool.true_and, all_no hm hgy]
          · (repeat' (first | ((with_reducible apply gL); (first | refine yL0 ?_ | refine yL ?_ | ((with_reducible apply gL_go); (first | (refine JL_goq (hPy) (hφ := (by (try simp only [List.cons_append, List.nil_append]); exact fun w hr => (hK w hr.1).2 y hm)) (h := ?_); rintro _ _ ⟨rfl, rfl⟩; try simp only [List.cons_append, List.nil_append]) | fail)) | (refine yM ?_; intro _) | ((with_reducible apply gL_gd); (first | (refine JL_guard xR xR ?_ ?_ <;> intro _ <;> (try (exfalso; first | contradiction | omega))) | (refine JL_guardb xR xR ?_ ?_ <;> (intro hgb; subst hgb)) | (refine JL_guardb xR xR ?_ ?_ <;> (intro hgb; fail_if_success (have : type_of% hgb := rfl))) | fail)) | fail)) | refine yJ ?_ | ((with_reducible apply gJ_if); (first | (refine J_if xR ?_ ?_ <;> intro _ <;> (try (exfalso; first | contradiction | omega))) | (refine J_ifb xR ?_ ?_ <;> (intro hgb; subst hgb)) | (refine J_ifb xR ?_ ?_ <;> intro _) | fail)) | fail))
            exact J_again (k + 1) (by omega) ⟨by omega, all_take hs hall hgy⟩ ⟨rfl, rfl, rfl, trivial⟩ (fun w H => H.sel xZ)
        · obtain rfl : k = x.l.length := by omega
          rw [List.take_length] at hall
          (repeat' (first | ((with_reducible apply gL); (first | refine yL0 ?_ | refine yL ?_ | (refine yM ?_; intro _) | ((with_reducible apply gL_gd); (first | (refine JL_guard xR xR ?_ ?_ <;> intro _ <;> (try (exfalso; first | contradiction | omega))) | (refine JL_guardb xR xR ?_ ?_ <;> (intro hgb; subst hgb)) | (refine JL_guardb xR xR ?_ ?_ <;> (intro hgb; fail_if_success (have : type_of% hgb := rfl))) | fail)) | fail)) | refine yJ ?_ | ((with_reducible apply gJ_if); (first | (refine J_if xR ?_ ?_ <;> intro _ <;> (try (exfalso; first | contradiction | omega))) | (refine J_ifb xR ?_ ?_ <;> (intro hgb; subst hgb)) | (refine J_ifb xR ?_ ?_ <;> intro _) | fail)) | fail))
          refine J_ret1 rfl (by rfl) fun w H => ⟨_, ⟨?_, rfl⟩, H.sel .nil⟩
          rw [hall]; rfl)
  · rw [if_neg ho]
    unfold okLeaf
    rcases hbt : decide (TestOk x.op x.n (x.pa, x.pl)) with _ | _
    all_goals (
      (repeat' (first | ((with_reducible apply gL); (first | refine yL0 ?_ | refine yL ?_ | ((with_reducible apply gL_go); (first | (refine JL_goq (rtest_b x.op x.n (x.pa, x.pl) hp _ hbt) (hφ := xF) (h := ?_); rintro _ _ ⟨rfl, rfl⟩; try simp only [List.cons_append, List.nil_append]) | fail)) | (refine yM ?_; intro _) | ((with_reducible apply gL_gd); (first | (refine JL_guard xR xR ?_ ?_ <;> intro _ <;> (try (exfalso; first | contradiction | omega))) | (refine JL_guardb xR xR ?_ ?_ <;> (intro hgb; subst hgb)) | (refine JL_guardb xR xR ?_ ?_ <;> (intro hgb; fail_if_success (have : type_of% hgb := rfl))) | fail)) | fail)) | refine yJ ?_ | ((with_reducible apply gJ_if); (first | (refine J_if xR ?_ ?_ <;> intro _ <;> (try (exfalso; first | contradiction | omega))) | (refine J_ifb xR ?_ ?_ <;> (intro hgb; subst hgb)) | (refine J_ifb xR ?_ ?_ <;> intro _) | fail)) | fail)))
    all_goals (first | (exfalso; omega) | skip)
    all_goals (refine J_ret1 rfl (by rfl) fun w H => ⟨_, ⟨?_, rfl⟩, H.sel .nil⟩; refine congrArg Value.bool ?_; rw [Bool.eq_iff_iff]; simp only [decide_eq_true_eq, true_iff, Bool.false_eq_true, false_iff, Bool.and_false, Bool.and_true] <;> omega)
theorem rcond_s : ∀ (d : Nat) (x : Cd) (deep : Int), CdF d x → 0 ≤ deep ∧ deep + d ≤ 64 → Pact Try.prog 18 #[.agg (cdC x).toArray, .int .i64 deep] (fun w => CdV w d x) [] (ret0 (.bool (condB d x))) := by
  intro d
  induction d with
  | zero =>
    intro x deep hx hd
    rw [condB_eq hx]
    exact preP (rcond_core x (fun y w => CdV w (0 - 1) y) (condB (0 - 1)) deep hx.nn hx.len (by omega) (fun y hy => absurd hy (by rw [hx.2]; exact List.not_mem_nil))) fun w h => hx.kids h
  | succ d ih =>
    intro x deep hx hd
    rw [condB_eq hx]
    exact preP (rcond_core x (fun y w => CdV w (d + 1 - 1) y) (condB (d + 1 - 1)) deep hx.nn hx.len (by omega) (fun y hy => ih y (deep + 1) (hx.sub hy) (by omega))) fun w h => hx.kids h
end Go.Proofs.Ytmbgbhambgoejaa.C
namespace Go.Proofs.Ytmbgbhambgoejaa.C
set_option linter.unusedSimpArgs false
set_option linter.unusedVariables false
set_option maxRecDepth 20000
set_option maxHeartbeats 4000000
open Go.RowKit Go.Pm

theorem any_yes {α : Type} {g : α → Bool} {l : List α} {y : α} (h : y ∈ l) (hg : g y = true) : l.any g = true := List.any_eq_true.2 ⟨y, h, hg⟩
theorem any_take {α : Type} {g : α → Bool} {l : List α} {k : Nat} {y : α} (h : l[k]? = some y) (ha : (l.take k).any g = false) (hg : g y = false) : (l.take (k + 1)).any g = false := by
  rw [List.take_add_one, h, List.any_append, ha]
  simp [hg]
theorem any_not {α : Type} (g : α → Bool) : ∀ l : List α, (l.any fun y => !g y) = !l.all g
  | [] => rfl
  | y :: r => by rw [List.any_cons, List.all_cons, any_not g r]; cases g y <;> rfl
theorem indC_s (a : Option Addr) (c : Nat) (l : List Cd) (φ : Cd → World → Prop) (F : FuncId) (db : Nat) (deep : Int) (b : Cd → Bool) (hl : l.length ≤ 5) (ho : ownB Try.prog F = true) (hP : ∀ y ∈ l, Pact Try.prog F [.agg (cdC y).toArray, .pointer (some ⟨db, 0, none⟩)].toArray (φ y) [pts db [.int .i64 deep] 3] (fun u L' => u = .bool (b y) ∧ L' = [pts db [.int .i64 deep] 3])) : Pact Try.prog 68 #[.slice a l.length c, .func (.func F) #[] #[.pointer (some ⟨db, 0, none⟩)]] (fun w => (l ≠ [] → Vw w (.slice a l.length c) 5 l.length (flat cdC l)) ∧ ∀ y ∈ l, φ y w) [pts db [.int .i64 deep] 3] (fun u L' => ∃ z : Int, (decide (0 ≤ z) = l.any b) ∧ u = .int .i64 z ∧ L' = [pts db [.int .i64 deep] 3]) := by
  refine pact Try.func68 rfl Try.ntmps68 rfl ?_
  intro W K hK
  (repeat' (first | ((with_reducible apply gL); (first | refine yL0 ?_ | refine yL ?_ | fail)) | refine yJ ?_ | ((with_reducible apply gJ_if); (first | (refine J_if xR ?_ ?_ <;> intro _ <;> (try (exfalso; first | contradiction | omega))) | (refine J_ifb xR ?_ ?_ <;> (intro hgb; subst hgb)) | (refine J_ifb xR ?_ ?_ <;> intro _) | fail)) | fail))
  refine J_loop (α := Nat) 0 (fun k => l.length - k) (fun k => k ≤ l.length ∧ (l.take k).any b = false) (fun k => [(0, .slice a l.length c), (1, .func (.func F) #[] #[.pointer (some ⟨db, 0, none⟩)]), (7, .int .i64 l.length), (8, .int .i64 k)]) (fun _ => [pts db [.int .i64 deep] 3]) ⟨Nat.zero_le _, rfl⟩ ⟨rfl, rfl, rfl, rfl, trivial⟩ (fun w H => H.sel xZ) ?_
  rintro k ⟨hk, hall⟩
  by_cases hlt : k < l.length
  · obtain ⟨y, hs⟩ : ∃ y, l[k]? = some y := ⟨_, List.getElem?_eq_getElem hlt⟩
    have hm := List.mem_of_getElem? hs
    have hkv : Kn K (fun w => Vw w (.slice a l.length c) 5 l.length (flat cdC l)) := hK.imp fun w h => h.1 (List.ne_nil_of_mem hm)
    have hPy := hP y hm
    rcases hby : b y with _ | _
    all_goals rw [hby] at hPy
    · (repeat' (first | ((with_reducible apply gL); (first | refine yL0 ?_ | refine yL ?_ | ((with_reducible apply gL_go); (first | (refine JL_goq (hPy) (hφ := (by (try simp only [List.cons_append, List.nil_append]); exact fun w hr => (hK w hr.1).2 y hm)) (h := ?_); rintro _ _ ⟨rfl, rfl⟩; try simp only [List.cons_append, List.nil_append]) | fail)) | fail)) | refine yJ ?_ | ((with_reducible apply gJ_if); (first | (refine J_if xR ?_ ?_ <;> intro _ <;> (try (exfalso; first | contradiction | omega))) | (refine J_ifb xR ?_ ?_ <;> (intro hgb; subst hgb)) | (refine J_ifb xR ?_ ?_ <;> intro _) | fail)) | fail))
      exact J_again (k + 1) (by omega) ⟨by omega, any_take hs hall hby⟩ ⟨rfl, rfl, rfl, rfl, trivial⟩ (fun w H => H.sel xZ)
    · (repeat' (first | ((with_reducible apply gL); (first | refine yL0 ?_ | refine yL ?_ | ((with_reducible apply gL_go); (first | (refine JL_goq (hPy) (hφ := (by (try simp only [List.cons_append, List.nil_append]); exact fun w hr => (hK w hr.1).2 y hm)) (h := ?_); rintro _ _ ⟨rfl, rfl⟩; try simp only [List.cons_append, List.nil_append]) | fail)) | fail)) | refine yJ ?_ | ((with_reducible apply gJ_if); (first | (refine J_if xR ?_ ?_ <;> intro _ <;> (try (exfalso; first | contradiction | omega))) | (refine J_ifb xR ?_ ?_ <;> (intro hgb; subst hgb)) | (refine J_ifb xR ?_ ?_ <;> intro _) | fail)) | fail))
      exact J_ret1 rfl (by rfl) fun w H => ⟨_, ⟨k, by rw [any_yes hm hby]; simp, rfl, rfl⟩, H.sel xZ⟩
  · obtain rfl : k = l.length := by omega
    rw [List.take_length] at hall
    (repeat' (first | ((with_reducible apply gL); (first | refine yL0 ?_ | refine yL ?_ | fail)) | refine yJ ?_ | ((with_reducible apply gJ_if); (first | (refine J_if xR ?_ ?_ <;> intro _ <;> (try (exfalso; first | contradiction | omega))) | (refine J_ifb xR ?_ ?_ <;> (intro hgb; subst hgb)) | (refine J_ifb xR ?_ ?_ <;> intro _) | fail)) | fail))
    exact J_ret1 rfl (by rfl) fun w H => ⟨_, ⟨-1, by rw [hall]; rfl, rfl, rfl⟩, H.sel xZ⟩
theorem contC_s (a : Option Addr) (c : Nat) (l : List Cd) (φ : Cd → World → Prop) (F : FuncId) (db : Nat) (deep : Int) (b : Cd → Bool) (hl : l.length ≤ 5) (ho : ownB Try.prog F = true) (hP : ∀ y ∈ l, Pact Try.prog F [.agg (cdC y).toArray, .pointer (some ⟨db, 0, none⟩)].toArray (φ y) [pts db [.int .i64 deep] 3] (fun u L' => u = .bool (b y) ∧ L' = [pts db [.int .i64 deep] 3])) : Pact Try.prog 50 #[.slice a l.length c, .func (.func F) #[] #[.pointer (some ⟨db, 0, none⟩)]] (fun w => (l ≠ [] → Vw w (.slice a l.length c) 5 l.length (flat cdC l)) ∧ ∀ y ∈ l, φ y w) [pts db [.int .i64 deep] 3] (fun u L' => u = .bool (l.any b) ∧ L' = [pts db [.int .i64 deep] 3]) := by
  refine pact Try.func50 rfl Try.ntmps50 rfl ?_
  intro W K hK
  (repeat' (first | ((with_reducible apply gL); (first | refine yL0 ?_ | refine yL ?_ | ((with_reducible apply gL_go); (first | (refine JL_goq (indC_s a c l φ F db deep b hl ho hP) (hφ := (by (try simp only [List.cons_append, List.nil_append]); exact fun w hr => hK w hr.1)) (h := ?_); rintro _ _ ⟨z, hz, rfl, rfl⟩; try simp only [List.cons_append, List.nil_append]) | fail)) | fail)) | refine yJ ?_ | fail))
  exact J_ret1 rfl (by rfl) fun w H => ⟨_, ⟨by rw [← hz], rfl⟩, H.sel xZ⟩
theorem indS_s (a : Option Addr) (c : Nat) (l : List St) (φ : St → World → Prop) (F : FuncId) (db : Nat) (deep : Int) (b : St → Bool) (hl : l.length ≤ 5) (ho : ownB Try.prog F = true) (hP : ∀ y ∈ l, Pact Try.prog F [.agg (stC y).toArray, .pointer (some ⟨db, 0, none⟩)].toArray (φ y) [pts db [.int .i64 deep] 3] (fun u L' => u = .bool (b y) ∧ L' = [pts db [.int .i64 deep] 3])) : Pact Try.prog 47 #[.slice a l.length c, .func (.func F) #[] #[.pointer (some ⟨db, 0, none⟩)]] (fun w => (l ≠ [] → Vw w (.slice a l.length c) 10 l.length (flat stC l)) ∧ ∀ y ∈ l, φ y w) [pts db [.int .i64 deep] 3] (fun u L' => ∃ z : Int, (decide (0 ≤ z) = l.any b) ∧ u = .int .i64 z ∧ L' = [pts db [.int .i64 deep] 3]) := by
  refine pact Try.func47 rfl Try.ntmps47 rfl ?_
  intro W K hK
  (repeat' (first | ((with_reducible apply gL); (first | refine yL0 ?_ | refine yL ?_ | fail)) | refine yJ ?_ | ((with_reducible apply gJ_if); (first | (refine J_if xR ?_ ?_ <;> intro _ <;> (try (exfalso; first | contradiction | omega))) | (refine J_ifb xR ?_ ?_ <;> (intro hgb; subst hgb)) | (refine J_ifb xR ?_ ?_ <;> intro _) | fail)) | fail))
  refine J_loop (α := Nat) 0 (fun k => l.length - k) (fun k => k ≤ l.length ∧ (l.take k).any b = false) (fun k => [(0, .slice a l.length c), (1, .func (.func F) #[] #[.pointer (some ⟨db, 0, none⟩)]), (7, .int .i64 l.length), (8, .int .i64 k)]) (fun _ => [pts db [.int .i64 deep] 3]) ⟨Nat.zero_le _, rfl⟩ ⟨rfl, rfl, rfl, rfl, trivial⟩ (fun w H => H.sel xZ) ?_
  rintro k ⟨hk, hall⟩
  by_cases hlt : k < l.length
  · obtain ⟨y, hs⟩ : ∃ y, l[k]? = some y := ⟨_, List.getElem?_eq_getElem hlt⟩
    have hm := List.mem_of_getElem? hs
    have hkv : Kn K (fun w => Vw w (.slice a l.length c) 10 l.length (flat stC l)) := hK.imp fun w h => h.1 (List.ne_nil_of_mem hm)
    have hPy := hP y hm
    rcases hby : b y with _ | _
    all_goals rw [hby] at hPy
    · (repeat' (first | ((with_reducible apply gL); (first | refine yL0 ?_ | refine yL ?_ | ((with_reducible apply gL_go); (first | (refine JL_goq (hPy) (hφ := (by (try simp only [List.cons_append, List.nil_append]); exact fun w hr => (hK w hr.1).2 y hm)) (h := ?_); rintro _ _ ⟨rfl, rfl⟩; try simp only [List.cons_append, List.nil_append]) | fail)) | fail)) | refine yJ ?_ | ((with_reducible apply gJ_if); (first | (refine J_if xR ?_ ?_ <;> intro _ <;> (try (exfalso; first | contradiction | omega))) | (refine J_ifb xR ?_ ?_ <;> (intro hgb; subst hgb)) | (refine J_ifb xR ?_ ?_ <;> intro _) | fail)) | fail))
      exact J_again (k + 1) (by omega) ⟨by omega, any_take hs hall hby⟩ ⟨rfl, rfl, rfl, rfl, trivial⟩ (fun w H => H.sel xZ)
    · (repeat' (first | ((with_reducible apply gL); (first | refine yL0 ?_ | refine yL ?_ | ((with_reducible apply gL_go); (first | (refine JL_goq (hPy) (hφ := (by (try simp only [List.cons_append, List.nil_append]); exact fun w hr => (hK w hr.1).2 y hm)) (h := ?_); rintro _ _ ⟨rfl, rfl⟩; try simp only [List.cons_append, List.nil_append]) | fail)) | fail)) | refine yJ ?_ | ((with_reducible apply gJ_if); (first | (refine J_if xR ?_ ?_ <;> intro _ <;> (try (exfalso; first | contradiction | omega))) | (refine J_ifb xR ?_ ?_ <;> (intro hgb; subst hgb)) | (refine J_ifb xR ?_ ?_ <;> intro _) | fail)) | fail))
      exact J_ret1 rfl (by rfl) fun w H => ⟨_, ⟨k, by rw [any_yes hm hby]; simp, rfl, rfl⟩, H.sel xZ⟩
  · obtain rfl : k = l.length := by omega
    rw [List.take_length] at hall
    (repeat' (first | ((with_reducible apply gL); (first | refine yL0 ?_ | refine yL ?_ | fail)) | refine yJ ?_ | ((with_reducible apply gJ_if); (first | (refine J_if xR ?_ ?_ <;> intro _ <;> (try (exfalso; first | contradiction | omega))) | (refine J_ifb xR ?_ ?_ <;> (intro hgb; subst hgb)) | (refine J_ifb xR ?_ ?_ <;> intro _) | fail)) | fail))
    exact J_ret1 rfl (by rfl) fun w H => ⟨_, ⟨-1, by rw [hall]; rfl, rfl, rfl⟩, H.sel xZ⟩
theorem contS_s (a : Option Addr) (c : Nat) (l : List St) (φ : St → World → Prop) (F : FuncId) (db : Nat) (deep : Int) (b : St → Bool) (hl : l.length ≤ 5) (ho : ownB Try.prog F = true) (hP : ∀ y ∈ l, Pact Try.prog F [.agg (stC y).toArray, .pointer (some ⟨db, 0, none⟩)].toArray (φ y) [pts db [.int .i64 deep] 3] (fun u L' => u = .bool (b y) ∧ L' = [pts db [.int .i64 deep] 3])) : Pact Try.prog 28 #[.slice a l.length c, .func (.func F) #[] #[.pointer (some ⟨db, 0, none⟩)]] (fun w => (l ≠ [] → Vw w (.slice a l.length c) 10 l.length (flat stC l)) ∧ ∀ y ∈ l, φ y w) [pts db [.int .i64 deep] 3] (fun u L' => u = .bool (l.any b) ∧ L' = [pts db [.int .i64 deep] 3]) := by
  refine pact Try.func28 rfl Try.ntmps28 rfl ?_
  intro W K hK
  (repeat' (first | ((with_reducible apply gL); (first | refine yL0 ?_ | refine yL ?_ | ((with_reducible apply gL_go); (first | (refine JL_goq (indS_s a c l φ F db deep b hl ho hP) (hφ := (by (try simp only [List.cons_append, List.nil_append]); exact fun w hr => hK w hr.1)) (h := ?_); rintro _ _ ⟨z, hz, rfl, rfl⟩; try simp only [List.cons_append, List.nil_append]) | fail)) | fail)) | refine yJ ?_ | fail))
  exact J_ret1 rfl (by rfl) fun w H => ⟨_, ⟨by rw [← hz], rfl⟩, H.sel xZ⟩
theorem rc_core (x : Cd) (φ : Cd → World → Prop) (g : Cd → Bool) (deep : Int) (hx : CdN x) (hl : x.l.length ≤ 5) (hd : 0 ≤ deep ∧ deep ≤ 64) (hP : ∀ y ∈ x.l, Pact Try.prog 32 #[.agg (cdC y).toArray, .int .i64 (deep + 1)] (φ y) [] (ret0 (.bool (g y)))) : Pact Try.prog 32 #[.agg (cdC x).toArray, .int .i64 deep] (Kids φ x) [] (ret0 (.bool (condG g x))) := by
  have h1 : ∀ db : Nat, ∀ y ∈ x.l, Pact Try.prog 51 [.agg (cdC y).toArray, .pointer (some ⟨db, 0, none⟩)].toArray (φ y) [pts db [.int .i64 deep] 3] (fun u L' => u = .bool (!g y) ∧ L' = [pts db [.int .i64 deep] 3]) := fun db y hy => by
    refine pact Try.func51 rfl Try.ntmps51 rfl ?_
    intro W K hK
    have hPy := hP y hy
    rcases hgy : g y with _ | _
    all_goals rw [hgy] at hPy
    all_goals (
      (repeat' (first | ((with_reducible apply gL); (first | refine yL0 ?_ | refine yL ?_ | ((with_reducible apply gL_go); (first | (refine JL_goq (hPy) (hφ := (by (try simp only [List.cons_append, List.nil_append]); exact fun w hr => hK w hr.1)) (h := ?_); rintro _ _ ⟨rfl, rfl⟩; try simp only [List.cons_append, List.nil_append]) | fail)) | (refine yM ?_; intro _) | fail)) | refine yJ ?_ | fail))
      exact J_ret1 rfl (by rfl) fun w H => ⟨_, ⟨rfl, rfl⟩, H.sel xZ⟩)
  refine pact Try.func32 rfl Try.ntmps32 rfl ?_
  intro W K hK
  have hp : PfN (x.pa, x.pl) := ⟨hx.pa, hx.pl⟩
  unfold condG
  by_cases ho : 1 ≤ x.op ∧ x.op ≤ 3
  · rw [if_pos ho]
    rcases hh : okHead x with _ | _
    all_goals (have hh2 := hh; simp only [okHead, decide_eq_false_iff_not, decide_eq_true_eq] at hh2)
    · (repeat' (first | ((with_reducible apply gL); (first | refine yL0 ?_ | refine yL ?_ | (refine yM ?_; intro _) | ((with_reducible apply gL_gd); (first | (refine JL_guard xR xR ?_ ?_ <;> intro _ <;> (try (exfalso; first | contradiction | omega))) | (refine JL_guardb xR xR ?_ ?_ <;> (intro hgb; subst hgb)) | (refine JL_guardb xR xR ?_ ?_ <;> (intro hgb; fail_if_success (have : type_of% hgb := rfl))) | fail)) | fail)) | ((with_reducible apply gD); (first | (refine JD_nil ?_; try simp only [List.cons_append, List.nil_append]) | (refine JD_bar ?_; try simp only [List.cons_append, List.nil_append]) | refine yD ?_ | fail)) | refine yJ ?_ | ((with_reducible apply gJ_if); (first | (refine J_if xR ?_ ?_ <;> intro _ <;> (try (exfalso; first | contradiction | omega))) | (refine J_ifb xR ?_ ?_ <;> (intro hgb; subst hgb)) | (refine J_ifb xR ?_ ?_ <;> intro _) | fail)) | refine J_draw (id := 6) [0, 1, 2, 3] [4] mixed xC xD xD ?_ | fail))
      all_goals (first | (exfalso; omega) | exact J_ret1 rfl (by rfl) fun w H => ⟨_, ⟨rfl, rfl⟩, H.sel .nil⟩)
    · (repeat' (first | ((with_reducible apply gL); (first | refine yL0 ?_ | refine yL ?_ | ((with_reducible apply gL_go); (first | (refine JL_goq (contC_s x.a x.c x.l φ 51 _ deep (fun y => !g y) hl (by decide +kernel) (h1 _)) (hφ := (by (try simp only [List.cons_append, List.nil_append]); exact fun w hr => hK w hr.1)) (h := ?_); rintro _ _ ⟨rfl, rfl⟩; try simp only [List.cons_append, List.nil_append]) | fail)) | (refine yM ?_; intro _) | ((with_reducible apply gL_gd); (first | (refine JL_guard xR xR ?_ ?_ <;> intro _ <;> (try (exfalso; first | contradiction | omega))) | (refine JL_guardb xR xR ?_ ?_ <;> (intro hgb; subst hgb)) | (refine JL_guardb xR xR ?_ ?_ <;> (intro hgb; fail_if_success (have : type_of% hgb := rfl))) | fail)) | fail)) | ((with_reducible apply gD); (first | (refine JD_nil ?_; try simp only [List.cons_append, List.nil_append]) | (refine JD_bar ?_; try simp only [List.cons_append, List.nil_append]) | refine yD ?_ | fail)) | refine yJ ?_ | ((with_reducible apply gJ_if); (first | (refine J_if xR ?_ ?_ <;> intro _ <;> (try (exfalso; first | contradiction | omega))) | (refine J_ifb xR ?_ ?_ <;> (intro hgb; subst hgb)) | (refine J_ifb xR ?_ ?_ <;> intro _) | fail)) | refine J_draw (id := 6) [0, 1, 2, 3] [4] mixed xC xD xD ?_ | fail))
      all_goals (first | (exfalso; omega) | skip)
      all_goals (refine J_ret1 rfl (by rfl) fun w H => ⟨_, ⟨?_, rfl⟩, H.sel .nil⟩; rw [any_not]; cases x.l.all g <;> rfl)
  · rw [if_neg ho]
    unfold okLeaf
    rcases hbt : decide (TestOk x.op x.n (x.pa, x.pl)) with _ | _
    all_goals (
      (repeat' (first | ((with_reducible apply gL); (first | refine yL0 ?_ | refine yL ?_ | ((with_reducible apply gL_go); (first | (refine JL_goq (test_b x.op x.n (x.pa, x.pl) hp _ hbt) (hφ := xF) (h := ?_); rintro _ _ ⟨rfl, rfl⟩; try simp only [List.cons_append, List.nil_append]) | fail)) | (refine yM ?_; intro _) | ((with_reducible apply gL_gd); (first | (refine JL_guard xR xR ?_ ?_ <;> intro _ <;> (try (exfalso; first | contradiction | omega))) | (refine JL_guardb xR xR ?_ ?_ <;> (intro hgb; subst hgb)) | (refine JL_guardb xR xR ?_ ?_ <;> (intro hgb; fail_if_success (have : type_of% hgb := rfl))) | fail)) | fail)) | ((with_reducible apply gD); (first | (refine JD_nil ?_; try simp only [List.cons_append, List.nil_append]) | (refine JD_bar ?_; try simp only [List.cons_append, List.nil_append]) | refine yD ?_ | fail)) | refine yJ ?_ | ((with_reducible apply gJ_if); (first | (refine J_if xR ?_ ?_ <;> intro _ <;> (try (exfalso; first | contradiction | omega))) | (refine J_ifb xR ?_ ?_ <;> (intro hgb; subst hgb)) | (refine J_ifb xR ?_ ?_ <;> intro _) | fail)) | refine J_draw (id := 6) [0, 1, 2, 3] [4] mixed xC xD xD ?_ | fail)))
    all_goals (first | (exfalso; omega) | skip)
    all_goals (refine J_ret1 rfl (by rfl) fun w H => ⟨_, ⟨?_, rfl⟩, H.sel .nil⟩; refine congrArg Value.bool ?_; rw [Bool.eq_iff_iff]; simp only [decide_eq_true_eq, true_iff, Bool.false_eq_true, false_iff, Bool.and_false, Bool.and_true] <;> omega)
theorem rightCond_s : ∀ (d : Nat) (x : Cd) (deep : Int), CdF d x → 0 ≤ deep ∧ deep + d ≤ 64 → Pact Try.prog 32 #[.agg (cdC x).toArray, .int .i64 deep] (fun w => CdV w d x) [] (ret0 (.bool (condB d x))) := by
  intro d
  induction d with
  | zero =>
    intro x deep hx hd
    rw [condB_eq hx]
    exact preP (rc_core x (fun y w => CdV w (0 - 1) y) (condB (0 - 1)) deep hx.nn hx.len (by omega) (fun y hy => absurd hy (by rw [hx.2]; exact List.not_mem_nil))) fun w h => hx.kids h
  | succ d ih =>
    intro x deep hx hd
    rw [condB_eq hx]
    exact preP (rc_core x (fun y w => CdV w (d + 1 - 1) y) (condB (d + 1 - 1)) deep hx.nn hx.len (by omega) (fun y hy => ih y (deep + 1) (hx.sub hy) (by omega))) fun w h => hx.kids h
end Go.Proofs.Ytmbgbhambgoejaa.C
