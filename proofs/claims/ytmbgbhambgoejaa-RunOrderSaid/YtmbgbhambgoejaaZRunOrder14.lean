/-
  Cq10, Ru3, Ru16, Jx, Jy: merged.
-/
import Derived.Test.YtmbgbhambgoejaaZRunOrder13
import Derived.Maps.RangeRun
namespace Go.Proofs.Ytmbgbhambgoejaa.C
set_option linter.unusedSimpArgs false
set_option linter.unusedVariables false
set_option maxRecDepth 20000
set_option maxHeartbeats 4000000
open Go.RowKit Go.Pm

theorem any_yes {α : Type} {g : α → Bool} {l : List α} {y : α} (h : y ∈ l) (hg : g y = true) : l.any g = true := List.any_eq_true.2 ⟨y, h, hg⟩
theorem any_take {α : Type} {g : α → Bool} {l : List α} {k : Nat} {y : α} (h : l[k]? = some y) (ha : (l.take k).any g = false) (hg : g y = false) : (l.take (k + 1)).any g = false := by
  rw [List.take_add_one, h, List.any_append, ha]
  simp [hg]
theorem any_not {α : Type} (g : α → Bool) : ∀ l : List α, (l.any fun y => !g y) = !l.all g
  | [] => rfl
  | y :: r => by rw [List.any_cons, List.all_cons, any_not g r]; cases g y <;> rfl
theorem indC_s (a : Option Addr) (c : Nat) (l : List Cd) (φ : Cd → World → Prop) (F : FuncId) (db : Nat) (deep : Int) (b : Cd → Bool) (hl : l.length ≤ 5) (ho : ownB Try.prog F = true) (hP : ∀ y ∈ l, Pact Try.prog F [.agg (cdC y).toArray, .pointer (some ⟨db, 0, none⟩)].toArray (φ y) [pts db [.int .i64 deep] 3] (fun u L' => u = .bool (b y) ∧ L' = [pts db [.int .i64 deep] 3])) : Pact Try.prog 68 #[.slice a l.length c, .func (.func F) #[] #[.pointer (some ⟨db, 0, none⟩)]] (fun w => (l ≠ [] → Vw w (.slice a l.length c) 5 l.length (flat cdC l)) ∧ ∀ y ∈ l, φ y w) [pts db [.int .i64 deep] 3] (fun u L' => ∃ z : Int, (decide (0 ≤ z) = l.any b) ∧ u = .int .i64 z ∧ L' = [pts db [.int .i64 deep] 3]) := by
  refine pact Try.func68 rfl Try.ntmps68 rfl ?_
  intro W K hK
  (repeat' (first | ((with_reducible apply gL); (first | refine yL0 ?_ | refine yL ?_ | fail)) | refine yJ ?_ | ((with_reducible apply gJ_if); (first | (refine J_if xR ?_ ?_ <;> intro _ <;> (try (exfalso; first | contradiction | omega))) | (refine J_ifb xR ?_ ?_ <;> (intro hgb; subst hgb)) | (refine J_ifb xR ?_ ?_ <;> intro _) | fail)) | fail))
  refine J_loop (α := Nat) 0 (fun k => l.length - k) (fun k => k ≤ l.length ∧ (l.take k).any b = false) (fun k => [(0, .slice a l.length c), (1, .func (.func F) #[] #[.pointer (some ⟨db, 0, none⟩)]), (7, .int .i64 l.length), (8, .int .i64 k)]) (fun _ => [pts db [.int .i64 deep] 3]) ⟨Nat.zero_le _, rfl⟩ ⟨rfl, rfl, rfl, rfl, trivial⟩ (fun w H => H.sel xZ) ?_
  rintro k ⟨hk, hall⟩
  by_cases hlt : k < l.length
  · obtain ⟨y, hs⟩ : ∃ y, l[k]? = some y := ⟨_, List.getElem?_eq_getElem hlt⟩
    have hm := List.mem_of_getElem? hs
    have hkv : Kn K (fun w => Vw w (.slice a l.length c) 5 l.length (flat cdC l)) := hK.imp fun w h => h.1 (List.ne_nil_of_mem hm)
    have hPy := hP y hm
    rcases hby : b y with _ | _
    all_goals rw [hby] at hPy
    · (repeat' (first | ((with_reducible apply gL); (first | refine yL0 ?_ | refine yL ?_ | ((with_reducible apply gL_go); (first | (refine JL_goq (hPy) (hφ := (by (try simp only [List.cons_append, List.nil_append]); exact fun w hr => (hK w hr.1).2 y hm)) (h := ?_); rintro _ _ ⟨rfl, rfl⟩; try simp only [List.cons_append, List.nil_append]) | fail)) | fail)) | refine yJ ?_ | ((with_reducible apply gJ_if); (first | (refine J_if xR ?_ ?_ <;> intro _ <;> (try (exfalso; first | contradiction | omega))) | (refine J_ifb xR ?_ ?_ <;> (intro hgb; subst hgb)) | (refine J_ifb xR ?_ ?_ <;> intro _) | fail)) | fail))
      exact J_again (k + 1) (by omega) ⟨by omega, any_take hs hall hby⟩ ⟨rfl, rfl, rfl, rfl, trivial⟩ (fun w H => H.sel xZ)
    · (repeat' (first | ((with_reducible apply gL); (first | refine yL0 ?_ | refine yL ?_ | ((with_reducible apply gL_go); (first | (refine JL_goq (hPy) (hφ := (by (try simp only [List.cons_append, List.nil_append]); exact fun w hr => (hK w hr.1).2 y hm)) (h := ?_); rintro _ _ ⟨rfl, rfl⟩; try simp only [List.cons_append, List.nil_append]) | fail)) | fail)) | refine yJ ?_ | ((with_reducible apply gJ_if); (first | (refine J_if xR ?_ ?_ <;> intro _ <;> (try (exfalso; first | contradiction | omega))) | (refine J_ifb xR ?_ ?_ <;> (intro hgb; subst hgb)) | (refine J_ifb xR ?_ ?_ <;> intro _) | fail)) | fail))
      exact J_ret1 rfl (by rfl) fun w H => ⟨_, ⟨k, by rw [any_yes hm hby]; simp, rfl, rfl⟩, H.sel xZ⟩
  · obtain rfl : k = l.length := by omega
    rw [List.take_length] at hall
    (repeat' (first | ((with_reducible apply gL); (first | refine yL0 ?_ | refine yL ?_ | fail)) | refine yJ ?_ | ((with_reducible apply gJ_if); (first | (refine J_if xR ?_ ?_ <;> intro _ <;> (try (exfalso; first | contradiction | omega))) | (refine J_ifb xR ?_ ?_ <;> (intro hgb; subst hgb)) | (refine J_ifb xR ?_ ?_ <;> intro _) | fail)) | fail))
    exact J_ret1 rfl (by rfl) fun w H => ⟨_, ⟨-1, by rw [hall]; rfl, rfl, rfl⟩, H.sel xZ⟩
theorem contC_s (a : Option Addr) (c : Nat) (l : List Cd) (φ : Cd → World → Prop) (F : FuncId) (db : Nat) (deep : Int) (b : Cd → Bool) (hl : l.length ≤ 5) (ho : ownB Try.prog F = true) (hP : ∀ y ∈ l, Pact Try.prog F [.agg (cdC y).toArray, .pointer (some ⟨db, 0, none⟩)].toArray (φ y) [pts db [.int .i64 deep] 3] (fun u L' => u = .bool (b y) ∧ L' = [pts db [.int .i64 deep] 3])) : Pact Try.prog 50 #[.slice a l.length c, .func (.func F) #[] #[.pointer (some ⟨db, 0, none⟩)]] (fun w => (l ≠ [] → Vw w (.slice a l.length c) 5 l.length (flat cdC l)) ∧ ∀ y ∈ l, φ y w) [pts db [.int .i64 deep] 3] (fun u L' => u = .bool (l.any b) ∧ L' = [pts db [.int .i64 deep] 3]) := by
  refine pact Try.func50 rfl Try.ntmps50 rfl ?_
  intro W K hK
  (repeat' (first | ((with_reducible apply gL); (first | refine yL0 ?_ | refine yL ?_ | ((with_reducible apply gL_go); (first | (refine JL_goq (indC_s a c l φ F db deep b hl ho hP) (hφ := (by (try simp only [List.cons_append, List.nil_append]); exact fun w hr => hK w hr.1)) (h := ?_); rintro _ _ ⟨z, hz, rfl, rfl⟩; try simp only [List.cons_append, List.nil_append]) | fail)) | fail)) | refine yJ ?_ | fail))
  exact J_ret1 rfl (by rfl) fun w H => ⟨_, ⟨by rw [← hz], rfl⟩, H.sel xZ⟩
theorem indS_s (a : Option Addr) (c : Nat) (l : List St) (φ : St → World → Prop) (F : FuncId) (db : Nat) (deep : Int) (b : St → Bool) (hl : l.length ≤ 6) (ho : ownB Try.prog F = true) (hP : ∀ y ∈ l, Pact Try.prog F [.agg (stC y).toArray, .pointer (some ⟨db, 0, none⟩)].toArray (φ y) [pts db [.int .i64 deep] 3] (fun u L' => u = .bool (b y) ∧ L' = [pts db [.int .i64 deep] 3])) : Pact Try.prog 47 #[.slice a l.length c, .func (.func F) #[] #[.pointer (some ⟨db, 0, none⟩)]] (fun w => (l ≠ [] → Vw w (.slice a l.length c) 10 l.length (flat stC l)) ∧ ∀ y ∈ l, φ y w) [pts db [.int .i64 deep] 3] (fun u L' => ∃ z : Int, (decide (0 ≤ z) = l.any b) ∧ u = .int .i64 z ∧ L' = [pts db [.int .i64 deep] 3]) := by
  refine pact Try.func47 rfl Try.ntmps47 rfl ?_
  intro W K hK
  (repeat' (first | ((with_reducible apply gL); (first | refine yL0 ?_ | refine yL ?_ | fail)) | refine yJ ?_ | ((with_reducible apply gJ_if); (first | (refine J_if xR ?_ ?_ <;> intro _ <;> (try (exfalso; first | contradiction | omega))) | (refine J_ifb xR ?_ ?_ <;> (intro hgb; subst hgb)) | (refine J_ifb xR ?_ ?_ <;> intro _) | fail)) | fail))
  refine J_loop (α := Nat) 0 (fun k => l.length - k) (fun k => k ≤ l.length ∧ (l.take k).any b = false) (fun k => [(0, .slice a l.length c), (1, .func (.func F) #[] #[.pointer (some ⟨db, 0, none⟩)]), (7, .int .i64 l.length), (8, .int .i64 k)]) (fun _ => [pts db [.int .i64 deep] 3]) ⟨Nat.zero_le _, rfl⟩ ⟨rfl, rfl, rfl, rfl, trivial⟩ (fun w H => H.sel xZ) ?_
  rintro k ⟨hk, hall⟩
  by_cases hlt : k < l.length
  · obtain ⟨y, hs⟩ : ∃ y, l[k]? = some y := ⟨_, List.getElem?_eq_getElem hlt⟩
    have hm := List.mem_of_getElem? hs
    have hkv : Kn K (fun w => Vw w (.slice a l.length c) 10 l.length (flat stC l)) := hK.imp fun w h => h.1 (List.ne_nil_of_mem hm)
    have hPy := hP y hm
    rcases hby : b y with _ | _
    all_goals rw [hby] at hPy
    · (repeat' (first | ((with_reducible apply gL); (first | refine yL0 ?_ | refine yL ?_ | ((with_reducible apply gL_go); (first | (refine JL_goq (hPy) (hφ := (by (try simp only [List.cons_append, List.nil_append]); exact fun w hr => (hK w hr.1).2 y hm)) (h := ?_); rintro _ _ ⟨rfl, rfl⟩; try simp only [List.cons_append, List.nil_append]) | fail)) | fail)) | refine yJ ?_ | ((with_reducible apply gJ_if); (first | (refine J_if xR ?_ ?_ <;> intro _ <;> (try (exfalso; first | contradiction | omega))) | (refine J_ifb xR ?_ ?_ <;> (intro hgb; subst hgb)) | (refine J_ifb xR ?_ ?_ <;> intro _) | fail)) | fail))
      exact J_again (k + 1) (by omega) ⟨by omega, any_take hs hall hby⟩ ⟨rfl, rfl, rfl, rfl, trivial⟩ (fun w H => H.sel xZ)
    · (repeat' (first | ((with_reducible apply gL); (first | refine yL0 ?_ | refine yL ?_ | ((with_reducible apply gL_go); (first | (refine JL_goq (hPy) (hφ := (by (try simp only [List.cons_append, List.nil_append]); exact fun w hr => (hK w hr.1).2 y hm)) (h := ?_); rintro _ _ ⟨rfl, rfl⟩; try simp only [List.cons_append, List.nil_append]) | fail)) | fail)) | refine yJ ?_ | ((with_reducible apply gJ_if); (first | (refine J_if xR ?_ ?_ <;> intro _ <;> (try (exfalso; first | contradiction | omega))) | (refine J_ifb xR ?_ ?_ <;> (intro hgb; subst hgb)) | (refine J_ifb xR ?_ ?_ <;> intro _) | fail)) | fail))
      exact J_ret1 rfl (by rfl) fun w H => ⟨_, ⟨k, by rw [any_yes hm hby]; simp, rfl, rfl⟩, H.sel xZ⟩
  · obtain rfl : k = l.length := by omega
    rw [List.take_length] at hall
    (repeat' (first | ((with_reducible apply gL); (first | refine yL0 ?_ | refine yL ?_ | fail)) | refine yJ ?_ | ((with_reducible apply gJ_if); (first | (refine J_if xR ?_ ?_ <;> intro _ <;> (try (exfalso; first | contradiction | omega))) | (refine J_ifb xR ?_ ?_ <;> (intro hgb; subst hgb)) | (refine J_ifb xR ?_ ?_ <;> intro _) | fail)) | fail))
    exact J_ret1 rfl (by rfl) fun w H => ⟨_, ⟨-1, by rw [hall]; rfl, rfl, rfl⟩, H.sel xZ⟩
theorem contS_s (a : Option Addr) (c : Nat) (l : List St) (φ : St → World → Prop) (F : FuncId) (db : Nat) (deep : Int) (b : St → Bool) (hl : l.length ≤ 6) (ho : ownB Try.prog F = true) (hP : ∀ y ∈ l, Pact Try.prog F [.agg (stC y).toArray, .pointer (some ⟨db, 0, none⟩)].toArray (φ y) [pts db [.int .i64 deep] 3] (fun u L' => u = .bool (b y) ∧ L' = [pts db [.int .i64 deep] 3])) : Pact Try.prog 28 #[.slice a l.length c, .func (.func F) #[] #[.pointer (some ⟨db, 0, none⟩)]] (fun w => (l ≠ [] → Vw w (.slice a l.length c) 10 l.length (flat stC l)) ∧ ∀ y ∈ l, φ y w) [pts db [.int .i64 deep] 3] (fun u L' => u = .bool (l.any b) ∧ L' = [pts db [.int .i64 deep] 3]) := by
  refine pact Try.func28 rfl Try.ntmps28 rfl ?_
  intro W K hK
  (repeat' (first | ((with_reducible apply gL); (first | refine yL0 ?_ | refine yL ?_ | ((with_reducible apply gL_go); (first | (refine JL_goq (indS_s a c l φ F db deep b hl ho hP) (hφ := (by (try simp only [List.cons_append, List.nil_append]); exact fun w hr => hK w hr.1)) (h := ?_); rintro _ _ ⟨z, hz, rfl, rfl⟩; try simp only [List.cons_append, List.nil_append]) | fail)) | fail)) | refine yJ ?_ | fail))
  exact J_ret1 rfl (by rfl) fun w H => ⟨_, ⟨by rw [← hz], rfl⟩, H.sel xZ⟩
theorem rc_core (x : Cd) (φ : Cd → World → Prop) (g : Cd → Bool) (deep : Int) (hx : CdN x) (hl : x.l.length ≤ 5) (hd : 0 ≤ deep ∧ deep ≤ 64) (hP : ∀ y ∈ x.l, Pact Try.prog 32 #[.agg (cdC y).toArray, .int .i64 (deep + 1)] (φ y) [] (ret0 (.bool (g y)))) : Pact Try.prog 32 #[.agg (cdC x).toArray, .int .i64 deep] (Kids φ x) [] (ret0 (.bool (condG g x))) := by
  have h1 : ∀ db : Nat, ∀ y ∈ x.l, Pact Try.prog 51 [.agg (cdC y).toArray, .pointer (some ⟨db, 0, none⟩)].toArray (φ y) [pts db [.int .i64 deep] 3] (fun u L' => u = .bool (!g y) ∧ L' = [pts db [.int .i64 deep] 3]) := fun db y hy => by
    refine pact Try.func51 rfl Try.ntmps51 rfl ?_
    intro W K hK
    have hPy := hP y hy
    rcases hgy : g y with _ | _
    all_goals rw [hgy] at hPy
    all_goals (
      (repeat' (first | ((with_reducible apply gL); (first | refine yL0 ?_ | refine yL ?_ | ((with_reducible apply gL_go); (first | (refine JL_goq (hPy) (hφ := (by (try simp only [List.cons_append, List.nil_append]); exact fun w hr => hK w hr.1)) (h := ?_); rintro _ _ ⟨rfl, rfl⟩; try simp only [List.cons_append, List.nil_append]) | fail)) | (refine yM ?_; intro _) | fail)) | refine yJ ?_ | fail))
      exact J_ret1 rfl (by rfl) fun w H => ⟨_, ⟨rfl, rfl⟩, H.sel xZ⟩)
  refine pact Try.func32 rfl Try.ntmps32 rfl ?_
  intro W K hK
  have hp : PfN (x.pa, x.pl) := ⟨hx.pa, hx.pl⟩
  unfold condG
  by_cases ho : 1 ≤ x.op ∧ x.op ≤ 3
  · rw [if_pos ho]
    rcases hh : okHead x with _ | _
    all_goals (have hh2 := hh; simp only [okHead, decide_eq_false_iff_not, decide_eq_true_eq] at hh2)
    · (repeat' (first | ((with_reducible apply gL); (first | refine yL0 ?_ | refine yL ?_ | (refine yM ?_; intro _) | ((with_reducible apply gL_gd); (first | (refine JL_guard xR xR ?_ ?_ <;> intro _ <;> (try (exfalso; first | contradiction | omega))) | (refine JL_guardb xR xR ?_ ?_ <;> (intro hgb; subst hgb)) | (refine JL_guardb xR xR ?_ ?_ <;> (intro hgb; fail_if_success (have : type_of% hgb := rfl))) | fail)) | fail)) | ((with_reducible apply gD); (first | (refine JD_nil ?_; try simp only [List.cons_append, List.nil_append]) | (refine JD_bar ?_; try simp only [List.cons_append, List.nil_append]) | refine yD ?_ | fail)) | refine yJ ?_ | ((with_reducible apply gJ_if); (first | (refine J_if xR ?_ ?_ <;> intro _ <;> (try (exfalso; first | contradiction | omega))) | (refine J_ifb xR ?_ ?_ <;> (intro hgb; subst hgb)) | (refine J_ifb xR ?_ ?_ <;> intro _) | fail)) | refine J_draw (id := 6) [0, 1, 2, 3] [4] mixed xC xD xD ?_ | fail))
      all_goals (first | (exfalso; omega) | exact J_ret1 rfl (by rfl) fun w H => ⟨_, ⟨rfl, rfl⟩, H.sel .nil⟩)
    · (repeat' (first | ((with_reducible apply gL); (first | refine yL0 ?_ | refine yL ?_ | ((with_reducible apply gL_go); (first | (refine JL_goq (contC_s x.a x.c x.l φ 51 _ deep (fun y => !g y) hl (by decide +kernel) (h1 _)) (hφ := (by (try simp only [List.cons_append, List.nil_append]); exact fun w hr => hK w hr.1)) (h := ?_); rintro _ _ ⟨rfl, rfl⟩; try simp only [List.cons_append, List.nil_append]) | fail)) | (refine yM ?_; intro _) | ((with_reducible apply gL_gd); (first | (refine JL_guard xR xR ?_ ?_ <;> intro _ <;> (try (exfalso; first | contradiction | omega))) | (refine JL_guardb xR xR ?_ ?_ <;> (intro hgb; subst hgb)) | (refine JL_guardb xR xR ?_ ?_ <;> (intro hgb; fail_if_success (have : type_of% hgb := rfl))) | fail)) | fail)) | ((with_reducible apply gD); (first | (refine JD_nil ?_; try simp only [List.cons_append, List.nil_append]) | (refine JD_bar ?_; try simp only [List.cons_append, List.nil_append]) | refine yD ?_ | fail)) | refine yJ ?_ | ((with_reducible apply gJ_if); (first | (refine J_if xR ?_ ?_ <;> intro _ <;> (try (exfalso; first | contradiction | omega))) | (refine J_ifb xR ?_ ?_ <;> (intro hgb; subst hgb)) | (refine J_ifb xR ?_ ?_ <;> intro _) | fail)) | refine J_draw (id := 6) [0, 1, 2, 3] [4] mixed xC xD xD ?_ | fail))
      all_goals (first | (exfalso; omega) | skip)
      all_goals (refine J_ret1 rfl (by rfl) fun w H => ⟨_, ⟨?_, rfl⟩, H.sel .nil⟩; rw [any_not]; cases x.l.all g <;> rfl)
  · rw [if_neg ho]
    unfold okLeaf
    rcases hbt : decide (TestOk x.op x.n (x.pa, x.pl)) with _ | _
    all_goals (
      (repeat' (first | ((with_reducible apply gL); (first | refine yL0 ?_ | refine yL ?_ | ((with_reducible apply gL_go); (first | (refine JL_goq (test_b x.op x.n (x.pa, x.pl) hp _ hbt) (hφ := xF) (h := ?_); rintro _ _ ⟨rfl, rfl⟩; try simp only [List.cons_append, List.nil_append]) | fail)) | (refine yM ?_; intro _) | ((with_reducible apply gL_gd); (first | (refine JL_guard xR xR ?_ ?_ <;> intro _ <;> (try (exfalso; first | contradiction | omega))) | (refine JL_guardb xR xR ?_ ?_ <;> (intro hgb; subst hgb)) | (refine JL_guardb xR xR ?_ ?_ <;> (intro hgb; fail_if_success (have : type_of% hgb := rfl))) | fail)) | fail)) | ((with_reducible apply gD); (first | (refine JD_nil ?_; try simp only [List.cons_append, List.nil_append]) | (refine JD_bar ?_; try simp only [List.cons_append, List.nil_append]) | refine yD ?_ | fail)) | refine yJ ?_ | ((with_reducible apply gJ_if); (first | (refine J_if xR ?_ ?_ <;> intro _ <;> (try (exfalso; first | contradiction | omega))) | (refine J_ifb xR ?_ ?_ <;> (intro hgb; subst hgb)) | (refine J_ifb xR ?_ ?_ <;> intro _) | fail)) | refine J_draw (id := 6) [0, 1, 2, 3] [4] mixed xC xD xD ?_ | fail)))
    all_goals (first | (exfalso; omega) | skip)
    all_goals (refine J_ret1 rfl (by rfl) fun w H => ⟨_, ⟨?_, rfl⟩, H.sel .nil⟩; refine congrArg Value.bool ?_; rw [Bool.eq_iff_iff]; simp only [decide_eq_true_eq, true_iff, Bool.false_eq_true, false_iff, Bool.and_false, Bool.and_true] <;> omega)
theorem rightCond_s : ∀ (d : Nat) (x : Cd) (deep : Int), CdF d x → 0 ≤ deep ∧ deep + d ≤ 64 → Pact Try.prog 32 #[.agg (cdC x).toArray, .int .i64 deep] (fun w => CdV w d x) [] (ret0 (.bool (condB d x))) := by
  intro d
  induction d with
  | zero =>
    intro x deep hx hd
    rw [condB_eq hx]
    exact preP (rc_core x (fun y w => CdV w (0 - 1) y) (condB (0 - 1)) deep hx.nn hx.len (by omega) (fun y hy => absurd hy (by rw [hx.2]; exact List.not_mem_nil))) fun w h => hx.kids h
  | succ d ih =>
    intro x deep hx hd
    rw [condB_eq hx]
    exact preP (rc_core x (fun y w => CdV w (d + 1 - 1) y) (condB (d + 1 - 1)) deep hx.nn hx.len (by omega) (fun y hy => ih y (deep + 1) (hx.sub hy) (by omega))) fun w h => hx.kids h
end Go.Proofs.Ytmbgbhambgoejaa.C
namespace Go.Proofs.Ytmbgbhambgoejaa.C
set_option linter.unusedSimpArgs false
set_option linter.unusedVariables false
set_option maxRecDepth 20000
set_option maxHeartbeats 4000000
open Go.RowKit Go.Pm

theorem phas1_s (s : Sg) (hl : s.as_.length ≤ 35184372088832) (gb : Nat) (n : Int) : Pact Try.prog 87 [.agg (sgC s).toArray, .pointer (some ⟨gb, 0, none⟩)].toArray (fun w => segV w s) [pts gb [.int .u32 n] 25] (fun u L' => u = .bool (decide (n ∈ s.as_)) ∧ L' = [pts gb [.int .u32 n] 25]) := by
  refine pact Try.func87 rfl Try.ntmps87 rfl ?_
  intro W K hK
  (repeat' (first | ((with_reducible apply gL); (first | refine yL0 ?_ | refine yL ?_ | ((with_reducible apply gL_go); (first | (refine JL_goq (contains_s s.a s.c s.as_ n hl) (hφ := (by (try simp only [List.cons_append, List.nil_append]); exact fun w hr => hK w hr.1)) (h := ?_); rintro _ _ ⟨rfl, rfl⟩; try simp only [List.cons_append, List.nil_append]) | fail)) | (refine yM ?_; intro _) | fail)) | refine yJ ?_ | fail))
  exact J_ret1 rfl (by rfl) fun w H => ⟨_, ⟨rfl, rfl⟩, H.sel xZ⟩
theorem indG_s (a : Option Addr) (c : Nat) (l : List Sg) (db : Nat) (n : Int) (hl : l.length ≤ 1000) (hs : ∀ s ∈ l, SgN s) : Pact Try.prog 93 #[.slice a l.length c, .func (.func 87) #[] #[.pointer (some ⟨db, 0, none⟩)]] (fun w => PathV w a c l) [pts db [.int .u32 n] 25] (fun u L' => ∃ z : Int, (decide (0 ≤ z) = l.any fun s => decide (n ∈ s.as_)) ∧ u = .int .i64 z ∧ L' = [pts db [.int .u32 n] 25]) := by
  refine pact Try.func93 rfl Try.ntmps93 rfl ?_
  intro W K hK
  have ho : ownB Try.prog 87 = true := by decide +kernel
  have hkv : Kn K (fun w => Vw w (.slice a l.length c) 2 l.length (flat sgC l)) := hK.imp fun w h => h.vw
  (repeat' (first | ((with_reducible apply gL); (first | refine yL0 ?_ | refine yL ?_ | fail)) | refine yJ ?_ | ((with_reducible apply gJ_if); (first | (refine J_if xR ?_ ?_ <;> intro _ <;> (try (exfalso; first | contradiction | omega))) | (refine J_ifb xR ?_ ?_ <;> (intro hgb; subst hgb)) | (refine J_ifb xR ?_ ?_ <;> intro _) | fail)) | fail))
  refine J_loop (α := Nat) 0 (fun k => l.length - k) (fun k => k ≤ l.length ∧ ((l.take k).any fun s => decide (n ∈ s.as_)) = false) (fun k => [(0, .slice a l.length c), (1, .func (.func 87) #[] #[.pointer (some ⟨db, 0, none⟩)]), (7, .int .i64 l.length), (8, .int .i64 k)]) (fun _ => [pts db [.int .u32 n] 25]) ⟨Nat.zero_le _, rfl⟩ ⟨rfl, rfl, rfl, rfl, trivial⟩ (fun w H => H.sel xZ) ?_
  rintro k ⟨hk, hall⟩
  by_cases hlt : k < l.length
  · obtain ⟨y, hy⟩ : ∃ y, l[k]? = some y := ⟨_, List.getElem?_eq_getElem hlt⟩
    have hm := List.mem_of_getElem? hy
    have hPy := phas1_s y (hs y hm).1 db n
    rcases hby : decide (n ∈ y.as_) with _ | _
    all_goals rw [hby] at hPy
    · (repeat' (first | ((with_reducible apply gL); (first | refine yL0 ?_ | refine yL ?_ | ((with_reducible apply gL_go); (first | (refine JL_goq (hPy) (hφ := (by (try simp only [List.cons_append, List.nil_append]); exact fun w hr => (hK w hr.1).segs y hm)) (h := ?_); rintro _ _ ⟨rfl, rfl⟩; try simp only [List.cons_append, List.nil_append]) | fail)) | fail)) | refine yJ ?_ | ((with_reducible apply gJ_if); (first | (refine J_if xR ?_ ?_ <;> intro _ <;> (try (exfalso; first | contradiction | omega))) | (refine J_ifb xR ?_ ?_ <;> (intro hgb; subst hgb)) | (refine J_ifb xR ?_ ?_ <;> intro _) | fail)) | fail))
      exact J_again (k + 1) (by omega) ⟨by omega, any_take hy hall hby⟩ ⟨rfl, rfl, rfl, rfl, trivial⟩ (fun w H => H.sel xZ)
    · (repeat' (first | ((with_reducible apply gL); (first | refine yL0 ?_ | refine yL ?_ | ((with_reducible apply gL_go); (first | (refine JL_goq (hPy) (hφ := (by (try simp only [List.cons_append, List.nil_append]); exact fun w hr => (hK w hr.1).segs y hm)) (h := ?_); rintro _ _ ⟨rfl, rfl⟩; try simp only [List.cons_append, List.nil_append]) | fail)) | fail)) | refine yJ ?_ | ((with_reducible apply gJ_if); (first | (refine J_if xR ?_ ?_ <;> intro _ <;> (try (exfalso; first | contradiction | omega))) | (refine J_ifb xR ?_ ?_ <;> (intro hgb; subst hgb)) | (refine J_ifb xR ?_ ?_ <;> intro _) | fail)) | fail))
      exact J_ret1 rfl (by rfl) fun w H => ⟨_, ⟨k, by rw [any_yes hm hby]; simp, rfl, rfl⟩, H.sel xZ⟩
  · obtain rfl : k = l.length := by omega
    rw [List.take_length] at hall
    (repeat' (first | ((with_reducible apply gL); (first | refine yL0 ?_ | refine yL ?_ | fail)) | refine yJ ?_ | ((with_reducible apply gJ_if); (first | (refine J_if xR ?_ ?_ <;> intro _ <;> (try (exfalso; first | contradiction | omega))) | (refine J_ifb xR ?_ ?_ <;> (intro hgb; subst hgb)) | (refine J_ifb xR ?_ ?_ <;> intro _) | fail)) | fail))
    exact J_ret1 rfl (by rfl) fun w H => ⟨_, ⟨-1, by rw [hall]; rfl, rfl, rfl⟩, H.sel xZ⟩
theorem contG_s (a : Option Addr) (c : Nat) (l : List Sg) (db : Nat) (n : Int) (hl : l.length ≤ 1000) (hs : ∀ s ∈ l, SgN s) : Pact Try.prog 86 #[.slice a l.length c, .func (.func 87) #[] #[.pointer (some ⟨db, 0, none⟩)]] (fun w => PathV w a c l) [pts db [.int .u32 n] 25] (fun u L' => u = .bool (l.any fun s => decide (n ∈ s.as_)) ∧ L' = [pts db [.int .u32 n] 25]) := by
  refine pact Try.func86 rfl Try.ntmps86 rfl ?_
  intro W K hK
  (repeat' (first | ((with_reducible apply gL); (first | refine yL0 ?_ | refine yL ?_ | ((with_reducible apply gL_go); (first | (refine JL_goq (indG_s a c l db n hl hs) (hφ := (by (try simp only [List.cons_append, List.nil_append]); exact fun w hr => hK w hr.1)) (h := ?_); rintro _ _ ⟨z, hz, rfl, rfl⟩; try simp only [List.cons_append, List.nil_append]) | fail)) | fail)) | refine yJ ?_ | fail))
  exact J_ret1 rfl (by rfl) fun w H => ⟨_, ⟨by rw [← hz], rfl⟩, H.sel xZ⟩
theorem hasN_pN (p : List Sg) (n : Int) : hasN (pN p) n = p.any fun s => decide (n ∈ s.as_) := by
  unfold hasN pN
  rw [List.any_map]
  rfl
theorem phas_s (a : Option Addr) (c : Nat) (p : List Sg) (n : Int) (hl : p.length ≤ 1000) (hs : ∀ s ∈ p, SgN s) : Pact Try.prog 75 #[.slice a p.length c, .int .u32 n] (fun w => PathV w a c p) [] (ret0 (.bool (hasN (pN p) n))) := by
  refine pact Try.func75 rfl Try.ntmps75 rfl ?_
  intro W K hK
  (repeat' (first | ((with_reducible apply gL); (first | refine yL0 ?_ | refine yL ?_ | ((with_reducible apply gL_go); (first | (refine JL_goq (contG_s a c p _ n hl hs) (hφ := (by (try simp only [List.cons_append, List.nil_append]); exact fun w hr => hK w hr.1)) (h := ?_); rintro _ _ ⟨rfl, rfl⟩; try simp only [List.cons_append, List.nil_append]) | fail)) | (refine yM ?_; intro _) | fail)) | refine yJ ?_ | fail))
  exact J_ret1 rfl (by rfl) fun w H => ⟨_, ⟨by rw [hasN_pN], rfl⟩, H.sel .nil⟩
theorem lenN_append (p q : Pa) : lenN (p ++ q) = lenN p + lenN q := by
  induction p with
  | nil => simp [lenN]
  | cons s p ih => simp [lenN, ih]; omega
theorem lenN_le (p : List Sg) (h : ∀ s ∈ p, SgN s) : lenN (pN p) ≤ p.length * 35184372088832 := by
  induction p with
  | nil => simp [lenN, pN]
  | cons s p ih =>
    have h1 := ih (fun x hx => h x (List.mem_cons_of_mem _ hx))
    have h2 := (h s (List.mem_cons_self ..)).1
    have : lenN (pN (s :: p)) = (if s.set then 1 else s.as_.length) + lenN (pN p) := rfl
    rw [this, List.length_cons]
    split <;> omega
theorem plen_s (a : Option Addr) (c : Nat) (p : List Sg) (h8 : p.length ≤ 1000) (hsm : ∀ s ∈ p, SgN s) : Pact Try.prog 76 #[.slice a p.length c] (fun w => PathV w a c p) [] (ret0 (.int .i64 (lenN (pN p)))) := by
  refine pact Try.func76 rfl Try.ntmps76 rfl ?_
  intro W K hK
  have hv : Kn K (fun w => Vw w (.slice a p.length c) 2 p.length (flat sgC p)) := hK.imp fun _ h => h.vw
  (repeat' (first | ((with_reducible apply gL); (first | refine yL0 ?_ | refine yL ?_ | (refine yM ?_; intro _) | fail)) | refine yJ ?_ | ((with_reducible apply gJ_if); (first | (refine J_if xR ?_ ?_ <;> intro _ <;> (try (exfalso; first | contradiction | omega))) | (refine J_ifb xR ?_ ?_ <;> (intro hgb; subst hgb)) | (refine J_ifb xR ?_ ?_ <;> intro _) | fail)) | fail))
  refine J_loop (α := Nat) 0 (fun x => p.length - x) (fun x => x ≤ p.length) (fun x => [(3, .int .i64 (lenN (pN (p.take x)))), (6, .slice a p.length c), (7, .int .i64 p.length), (8, .int .i64 x)]) (fun x => []) (Nat.zero_le _) ⟨rfl, rfl, rfl, rfl, trivial⟩ (fun w H => H) ?_
  rintro k hk
  have htk := lenN_le (p.take k) (fun s hs => hsm s (List.take_subset _ _ hs))
  have hlk : (p.take k).length ≤ 1000 := by rw [List.length_take]; omega
  obtain ⟨N, hN⟩ : ∃ N, lenN (pN (p.take k)) = N := ⟨_, rfl⟩
  rw [hN] at htk ⊢
  have hNb : N ≤ 35184372088832000 := by omega
  by_cases hlt : k < p.length
  · obtain ⟨s, hs⟩ : ∃ s, p[k]? = some s := ⟨_, List.getElem?_eq_getElem hlt⟩
    have hm := List.mem_of_getElem? hs
    have hsn1 := (hsm s hm).1
    have hst : lenN (pN (p.take (k + 1))) = N + (if s.set then 1 else s.as_.length) := by
      rw [take_snoc hs]
      unfold pN at hN ⊢
      rw [List.map_append, lenN_append, hN]
      simp [lenN]
    (repeat' (first | ((with_reducible apply gL); (first | refine yL0 ?_ | refine yL ?_ | (refine yM ?_; intro _) | fail)) | refine yJ ?_ | ((with_reducible apply gJ_if); (first | (refine J_if xR ?_ ?_ <;> intro _ <;> (try (exfalso; first | contradiction | omega))) | (refine J_ifb xR ?_ ?_ <;> (intro hgb; subst hgb)) | (refine J_ifb xR ?_ ?_ <;> intro _) | fail)) | fail))
    all_goals (refine J_again (k + 1) (by omega) (by omega) ⟨?_, rfl, rfl, rfl, trivial⟩ (fun w H => H.sel .nil); rw [hst]; show some _ = some _; simp [*])
  · have hke : k = p.length := by omega
    rw [hke, List.take_length] at hN
    (repeat' (first | ((with_reducible apply gL); (first | refine yL0 ?_ | refine yL ?_ | (refine yM ?_; intro _) | fail)) | refine yJ ?_ | ((with_reducible apply gJ_if); (first | (refine J_if xR ?_ ?_ <;> intro _ <;> (try (exfalso; first | contradiction | omega))) | (refine J_ifb xR ?_ ?_ <;> (intro hgb; subst hgb)) | (refine J_ifb xR ?_ ?_ <;> intro _) | fail)) | fail))
    exact J_ret1 rfl (by rfl) fun w H => ⟨_, ⟨by rw [hN], rfl⟩, H.sel .nil⟩
theorem pfirst_s (a : Option Addr) (c : Nat) (p : List Sg) (h8 : p.length ≤ 1000) (hsm : ∀ s ∈ p, SgN s) : Pact Try.prog 77 #[.slice a p.length c] (fun w => PathV w a c p) [] (ret0 (.tuple #[.int .u32 ((firstN (pN p)).getD 0), .bool (firstN (pN p)).isSome])) := by
  refine pact Try.func77 rfl Try.ntmps77 rfl ?_
  intro W K hK
  have hv : Kn K (fun w => Vw w (.slice a p.length c) 2 p.length (flat sgC p)) := hK.imp fun _ h => h.vw
  cases p with
  | nil =>
    (repeat' (first | ((with_reducible apply gL); (first | refine yL0 ?_ | refine yL ?_ | ((with_reducible apply gL_gd); (first | (refine JL_guard xR xR ?_ ?_ <;> intro _ <;> (try (exfalso; first | contradiction | omega))) | (refine JL_guardb xR xR ?_ ?_ <;> (intro hgb; subst hgb)) | (refine JL_guardb xR xR ?_ ?_ <;> (intro hgb; fail_if_success (have : type_of% hgb := rfl))) | fail)) | fail)) | refine yJ ?_ | ((with_reducible apply gJ_if); (first | (refine J_if xR ?_ ?_ <;> intro _ <;> (try (exfalso; first | contradiction | omega))) | (refine J_ifb xR ?_ ?_ <;> (intro hgb; subst hgb)) | (refine J_ifb xR ?_ ?_ <;> intro _) | fail)) | fail))
    refine J_ret2 rfl (by rfl) (by rfl) fun w H => ⟨[], ⟨rfl, rfl⟩, H.sel .nil⟩
  | cons s p =>
    have hs : (s :: p)[0]? = some s := rfl
    have hlen : (s :: p).length = p.length + 1 := rfl
    have hsn1 := (hsm s (by simp)).1
    have hu : Kn K (fun w => Vw w (.slice s.a s.as_.length s.c) 1 s.as_.length (flat u32C s.as_)) := hK.imp fun _ h => h.segs s (by simp)
    have hf : firstN (pN (s :: p)) = if s.set then none else s.as_.head? := by
      obtain ⟨st, sa, sc, l⟩ := s
      cases st <;> cases l <;> rfl
    rw [hf]
    rcases hset : s.set with _ | _
    · by_cases hl0 : s.as_ = []
      · have hle : s.as_.length = 0 := by rw [hl0]; rfl
        (repeat' (first | ((with_reducible apply gL); (first | refine yL0 ?_ | refine yL ?_ | ((with_reducible apply gL_gd); (first | (refine JL_guard xR xR ?_ ?_ <;> intro _ <;> (try (exfalso; first | contradiction | omega))) | (refine JL_guardb xR xR ?_ ?_ <;> (intro hgb; subst hgb)) | (refine JL_guardb xR xR ?_ ?_ <;> (intro hgb; fail_if_success (have : type_of% hgb := rfl))) | fail)) | fail)) | refine yJ ?_ | ((with_reducible apply gJ_if); (first | (refine J_if xR ?_ ?_ <;> intro _ <;> (try (exfalso; first | contradiction | omega))) | (refine J_ifb xR ?_ ?_ <;> (intro hgb; subst hgb)) | (refine J_ifb xR ?_ ?_ <;> intro _) | fail)) | fail))
        all_goals (first | (exfalso; omega) | (exfalso; simp_all; done) | skip)
        all_goals (refine J_ret2 rfl (by rfl) (by rfl) fun w H => ⟨[], ⟨?_, rfl⟩, H.sel .nil⟩; rw [hl0]; rfl)
      · obtain ⟨z, l, hzl⟩ := List.exists_cons_of_ne_nil hl0
        have hz : s.as_[0]? = some z := by rw [hzl]; rfl
        have hal := List.length_pos_iff.2 hl0
        (repeat' (first | ((with_reducible apply gL); (first | refine yL0 ?_ | refine yL ?_ | ((with_reducible apply gL_gd); (first | (refine JL_guard xR xR ?_ ?_ <;> intro _ <;> (try (exfalso; first | contradiction | omega))) | (refine JL_guardb xR xR ?_ ?_ <;> (intro hgb; subst hgb)) | (refine JL_guardb xR xR ?_ ?_ <;> (intro hgb; fail_if_success (have : type_of% hgb := rfl))) | fail)) | fail)) | refine yJ ?_ | ((with_reducible apply gJ_if); (first | (refine J_if xR ?_ ?_ <;> intro _ <;> (try (exfalso; first | contradiction | omega))) | (refine J_ifb xR ?_ ?_ <;> (intro hgb; subst hgb)) | (refine J_ifb xR ?_ ?_ <;> intro _) | fail)) | fail))
        all_goals (first | (exfalso; omega) | (exfalso; simp_all; done) | skip)
        all_goals (refine J_ret2 rfl (by rfl) (by rfl) fun w H => ⟨[], ⟨?_, rfl⟩, H.sel .nil⟩; rw [hzl]; rfl)
    · (repeat' (first | ((with_reducible apply gL); (first | refine yL0 ?_ | refine yL ?_ | ((with_reducible apply gL_gd); (first | (refine JL_guard xR xR ?_ ?_ <;> intro _ <;> (try (exfalso; first | contradiction | omega))) | (refine JL_guardb xR xR ?_ ?_ <;> (intro hgb; subst hgb)) | (refine JL_guardb xR xR ?_ ?_ <;> (intro hgb; fail_if_success (have : type_of% hgb := rfl))) | fail)) | fail)) | refine yJ ?_ | ((with_reducible apply gJ_if); (first | (refine J_if xR ?_ ?_ <;> intro _ <;> (try (exfalso; first | contradiction | omega))) | (refine J_ifb xR ?_ ?_ <;> (intro hgb; subst hgb)) | (refine J_ifb xR ?_ ?_ <;> intro _) | fail)) | fail))
      all_goals (first | (exfalso; omega) | (exfalso; simp_all; done) | skip)
      all_goals exact J_ret2 rfl (by rfl) (by rfl) fun w H => ⟨[], ⟨rfl, rfl⟩, H.sel .nil⟩
theorem last_get {α : Type} {l : List α} (h : l ≠ []) : ∃ s, l[((l.length : Int) - 1).toNat]? = some s ∧ l.getLast? = some s := by
  have hl := List.length_pos_iff.2 h
  refine ⟨l[l.length - 1], ?_, ?_⟩
  · rw [show ((l.length : Int) - 1).toNat = l.length - 1 by omega]
    exact List.getElem?_eq_getElem (by omega)
  · rw [List.getLast?_eq_getElem?]
    exact List.getElem?_eq_getElem (by omega)
theorem originN_last {p : List Sg} {s : Sg} (h : p.getLast? = some s) : originN (pN p) = if s.set then none else s.as_.getLast? := by
  unfold originN pN
  rw [List.getLast?_map, h]
  simp only [Option.map_some]
  cases s.set <;> rfl
theorem porigin_s (a : Option Addr) (c : Nat) (p : List Sg) (h8 : p.length ≤ 1000) (hsm : ∀ s ∈ p, SgN s) : Pact Try.prog 78 #[.slice a p.length c] (fun w => PathV w a c p) [] (ret0 (.tuple #[.int .u32 ((originN (pN p)).getD 0), .bool (originN (pN p)).isSome])) := by
  refine pact Try.func78 rfl Try.ntmps78 rfl ?_
  intro W K hK
  have hv : Kn K (fun w => Vw w (.slice a p.length c) 2 p.length (flat sgC p)) := hK.imp fun _ h => h.vw
  by_cases h0 : p = []
  · subst h0
    (repeat' (first | ((with_reducible apply gL); (first | refine yL0 ?_ | refine yL ?_ | (refine yM ?_; intro _) | ((with_reducible apply gL_gd); (first | (refine JL_guard xR xR ?_ ?_ <;> intro _ <;> (try (exfalso; first | contradiction | omega))) | (refine JL_guardb xR xR ?_ ?_ <;> (intro hgb; subst hgb)) | (refine JL_guardb xR xR ?_ ?_ <;> (intro hgb; fail_if_success (have : type_of% hgb := rfl))) | fail)) | fail)) | refine yJ ?_ | ((with_reducible apply gJ_if); (first | (refine J_if xR ?_ ?_ <;> intro _ <;> (try (exfalso; first | contradiction | omega))) | (refine J_ifb xR ?_ ?_ <;> (intro hgb; subst hgb)) | (refine J_ifb xR ?_ ?_ <;> intro _) | fail)) | fail))
    refine J_ret2 rfl (by rfl) (by rfl) fun w H => ⟨[], ⟨rfl, rfl⟩, H.sel .nil⟩
  · have hpl := List.length_pos_iff.2 h0
    obtain ⟨s, hs, hs2⟩ := last_get h0
    have ho := originN_last hs2
    have hm := List.mem_of_getElem? hs
    have hsn1 := (hsm s hm).1
    have hu : Kn K (fun w => Vw w (.slice s.a s.as_.length s.c) 1 s.as_.length (flat u32C s.as_)) := hK.imp fun _ h => h.segs s hm
    rw [ho]
    rcases hset : s.set with _ | _
    · by_cases hl0 : s.as_ = []
      · have hle : s.as_.length = 0 := by rw [hl0]; rfl
        (repeat' (first | ((with_reducible apply gL); (first | refine yL0 ?_ | refine yL ?_ | (refine yM ?_; intro _) | ((with_reducible apply gL_gd); (first | (refine JL_guard xR xR ?_ ?_ <;> intro _ <;> (try (exfalso; first | contradiction | omega))) | (refine JL_guardb xR xR ?_ ?_ <;> (intro hgb; subst hgb)) | (refine JL_guardb xR xR ?_ ?_ <;> (intro hgb; fail_if_success (have : type_of% hgb := rfl))) | fail)) | fail)) | refine yJ ?_ | ((with_reducible apply gJ_if); (first | (refine J_if xR ?_ ?_ <;> intro _ <;> (try (exfalso; first | contradiction | omega))) | (refine J_ifb xR ?_ ?_ <;> (intro hgb; subst hgb)) | (refine J_ifb xR ?_ ?_ <;> intro _) | fail)) | fail))
        all_goals (first | (exfalso; omega) | (exfalso; simp_all; done) | skip)
        all_goals (refine J_ret2 rfl (by rfl) (by rfl) fun w H => ⟨[], ⟨?_, rfl⟩, H.sel .nil⟩; rw [hl0]; rfl)
      · have hal := List.length_pos_iff.2 hl0
        obtain ⟨z, hz, hz2⟩ := last_get hl0
        (repeat' (first | ((with_reducible apply gL); (first | refine yL0 ?_ | refine yL ?_ | (refine yM ?_; intro _) | ((with_reducible apply gL_gd); (first | (refine JL_guard xR xR ?_ ?_ <;> intro _ <;> (try (exfalso; first | contradiction | omega))) | (refine JL_guardb xR xR ?_ ?_ <;> (intro hgb; subst hgb)) | (refine JL_guardb xR xR ?_ ?_ <;> (intro hgb; fail_if_success (have : type_of% hgb := rfl))) | fail)) | fail)) | refine yJ ?_ | ((with_reducible apply gJ_if); (first | (refine J_if xR ?_ ?_ <;> intro _ <;> (try (exfalso; first | contradiction | omega))) | (refine J_ifb xR ?_ ?_ <;> (intro hgb; subst hgb)) | (refine J_ifb xR ?_ ?_ <;> intro _) | fail)) | fail))
        all_goals (first | (exfalso; omega) | (exfalso; simp_all; done) | skip)
        all_goals (refine J_ret2 rfl (by rfl) (by rfl) fun w H => ⟨[], ⟨?_, rfl⟩, H.sel .nil⟩; rw [hz2]; rfl)
    · (repeat' (first | ((with_reducible apply gL); (first | refine yL0 ?_ | refine yL ?_ | (refine yM ?_; intro _) | ((with_reducible apply gL_gd); (first | (refine JL_guard xR xR ?_ ?_ <;> intro _ <;> (try (exfalso; first | contradiction | omega))) | (refine JL_guardb xR xR ?_ ?_ <;> (intro hgb; subst hgb)) | (refine JL_guardb xR xR ?_ ?_ <;> (intro hgb; fail_if_success (have : type_of% hgb := rfl))) | fail)) | fail)) | refine yJ ?_ | ((with_reducible apply gJ_if); (first | (refine J_if xR ?_ ?_ <;> intro _ <;> (try (exfalso; first | contradiction | omega))) | (refine J_ifb xR ?_ ?_ <;> (intro hgb; subst hgb)) | (refine J_ifb xR ?_ ?_ <;> intro _) | fail)) | fail))
      all_goals (first | (exfalso; omega) | (exfalso; simp_all; done) | skip)
      all_goals exact J_ret2 rfl (by rfl) (by rfl) fun w H => ⟨[], ⟨rfl, rfl⟩, H.sel .nil⟩
end Go.Proofs.Ytmbgbhambgoejaa.C
namespace Go.Proofs.Ytmbgbhambgoejaa.C
set_option linter.unusedSimpArgs false
set_option linter.unusedVariables false
set_option maxRecDepth 20000
set_option maxHeartbeats 4000000
open Go.RowKit Go.Pm

end Go.Proofs.Ytmbgbhambgoejaa.C
namespace Go.Pm
set_option linter.unusedSimpArgs false
set_option linter.unusedVariables false
open Go.RowKit
section
variable {P : Program} {n : Nat} {W : World} {K : Hl} {F : Fp} {k : List It} {tm : TM} {L L' R S M C : List HP} {T : TypeId} {pos : String} {af : Array Edge} {gd : Option (Nat × Bool)} {ops : Array Oper} {rest nx : List Oper} {d : Option Tmp}
end
section
variable {κ : Type} [DecidableEq κ]
end
end Go.Pm
namespace Go.Pm
set_option linter.unusedSimpArgs false
set_option linter.unusedVariables false
open Go.RowKit
section
variable {κ : Type} [DecidableEq κ] {kv : κ → Value}
variable {P : Program} {n : Nat} {W : World} {K : Hl} {F : Fp} {k : List It} {tm : TM} {L L' R S M M' : List HP} {T : TypeId} {pos : String} {af : Array Edge} {gd : Option (Nat × Bool)} {ops : Array Oper} {rest nx : List Oper} {d : Tmp}
omit [DecidableEq κ] in
theorem wpI_value {o : Oper} {a : Act} {w w' : World} {next : Act → World → Prop} {v : Value} (hr : (execOp a.eval o).run P w = .ok (.value v) w') (h : next (a.put o.dst v) w') : wpI P o a w next := wpI_of_wp (by
  unfold Oper.wp
  rw [hr]
  exact h)
end
end Go.Pm
