/-
  Aq5, Ru1, Aq6, Cq8, Cq9: merged.
-/
import Derived.Test.YtmbgbhambgoejaaZRunOrder12
namespace Go.Proofs.Ytmbgbhambgoejaa
set_option linter.unusedSimpArgs false
set_option linter.unusedVariables false
set_option maxRecDepth 20000
set_option maxHeartbeats 4000000
open Go.RowKit Go.Pm

theorem index_s (a : Option Addr) (c : Nat) (l : List Int) (v : Int) (hl : l.length ≤ 35184372088832) : Pact Try.prog 74 #[.slice a l.length c, .int .u32 v] (fun w => Vw w (.slice a l.length c) 1 l.length (flat u32C l)) [] (fun u L' => ∃ z : Int, u = .int .i64 z ∧ (0 ≤ z ↔ v ∈ l) ∧ L' = []) := by
  refine pact Try.func74 rfl Try.ntmps74 rfl ?_
  intro W K hK
  (repeat' (first | ((with_reducible apply gL); (first | refine yL0 ?_ | refine yL ?_ | fail)) | refine yJ ?_ | ((with_reducible apply gJ_if); (first | (refine J_if xR ?_ ?_ <;> intro _ <;> (try (exfalso; first | contradiction | omega))) | (refine J_ifb xR ?_ ?_ <;> (intro hgb; subst hgb)) | (refine J_ifb xR ?_ ?_ <;> intro _) | fail)) | fail))
  refine J_loop (α := Nat) 0 (fun x => l.length - x) (fun x => x ≤ l.length ∧ v ∉ l.take x) (fun x => [(0, .slice a l.length c), (1, .int .u32 v), (7, .int .i64 l.length), (8, .int .i64 x)]) (fun x => []) ⟨Nat.zero_le _, by simp⟩ ⟨rfl, rfl, rfl, rfl, trivial⟩ (fun w H => H) ?_
  rintro k ⟨hk, hck⟩
  by_cases hlt : k < l.length
  · obtain ⟨x, hx⟩ : ∃ x, l[k]? = some x := ⟨_, List.getElem?_eq_getElem hlt⟩
    (repeat' (first | ((with_reducible apply gL); (first | refine yL0 ?_ | refine yL ?_ | fail)) | refine yJ ?_ | ((with_reducible apply gJ_if); (first | (refine J_if xR ?_ ?_ <;> intro _ <;> (try (exfalso; first | contradiction | omega))) | (refine J_ifb xR ?_ ?_ <;> (intro hgb; subst hgb)) | (refine J_ifb xR ?_ ?_ <;> intro _) | fail)) | fail))
    · rename_i h0
      subst h0
      exact J_ret1 rfl (by rfl) fun w H => ⟨_, ⟨_, rfl, ⟨fun _ => List.mem_of_getElem? hx, fun _ => by omega⟩, rfl⟩, H.sel .nil⟩
    · rename_i h0
      exact J_again (k + 1) (by omega) ⟨by omega, by rw [take_snoc hx]; simp only [List.mem_append, List.mem_singleton]; rintro (h | h); exact hck h; exact h0 h⟩ ⟨rfl, rfl, rfl, rfl, trivial⟩ (fun w H => H.sel .nil)
  · have hke : k = l.length := by omega
    rw [hke, List.take_length] at hck
    (repeat' (first | ((with_reducible apply gL); (first | refine yL0 ?_ | refine yL ?_ | fail)) | refine yJ ?_ | ((with_reducible apply gJ_if); (first | (refine J_if xR ?_ ?_ <;> intro _ <;> (try (exfalso; first | contradiction | omega))) | (refine J_ifb xR ?_ ?_ <;> (intro hgb; subst hgb)) | (refine J_ifb xR ?_ ?_ <;> intro _) | fail)) | fail))
    exact J_ret1 rfl (by rfl) fun w H => ⟨_, ⟨_, rfl, ⟨fun h => absurd h (by decide), fun h => absurd h hck⟩, rfl⟩, H.sel .nil⟩
theorem contains_s (a : Option Addr) (c : Nat) (l : List Int) (v : Int) (hl : l.length ≤ 35184372088832) : Pact Try.prog 56 #[.slice a l.length c, .int .u32 v] (fun w => Vw w (.slice a l.length c) 1 l.length (flat u32C l)) [] (ret0 (.bool (decide (v ∈ l)))) := by
  refine pact Try.func56 rfl Try.ntmps56 rfl ?_
  intro W K hK
  (repeat' (first | ((with_reducible apply gL); (first | refine yL0 ?_ | refine yL ?_ | ((with_reducible apply gL_go); (first | (refine JL_goq (index_s a c l v hl) (hφ := (by (try simp only [List.cons_append, List.nil_append]); exact fun w hr => hK w hr.1)) (h := ?_); rintro _ _ ⟨z, rfl, hz, rfl⟩; try simp only [List.cons_append, List.nil_append]) | fail)) | fail)) | refine yJ ?_ | fail))
  refine J_ret1 rfl (by rfl) fun w H => ⟨_, ⟨?_, rfl⟩, H.sel .nil⟩
  exact congrArg Value.bool (by rw [Bool.eq_iff_iff]; simp only [decide_eq_true_eq]; exact hz)
def okS (s : Bool × List Int) : Bool := decide (0 < s.2.length ∧ s.2.length ≤ 255 ∧ (0 : Int) ∉ s.2)
theorem part_s (s : Sg) (hl : s.as_.length ≤ 35184372088832) : Pact Try.prog 88 #[.agg (sgC s).toArray] (fun w => segV w s) [] (ret0 (.bool (okS (s.set, s.as_)))) := by
  refine pact Try.func88 rfl Try.ntmps88 rfl ?_
  intro W K hK
  have hc := contains_s s.a s.c s.as_ 0 hl
  by_cases h0 : (0 : Int) ∈ s.as_
  · rw [decide_eq_true h0] at hc
    have : okS (s.set, s.as_) = false := decide_eq_false (fun h => h.2.2 h0)
    rw [this]
    (repeat' (first | ((with_reducible apply gL); (first | refine yL0 ?_ | refine yL ?_ | ((with_reducible apply gL_go); (first | (refine JL_goq (hc) (hφ := (by (try simp only [List.cons_append, List.nil_append]); exact fun w hr => hK w hr.1)) (h := ?_); rintro _ _ ⟨rfl, rfl⟩; try simp only [List.cons_append, List.nil_append]) | fail)) | (refine yM ?_; intro _) | ((with_reducible apply gL_gd); (first | (refine JL_guard xR xR ?_ ?_ <;> intro _ <;> (try (exfalso; first | contradiction | omega))) | (refine JL_guardb xR xR ?_ ?_ <;> (intro hgb; subst hgb)) | (refine JL_guardb xR xR ?_ ?_ <;> (intro hgb; fail_if_success (have : type_of% hgb := rfl))) | fail)) | fail)) | refine yJ ?_ | fail))
    all_goals exact J_ret1 rfl (by rfl) fun w H => ⟨_, ⟨rfl, rfl⟩, H.sel .nil⟩
  · rw [decide_eq_false h0] at hc
    (repeat' (first | ((with_reducible apply gL); (first | refine yL0 ?_ | refine yL ?_ | ((with_reducible apply gL_go); (first | (refine JL_goq (hc) (hφ := (by (try simp only [List.cons_append, List.nil_append]); exact fun w hr => hK w hr.1)) (h := ?_); rintro _ _ ⟨rfl, rfl⟩; try simp only [List.cons_append, List.nil_append]) | fail)) | (refine yM ?_; intro _) | ((with_reducible apply gL_gd); (first | (refine JL_guard xR xR ?_ ?_ <;> intro _ <;> (try (exfalso; first | contradiction | omega))) | (refine JL_guardb xR xR ?_ ?_ <;> (intro hgb; subst hgb)) | (refine JL_guardb xR xR ?_ ?_ <;> (intro hgb; fail_if_success (have : type_of% hgb := rfl))) | fail)) | fail)) | refine yJ ?_ | fail))
    all_goals (refine J_ret1 rfl (by rfl) fun w H => ⟨_, ⟨?_, rfl⟩, H.sel .nil⟩; refine congrArg Value.bool ?_; unfold okS; rw [Bool.eq_iff_iff]; simp [h0]; try omega)
def tot : List (Bool × List Int) → Nat
  | [] => 0
  | s :: p => s.2.length + tot p
theorem tot_append (p q : List (Bool × List Int)) : tot (p ++ q) = tot p + tot q := by
  induction p with
  | nil => simp [tot]
  | cons s p ih => simp [tot, ih]; omega
theorem tot_le (p : List Sg) (h : ∀ s ∈ p, SgN s) : tot (pN p) ≤ p.length * 35184372088832 := by
  induction p with
  | nil => simp [tot, pN]
  | cons s p ih =>
    have h1 := ih (fun x hx => h x (List.mem_cons_of_mem _ hx))
    have h2 := (h s (List.mem_cons_self ..)).1
    have : tot (pN (s :: p)) = s.as_.length + tot (pN p) := rfl
    rw [this, List.length_cons]
    omega
theorem ckP_iff : ∀ (p : List (Bool × List Int)) (n : Nat), n ≤ 64 → (ckP p n = true ↔ (∀ s ∈ p, okS s = true) ∧ n + tot p ≤ 64)
  | [], n, h => by simp [ckP, tot]; omega
  | s :: p, n, h => by
    unfold ckP
    have hsp : okS s = true ↔ (0 < s.2.length ∧ s.2.length ≤ 255 ∧ (0 : Int) ∉ s.2) := by unfold okS; simp
    split
    · refine ⟨fun h => (by cases h), fun ⟨h1, _⟩ => ?_⟩
      have := hsp.1 (h1 s (List.mem_cons_self ..))
      omega
    · split
      · refine ⟨fun h => (by cases h), fun ⟨h1, _⟩ => ?_⟩
        exact absurd (by assumption) (hsp.1 (h1 s (List.mem_cons_self ..))).2.2
      · split
        · refine ⟨fun h => (by cases h), fun ⟨_, h2⟩ => ?_⟩
          simp only [tot] at h2
          omega
        · rw [ckP_iff p _ (by omega)]
          simp only [tot, List.forall_mem_cons]
          constructor
          · rintro ⟨h1, h2⟩
            exact ⟨⟨hsp.2 ⟨by omega, by omega, by assumption⟩, h1⟩, by omega⟩
          · rintro ⟨⟨_, h1⟩, h2⟩
            exact ⟨h1, by omega⟩
theorem count_s (a : Option Addr) (c : Nat) (p : List Sg) (h8 : p.length ≤ 1000) (hsm : ∀ s ∈ p, SgN s) : Pact Try.prog 80 #[.slice a p.length c] (fun w => PathV w a c p) [] (ret0 (.int .i64 (tot (pN p)))) := by
  refine pact Try.func80 rfl Try.ntmps80 rfl ?_
  intro W K hK
  have hv : Kn K (fun w => Vw w (.slice a p.length c) 2 p.length (flat sgC p)) := hK.imp fun _ h => h.vw
  (repeat' (first | ((with_reducible apply gL); (first | refine yL0 ?_ | refine yL ?_ | (refine yM ?_; intro _) | fail)) | refine yJ ?_ | ((with_reducible apply gJ_if); (first | (refine J_if xR ?_ ?_ <;> intro _ <;> (try (exfalso; first | contradiction | omega))) | (refine J_ifb xR ?_ ?_ <;> (intro hgb; subst hgb)) | (refine J_ifb xR ?_ ?_ <;> intro _) | fail)) | fail))
  refine J_loop (α := Nat) 0 (fun x => p.length - x) (fun x => x ≤ p.length) (fun x => [(0, .slice a p.length c), (3, .int .i64 (tot (pN (p.take x)))), (6, .slice a p.length c), (7, .int .i64 p.length), (8, .int .i64 x)]) (fun x => []) (Nat.zero_le _) ⟨rfl, rfl, rfl, rfl, rfl, trivial⟩ (fun w H => H) ?_
  rintro k hk
  have htk := tot_le (p.take k) (fun s hs => hsm s (List.take_subset _ _ hs))
  have hlk : (p.take k).length ≤ 1000 := by rw [List.length_take]; omega
  obtain ⟨N, hN⟩ : ∃ N, tot (pN (p.take k)) = N := ⟨_, rfl⟩
  rw [hN] at htk ⊢
  have hNb : N ≤ 35184372088832000 := by omega
  by_cases hlt : k < p.length
  · obtain ⟨s, hs⟩ : ∃ s, p[k]? = some s := ⟨_, List.getElem?_eq_getElem hlt⟩
    have hm := List.mem_of_getElem? hs
    have hsn1 := (hsm s hm).1
    (repeat' (first | ((with_reducible apply gL); (first | refine yL0 ?_ | refine yL ?_ | (refine yM ?_; intro _) | fail)) | refine yJ ?_ | ((with_reducible apply gJ_if); (first | (refine J_if xR ?_ ?_ <;> intro _ <;> (try (exfalso; first | contradiction | omega))) | (refine J_ifb xR ?_ ?_ <;> (intro hgb; subst hgb)) | (refine J_ifb xR ?_ ?_ <;> intro _) | fail)) | fail))
    refine J_again (k + 1) (by omega) (by omega) ⟨rfl, ?_, rfl, rfl, rfl, trivial⟩ (fun w H => H.sel .nil)
    rw [take_snoc hs]
    unfold pN
    rw [List.map_append, tot_append]
    unfold pN at hN
    rw [hN]
    show some _ = some _
    simp [tot]
  · have hke : k = p.length := by omega
    rw [hke, List.take_length] at hN
    (repeat' (first | ((with_reducible apply gL); (first | refine yL0 ?_ | refine yL ?_ | (refine yM ?_; intro _) | fail)) | refine yJ ?_ | ((with_reducible apply gJ_if); (first | (refine J_if xR ?_ ?_ <;> intro _ <;> (try (exfalso; first | contradiction | omega))) | (refine J_ifb xR ?_ ?_ <;> (intro hgb; subst hgb)) | (refine J_ifb xR ?_ ?_ <;> intro _) | fail)) | fail))
    exact J_ret1 rfl (by rfl) fun w H => ⟨_, ⟨by rw [hN], rfl⟩, H.sel .nil⟩
theorem pchk_s (a : Option Addr) (c : Nat) (p : List Sg) (h8 : p.length ≤ 1000) (hsm : ∀ s ∈ p, SgN s) : Pact Try.prog 79 #[.slice a p.length c] (fun w => PathV w a c p) [] (ret0 (.int .i64 (er (ckP (pN p) 0)))) := by
  refine pact Try.func79 rfl Try.ntmps79 rfl ?_
  intro W K hK
  have hv : Kn K (fun w => Vw w (.slice a p.length c) 2 p.length (flat sgC p)) := hK.imp fun _ h => h.vw
  have hiff := ckP_iff (pN p) 0 (by omega)
  (repeat' (first | ((with_reducible apply gL); (first | refine yL0 ?_ | refine yL ?_ | (refine yM ?_; intro _) | fail)) | refine yJ ?_ | ((with_reducible apply gJ_if); (first | (refine J_if xR ?_ ?_ <;> intro _ <;> (try (exfalso; first | contradiction | omega))) | (refine J_ifb xR ?_ ?_ <;> (intro hgb; subst hgb)) | (refine J_ifb xR ?_ ?_ <;> intro _) | fail)) | fail))
  refine J_loop (α := Nat) 0 (fun x => p.length - x) (fun x => x ≤ p.length ∧ ∀ s ∈ p.take x, okS (s.set, s.as_) = true) (fun x => [(0, .slice a p.length c), (5, .slice a p.length c), (6, .int .i64 p.length), (7, .int .i64 x)]) (fun x => []) ⟨Nat.zero_le _, by simp⟩ ⟨rfl, rfl, rfl, rfl, trivial⟩ (fun w H => H) ?_
  rintro k ⟨hk, hck⟩
  by_cases hlt : k < p.length
  · obtain ⟨s, hs⟩ : ∃ s, p[k]? = some s := ⟨_, List.getElem?_eq_getElem hlt⟩
    have hm := List.mem_of_getElem? hs
    have hsn1 := (hsm s hm).1
    have hpt := part_s s hsn1
    rcases hb : okS (s.set, s.as_) with _ | _
    · rw [hb] at hpt
      have : ckP (pN p) 0 = false := by
        rcases h9 : ckP (pN p) 0 with _ | _
        · rfl
        · have := (hiff.1 h9).1 (s.set, s.as_) (List.mem_map.2 ⟨s, hm, rfl⟩)
          rw [hb] at this
          cases this
      rw [this]
      (repeat' (first | ((with_reducible apply gL); (first | refine yL0 ?_ | refine yL ?_ | ((with_reducible apply gL_go); (first | (refine JL_goq (hpt) (hφ := (by (try simp only [List.cons_append, List.nil_append]); exact fun w hr => (hK w hr.1).segs s hm)) (h := ?_); rintro _ _ ⟨rfl, rfl⟩; try simp only [List.cons_append, List.nil_append]) | fail)) | (refine yM ?_; intro _) | fail)) | refine yJ ?_ | ((with_reducible apply gJ_if); (first | (refine J_if xR ?_ ?_ <;> intro _ <;> (try (exfalso; first | contradiction | omega))) | (refine J_ifb xR ?_ ?_ <;> (intro hgb; subst hgb)) | (refine J_ifb xR ?_ ?_ <;> intro _) | fail)) | fail))
      exact J_ret1 rfl (by rfl) fun w H => ⟨_, ⟨rfl, rfl⟩, H.sel .nil⟩
    · rw [hb] at hpt
      (repeat' (first | ((with_reducible apply gL); (first | refine yL0 ?_ | refine yL ?_ | ((with_reducible apply gL_go); (first | (refine JL_goq (hpt) (hφ := (by (try simp only [List.cons_append, List.nil_append]); exact fun w hr => (hK w hr.1).segs s hm)) (h := ?_); rintro _ _ ⟨rfl, rfl⟩; try simp only [List.cons_append, List.nil_append]) | fail)) | (refine yM ?_; intro _) | fail)) | refine yJ ?_ | ((with_reducible apply gJ_if); (first | (refine J_if xR ?_ ?_ <;> intro _ <;> (try (exfalso; first | contradiction | omega))) | (refine J_ifb xR ?_ ?_ <;> (intro hgb; subst hgb)) | (refine J_ifb xR ?_ ?_ <;> intro _) | fail)) | fail))
      refine J_again (k + 1) (by omega) ⟨by omega, ?_⟩ ⟨rfl, rfl, rfl, rfl, trivial⟩ (fun w H => H.sel .nil)
      rw [take_snoc hs]
      intro x hx
      rcases List.mem_append.1 hx with hx | hx
      · exact hck x hx
      · obtain rfl := List.mem_singleton.1 hx; exact hb
  · have hke : k = p.length := by omega
    rw [hke, List.take_length] at hck
    have hall : ∀ s ∈ pN p, okS s = true := by
      intro s hs
      obtain ⟨t, ht, rfl⟩ := List.mem_map.1 hs
      exact hck t ht
    have htl := tot_le p hsm
    have hct := count_s a c p h8 hsm
    obtain ⟨N, hN⟩ : ∃ N, tot (pN p) = N := ⟨_, rfl⟩
    rw [hN] at hct hiff htl
    by_cases h64 : N ≤ 64
    · rw [hiff.2 ⟨hall, by omega⟩]
      (repeat' (first | ((with_reducible apply gL); (first | refine yL0 ?_ | refine yL ?_ | ((with_reducible apply gL_go); (first | (refine JL_goq (hct) (hφ := (by (try simp only [List.cons_append, List.nil_append]); exact fun w hr => hK w hr.1)) (h := ?_); rintro _ _ ⟨rfl, rfl⟩; try simp only [List.cons_append, List.nil_append]) | fail)) | (refine yM ?_; intro _) | fail)) | refine yJ ?_ | ((with_reducible apply gJ_if); (first | (refine J_if xR ?_ ?_ <;> intro _ <;> (try (exfalso; first | contradiction | omega))) | (refine J_ifb xR ?_ ?_ <;> (intro hgb; subst hgb)) | (refine J_ifb xR ?_ ?_ <;> intro _) | fail)) | fail))
      all_goals (first | (exfalso; omega) | skip)
      exact J_ret1 rfl (by rfl) fun w H => ⟨_, ⟨rfl, rfl⟩, H.sel .nil⟩
    · have : ckP (pN p) 0 = false := by
        rcases h9 : ckP (pN p) 0 with _ | _
        · rfl
        · have := (hiff.1 h9).2; omega
      rw [this]
      (repeat' (first | ((with_reducible apply gL); (first | refine yL0 ?_ | refine yL ?_ | ((with_reducible apply gL_go); (first | (refine JL_goq (hct) (hφ := (by (try simp only [List.cons_append, List.nil_append]); exact fun w hr => hK w hr.1)) (h := ?_); rintro _ _ ⟨rfl, rfl⟩; try simp only [List.cons_append, List.nil_append]) | fail)) | (refine yM ?_; intro _) | fail)) | refine yJ ?_ | ((with_reducible apply gJ_if); (first | (refine J_if xR ?_ ?_ <;> intro _ <;> (try (exfalso; first | contradiction | omega))) | (refine J_ifb xR ?_ ?_ <;> (intro hgb; subst hgb)) | (refine J_ifb xR ?_ ?_ <;> intro _) | fail)) | fail))
      all_goals (first | (exfalso; omega) | skip)
      exact J_ret1 rfl (by rfl) fun w H => ⟨_, ⟨rfl, rfl⟩, H.sel .nil⟩
end Go.Proofs.Ytmbgbhambgoejaa
namespace Go.Proofs.Ytmbgbhambgoejaa.C
set_option linter.unusedSimpArgs false
set_option linter.unusedVariables false
open Go.RowKit Go.Pm
abbrev Pa := List (Bool × List Int)
def Wi (p q : Pf) : Prop := Rt p ∧ Rt q ∧ p.2 ≤ q.2 ∧ q.1 / pw p.2 = p.1 / pw p.2
instance (p q : Pf) : Decidable (Wi p q) := inferInstanceAs (Decidable (_ ∧ _ ∧ _ ∧ _))
def firstN : Pa → Option Int
  | (false, a :: _) :: _ => some a
  | _ => none
def originN (p : Pa) : Option Int := match p.getLast? with
  | some (false, l) => l.getLast?
  | _ => none
def lenN : Pa → Nat
  | [] => 0
  | s :: p => (if s.1 then 1 else s.2.length) + lenN p
def hasN (p : Pa) (n : Int) : Bool := p.any fun s => decide (n ∈ s.2)
def testN (op n : Int) (q p : Pf) (x : Nf) : Bool :=
  if op = 4 then decide (Wi q p) && decide (p.2 ≤ n) else if op = 5 then decide (p = q) else if op = 6 then hasN x.path n
  else if op = 7 then decide (firstN x.path = some n) else if op = 8 then decide (originN x.path = some n) else if op = 9 then decide (n < lenN x.path)
  else if op = 10 then decide (n ∈ x.comms) else if op = 11 then decide (x.origin = n) else if op = 12 then x.med.any fun m => decide (n < m) else false
def preN (n : Int) (m : Nat) : Pa → Pa
  | (false, l) :: r => (false, List.replicate m n ++ l) :: r
  | p => (false, List.replicate m n) :: p
def doN (op n m : Int) (x : Nf) : Option Nf :=
  if op = 4 then (if ckP x.path 0 = true ∧ m ≤ 64 - (tot x.path : Int) then some { x with path := preN n m.toNat x.path } else none)
  else if op = 5 then some { x with loc := some n } else if op = 6 then some { x with med := some n }
  else if op = 7 then (if n ∈ x.comms then some x else if 32 ≤ x.comms.length then none else some { x with comms := x.comms ++ [n] })
  else if op = 8 then some { x with comms := x.comms.filter fun c => decide (c ≠ n) } else if op = 9 then some { x with comms := [] } else none
def nextN (s : Sp) (p : Pf) (x : Nf) : Option (Int × Nf) :=
  if s.op ≤ 12 then some ((if testN s.op s.n (s.a, s.l) p x then s.x else s.y), x) else if s.op = 21 then some (s.x, x) else (doN (s.op - 20) s.n s.m x).map fun y => (s.x, y)
def playW (T : List Sp) (p : Pf) (k : Nat) (x : Nf) : Option Nf × Nat :=
  match T[k]? with
  | none => (none, 1)
  | some s =>
    if s.op = 22 then (some x, 1) else if s.op = 23 then (none, 1) else
    match nextN s p x with
    | none => (none, 1)
    | some (z, y) => if k < z.toNat ∧ z.toNat < T.length then ((playW T p z.toNat y).1, (playW T p z.toNat y).2 + 1) else (none, 1)
termination_by T.length - k
def RightT (T : List Sp) : Prop := ∀ (k : Nat) (s : Sp), T[k]? = some s → StepOk s k T.length
theorem playW_acc {T : List Sp} {p : Pf} {k : Nat} {x : Nf} {s : Sp} (h : T[k]? = some s) (ho : s.op = 22) : playW T p k x = (some x, 1) := by
  rw [playW, h]; simp only [if_pos ho]
theorem playW_rej {T : List Sp} {p : Pf} {k : Nat} {x : Nf} {s : Sp} (h : T[k]? = some s) (ho : s.op = 23) : playW T p k x = (none, 1) := by
  rw [playW, h]; simp only [if_pos ho, if_neg (show ¬ s.op = 22 by omega)]
theorem playW_no {T : List Sp} {p : Pf} {k : Nat} {x : Nf} {s : Sp} (h : T[k]? = some s) (h2 : s.op ≠ 22) (hn : nextN s p x = none) : playW T p k x = (none, 1) := by
  rw [playW, h]; simp only [if_neg h2, hn]
  split <;> rfl
theorem next_ahead {T : List Sp} {p : Pf} {k : Nat} {x y : Nf} {s : Sp} {z : Int} (hk : StepOk s k T.length) (h2 : s.op ≠ 22) (h3 : s.op ≠ 23) (hn : nextN s p x = some (z, y)) : (k : Int) < z ∧ z < T.length := by
  unfold nextN at hn
  rcases hk with ⟨ho, _, _, hx, hy⟩ | ⟨ho, _, _, _, hx, _⟩ | ⟨ho, _⟩ | ⟨ho, _, _, hx, _⟩
  · rw [if_pos ho.2] at hn
    simp only [Option.some.injEq, Prod.mk.injEq] at hn
    split at hn <;> omega
  · rw [if_neg (by omega), if_pos ho] at hn
    simp only [Option.some.injEq, Prod.mk.injEq] at hn
    omega
  · omega
  · rw [if_neg (by omega), if_neg (by omega)] at hn
    obtain ⟨y', _, e⟩ := Option.map_eq_some_iff.1 hn
    simp only [Prod.mk.injEq] at e
    omega
theorem playW_step {T : List Sp} {p : Pf} {k : Nat} {x y : Nf} {s : Sp} {z : Int} (h : T[k]? = some s) (hk : StepOk s k T.length) (h2 : s.op ≠ 22) (h3 : s.op ≠ 23) (hn : nextN s p x = some (z, y)) : playW T p k x = ((playW T p z.toNat y).1, (playW T p z.toNat y).2 + 1) := by
  have ha := next_ahead hk h2 h3 hn
  rw [playW, h]; simp only [if_neg h2, if_neg h3, hn]
  rw [if_pos (by omega)]
theorem right_of_check {T : List Sp} (h : checkE T = 0) : RightT T := by
  unfold checkE at h
  split at h
  · cases h
  · split at h
    · rename_i h2
      intro k s hs
      have := (allB_iff T 0 T.length).1 h2.1 k s hs
      rwa [Nat.zero_add] at this
    · cases h
/-! What a condition, what statements mean. -/
end Go.Proofs.Ytmbgbhambgoejaa.C
namespace Go.Proofs.Ytmbgbhambgoejaa
set_option linter.unusedSimpArgs false
set_option linter.unusedVariables false
set_option maxRecDepth 20000
set_option maxHeartbeats 4000000
open Go.RowKit Go.Pm

theorem cloneU_s (a : Option Addr) (c : Nat) (l : List Int) (hl : l.length ≤ 35184372088832) : Pact Try.prog 40 #[.slice a l.length c] (fun w => Vw w (.slice a l.length c) 1 l.length (flat u32C l)) [] (fun u L' => ∃ a c, u = .slice a l.length c ∧ L' = [Ar 25 1 u32C (.slice a l.length c) l]) := by
  refine pact Try.func40 rfl Try.ntmps40 rfl ?_
  intro W K hK
  cases a with
  | none =>
    refine J_fact (φ := l = []) (fun w H => ?_) ?_
    · obtain ⟨a', c', he, _, _, _, h4, _⟩ := hK.of H
      cases he
      exact List.eq_nil_of_length_eq_zero (h4 rfl).1
    · rintro rfl
      (repeat' (first | ((with_reducible apply gL); (first | refine yL0 ?_ | refine yL ?_ | (refine yM ?_; intro _) | (refine yA ?_; intro _ _ _ _) | fail)) | refine yJ ?_ | ((with_reducible apply gJ_if); (first | (refine J_if xR ?_ ?_ <;> intro _ <;> (try (exfalso; first | contradiction | omega))) | (refine J_ifb xR ?_ ?_ <;> (intro hgb; subst hgb)) | (refine J_ifb xR ?_ ?_ <;> intro _) | fail)) | fail))
      exact J_ret1 rfl (by rfl) fun w H => ⟨_, ⟨none, 0, rfl, rfl⟩, (Ow.arNil (e := 25) (sz := 1) (enc := u32C) H).sel xZ⟩
  | some p =>
    (repeat' (first | ((with_reducible apply gL); (first | refine yL0 ?_ | ((with_reducible apply gL_c_append); (first | (refine JL_appL u32C (fs := l) (tabE etab_ok xR) xR xR xA (Src.kn hK) xC xL (all_one _ (by intro _ _; rfl)) (by omega) xR xR ?_; intro ad c2 _ _) | fail)) | refine yL ?_ | (refine yM ?_; intro _) | (refine yA ?_; intro _ _ _ _) | fail)) | refine yJ ?_ | ((with_reducible apply gJ_if); (first | (refine J_if xR ?_ ?_ <;> intro _ <;> (try (exfalso; first | contradiction | omega))) | (refine J_ifb xR ?_ ?_ <;> (intro hgb; subst hgb)) | (refine J_ifb xR ?_ ?_ <;> intro _) | fail)) | fail))
    exact J_ret1 rfl (by rfl) fun w H => ⟨_, ⟨ad, c2, rfl, rfl⟩, H.sel xZ⟩
theorem cloneB_s (a : Option Addr) (c : Nat) (l : List Int) (hl : l.length ≤ 140737488355328) : Pact Try.prog 43 #[.slice a l.length c] (fun w => Vw w (.slice a l.length c) 1 l.length (flat byC l)) [] (fun u L' => ∃ a c, u = .slice a l.length c ∧ L' = [Ar 5 1 byC (.slice a l.length c) l]) := by
  refine pact Try.func43 rfl Try.ntmps43 rfl ?_
  intro W K hK
  cases a with
  | none =>
    refine J_fact (φ := l = []) (fun w H => ?_) ?_
    · obtain ⟨a', c', he, _, _, _, h4, _⟩ := hK.of H
      cases he
      exact List.eq_nil_of_length_eq_zero (h4 rfl).1
    · rintro rfl
      (repeat' (first | ((with_reducible apply gL); (first | refine yL0 ?_ | refine yL ?_ | (refine yM ?_; intro _) | (refine yA ?_; intro _ _ _ _) | fail)) | refine yJ ?_ | ((with_reducible apply gJ_if); (first | (refine J_if xR ?_ ?_ <;> intro _ <;> (try (exfalso; first | contradiction | omega))) | (refine J_ifb xR ?_ ?_ <;> (intro hgb; subst hgb)) | (refine J_ifb xR ?_ ?_ <;> intro _) | fail)) | fail))
      exact J_ret1 rfl (by rfl) fun w H => ⟨_, ⟨none, 0, rfl, rfl⟩, (Ow.arNil (e := 5) (sz := 1) (enc := byC) H).sel xZ⟩
  | some p =>
    (repeat' (first | ((with_reducible apply gL); (first | refine yL0 ?_ | ((with_reducible apply gL_c_append); (first | (refine JL_appL byC (fs := l) (tabE etab_ok xR) xR xR xA (Src.kn hK) xC xL xU (by omega) xR xR ?_; intro ad c2 _ _) | fail)) | refine yL ?_ | (refine yM ?_; intro _) | (refine yA ?_; intro _ _ _ _) | fail)) | refine yJ ?_ | ((with_reducible apply gJ_if); (first | (refine J_if xR ?_ ?_ <;> intro _ <;> (try (exfalso; first | contradiction | omega))) | (refine J_ifb xR ?_ ?_ <;> (intro hgb; subst hgb)) | (refine J_ifb xR ?_ ?_ <;> intro _) | fail)) | fail))
    exact J_ret1 rfl (by rfl) fun w H => ⟨_, ⟨ad, c2, rfl, rfl⟩, H.sel xZ⟩
end Go.Proofs.Ytmbgbhambgoejaa
namespace Go.Proofs.Ytmbgbhambgoejaa.C
set_option linter.unusedSimpArgs false
set_option linter.unusedVariables false
set_option maxRecDepth 20000
set_option maxHeartbeats 4000000
open Go.RowKit Go.Pm

theorem LsR.len {d : Nat} {l : List St} (h : LsR d l) : l.length ≤ 140737488355328 := by
  cases d with
  | zero => exact h
  | succ d => exact h.1
structure Lf where
  k : Nat
  ys : List St
  a : Option Addr
  c : Nat
def GoodS (d : Nat) (s : St) : Prop := StN s ∧ CdF 5 s.cd ∧ LsF d s.th ∧ LsF d s.el
def SeenS (d : Nat) (s : St) (w : World) : Prop := CdV w 5 s.cd ∧ LsV w d s.ta s.tc s.th ∧ LsV w d s.ea s.ec s.el
theorem few_s : ∀ (d : Nat) (a : Option Addr) (c : Nat) (l : List St), LsR d l → d ≤ 64 → Pact Try.prog 6 #[.slice a l.length c, .int .i64 d] (fun w => LsV w d a c l) [] (fun u L' => ∃ a' c' ys, (LsF d ys ∧ ys.length ≤ 5) ∧ u = .slice a' ys.length c' ∧ L' = [has (fun w => LsV w d a' c' ys)]) := by
  intro d
  induction d with
  | zero =>
    intro a c l hl _
    have hll := hl.len
    refine pact Try.func6 rfl Try.ntmps6 rfl ?_
    intro W K hK
    (repeat' (first | ((with_reducible apply gL); (first | refine yL0 ?_ | refine yL ?_ | (refine yM ?_; intro _) | (refine yA ?_; intro _ _ _ _) | ((with_reducible apply gL_gd); (first | (refine JL_guard xR xR ?_ ?_ <;> intro _ <;> (try (exfalso; first | contradiction | omega))) | (refine JL_guardb xR xR ?_ ?_ <;> (intro hgb; subst hgb)) | (refine JL_guardb xR xR ?_ ?_ <;> (intro hgb; fail_if_success (have : type_of% hgb := rfl))) | fail)) | fail)) | ((with_reducible apply gD); (first | (refine JD_nil ?_; try simp only [List.cons_append, List.nil_append]) | (refine JD_bar ?_; try simp only [List.cons_append, List.nil_append]) | refine yD ?_ | fail)) | refine yJ ?_ | ((with_reducible apply gJ_if); (first | (refine J_if xR ?_ ?_ <;> intro _ <;> (try (exfalso; first | contradiction | omega))) | (refine J_ifb xR ?_ ?_ <;> (intro hgb; subst hgb)) | (refine J_ifb xR ?_ ?_ <;> intro _) | fail)) | refine J_draw (id := 6) [0, 1, 3, 4, 5, 6, 8, 9, 10, 11, 2, 13, 7, 12] [14, 15, 16, 17, 18] mixed xC xD xD ?_ | fail))
    rename_i b3
    refine J_loop (α := Unit) () (fun _ => 0) (fun _ => True) (fun _ => [(0, .slice a l.length c), (1, .int .i64 ((0 : Nat) : Int)), (5, .slice (some ⟨b3, 0, none⟩) 0 0), (6, .int .i64 0)])
      (fun _ => []) trivial ⟨rfl, rfl, rfl, rfl, trivial⟩ (fun w H => H.sel .nil) ?_
    rintro ⟨⟩ _
    (repeat' (first | ((with_reducible apply gL); (first | refine yL0 ?_ | refine yL ?_ | (refine yM ?_; intro _) | (refine yA ?_; intro _ _ _ _) | ((with_reducible apply gL_gd); (first | (refine JL_guard xR xR ?_ ?_ <;> intro _ <;> (try (exfalso; first | contradiction | omega))) | (refine JL_guardb xR xR ?_ ?_ <;> (intro hgb; subst hgb)) | (refine JL_guardb xR xR ?_ ?_ <;> (intro hgb; fail_if_success (have : type_of% hgb := rfl))) | fail)) | fail)) | ((with_reducible apply gD); (first | (refine JD_nil ?_; try simp only [List.cons_append, List.nil_append]) | (refine JD_bar ?_; try simp only [List.cons_append, List.nil_append]) | refine yD ?_ | fail)) | refine yJ ?_ | ((with_reducible apply gJ_if); (first | (refine J_if xR ?_ ?_ <;> intro _ <;> (try (exfalso; first | contradiction | omega))) | (refine J_ifb xR ?_ ?_ <;> (intro hgb; subst hgb)) | (refine J_ifb xR ?_ ?_ <;> intro _) | fail)) | refine J_draw (id := 6) [0, 1, 3, 4, 5, 6, 8, 9, 10, 11, 2, 13, 7, 12] [14, 15, 16, 17, 18] mixed xC xD xD ?_ | fail))
    all_goals exact J_ret1 rfl (by rfl) fun w H => ⟨_, ⟨some ⟨b3, 0, none⟩, 0, [], ⟨rfl, by simp⟩, rfl, rfl⟩, (Ow.hasTrue (φ := fun w => LsV w 0 (some ⟨b3, 0, none⟩) 0 []) H (fun _ => trivial)).sel xZ⟩
  | succ d ih =>
    intro a c l hl hd
    have hll := hl.len
    refine pact Try.func6 rfl Try.ntmps6 rfl ?_
    intro W K hK
    have hkv : Kn K (fun w => Vw w (.slice a l.length c) 10 l.length (flat stC l)) := hK.imp fun w h => h.1
    have hkl : ∀ y ∈ l, Kn K (fun w => CdV w 5 y.cd ∧ LsV w d y.ta y.tc y.th ∧ LsV w d y.ea y.ec y.el) := fun y hy => hK.imp fun w h => h.2 y hy
    have hd1 : (d : Int) + 1 - 1 = d := by omega
    (repeat' (first | ((with_reducible apply gL); (first | refine yL0 ?_ | refine yL ?_ | (refine yM ?_; intro _) | (refine yA ?_; intro _ _ _ _) | ((with_reducible apply gL_gd); (first | (refine JL_guard xR xR ?_ ?_ <;> intro _ <;> (try (exfalso; first | contradiction | omega))) | (refine JL_guardb xR xR ?_ ?_ <;> (intro hgb; subst hgb)) | (refine JL_guardb xR xR ?_ ?_ <;> (intro hgb; fail_if_success (have : type_of% hgb := rfl))) | fail)) | fail)) | ((with_reducible apply gD); (first | (refine JD_nil ?_; try simp only [List.cons_append, List.nil_append]) | (refine JD_bar ?_; try simp only [List.cons_append, List.nil_append]) | refine yD ?_ | fail)) | refine yJ ?_ | ((with_reducible apply gJ_if); (first | (refine J_if xR ?_ ?_ <;> intro _ <;> (try (exfalso; first | contradiction | omega))) | (refine J_ifb xR ?_ ?_ <;> (intro hgb; subst hgb)) | (refine J_ifb xR ?_ ?_ <;> intro _) | fail)) | refine J_draw (id := 6) [0, 1, 3, 4, 5, 6, 8, 9, 10, 11, 2, 13, 7, 12] [14, 15, 16, 17, 18] mixed xC xD xD ?_ | fail))
    rename_i b3
    refine J_loop (α := Lf) ⟨0, [], some ⟨b3, 0, none⟩, 0⟩ (fun z => 5 - z.k) (fun z => z.k ≤ l.length ∧ z.k ≤ 5 ∧ z.k = z.ys.length ∧ ∀ y ∈ z.ys, GoodS d y) (fun z => [(0, .slice a l.length c), (1, .int .i64 ((d : Int) + 1)), (5, .slice z.a z.ys.length z.c), (6, .int .i64 z.k)])
      (fun z => [Ar 52 10 stC (.slice z.a z.ys.length z.c) z.ys, has (fun w => ∀ y ∈ z.ys, SeenS d y w)]) ⟨Nat.zero_le _, Nat.zero_le _, rfl, by simp⟩ ⟨rfl, rfl, rfl, rfl, trivial⟩ (fun w H => (Ow.hasTrue (φ := fun w => ∀ y ∈ ([] : List St), SeenS d y w) (Ow.arLit0 (sz := 10) (enc := stC) H xA) (by intro _ _ h; exact absurd h List.not_mem_nil)).sel xZ) ?_
    rintro ⟨k, ys, ay, cy⟩ ⟨hk, hk5, hky, hys⟩
    dsimp only at hk hk5 hky hys ⊢
    by_cases hlt : k < l.length ∧ k < 5
    · obtain ⟨hlt, hlt5⟩ := hlt
      obtain ⟨s, hs⟩ : ∃ s, l[k]? = some s := ⟨_, List.getElem?_eq_getElem hlt⟩
      have hm := List.mem_of_getElem? hs
      obtain ⟨hsn, hsc, hst, hse⟩ := hl.2 s hm
      (repeat' (first | ((with_reducible apply gL); (first | refine yL0 ?_ | ((with_reducible apply gL_c_append); (first | (refine JL_ap1 (z := St.mk s.op s.n s.m z a1 c1 y1 a2 c2 y2) (tabE etab_ok xR) xR xR xA xA xC xR xL xR (by omega) xR xR ?_; intro ad2 c2' _ _) | fail)) | refine yL ?_ | (refine yM ?_; intro _) | (refine yA ?_; intro _ _ _ _) | ((with_reducible apply gL_gd); (first | (refine JL_guard xR xR ?_ ?_ <;> intro _ <;> (try (exfalso; first | contradiction | omega))) | (refine JL_guardb xR xR ?_ ?_ <;> (intro hgb; subst hgb)) | (refine JL_guardb xR xR ?_ ?_ <;> (intro hgb; fail_if_success (have : type_of% hgb := rfl))) | fail)) | fail)) | ((with_reducible apply gD); (first | (refine JD_nil ?_; try simp only [List.cons_append, List.nil_append]) | (refine JD_bar ?_; try simp only [List.cons_append, List.nil_append]) | refine yD ?_ | ((with_reducible apply gD_go); (first | (refine JD_goq (cond_s 5 s.cd hsc (by omega)) (hφ := (by (try simp only [List.cons_append, List.nil_append]); exact fun w hr => (hkl s hm w hr.1).1)) (h := ?_); rintro _ _ ⟨z, hz, rfl, rfl⟩; try simp only [List.cons_append, List.nil_append]) | (refine JD_goq (ih s.ta s.tc s.th hst (by omega)) (hφ := (by (try simp only [List.cons_append, List.nil_append]); exact fun w hr => (hkl s hm w hr.1).2.1)) (h := ?_); rintro _ _ ⟨a1, c1, y1, hy1, rfl, rfl⟩; try simp only [List.cons_append, List.nil_append]) | (refine JD_goq (ih s.ea s.ec s.el hse (by omega)) (hφ := (by (try simp only [List.cons_append, List.nil_append]); exact fun w hr => (hkl s hm w hr.1).2.2)) (h := ?_); rintro _ _ ⟨a2, c2, y2, hy2, rfl, rfl⟩; try simp only [List.cons_append, List.nil_append]) | fail)) | fail)) | refine yJ ?_ | ((with_reducible apply gJ_if); (first | (refine J_if xR ?_ ?_ <;> intro _ <;> (try (exfalso; first | contradiction | omega))) | (refine J_ifb xR ?_ ?_ <;> (intro hgb; subst hgb)) | (refine J_ifb xR ?_ ?_ <;> intro _) | fail)) | refine J_draw (id := 6) [0, 1, 3, 4, 5, 6, 8, 9, 10, 11, 2, 13, 7, 12] [14, 15, 16, 17, 18] mixed xC xD xD ?_ | fail))
      have hg : GoodS d ⟨s.op, s.n, s.m, z, a1, c1, y1, a2, c2, y2⟩ := ⟨⟨hsn.op, hsn.n, hsn.m, hz.nn⟩, hz, hy1.1, hy2.1⟩
      refine J_again ⟨k + 1, ys ++ [⟨s.op, s.n, s.m, z, a1, c1, y1, a2, c2, y2⟩], ad2, c2'⟩ (by dsimp only; omega) ⟨hlt, by dsimp only; omega, by simp [hky], ?_⟩ ⟨rfl, rfl, ?_, rfl, trivial⟩ (fun w H => ?_)
      · intro y' hy'
        rcases List.mem_append.1 hy' with h | h
        · exact hys y' h
        · obtain rfl := List.mem_singleton.1 h
          exact hg
      · show some _ = some _
        simp
      · simp only [List.length_append, List.length_cons, List.length_nil]
        refine (Ow.has (M := [has (fun w => LsV w d a2 c2 y2), has (fun w => LsV w d a1 c1 y1), has (fun w => CdV w 5 z), has (fun w => ∀ y ∈ ys, SeenS d y w)]) (φ := fun w => ∀ y ∈ ys ++ [(⟨s.op, s.n, s.m, z, a1, c1, y1, a2, c2, y2⟩ : St)], SeenS d y w) H xZ ?_).sel xZ
        intro w hr y' hy'
        rcases List.mem_append.1 hy' with h | h
        · exact hr.has (.there (.there (.there .here))) y' h
        · obtain rfl := List.mem_singleton.1 h
          exact ⟨hr.has (.there (.there .here)), hr.has (.there .here), hr.has .here⟩
    · (repeat' (first | ((with_reducible apply gL); (first | refine yL0 ?_ | refine yL ?_ | (refine yM ?_; intro _) | (refine yA ?_; intro _ _ _ _) | ((with_reducible apply gL_gd); (first | (refine JL_guard xR xR ?_ ?_ <;> intro _ <;> (try (exfalso; first | contradiction | omega))) | (refine JL_guardb xR xR ?_ ?_ <;> (intro hgb; subst hgb)) | (refine JL_guardb xR xR ?_ ?_ <;> (intro hgb; fail_if_success (have : type_of% hgb := rfl))) | fail)) | fail)) | ((with_reducible apply gD); (first | (refine JD_nil ?_; try simp only [List.cons_append, List.nil_append]) | (refine JD_bar ?_; try simp only [List.cons_append, List.nil_append]) | refine yD ?_ | fail)) | refine yJ ?_ | ((with_reducible apply gJ_if); (first | (refine J_if xR ?_ ?_ <;> intro _ <;> (try (exfalso; first | contradiction | omega))) | (refine J_ifb xR ?_ ?_ <;> (intro hgb; subst hgb)) | (refine J_ifb xR ?_ ?_ <;> intro _) | fail)) | refine J_draw (id := 6) [0, 1, 3, 4, 5, 6, 8, 9, 10, 11, 2, 13, 7, 12] [14, 15, 16, 17, 18] mixed xC xD xD ?_ | fail))
      all_goals (first | (exfalso; omega) | skip)
      all_goals exact J_ret1 rfl (by rfl) fun w H => ⟨_, ⟨ay, cy, ys, ⟨⟨by omega, hys⟩, by omega⟩, rfl, rfl⟩, (Ow.has (M := [Ar 52 10 stC (.slice ay ys.length cy) ys, has (fun w => ∀ y ∈ ys, SeenS d y w)]) (φ := fun w => LsV w (d + 1) ay cy ys) H xZ (fun w hr => ⟨Src.ar .here w hr, hr.has (.there .here)⟩)).sel xZ⟩
end Go.Proofs.Ytmbgbhambgoejaa.C
namespace Go.Proofs.Ytmbgbhambgoejaa.C
set_option linter.unusedSimpArgs false
set_option linter.unusedVariables false
set_option maxRecDepth 20000
set_option maxHeartbeats 4000000
open Go.RowKit Go.Pm

theorem preP {P : Program} {f : FuncId} {args : Array Value} {φ ψ : World → Prop} {C : List HP} {Rr : Value → List HP → Prop} (S : Pact P f args φ C Rr) (h : ∀ w, ψ w → φ w) : Pact P f args ψ C Rr := fun W K w hK H => S W K w (hK.imp h) H
def Kids (φ : Cd → World → Prop) (x : Cd) (w : World) : Prop := (x.l ≠ [] → Vw w (.slice x.a x.l.length x.c) 5 x.l.length (flat cdC x.l)) ∧ ∀ y ∈ x.l, φ y w
theorem CdF.kids {d : Nat} {x : Cd} (h : CdF d x) {w : World} (hv : CdV w d x) : Kids (fun y w => CdV w (d - 1) y) x w := by
  cases d with
  | zero => rw [Kids, h.2]; exact ⟨fun h => absurd rfl h, fun y hy => absurd hy List.not_mem_nil⟩
  | succ d => exact ⟨fun _ => hv.1, hv.2⟩
theorem CdF.len {d : Nat} {x : Cd} (h : CdF d x) : x.l.length ≤ 5 := by
  cases d with
  | zero => rw [h.2]; simp
  | succ d => exact h.2.1
theorem CdF.sub {d : Nat} {x y : Cd} (h : CdF d x) (hy : y ∈ x.l) : CdF (d - 1) y := by
  cases d with
  | zero => rw [h.2] at hy; cases hy
  | succ d => exact h.2.2 y hy
def tests : Nat → Cd → Nat
  | 0, _ => 1
  | d + 1, x => if x.l = [] then 1 else (x.l.map (tests d)).sum
theorem tests_eq {d : Nat} {x : Cd} (h : CdF d x) : tests d x = if x.l = [] then 1 else (x.l.map (tests (d - 1))).sum := by
  cases d with
  | zero => rw [if_pos h.2]; rfl
  | succ d => simp only [tests, Nat.add_sub_cancel]
theorem sum_le {α : Type} {f : α → Nat} {b : Nat} : ∀ {l : List α}, (∀ y ∈ l, f y ≤ b) → (l.map f).sum ≤ l.length * b
  | [], _ => by simp
  | y :: r, h => by
    have h1 := h y (by simp)
    have h2 := sum_le (l := r) fun z hz => h z (List.mem_cons_of_mem _ hz)
    simp only [List.map_cons, List.sum_cons, List.length_cons, Nat.succ_mul]
    omega
theorem sum_part {α : Type} {f : α → Nat} (l : List α) (k : Nat) : ((l.take k).map f).sum ≤ (l.map f).sum := by
  have : (l.map f).sum = ((l.take k).map f).sum + ((l.drop k).map f).sum := by
    rw [← List.sum_append, ← List.map_append, List.take_append_drop]
  omega
theorem tests_le : ∀ {d : Nat} {x : Cd}, CdF d x → tests d x ≤ 5 ^ d
  | 0, _, _ => Nat.le_refl _
  | d + 1, x, h => by
    rw [tests]
    split
    · exact Nat.one_le_pow _ _ (by omega)
    · have h1 := sum_le (l := x.l) (f := tests d) fun y hy => tests_le (h.2.2 y hy)
      have h2 : x.l.length * 5 ^ d ≤ 5 * 5 ^ d := Nat.mul_le_mul_right _ h.2.1
      rw [Nat.pow_succ]
      omega
/-! none, cond. -/
def noneB (x : Cd) : Bool := decide (x.op = 0 ∧ x.n = 0 ∧ (x.pa = 0 ∧ x.pl = 0) ∧ x.l.length = 0)
def okHead (x : Cd) : Bool := decide (x.n = 0 ∧ (x.pa = 0 ∧ x.pl = 0) ∧ (x.op = 3 → x.l.length = 1) ∧ (x.op < 3 → 2 ≤ x.l.length))
def okLeaf (x : Cd) : Bool := decide (x.l.length = 0) && decide (TestOk x.op x.n (x.pa, x.pl))
def condB : Nat → Cd → Bool
  | 0, x => if 1 ≤ x.op ∧ x.op ≤ 3 then okHead x else okLeaf x
  | d + 1, x => if 1 ≤ x.op ∧ x.op ≤ 3 then okHead x && x.l.all (condB d) else okLeaf x
def condG (g : Cd → Bool) (x : Cd) : Bool := if 1 ≤ x.op ∧ x.op ≤ 3 then okHead x && x.l.all g else okLeaf x
theorem condB_eq {d : Nat} {x : Cd} (h : CdF d x) : condB d x = condG (condB (d - 1)) x := by
  cases d with
  | zero =>
    unfold condG
    simp only [condB, h.2, List.all_nil, Bool.and_true]
  | succ d => rfl
end Go.Proofs.Ytmbgbhambgoejaa.C
