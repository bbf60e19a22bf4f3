/-
  Aq5, Aq6, Aq7, Jw, Aq8, Aq9, Aq10, Aq11, Aq12, Jx, Aq13, Aq14, Aq15, Aq16, Vw1, Tq18, Vw2: merged.
-/
import Derived.Test.YtdnokmpnemaoaaaZViewVoid4
import Derived.WalkSpells
import Derived.WalkLawsBesides
import Derived.BigRegion
namespace Go.Proofs.Ytdnokmpnemaoaaa
set_option linter.unusedSimpArgs false
set_option linter.unusedVariables false
set_option maxRecDepth 20000
set_option maxHeartbeats 4000000
open Go.RowKit Go.Pm

theorem index_s (a : Option Addr) (c : Nat) (l : List Int) (v : Int) (hl : l.length ≤ 35184372088832) : Pact Try.prog 76 #[.slice a l.length c, .int .u32 v] (fun w => Vw w (.slice a l.length c) 1 l.length (flat u32C l)) [] (fun u L' => ∃ z : Int, u = .int .i64 z ∧ (0 ≤ z ↔ v ∈ l) ∧ L' = []) := by
  refine pact Try.func76 rfl Try.ntmps76 rfl ?_
  intro W K hK
  (repeat' (first | ((with_reducible apply gL); (first | refine yL0 ?_ | refine yL ?_ | fail)) | refine yJ ?_ | ((with_reducible apply gJ_if); (first | (refine J_if xR ?_ ?_ <;> intro _ <;> (try (exfalso; first | contradiction | omega))) | (refine J_ifb xR ?_ ?_ <;> (intro hgb; subst hgb)) | (refine J_ifb xR ?_ ?_ <;> intro _) | fail)) | fail))
  refine J_loop (α := Nat) 0 (fun x => l.length - x) (fun x => x ≤ l.length ∧ v ∉ l.take x) (fun x => [(0, .slice a l.length c), (1, .int .u32 v), (7, .int .i64 l.length), (8, .int .i64 x)]) (fun x => []) ⟨Nat.zero_le _, by simp⟩ ⟨rfl, rfl, rfl, rfl, trivial⟩ (fun w H => H) ?_
  rintro k ⟨hk, hck⟩
  by_cases hlt : k < l.length
  · obtain ⟨x, hx⟩ : ∃ x, l[k]? = some x := ⟨_, List.getElem?_eq_getElem hlt⟩
    (repeat' (first | ((with_reducible apply gL); (first | refine yL0 ?_ | refine yL ?_ | fail)) | refine yJ ?_ | ((with_reducible apply gJ_if); (first | (refine J_if xR ?_ ?_ <;> intro _ <;> (try (exfalso; first | contradiction | omega))) | (refine J_ifb xR ?_ ?_ <;> (intro hgb; subst hgb)) | (refine J_ifb xR ?_ ?_ <;> intro _) | fail)) | fail))
    · rename_i h0
      subst h0
      exact J_ret1 rfl (by rfl) fun w H => ⟨_, ⟨_, rfl, ⟨fun _ => List.mem_of_getElem? hx, fun _ => by omega⟩, rfl⟩, H.sel .nil⟩
    · rename_i h0
      exact J_again (k + 1) (by omega) ⟨by omega, by rw [take_snoc hx]; simp only [List.mem_append, List.mem_singleton]; rintro (h | h); exact hck h; exact h0 h⟩ ⟨rfl, rfl, rfl, rfl, trivial⟩ (fun w H => H.sel .nil)
  · have hke : k = l.length := by omega
    rw [hke, List.take_length] at hck
    (repeat' (first | ((with_reducible apply gL); (first | refine yL0 ?_ | refine yL ?_ | fail)) | refine yJ ?_ | ((with_reducible apply gJ_if); (first | (refine J_if xR ?_ ?_ <;> intro _ <;> (try (exfalso; first | contradiction | omega))) | (refine J_ifb xR ?_ ?_ <;> (intro hgb; subst hgb)) | (refine J_ifb xR ?_ ?_ <;> intro _) | fail)) | fail))
    exact J_ret1 rfl (by rfl) fun w H => ⟨_, ⟨_, rfl, ⟨fun h => absurd h (by decide), fun h => absurd h hck⟩, rfl⟩, H.sel .nil⟩
theorem contains_s (a : Option Addr) (c : Nat) (l : List Int) (v : Int) (hl : l.length ≤ 35184372088832) : Pact Try.prog 66 #[.slice a l.length c, .int .u32 v] (fun w => Vw w (.slice a l.length c) 1 l.length (flat u32C l)) [] (ret0 (.bool (decide (v ∈ l)))) := by
  refine pact Try.func66 rfl Try.ntmps66 rfl ?_
  intro W K hK
  (repeat' (first | ((with_reducible apply gL); (first | refine yL0 ?_ | refine yL ?_ | ((with_reducible apply gL_go); (first | (refine JL_goq (index_s a c l v hl) (hφ := (by (try simp only [List.cons_append, List.nil_append]); exact fun w hr => hK w hr.1)) (h := ?_); rintro _ _ ⟨z, rfl, hz, rfl⟩; try simp only [List.cons_append, List.nil_append]) | fail)) | fail)) | refine yJ ?_ | fail))
  refine J_ret1 rfl (by rfl) fun w H => ⟨_, ⟨?_, rfl⟩, H.sel .nil⟩
  exact congrArg Value.bool (by rw [Bool.eq_iff_iff]; simp only [decide_eq_true_eq]; exact hz)
def okS (s : Bool × List Int) : Bool := decide (0 < s.2.length ∧ s.2.length ≤ 255 ∧ (0 : Int) ∉ s.2)
theorem part_s (s : Sg) (hl : s.as_.length ≤ 35184372088832) : Pact Try.prog 56 #[.agg (sgC s).toArray] (fun w => segV w s) [] (ret0 (.bool (okS (s.set, s.as_)))) := by
  refine pact Try.func56 rfl Try.ntmps56 rfl ?_
  intro W K hK
  have hc := contains_s s.a s.c s.as_ 0 hl
  by_cases h0 : (0 : Int) ∈ s.as_
  · rw [decide_eq_true h0] at hc
    have : okS (s.set, s.as_) = false := decide_eq_false (fun h => h.2.2 h0)
    rw [this]
    (repeat' (first | ((with_reducible apply gL); (first | refine yL0 ?_ | refine yL ?_ | ((with_reducible apply gL_go); (first | (refine JL_goq (hc) (hφ := (by (try simp only [List.cons_append, List.nil_append]); exact fun w hr => hK w hr.1)) (h := ?_); rintro _ _ ⟨rfl, rfl⟩; try simp only [List.cons_append, List.nil_append]) | fail)) | (refine yM ?_; intro _) | ((with_reducible apply gL_gd); (first | (refine JL_guard xR xR ?_ ?_ <;> intro _ <;> (try (exfalso; first | contradiction | omega))) | (refine JL_guardb xR xR ?_ ?_ <;> (intro hgb; subst hgb)) | (refine JL_guardb xR xR ?_ ?_ <;> (intro hgb; fail_if_success (have : type_of% hgb := rfl))) | fail)) | fail)) | refine yJ ?_ | fail))
    all_goals exact J_ret1 rfl (by rfl) fun w H => ⟨_, ⟨rfl, rfl⟩, H.sel .nil⟩
  · rw [decide_eq_false h0] at hc
    (repeat' (first | ((with_reducible apply gL); (first | refine yL0 ?_ | refine yL ?_ | ((with_reducible apply gL_go); (first | (refine JL_goq (hc) (hφ := (by (try simp only [List.cons_append, List.nil_append]); exact fun w hr => hK w hr.1)) (h := ?_); rintro _ _ ⟨rfl, rfl⟩; try simp only [List.cons_append, List.nil_append]) | fail)) | (refine yM ?_; intro _) | ((with_reducible apply gL_gd); (first | (refine JL_guard xR xR ?_ ?_ <;> intro _ <;> (try (exfalso; first | contradiction | omega))) | (refine JL_guardb xR xR ?_ ?_ <;> (intro hgb; subst hgb)) | (refine JL_guardb xR xR ?_ ?_ <;> (intro hgb; fail_if_success (have : type_of% hgb := rfl))) | fail)) | fail)) | refine yJ ?_ | fail))
    all_goals (refine J_ret1 rfl (by rfl) fun w H => ⟨_, ⟨?_, rfl⟩, H.sel .nil⟩; refine congrArg Value.bool ?_; unfold okS; rw [Bool.eq_iff_iff]; simp [h0]; try omega)
def tot : List (Bool × List Int) → Nat
  | [] => 0
  | s :: p => s.2.length + tot p
theorem tot_append (p q : List (Bool × List Int)) : tot (p ++ q) = tot p + tot q := by
  induction p with
  | nil => simp [tot]
  | cons s p ih => simp [tot, ih]; omega
theorem tot_le (p : List Sg) (h : ∀ s ∈ p, SgN s) : tot (pN p) ≤ p.length * 35184372088832 := by
  induction p with
  | nil => simp [tot, pN]
  | cons s p ih =>
    have h1 := ih (fun x hx => h x (List.mem_cons_of_mem _ hx))
    have h2 := (h s (List.mem_cons_self ..)).1
    have : tot (pN (s :: p)) = s.as_.length + tot (pN p) := rfl
    rw [this, List.length_cons]
    omega
theorem ckP_iff : ∀ (p : List (Bool × List Int)) (n : Nat), n ≤ 64 → (ckP p n = true ↔ (∀ s ∈ p, okS s = true) ∧ n + tot p ≤ 64)
  | [], n, h => by simp [ckP, tot]; omega
  | s :: p, n, h => by
    unfold ckP
    have hsp : okS s = true ↔ (0 < s.2.length ∧ s.2.length ≤ 255 ∧ (0 : Int) ∉ s.2) := by unfold okS; simp
    split
    · refine ⟨fun h => (by cases h), fun ⟨h1, _⟩ => ?_⟩
      have := hsp.1 (h1 s (List.mem_cons_self ..))
      omega
    · split
      · refine ⟨fun h => (by cases h), fun ⟨h1, _⟩ => ?_⟩
        exact absurd (by assumption) (hsp.1 (h1 s (List.mem_cons_self ..))).2.2
      · split
        · refine ⟨fun h => (by cases h), fun ⟨_, h2⟩ => ?_⟩
          simp only [tot] at h2
          omega
        · rw [ckP_iff p _ (by omega)]
          simp only [tot, List.forall_mem_cons]
          constructor
          · rintro ⟨h1, h2⟩
            exact ⟨⟨hsp.2 ⟨by omega, by omega, by assumption⟩, h1⟩, by omega⟩
          · rintro ⟨⟨_, h1⟩, h2⟩
            exact ⟨h1, by omega⟩
theorem count_s (a : Option Addr) (c : Nat) (p : List Sg) (h8 : p.length ≤ 1000) (hsm : ∀ s ∈ p, SgN s) : Pact Try.prog 57 #[.slice a p.length c] (fun w => PathV w a c p) [] (ret0 (.int .i64 (tot (pN p)))) := by
  refine pact Try.func57 rfl Try.ntmps57 rfl ?_
  intro W K hK
  have hv : Kn K (fun w => Vw w (.slice a p.length c) 2 p.length (flat sgC p)) := hK.imp fun _ h => h.vw
  (repeat' (first | ((with_reducible apply gL); (first | refine yL0 ?_ | refine yL ?_ | (refine yM ?_; intro _) | fail)) | refine yJ ?_ | ((with_reducible apply gJ_if); (first | (refine J_if xR ?_ ?_ <;> intro _ <;> (try (exfalso; first | contradiction | omega))) | (refine J_ifb xR ?_ ?_ <;> (intro hgb; subst hgb)) | (refine J_ifb xR ?_ ?_ <;> intro _) | fail)) | fail))
  refine J_loop (α := Nat) 0 (fun x => p.length - x) (fun x => x ≤ p.length) (fun x => [(0, .slice a p.length c), (3, .int .i64 (tot (pN (p.take x)))), (6, .slice a p.length c), (7, .int .i64 p.length), (8, .int .i64 x)]) (fun x => []) (Nat.zero_le _) ⟨rfl, rfl, rfl, rfl, rfl, trivial⟩ (fun w H => H) ?_
  rintro k hk
  have htk := tot_le (p.take k) (fun s hs => hsm s (List.take_subset _ _ hs))
  have hlk : (p.take k).length ≤ 1000 := by rw [List.length_take]; omega
  obtain ⟨N, hN⟩ : ∃ N, tot (pN (p.take k)) = N := ⟨_, rfl⟩
  rw [hN] at htk ⊢
  have hNb : N ≤ 35184372088832000 := by omega
  by_cases hlt : k < p.length
  · obtain ⟨s, hs⟩ : ∃ s, p[k]? = some s := ⟨_, List.getElem?_eq_getElem hlt⟩
    have hm := List.mem_of_getElem? hs
    have hsn1 := (hsm s hm).1
    (repeat' (first | ((with_reducible apply gL); (first | refine yL0 ?_ | refine yL ?_ | (refine yM ?_; intro _) | fail)) | refine yJ ?_ | ((with_reducible apply gJ_if); (first | (refine J_if xR ?_ ?_ <;> intro _ <;> (try (exfalso; first | contradiction | omega))) | (refine J_ifb xR ?_ ?_ <;> (intro hgb; subst hgb)) | (refine J_ifb xR ?_ ?_ <;> intro _) | fail)) | fail))
    refine J_again (k + 1) (by omega) (by omega) ⟨rfl, ?_, rfl, rfl, rfl, trivial⟩ (fun w H => H.sel .nil)
    rw [take_snoc hs]
    unfold pN
    rw [List.map_append, tot_append]
    unfold pN at hN
    rw [hN]
    show some _ = some _
    simp [tot]
  · have hke : k = p.length := by omega
    rw [hke, List.take_length] at hN
    (repeat' (first | ((with_reducible apply gL); (first | refine yL0 ?_ | refine yL ?_ | (refine yM ?_; intro _) | fail)) | refine yJ ?_ | ((with_reducible apply gJ_if); (first | (refine J_if xR ?_ ?_ <;> intro _ <;> (try (exfalso; first | contradiction | omega))) | (refine J_ifb xR ?_ ?_ <;> (intro hgb; subst hgb)) | (refine J_ifb xR ?_ ?_ <;> intro _) | fail)) | fail))
    exact J_ret1 rfl (by rfl) fun w H => ⟨_, ⟨by rw [hN], rfl⟩, H.sel .nil⟩
theorem pchk_s (a : Option Addr) (c : Nat) (p : List Sg) (h8 : p.length ≤ 1000) (hsm : ∀ s ∈ p, SgN s) : Pact Try.prog 45 #[.slice a p.length c] (fun w => PathV w a c p) [] (ret0 (.int .i64 (er (ckP (pN p) 0)))) := by
  refine pact Try.func45 rfl Try.ntmps45 rfl ?_
  intro W K hK
  have hv : Kn K (fun w => Vw w (.slice a p.length c) 2 p.length (flat sgC p)) := hK.imp fun _ h => h.vw
  have hiff := ckP_iff (pN p) 0 (by omega)
  (repeat' (first | ((with_reducible apply gL); (first | refine yL0 ?_ | refine yL ?_ | (refine yM ?_; intro _) | fail)) | refine yJ ?_ | ((with_reducible apply gJ_if); (first | (refine J_if xR ?_ ?_ <;> intro _ <;> (try (exfalso; first | contradiction | omega))) | (refine J_ifb xR ?_ ?_ <;> (intro hgb; subst hgb)) | (refine J_ifb xR ?_ ?_ <;> intro _) | fail)) | fail))
  refine J_loop (α := Nat) 0 (fun x => p.length - x) (fun x => x ≤ p.length ∧ ∀ s ∈ p.take x, okS (s.set, s.as_) = true) (fun x => [(0, .slice a p.length c), (5, .slice a p.length c), (6, .int .i64 p.length), (7, .int .i64 x)]) (fun x => []) ⟨Nat.zero_le _, by simp⟩ ⟨rfl, rfl, rfl, rfl, trivial⟩ (fun w H => H) ?_
  rintro k ⟨hk, hck⟩
  by_cases hlt : k < p.length
  · obtain ⟨s, hs⟩ : ∃ s, p[k]? = some s := ⟨_, List.getElem?_eq_getElem hlt⟩
    have hm := List.mem_of_getElem? hs
    have hsn1 := (hsm s hm).1
    have hpt := part_s s hsn1
    rcases hb : okS (s.set, s.as_) with _ | _
    · rw [hb] at hpt
      have : ckP (pN p) 0 = false := by
        rcases h9 : ckP (pN p) 0 with _ | _
        · rfl
        · have := (hiff.1 h9).1 (s.set, s.as_) (List.mem_map.2 ⟨s, hm, rfl⟩)
          rw [hb] at this
          cases this
      rw [this]
      (repeat' (first | ((with_reducible apply gL); (first | refine yL0 ?_ | refine yL ?_ | ((with_reducible apply gL_go); (first | (refine JL_goq (hpt) (hφ := (by (try simp only [List.cons_append, List.nil_append]); exact fun w hr => (hK w hr.1).segs s hm)) (h := ?_); rintro _ _ ⟨rfl, rfl⟩; try simp only [List.cons_append, List.nil_append]) | fail)) | (refine yM ?_; intro _) | fail)) | refine yJ ?_ | ((with_reducible apply gJ_if); (first | (refine J_if xR ?_ ?_ <;> intro _ <;> (try (exfalso; first | contradiction | omega))) | (refine J_ifb xR ?_ ?_ <;> (intro hgb; subst hgb)) | (refine J_ifb xR ?_ ?_ <;> intro _) | fail)) | fail))
      exact J_ret1 rfl (by rfl) fun w H => ⟨_, ⟨rfl, rfl⟩, H.sel .nil⟩
    · rw [hb] at hpt
      (repeat' (first | ((with_reducible apply gL); (first | refine yL0 ?_ | refine yL ?_ | ((with_reducible apply gL_go); (first | (refine JL_goq (hpt) (hφ := (by (try simp only [List.cons_append, List.nil_append]); exact fun w hr => (hK w hr.1).segs s hm)) (h := ?_); rintro _ _ ⟨rfl, rfl⟩; try simp only [List.cons_append, List.nil_append]) | fail)) | (refine yM ?_; intro _) | fail)) | refine yJ ?_ | ((with_reducible apply gJ_if); (first | (refine J_if xR ?_ ?_ <;> intro _ <;> (try (exfalso; first | contradiction | omega))) | (refine J_ifb xR ?_ ?_ <;> (intro hgb; subst hgb)) | (refine J_ifb xR ?_ ?_ <;> intro _) | fail)) | fail))
      refine J_again (k + 1) (by omega) ⟨by omega, ?_⟩ ⟨rfl, rfl, rfl, rfl, trivial⟩ (fun w H => H.sel .nil)
      rw [take_snoc hs]
      intro x hx
      rcases List.mem_append.1 hx with hx | hx
      · exact hck x hx
      · obtain rfl := List.mem_singleton.1 hx; exact hb
  · have hke : k = p.length := by omega
    rw [hke, List.take_length] at hck
    have hall : ∀ s ∈ pN p, okS s = true := by
      intro s hs
      obtain ⟨t, ht, rfl⟩ := List.mem_map.1 hs
      exact hck t ht
    have htl := tot_le p hsm
    have hct := count_s a c p h8 hsm
    obtain ⟨N, hN⟩ : ∃ N, tot (pN p) = N := ⟨_, rfl⟩
    rw [hN] at hct hiff htl
    by_cases h64 : N ≤ 64
    · rw [hiff.2 ⟨hall, by omega⟩]
      (repeat' (first | ((with_reducible apply gL); (first | refine yL0 ?_ | refine yL ?_ | ((with_reducible apply gL_go); (first | (refine JL_goq (hct) (hφ := (by (try simp only [List.cons_append, List.nil_append]); exact fun w hr => hK w hr.1)) (h := ?_); rintro _ _ ⟨rfl, rfl⟩; try simp only [List.cons_append, List.nil_append]) | fail)) | (refine yM ?_; intro _) | fail)) | refine yJ ?_ | ((with_reducible apply gJ_if); (first | (refine J_if xR ?_ ?_ <;> intro _ <;> (try (exfalso; first | contradiction | omega))) | (refine J_ifb xR ?_ ?_ <;> (intro hgb; subst hgb)) | (refine J_ifb xR ?_ ?_ <;> intro _) | fail)) | fail))
      all_goals (first | (exfalso; omega) | skip)
      exact J_ret1 rfl (by rfl) fun w H => ⟨_, ⟨rfl, rfl⟩, H.sel .nil⟩
    · have : ckP (pN p) 0 = false := by
        rcases h9 : ckP (pN p) 0 with _ | _
        · rfl
        · have := (hiff.1 h9).2; omega
      rw [this]
      (repeat' (first | ((with_reducible apply gL); (first | refine yL0 ?_ | refine yL ?_ | ((with_reducible apply gL_go); (first | (refine JL_goq (hct) (hφ := (by (try simp only [List.cons_append, List.nil_append]); exact fun w hr => hK w hr.1)) (h := ?_); rintro _ _ ⟨rfl, rfl⟩; try simp only [List.cons_append, List.nil_append]) | fail)) | (refine yM ?_; intro _) | fail)) | refine yJ ?_ | ((with_reducible apply gJ_if); (first | (refine J_if xR ?_ ?_ <;> intro _ <;> (try (exfalso; first | contradiction | omega))) | (refine J_ifb xR ?_ ?_ <;> (intro hgb; subst hgb)) | (refine J_ifb xR ?_ ?_ <;> intro _) | fail)) | fail))
      all_goals (first | (exfalso; omega) | skip)
      exact J_ret1 rfl (by rfl) fun w H => ⟨_, ⟨rfl, rfl⟩, H.sel .nil⟩
theorem hop_s (z : Int) : Pact Try.prog 46 #[.int .u32 z] (fun _ => True) [] (ret0 (.bool (decide (z ≠ 0 ∧ z < 3758096384)))) := by
  refine pact Try.func46 rfl Try.ntmps46 rfl ?_
  intro W K _
  (repeat' (first | ((with_reducible apply gL); (first | refine yL0 ?_ | refine yL ?_ | ((with_reducible apply gL_gd); (first | (refine JL_guard xR xR ?_ ?_ <;> intro _ <;> (try (exfalso; first | contradiction | omega))) | (refine JL_guardb xR xR ?_ ?_ <;> (intro hgb; subst hgb)) | (refine JL_guardb xR xR ?_ ?_ <;> (intro hgb; fail_if_success (have : type_of% hgb := rfl))) | fail)) | fail)) | refine yJ ?_ | fail))
  all_goals (refine J_ret1 rfl (by rfl) fun w H => ⟨_, ⟨?_, rfl⟩, H.sel .nil⟩; refine congrArg Value.bool ?_; rw [Bool.eq_iff_iff]; simp only [decide_eq_true_eq, true_iff, Bool.false_eq_true, false_iff] <;> omega)
/-- A known kind's flags. -/
def fl (k : Int) : Int := if k = 4 then 128 else if k = 7 ∨ k = 8 ∨ k = 17 ∨ k = 18 then 192 else 64
theorem known_s (k : Int) : Pact Try.prog 58 #[.int .i64 k] (fun _ => True) [] (fun u L' => ∃ f : Int, u = .tuple #[.int .u8 f, .bool (kno k)] ∧ (kno k = true → f = fl k) ∧ L' = []) := by
  refine pact Try.func58 rfl Try.ntmps58 rfl ?_
  intro W K _
  (repeat' (first | ((with_reducible apply gL); (first | refine yL0 ?_ | refine yL ?_ | fail)) | refine yJ ?_ | ((with_reducible apply gJ_if); (first | (refine J_if xR ?_ ?_ <;> intro _ <;> (try (exfalso; first | contradiction | omega))) | (refine J_ifb xR ?_ ?_ <;> (intro hgb; subst hgb)) | (refine J_ifb xR ?_ ?_ <;> intro _) | fail)) | fail))
  all_goals (refine J_ret2 rfl (by rfl) (by rfl) fun w H => ⟨_, ⟨_, congrArg (fun b => Value.tuple #[_, .bool b]) ?_, fun h => ?_, rfl⟩, H.sel .nil⟩)
  all_goals first
    | (unfold kno; rw [Bool.eq_iff_iff]; simp only [decide_eq_true_eq, true_iff, Bool.false_eq_true, false_iff]; omega)
    | (unfold kno at h; have h := of_decide_eq_true h; unfold fl; (repeat' split) <;> omega)
theorem others_s (a : Option Addr) (c : Nat) (p : List Rw) (h8 : p.length ≤ 1000) (hsm : ∀ s ∈ p, RwN s) : Pact Try.prog 47 #[.slice a p.length c] (fun w => RawsV w a c p) [] (ret0 (.bool (ckO (oN p) (-1) && decide (p.length ≤ 8)))) := by
  refine pact Try.func47 rfl Try.ntmps47 rfl ?_
  intro W K hK
  have hv : Kn K (fun w => Vw w (.slice a p.length c) 2 p.length (flat rwC p)) := hK.imp fun _ h => h.vw
  (repeat' (first | ((with_reducible apply gL); (first | refine yL0 ?_ | refine yL ?_ | (refine yM ?_; intro _) | ((with_reducible apply gL_gd); (first | (refine JL_guard xR xR ?_ ?_ <;> intro _ <;> (try (exfalso; first | contradiction | omega))) | (refine JL_guardb xR xR ?_ ?_ <;> (intro hgb; subst hgb)) | (refine JL_guardb xR xR ?_ ?_ <;> (intro hgb; fail_if_success (have : type_of% hgb := rfl))) | fail)) | fail)) | refine yJ ?_ | ((with_reducible apply gJ_if); (first | (refine J_if xR ?_ ?_ <;> intro _ <;> (try (exfalso; first | contradiction | omega))) | (refine J_ifb xR ?_ ?_ <;> (intro hgb; subst hgb)) | (refine J_ifb xR ?_ ?_ <;> intro _) | fail)) | fail))
  refine J_loop (α := Nat × Int) (0, -1) (fun x => p.length - x.1) (fun x => x.1 ≤ p.length ∧ ckO (oN p) (-1) = ckO (oN (p.drop x.1)) x.2) (fun x => [(0, .slice a p.length c), (3, .int .i64 x.2), (8, .slice a p.length c), (9, .int .i64 p.length), (10, .int .i64 x.1)]) (fun x => []) ⟨Nat.zero_le _, rfl⟩ ⟨rfl, rfl, rfl, rfl, rfl, trivial⟩ (fun w H => H) ?_
  rintro ⟨k, n⟩ ⟨hk, hck⟩
  dsimp only at hk hck ⊢
  by_cases hlt : k < p.length
  · obtain ⟨s, hs⟩ : ∃ s, p[k]? = some s := ⟨_, List.getElem?_eq_getElem hlt⟩
    have hm := List.mem_of_getElem? hs
    have hsn1 := (hsm s hm).2.1
    obtain ⟨hk1, hk2⟩ := (hsm s hm).1
    rw [ckO_step hs] at hck
    have hkn := known_s s.kind
    rcases hb : kno s.kind with _ | _
    · rw [hb] at hkn hck
      (repeat' (first | ((with_reducible apply gL); (first | refine yL0 ?_ | refine yL ?_ | ((with_reducible apply gL_go); (first | (refine JL_goq (hkn) (hφ := xF) (h := ?_); rintro _ _ ⟨f, rfl, hf, rfl⟩; try simp only [List.cons_append, List.nil_append]) | fail)) | (refine yM ?_; intro _) | ((with_reducible apply gL_gd); (first | (refine JL_guard xR xR ?_ ?_ <;> intro _ <;> (try (exfalso; first | contradiction | omega))) | (refine JL_guardb xR xR ?_ ?_ <;> (intro hgb; subst hgb)) | (refine JL_guardb xR xR ?_ ?_ <;> (intro hgb; fail_if_success (have : type_of% hgb := rfl))) | fail)) | fail)) | refine yJ ?_ | ((with_reducible apply gJ_if); (first | (refine J_if xR ?_ ?_ <;> intro _ <;> (try (exfalso; first | contradiction | omega))) | (refine J_ifb xR ?_ ?_ <;> (intro hgb; subst hgb)) | (refine J_ifb xR ?_ ?_ <;> intro _) | fail)) | fail))
      all_goals (first | (rw [if_pos (by first | exact .inl (by omega) | exact .inr (.inl (by omega)) | exact .inr (.inr (.inr (by omega))))] at hck; rw [hck]; exact J_ret1 rfl (by rfl) fun w H => ⟨_, ⟨rfl, rfl⟩, H.sel .nil⟩) | skip)
      rw [if_neg (by rintro (h | h | h | h) <;> first | omega | (cases h))] at hck
      exact J_again (k + 1, s.kind) (by dsimp only; omega) ⟨by dsimp only; omega, hck⟩ ⟨rfl, rfl, rfl, rfl, rfl, trivial⟩ (fun w H => H.sel .nil)
    · rw [hb] at hkn hck
      rw [if_pos (.inr (.inr (.inl rfl)))] at hck
      rw [hck]
      (repeat' (first | ((with_reducible apply gL); (first | refine yL0 ?_ | refine yL ?_ | ((with_reducible apply gL_go); (first | (refine JL_goq (hkn) (hφ := xF) (h := ?_); rintro _ _ ⟨f, rfl, hf, rfl⟩; try simp only [List.cons_append, List.nil_append]) | fail)) | (refine yM ?_; intro _) | ((with_reducible apply gL_gd); (first | (refine JL_guard xR xR ?_ ?_ <;> intro _ <;> (try (exfalso; first | contradiction | omega))) | (refine JL_guardb xR xR ?_ ?_ <;> (intro hgb; subst hgb)) | (refine JL_guardb xR xR ?_ ?_ <;> (intro hgb; fail_if_success (have : type_of% hgb := rfl))) | fail)) | fail)) | refine yJ ?_ | ((with_reducible apply gJ_if); (first | (refine J_if xR ?_ ?_ <;> intro _ <;> (try (exfalso; first | contradiction | omega))) | (refine J_ifb xR ?_ ?_ <;> (intro hgb; subst hgb)) | (refine J_ifb xR ?_ ?_ <;> intro _) | fail)) | fail))
      all_goals exact J_ret1 rfl (by rfl) fun w H => ⟨_, ⟨rfl, rfl⟩, H.sel .nil⟩
  · have hke : k = p.length := by omega
    have hck2 : ckO (oN p) (-1) = true := by rw [hck, hke, List.drop_length]; rfl
    rw [hck2]
    (repeat' (first | ((with_reducible apply gL); (first | refine yL0 ?_ | refine yL ?_ | (refine yM ?_; intro _) | ((with_reducible apply gL_gd); (first | (refine JL_guard xR xR ?_ ?_ <;> intro _ <;> (try (exfalso; first | contradiction | omega))) | (refine JL_guardb xR xR ?_ ?_ <;> (intro hgb; subst hgb)) | (refine JL_guardb xR xR ?_ ?_ <;> (intro hgb; fail_if_success (have : type_of% hgb := rfl))) | fail)) | fail)) | refine yJ ?_ | ((with_reducible apply gJ_if); (first | (refine J_if xR ?_ ?_ <;> intro _ <;> (try (exfalso; first | contradiction | omega))) | (refine J_ifb xR ?_ ?_ <;> (intro hgb; subst hgb)) | (refine J_ifb xR ?_ ?_ <;> intro _) | fail)) | fail))
    refine J_ret1 rfl (by rfl) fun w H => ⟨_, ⟨?_, rfl⟩, H.sel .nil⟩
    refine congrArg Value.bool ?_
    rw [Bool.eq_iff_iff]
    simp
    omega
theorem check_s (d : At) (hd : AtF d) : Pact Try.prog 29 #[.agg (atC d).toArray] (fun w => AtV w d) [] (ret0 (.int .i64 (er (okN d.nf)))) := by
  refine pact Try.func29 rfl Try.ntmps29 rfl ?_
  intro W K hK
  have hd1 := hd.path
  have hd2 := hd.comms
  have hd3 := hd.others
  have hPC := pchk_s d.pa d.pc d.path (by omega) hd.num.path
  have hOC := others_s d.oa d.oc d.others (by omega) hd.num.others
  have hho := hop_s d.next
  rcases hp : ckP (pN d.path) 0 with _ | _
  · rw [hp] at hPC
    have hok : okN d.nf = false := okN_f fun h => by rw [hp] at h; exact absurd h.2.1 (by decide)
    rw [hok]
    (repeat' (first | ((with_reducible apply gL); (first | refine yL0 ?_ | refine yL ?_ | ((with_reducible apply gL_go); (first | (refine JL_goq (hPC) (hφ := (by (try simp only [List.cons_append, List.nil_append]); exact fun w hr => (hK w hr.1).path)) (h := ?_); rintro _ _ ⟨rfl, rfl⟩; try simp only [List.cons_append, List.nil_append]) | fail)) | (refine yM ?_; intro _) | ((with_reducible apply gL_gd); (first | (refine JL_guard xR xR ?_ ?_ <;> intro _ <;> (try (exfalso; first | contradiction | omega))) | (refine JL_guardb xR xR ?_ ?_ <;> (intro hgb; subst hgb)) | (refine JL_guardb xR xR ?_ ?_ <;> (intro hgb; fail_if_success (have : type_of% hgb := rfl))) | fail)) | fail)) | refine yJ ?_ | ((with_reducible apply gJ_if); (first | (refine J_if xR ?_ ?_ <;> intro _ <;> (try (exfalso; first | contradiction | omega))) | (refine J_ifb xR ?_ ?_ <;> (intro hgb; subst hgb)) | (refine J_ifb xR ?_ ?_ <;> intro _) | fail)) | fail))
    all_goals exact J_ret1 rfl (by rfl) fun w H => ⟨_, ⟨rfl, rfl⟩, H.sel .nil⟩
  · rw [hp] at hPC
    rcases ho : (ckO (oN d.others) (-1) && decide (d.others.length ≤ 8)) with _ | _
    · rw [ho] at hOC
      have hok : okN d.nf = false := okN_f fun ⟨_, _, _, _, _, h6, h7⟩ => by rw [h7, decide_eq_true h6] at ho; cases ho
      rw [hok]
      (repeat' (first | ((with_reducible apply gL); (first | refine yL0 ?_ | refine yL ?_ | ((with_reducible apply gL_go); (first | (refine JL_goq (hPC) (hφ := (by (try simp only [List.cons_append, List.nil_append]); exact fun w hr => (hK w hr.1).path)) (h := ?_); rintro _ _ ⟨rfl, rfl⟩; try simp only [List.cons_append, List.nil_append]) | (refine JL_goq (hOC) (hφ := (by (try simp only [List.cons_append, List.nil_append]); exact fun w hr => (hK w hr.1).others)) (h := ?_); rintro _ _ ⟨rfl, rfl⟩; try simp only [List.cons_append, List.nil_append]) | (refine JL_goq (hho) (hφ := xF) (h := ?_); rintro _ _ ⟨rfl, rfl⟩; try simp only [List.cons_append, List.nil_append]) | fail)) | (refine yM ?_; intro _) | ((with_reducible apply gL_gd); (first | (refine JL_guard xR xR ?_ ?_ <;> intro _ <;> (try (exfalso; first | contradiction | omega))) | (refine JL_guardb xR xR ?_ ?_ <;> (intro hgb; subst hgb)) | (refine JL_guardb xR xR ?_ ?_ <;> (intro hgb; fail_if_success (have : type_of% hgb := rfl))) | fail)) | fail)) | refine yJ ?_ | ((with_reducible apply gJ_if); (first | (refine J_if xR ?_ ?_ <;> intro _ <;> (try (exfalso; first | contradiction | omega))) | (refine J_ifb xR ?_ ?_ <;> (intro hgb; subst hgb)) | (refine J_ifb xR ?_ ?_ <;> intro _) | fail)) | fail))
      all_goals exact J_ret1 rfl (by rfl) fun w H => ⟨_, ⟨rfl, rfl⟩, H.sel .nil⟩
    · rw [ho] at hOC
      obtain ⟨ho1, ho2⟩ : ckO (oN d.others) (-1) = true ∧ d.others.length ≤ 8 := by
        rw [Bool.and_eq_true, decide_eq_true_eq] at ho; exact ho
      (repeat' (first | ((with_reducible apply gL); (first | refine yL0 ?_ | refine yL ?_ | ((with_reducible apply gL_go); (first | (refine JL_goq (hPC) (hφ := (by (try simp only [List.cons_append, List.nil_append]); exact fun w hr => (hK w hr.1).path)) (h := ?_); rintro _ _ ⟨rfl, rfl⟩; try simp only [List.cons_append, List.nil_append]) | (refine JL_goq (hOC) (hφ := (by (try simp only [List.cons_append, List.nil_append]); exact fun w hr => (hK w hr.1).others)) (h := ?_); rintro _ _ ⟨rfl, rfl⟩; try simp only [List.cons_append, List.nil_append]) | (refine JL_goq (hho) (hφ := xF) (h := ?_); rintro _ _ ⟨rfl, rfl⟩; try simp only [List.cons_append, List.nil_append]) | fail)) | (refine yM ?_; intro _) | ((with_reducible apply gL_gd); (first | (refine JL_guard xR xR ?_ ?_ <;> intro _ <;> (try (exfalso; first | contradiction | omega))) | (refine JL_guardb xR xR ?_ ?_ <;> (intro hgb; subst hgb)) | (refine JL_guardb xR xR ?_ ?_ <;> (intro hgb; fail_if_success (have : type_of% hgb := rfl))) | fail)) | fail)) | refine yJ ?_ | ((with_reducible apply gJ_if); (first | (refine J_if xR ?_ ?_ <;> intro _ <;> (try (exfalso; first | contradiction | omega))) | (refine J_ifb xR ?_ ?_ <;> (intro hgb; subst hgb)) | (refine J_ifb xR ?_ ?_ <;> intro _) | fail)) | fail))
      all_goals first
        | (have hok : okN d.nf = false := okN_f (fun ⟨h1, _, h3, h4, h5, h6, _⟩ => by first | omega | (have := h4 (by assumption); omega))
           rw [hok]
           exact J_ret1 rfl (by rfl) fun w H => ⟨_, ⟨rfl, rfl⟩, H.sel .nil⟩)
        | (have hok : okN d.nf = true := okN_t (by omega) hp (by omega) (by first | (intro _; assumption) | (intro hh; exfalso; have h2 : true = false := hh.symm.trans (by assumption); cases h2)) (by omega) (by omega) ho1
           rw [hok]
           exact J_ret1 rfl (by rfl) fun w H => ⟨_, ⟨rfl, rfl⟩, H.sel .nil⟩)
end Go.Proofs.Ytdnokmpnemaoaaa
namespace Go.Proofs.Ytdnokmpnemaoaaa
set_option linter.unusedSimpArgs false
set_option linter.unusedVariables false
set_option maxRecDepth 20000
set_option maxHeartbeats 4000000
open Go.RowKit Go.Pm

theorem cloneU_s (a : Option Addr) (c : Nat) (l : List Int) (hl : l.length ≤ 35184372088832) : Pact Try.prog 60 #[.slice a l.length c] (fun w => Vw w (.slice a l.length c) 1 l.length (flat u32C l)) [] (fun u L' => ∃ a c, u = .slice a l.length c ∧ L' = [Ar 22 1 u32C (.slice a l.length c) l]) := by
  refine pact Try.func60 rfl Try.ntmps60 rfl ?_
  intro W K hK
  cases a with
  | none =>
    refine J_fact (φ := l = []) (fun w H => ?_) ?_
    · obtain ⟨a', c', he, _, _, _, h4, _⟩ := hK.of H
      cases he
      exact List.eq_nil_of_length_eq_zero (h4 rfl).1
    · rintro rfl
      (repeat' (first | ((with_reducible apply gL); (first | refine yL0 ?_ | refine yL ?_ | (refine yM ?_; intro _) | (refine yA ?_; intro _ _ _ _) | fail)) | refine yJ ?_ | ((with_reducible apply gJ_if); (first | (refine J_if xR ?_ ?_ <;> intro _ <;> (try (exfalso; first | contradiction | omega))) | (refine J_ifb xR ?_ ?_ <;> (intro hgb; subst hgb)) | (refine J_ifb xR ?_ ?_ <;> intro _) | fail)) | fail))
      exact J_ret1 rfl (by rfl) fun w H => ⟨_, ⟨none, 0, rfl, rfl⟩, (Ow.arNil (e := 22) (sz := 1) (enc := u32C) H).sel xZ⟩
  | some p =>
    (repeat' (first | ((with_reducible apply gL); (first | refine yL0 ?_ | ((with_reducible apply gL_c_append); (first | (refine JL_appL u32C (fs := l) (tabE etab_ok xR) xR xR xA (Src.kn hK) xC xL (all_one _ (by intro _ _; rfl)) (by omega) xR xR ?_; intro ad c2 _ _) | fail)) | refine yL ?_ | (refine yM ?_; intro _) | (refine yA ?_; intro _ _ _ _) | fail)) | refine yJ ?_ | ((with_reducible apply gJ_if); (first | (refine J_if xR ?_ ?_ <;> intro _ <;> (try (exfalso; first | contradiction | omega))) | (refine J_ifb xR ?_ ?_ <;> (intro hgb; subst hgb)) | (refine J_ifb xR ?_ ?_ <;> intro _) | fail)) | fail))
    exact J_ret1 rfl (by rfl) fun w H => ⟨_, ⟨ad, c2, rfl, rfl⟩, H.sel xZ⟩
theorem cloneB_s (a : Option Addr) (c : Nat) (l : List Int) (hl : l.length ≤ 140737488355328) : Pact Try.prog 61 #[.slice a l.length c] (fun w => Vw w (.slice a l.length c) 1 l.length (flat byC l)) [] (fun u L' => ∃ a c, u = .slice a l.length c ∧ L' = [Ar 5 1 byC (.slice a l.length c) l]) := by
  refine pact Try.func61 rfl Try.ntmps61 rfl ?_
  intro W K hK
  cases a with
  | none =>
    refine J_fact (φ := l = []) (fun w H => ?_) ?_
    · obtain ⟨a', c', he, _, _, _, h4, _⟩ := hK.of H
      cases he
      exact List.eq_nil_of_length_eq_zero (h4 rfl).1
    · rintro rfl
      (repeat' (first | ((with_reducible apply gL); (first | refine yL0 ?_ | refine yL ?_ | (refine yM ?_; intro _) | (refine yA ?_; intro _ _ _ _) | fail)) | refine yJ ?_ | ((with_reducible apply gJ_if); (first | (refine J_if xR ?_ ?_ <;> intro _ <;> (try (exfalso; first | contradiction | omega))) | (refine J_ifb xR ?_ ?_ <;> (intro hgb; subst hgb)) | (refine J_ifb xR ?_ ?_ <;> intro _) | fail)) | fail))
      exact J_ret1 rfl (by rfl) fun w H => ⟨_, ⟨none, 0, rfl, rfl⟩, (Ow.arNil (e := 5) (sz := 1) (enc := byC) H).sel xZ⟩
  | some p =>
    (repeat' (first | ((with_reducible apply gL); (first | refine yL0 ?_ | ((with_reducible apply gL_c_append); (first | (refine JL_appL byC (fs := l) (tabE etab_ok xR) xR xR xA (Src.kn hK) xC xL xU (by omega) xR xR ?_; intro ad c2 _ _) | fail)) | refine yL ?_ | (refine yM ?_; intro _) | (refine yA ?_; intro _ _ _ _) | fail)) | refine yJ ?_ | ((with_reducible apply gJ_if); (first | (refine J_if xR ?_ ?_ <;> intro _ <;> (try (exfalso; first | contradiction | omega))) | (refine J_ifb xR ?_ ?_ <;> (intro hgb; subst hgb)) | (refine J_ifb xR ?_ ?_ <;> intro _) | fail)) | fail))
    exact J_ret1 rfl (by rfl) fun w H => ⟨_, ⟨ad, c2, rfl, rfl⟩, H.sel xZ⟩
abbrev sgO (s : Sg) : HP := Ar 22 1 u32C (.slice s.a s.as_.length s.c) s.as_
def sgsO (q : List Sg) : HP := sats (q.map sgO)
theorem tk_mem {A : HP} {L : List HP} (h : A ∈ L) : ∃ R, Tk L A R := by
  induction L with
  | nil => cases h
  | cons B L ih =>
    rcases List.mem_cons.1 h with rfl | h
    · exact ⟨L, .here⟩
    · obtain ⟨R, t⟩ := ih h
      exact ⟨B :: R, .there t⟩
theorem sgsV {K : Hl} {q : List Sg} {w : World} (hr : Rdw K (q.map sgO) w) : ∀ s ∈ q, segV w s := fun s hs => by
  obtain ⟨R, t⟩ := tk_mem (List.mem_map.2 ⟨s, hs, rfl⟩ : sgO s ∈ q.map sgO)
  exact Src.ar t w hr
theorem Ow.sgsHas {W : World} {K : Hl} {L R : List HP} {w : World} {q : List Sg} (H : Ow W K L w) (t : Tk L (sgsO q) R) : Ow W K (has (fun w => ∀ s ∈ q, segV w s) :: R) w :=
  Ow.shut H (.cons t .nil) (fun k hk => by
    have h1 : sgsO q k := by
      obtain ⟨h1, h2, a, b, _, rfl⟩ := hk
      have : h1.add h2 = h1 := by funext x; simp [Hl.add, b x]
      rw [this]; exact a
    exact has_of (M := q.map sgO) (fun w hr => sgsV hr) k h1)
theorem Ow.sgsSnoc {W : World} {K : Hl} {L M R : List HP} {w : World} {q : List Sg} {s : Sg} (H : Ow W K L w) (t : Tk L (sgsO q) M) (t2 : Tk M (sgO s) R) : Ow W K (sgsO (q ++ [s]) :: R) w := by
  have := H.snoc t t2
  unfold sgsO
  rw [List.map_append]
  exact this
theorem Ow.sgsNil {W : World} {K : Hl} {L : List HP} {w : World} (H : Ow W K L w) : Ow W K (sgsO [] :: L) w := H.satsNil
/-- Owned, part by part. -/
def ownAt (d : At) : HP := sats [Ar 108 2 sgC (.slice d.pa d.path.length d.pc) d.path, sgsO d.path, Ar 22 1 u32C (.slice d.ca d.comms.length d.cc) d.comms, has (fun w => RawsV w d.oa d.oc d.others)]
def CopyO (d : At) (v : Value) (L' : List HP) : Prop := ∃ d', AtF d' ∧ d'.nf = d.nf ∧ v = .agg (atC d').toArray ∧ L' = [ownAt d']
theorem copy_s (d : At) (hd : AtF d) : Pact Try.prog 50 #[.agg (atC d).toArray] (fun w => AtV w d) [] (CopyO d) := by
  refine pact Try.func50 rfl Try.ntmps50 rfl ?_
  intro W K hK
  have hd1 := hd.path
  have hd2 := hd.comms
  have hd3 := hd.others
  have hcv : Kn K (fun w => Vw w (.slice d.ca d.comms.length d.cc) 1 d.comms.length (flat u32C d.comms)) := hK.imp fun _ h => h.comms
  have hov : Kn K (fun w => Vw w (.slice d.oa d.others.length d.oc) 2 d.others.length (flat rwC d.others)) := hK.imp fun _ h => h.others.vw
  have hpv : Kn K (fun w => Vw w (.slice d.pa d.path.length d.pc) 2 d.path.length (flat sgC d.path)) := hK.imp fun _ h => h.path.vw
  (repeat' (first | ((with_reducible apply gL); (first | refine yL0 ?_ | refine yL ?_ | ((with_reducible apply gL_go); (first | (refine JL_goq (cloneU_s d.ca d.cc d.comms (by omega)) (hφ := (by (try simp only [List.cons_append, List.nil_append]); exact fun w hr => hcv w hr.1)) (h := ?_); rintro _ _ ⟨ad2, c2, rfl, rfl⟩; try simp only [List.cons_append, List.nil_append]) | fail)) | (refine yM ?_; intro _) | fail)) | ((with_reducible apply gD); (first | (refine JD_nil ?_; try simp only [List.cons_append, List.nil_append]) | (refine JD_bar ?_; try simp only [List.cons_append, List.nil_append]) | refine yD ?_ | ((with_reducible apply gD_go); (first | (refine JD_goq (cloneU_s d.ca d.cc d.comms (by omega)) (hφ := (by (try simp only [List.cons_append, List.nil_append]); exact fun w hr => hcv w hr.1)) (h := ?_); rintro _ _ ⟨ad2, c2, rfl, rfl⟩; try simp only [List.cons_append, List.nil_append]) | fail)) | (refine yE ?_; intro _) | (refine yB ?_; intro _ _ _ _) | fail)) | refine yJ ?_ | ((with_reducible apply gJ_if); (first | (refine J_if xR ?_ ?_ <;> intro _ <;> (try (exfalso; first | contradiction | omega))) | (refine J_ifb xR ?_ ?_ <;> (intro hgb; subst hgb)) | (refine J_ifb xR ?_ ?_ <;> intro _) | fail)) | refine J_draw (id := 6) [0, 1, 2, 3, 4, 5, 6, 7, 8] [9, 10, 11] mixed xC xD xD ?_ | refine J_draw (id := 11) [0, 1, 2, 3, 4, 5, 6, 7, 8] [9, 10, 11] mixed xC xD xD ?_ | fail))
  rename_i b1 b2 b3
  refine J_loop (α := Lc) ⟨[], none, 0⟩ (fun x => d.path.length - x.q.length) (fun x => x.q.length ≤ d.path.length ∧ pN x.q = pN (d.path.take x.q.length)) (fun x => [(1, .pointer (some ⟨b1, 0, none⟩)), (2, .pointer (some ⟨b2, 0, none⟩)), (3, .pointer (some ⟨b3, 0, none⟩)), (16, .slice d.pa d.path.length d.pc), (17, .int .i64 d.path.length), (18, .int .i64 x.q.length)])
    (fun x => [pts b3 (cpC d x.q.length x.ad x.cc ad2 c2 none 0 0) 30, Ar 108 2 sgC (.slice x.ad x.q.length x.cc) x.q, sgsO x.q, Ar 22 1 u32C (.slice ad2 d.comms.length c2) d.comms, pts b2 [.int .i64 0, .slice none 0 0, .int .u32 0, .bool false, .int .u32 0, .bool false, .int .u32 0, .bool false, .bool false, .int .u32 0, .int .u32 0, .slice none 0 0, .slice none 0 0] 30, pts b1 (atC d) 30]) ⟨Nat.zero_le _, rfl⟩ ⟨rfl, rfl, rfl, rfl, rfl, rfl, trivial⟩ (fun w H => (Ow.sgsNil (Ow.arNil (e := 108) (sz := 2) (enc := sgC) H)).sel xZ) ?_
  rintro ⟨q, ad, cc⟩ ⟨hq, hsame⟩
  dsimp only at hq hsame ⊢
  by_cases hlt : q.length < d.path.length
  · obtain ⟨s, hs⟩ : ∃ s, d.path[q.length]? = some s := ⟨_, List.getElem?_eq_getElem hlt⟩
    have hm := List.mem_of_getElem? hs
    have hsn1 := (hd.num.path s hm).1
    (repeat' (first | ((with_reducible apply gL); (first | refine yL0 ?_ | refine yL ?_ | ((with_reducible apply gL_go); (first | (refine JL_goq (cloneU_s s.a s.c s.as_ hsn1) (hφ := (by (try simp only [List.cons_append, List.nil_append]); exact fun w hr => (hK w hr.1).path.segs s hm)) (h := ?_); rintro _ _ ⟨ad3, c3, rfl, rfl⟩; try simp only [List.cons_append, List.nil_append]) | fail)) | (refine yM ?_; intro _) | fail)) | ((with_reducible apply gD); (first | (refine JD_nil ?_; try simp only [List.cons_append, List.nil_append]) | (refine JD_bar ?_; try simp only [List.cons_append, List.nil_append]) | ((with_reducible apply gD_c_append); (first | (refine JD_ap1 (z := Sg.mk s.set ad3 c3 s.as_) (tabE etab_ok (by rfl)) (by rfl) (by rfl) xA xA (by decide +kernel) (by rfl) (by intro _; rfl) (by rfl) (by omega) (by rfl) ?_; intro ad4 c4 _ _) | fail)) | refine yD ?_ | ((with_reducible apply gD_go); (first | (refine JD_goq (cloneU_s s.a s.c s.as_ hsn1) (hφ := (by (try simp only [List.cons_append, List.nil_append]); exact fun w hr => (hK w hr.1).path.segs s hm)) (h := ?_); rintro _ _ ⟨ad3, c3, rfl, rfl⟩; try simp only [List.cons_append, List.nil_append]) | fail)) | (refine yE ?_; intro _) | (refine yB ?_; intro _ _ _ _) | fail)) | refine yJ ?_ | ((with_reducible apply gJ_if); (first | (refine J_if xR ?_ ?_ <;> intro _ <;> (try (exfalso; first | contradiction | omega))) | (refine J_ifb xR ?_ ?_ <;> (intro hgb; subst hgb)) | (refine J_ifb xR ?_ ?_ <;> intro _) | fail)) | refine J_draw (id := 6) [0, 1, 2, 3, 4, 5, 6, 7, 8] [9, 10, 11] mixed xC xD xD ?_ | refine J_draw (id := 11) [0, 1, 2, 3, 4, 5, 6, 7, 8] [9, 10, 11] mixed xC xD xD ?_ | fail))
    refine J_again ⟨q ++ [Sg.mk s.set ad3 c3 s.as_], ad4, c4⟩ (by simp; omega) ⟨by simp; omega, ?_⟩ ⟨rfl, rfl, rfl, rfl, rfl, ?_, trivial⟩ (fun w H => ?_)
    · simp only [List.length_append, List.length_cons, List.length_nil]
      rw [take_snoc hs]
      unfold pN at hsame ⊢
      rw [List.map_append, List.map_append, hsame]
      rfl
    · show some _ = some _
      simp
    · simp only [List.length_append, List.length_cons, List.length_nil]
      exact (Ow.sgsSnoc (s := Sg.mk s.set ad3 c3 s.as_) H xA xA).sel xZ
  · obtain hql : q.length = d.path.length := by omega
    rw [hql, List.take_length] at hsame
    (repeat' (first | ((with_reducible apply gL); (first | refine yL0 ?_ | refine yL ?_ | (refine yM ?_; intro _) | fail)) | ((with_reducible apply gD); (first | (refine JD_nil ?_; try simp only [List.cons_append, List.nil_append]) | (refine JD_bar ?_; try simp only [List.cons_append, List.nil_append]) | refine yD ?_ | (refine yE ?_; intro _) | (refine yB ?_; intro _ _ _ _) | fail)) | refine yJ ?_ | ((with_reducible apply gJ_if); (first | (refine J_if xR ?_ ?_ <;> intro _ <;> (try (exfalso; first | contradiction | omega))) | (refine J_ifb xR ?_ ?_ <;> (intro hgb; subst hgb)) | (refine J_ifb xR ?_ ?_ <;> intro _) | fail)) | refine J_draw (id := 6) [0, 1, 2, 3, 4, 5, 6, 7, 8] [9, 10, 11] mixed xC xD xD ?_ | refine J_draw (id := 11) [0, 1, 2, 3, 4, 5, 6, 7, 8] [9, 10, 11] mixed xC xD xD ?_ | fail))
    refine J_loop (α := Lo) ⟨[], none, 0⟩ (fun x => d.others.length - x.q.length) (fun x => x.q.length ≤ d.others.length ∧ oN x.q = oN (d.others.take x.q.length)) (fun x => [(1, .pointer (some ⟨b1, 0, none⟩)), (2, .pointer (some ⟨b2, 0, none⟩)), (3, .pointer (some ⟨b3, 0, none⟩)), (35, .slice d.oa d.others.length d.oc), (36, .int .i64 d.others.length), (37, .int .i64 x.q.length)])
      (fun x => [pts b3 (cpC d q.length ad cc ad2 c2 x.ad x.q.length x.cc) 30, Ar 113 2 rwC (.slice x.ad x.q.length x.cc) x.q, has (fun w => ∀ s ∈ x.q, rawV w s), Ar 108 2 sgC (.slice ad q.length cc) q, sgsO q, Ar 22 1 u32C (.slice ad2 d.comms.length c2) d.comms, pts b2 [.int .i64 0, .slice none 0 0, .int .u32 0, .bool false, .int .u32 0, .bool false, .int .u32 0, .bool false, .bool false, .int .u32 0, .int .u32 0, .slice none 0 0, .slice none 0 0] 30, pts b1 (atC d) 30]) ⟨Nat.zero_le _, rfl⟩ ⟨rfl, rfl, rfl, rfl, rfl, rfl, trivial⟩ (fun w H => (Ow.hasTrue (φ := fun w => ∀ s ∈ ([] : List Rw), rawV w s) (Ow.arNil (e := 113) (sz := 2) (enc := rwC) H) (by intro _ _ h; exact absurd h List.not_mem_nil)).sel xZ) ?_
    rintro ⟨o, oa, oc⟩ ⟨ho, hso⟩
    dsimp only at ho hso ⊢
    by_cases hol : o.length < d.others.length
    · obtain ⟨s, hs⟩ : ∃ s, d.others[o.length]? = some s := ⟨_, List.getElem?_eq_getElem hol⟩
      have hm := List.mem_of_getElem? hs
      have hsn1 := (hd.num.others s hm).2.1
      (repeat' (first | ((with_reducible apply gL); (first | refine yL0 ?_ | refine yL ?_ | ((with_reducible apply gL_go); (first | (refine JL_goq (cloneB_s s.a s.c s.data hsn1) (hφ := (by (try simp only [List.cons_append, List.nil_append]); exact fun w hr => (hK w hr.1).others.raws s hm)) (h := ?_); rintro _ _ ⟨ad3, c3, rfl, rfl⟩; try simp only [List.cons_append, List.nil_append]) | fail)) | (refine yM ?_; intro _) | fail)) | ((with_reducible apply gD); (first | (refine JD_nil ?_; try simp only [List.cons_append, List.nil_append]) | (refine JD_bar ?_; try simp only [List.cons_append, List.nil_append]) | ((with_reducible apply gD_c_append); (first | (refine JD_ap1 (z := Rw.mk s.kind ad3 c3 s.data) (tabE etab_ok (by rfl)) (by rfl) (by rfl) xA xA (by decide +kernel) (by rfl) (by intro _; rfl) (by rfl) (by omega) (by rfl) ?_; intro ad4 c4 _ _) | fail)) | refine yD ?_ | ((with_reducible apply gD_go); (first | (refine JD_goq (cloneB_s s.a s.c s.data hsn1) (hφ := (by (try simp only [List.cons_append, List.nil_append]); exact fun w hr => (hK w hr.1).others.raws s hm)) (h := ?_); rintro _ _ ⟨ad3, c3, rfl, rfl⟩; try simp only [List.cons_append, List.nil_append]) | fail)) | (refine yE ?_; intro _) | (refine yB ?_; intro _ _ _ _) | fail)) | refine yJ ?_ | ((with_reducible apply gJ_if); (first | (refine J_if xR ?_ ?_ <;> intro _ <;> (try (exfalso; first | contradiction | omega))) | (refine J_ifb xR ?_ ?_ <;> (intro hgb; subst hgb)) | (refine J_ifb xR ?_ ?_ <;> intro _) | fail)) | refine J_draw (id := 6) [0, 1, 2, 3, 4, 5, 6, 7, 8] [9, 10, 11] mixed xC xD xD ?_ | refine J_draw (id := 11) [0, 1, 2, 3, 4, 5, 6, 7, 8] [9, 10, 11] mixed xC xD xD ?_ | fail))
      refine J_again ⟨o ++ [Rw.mk s.kind ad3 c3 s.data], ad4, c4⟩ (by simp; omega) ⟨by simp; omega, ?_⟩ ⟨rfl, rfl, rfl, rfl, rfl, ?_, trivial⟩ (fun w H => ?_)
      · simp only [List.length_append, List.length_cons, List.length_nil]
        rw [take_snoc hs]
        unfold oN at hso ⊢
        rw [List.map_append, List.map_append, hso]
        rfl
      · show some _ = some _
        simp
      · simp only [List.length_append, List.length_cons, List.length_nil]
        refine (Ow.has (M := [Ar 5 1 byC (.slice ad3 s.data.length c3) s.data, has (fun w => ∀ s ∈ o, rawV w s)]) (φ := fun w => ∀ x ∈ o ++ [Rw.mk s.kind ad3 c3 s.data], rawV w x) H xZ ?_).sel xZ
        intro w hr x hx
        rcases List.mem_append.1 hx with hx | hx
        · exact hr.has (.there .here) x hx
        · obtain rfl := List.mem_singleton.1 hx
          exact Src.ar .here w hr
    · have hoe : o.length = d.others.length := by omega
      rw [hoe, List.take_length] at hso
      (repeat' (first | ((with_reducible apply gL); (first | refine yL0 ?_ | refine yL ?_ | (refine yM ?_; intro _) | fail)) | ((with_reducible apply gD); (first | (refine JD_nil ?_; try simp only [List.cons_append, List.nil_append]) | (refine JD_bar ?_; try simp only [List.cons_append, List.nil_append]) | refine yD ?_ | (refine yE ?_; intro _) | (refine yB ?_; intro _ _ _ _) | fail)) | refine yJ ?_ | ((with_reducible apply gJ_if); (first | (refine J_if xR ?_ ?_ <;> intro _ <;> (try (exfalso; first | contradiction | omega))) | (refine J_ifb xR ?_ ?_ <;> (intro hgb; subst hgb)) | (refine J_ifb xR ?_ ?_ <;> intro _) | fail)) | refine J_draw (id := 6) [0, 1, 2, 3, 4, 5, 6, 7, 8] [9, 10, 11] mixed xC xD xD ?_ | refine J_draw (id := 11) [0, 1, 2, 3, 4, 5, 6, 7, 8] [9, 10, 11] mixed xC xD xD ?_ | fail))
      refine J_retC (cs := cpC d q.length ad cc ad2 c2 oa o.length oc) rfl (by rfl) xA (by rfl) fun w H => ⟨_, ⟨d.at_ q ad cc d.comms ad2 c2 o oa oc, At.at_num hd _ _ _ _ _ _ _ _ _ hsame rfl hso, d.at_nf _ _ _ _ _ _ _ _ _ hsame rfl hso, rfl, rfl⟩, ?_⟩
      have H := Ow.has (M := [Ar 113 2 rwC (.slice oa o.length oc) o, has (fun w => ∀ s ∈ o, rawV w s)]) (φ := fun w => RawsV w oa oc o) H xZ (fun w hr => ⟨Src.ar .here w hr, fun s hs => hr.has (.there .here) s hs⟩)
      have H := H.sel (M := [Ar 108 2 sgC (.slice ad q.length cc) q, sgsO q, Ar 22 1 u32C (.slice ad2 d.comms.length c2) d.comms, has (fun w => RawsV w oa oc o)]) xZ
      exact Ow.unflat (As := [Ar 108 2 sgC (.slice ad q.length cc) q, sgsO q, Ar 22 1 u32C (.slice ad2 d.comms.length c2) d.comms, has (fun w => RawsV w oa oc o)]) H xZ
end Go.Proofs.Ytdnokmpnemaoaaa
namespace Go.Proofs.Ytdnokmpnemaoaaa
set_option linter.unusedSimpArgs false
set_option linter.unusedVariables false
set_option maxRecDepth 20000
set_option maxHeartbeats 4000000
open Go.RowKit Go.Pm

theorem bytesEl : El Try.prog 111 5 1 1 := El.mk' (z := .int .u8 0) Try.underlying111 (by kernel_rfl) rfl (by omega) (by omega)

theorem OwnB.empty {e : TypeId} {w : World} {base g cap : Nat} {cur : Array Value} (h : Blk w g cur e) (hb : base ≤ g) (hs : cur.size = cap) (hm : cap ≤ maxLen) : OwnB e w base (.slice (some ⟨g, 0, none⟩) 0 cap) [] :=
  ⟨rfl, .inr ⟨g, cap, cur, rfl, hb, h, Nat.zero_le _, hm, by omega, rfl⟩⟩

theorem Lib.run_eql_slice_nil {P : Program} (w : World) (t e : TypeId) (a : Option Addr) (l c : Nat) (h : P.underlying t = some (.slice e)) : (binOp .eql t (.slice a l c) (.slice none 0 0)).run P w = .ok (.bool a.isNone) w := by
  simp [binOp, Sem.run_bind, run_equal_slice_nil w t e a l c h]

theorem grow_nil (n : Nat) (w : World) (hn : n ≤ 140737488355328) :
    Calls Try.prog 86 #[.slice none 0 0, .int .i64 n] w (FreshB 5 w []) := by
  obtain ⟨i, z, hi, hz, hsz, hby, hzs⟩ := bytesEl.inf
  have hm : n ≤ 9223372036854775807 := by omega
  by_cases h0 : n = 0
  · subst h0
    go_enter Try.func86, Try.ntmps86
    go_wp2
    go_ret
    exact ⟨_, rfl, OwnB.nil _ _ _, Only.refl _ _⟩
  · have hpos : 0 < n := by omega
    have HR := Lib.hid (Lib.run_append_nil_zeros (P := Try.prog) w 111 3 111 5 i z .i64 .i64 Try.underlying111 Try.underlying3 hi hz n hpos (by omega) (by omega) (by rw [hby]; omega))
    have HC1 := Lib.hid (grownCap_ge w n 0 5)
    have HC2 := Lib.hid (grownCap_le_maxLen w n 0 5 (by unfold maxLen; omega))
    generalize z.cells = zc at *
    have HZ := Lib.hid hzs
    generalize grownCap w n 0 5 = c at *
    have hc : n ≤ c := HC1.out
    have hc2 : c ≤ 9223372036854775807 := by have := HC2.out; unfold maxLen at this; omega
    go_enter Try.func86, Try.ntmps86
    go_wp2_with (at_builtin; refine Lib.wpList_append_run _ rfl _ _ _ _ rfl _ _ rfl rfl _ _ HR.out ?_)
    go_ret
    refine ⟨_, rfl, OwnB.empty (Blk.new w.drew _ _) (Nat.le_refl _) ?_ HC2.out, ((Only.refl _ _).drew).alloc _⟩
    rw [Array.size_append, size_zeroCells, size_zeroCells, HZ.out]; omega

def SlR (l : List Int) (u : Value) (L' : List HP) : Prop := ∃ a c, u = .slice a l.length c ∧ L' = [Ar 5 1 byC (.slice a l.length c) l]
theorem ar_bytes (v : Value) (l : List Int) : SlB 5 v l = Ar 5 1 byC v l := by
  unfold SlB Ar
  rw [flat_byC]
theorem grow_s (n : Nat) (hn : n ≤ 140737488355328) : Pact Try.prog 86 #[.slice none 0 0, .int .i64 n] (fun _ => True) [] (SlR []) := fun W K w hK H =>
  (grow_nil n w hn).mono fun e w' h => by
    obtain ⟨v, rfl, ho, hO⟩ := h
    obtain ⟨a, c, rfl, h1, h2⟩ := ho.vw.shape
    have H2 := H.freshB hO ho
    rw [ar_bytes] at H2
    exact ⟨_, _, ⟨a, c, rfl, rfl⟩, rfl, H2⟩
/-- Bytes somewhere. -/
structure Bs where
  a : Option Addr
  c : Nat
  l : List Int
def bsC (s : Bs) : List Value := [.slice s.a s.l.length s.c]
def bsV (w : World) (s : Bs) : Prop := Vw w (.slice s.a s.l.length s.c) 1 s.l.length (flat byC s.l)
structure PartsV (w : World) (a : Option Addr) (c : Nat) (p : List Bs) : Prop where
  vw : Vw w (.slice a p.length c) 1 p.length (flat bsC p)
  parts : ∀ s ∈ p, bsV w s
def catB (p : List Bs) : List Int := p.flatMap (·.l)
theorem catB_snoc (p : List Bs) (s : Bs) : catB (p ++ [s]) = catB p ++ s.l := by simp [catB]
theorem catB_take {p : List Bs} {k : Nat} {s : Bs} (h : p[k]? = some s) : catB (p.take (k + 1)) = catB (p.take k) ++ s.l := by rw [take_snoc h, catB_snoc]
theorem catB_le (p : List Bs) (k : Nat) : (catB (p.take k)).length ≤ (catB p).length := by
  have : catB p = catB (p.take k) ++ catB (p.drop k) := by
    unfold catB
    rw [← List.flatMap_append, List.take_append_drop]
  rw [this, List.length_append]
  omega
structure Cc where
  i : Nat
  ad : Option Addr
  c : Nat
theorem concat_s (a : Option Addr) (c : Nat) (p : List Bs) (hp : p.length ≤ 1000) (hl : (catB p).length ≤ 1000000) : Pact Try.prog 83 #[.slice a p.length c] (fun w => PartsV w a c p) [] (SlR (catB p)) := by
  refine pact Try.func83 rfl Try.ntmps83 rfl ?_
  intro W K hK
  have hO : Kn K (fun w => Vw w (.slice a p.length c) 1 p.length (flat bsC p)) := hK.imp fun _ h => h.vw
  (repeat' (first | ((with_reducible apply gL); (first | refine yL0 ?_ | refine yL ?_ | (refine yA ?_; intro _ _ _ _) | fail)) | refine yJ ?_ | ((with_reducible apply gJ_if); (first | (refine J_if xR ?_ ?_ <;> intro _ <;> (try (exfalso; first | contradiction | omega))) | (refine J_ifb xR ?_ ?_ <;> (intro hgb; subst hgb)) | (refine J_ifb xR ?_ ?_ <;> intro _) | fail)) | fail))
  refine J_loop (α := Nat) 0 (fun x => p.length - x) (fun x => x ≤ p.length) (fun x => [(0, .slice a p.length c), (9, .slice a p.length c), (10, .int .i64 p.length), (11, .int .i64 x), (3, .int .i64 (catB (p.take x)).length)]) (fun _ => []) (Nat.zero_le _) ⟨rfl, rfl, rfl, rfl, rfl, trivial⟩ (fun w H => H.sel .nil) ?_
  intro k hk
  have hkl := catB_le p k
  obtain ⟨N, hN⟩ : ∃ N, (catB (p.take k)).length = N := ⟨_, rfl⟩
  rw [hN] at hkl ⊢
  by_cases hlt : k < p.length
  · obtain ⟨s, hs⟩ : ∃ s, p[k]? = some s := ⟨_, List.getElem?_eq_getElem hlt⟩
    have h1 := catB_le p (k + 1)
    rw [catB_take hs, List.length_append, hN] at h1
    (repeat' (first | ((with_reducible apply gL); (first | refine yL0 ?_ | refine yL ?_ | (refine yA ?_; intro _ _ _ _) | fail)) | refine yJ ?_ | ((with_reducible apply gJ_if); (first | (refine J_if xR ?_ ?_ <;> intro _ <;> (try (exfalso; first | contradiction | omega))) | (refine J_ifb xR ?_ ?_ <;> (intro hgb; subst hgb)) | (refine J_ifb xR ?_ ?_ <;> intro _) | fail)) | fail))
    refine J_again (k + 1) (by omega) (by omega) ⟨rfl, rfl, rfl, rfl, ?_, trivial⟩ (fun w H => H.sel .nil)
    rw [catB_take hs, List.length_append, hN]
    show some _ = some _
    simp
  · have hke : k = p.length := by omega
    subst hke
    rw [List.take_length] at hN
    (repeat' (first | ((with_reducible apply gL); (first | refine yL0 ?_ | refine yL ?_ | ((with_reducible apply gL_go); (first | (refine JL_goq (grow_s N (by omega)) (hφ := xF) (h := ?_); rintro _ _ ⟨ga, gc, rfl, rfl⟩; try simp only [List.cons_append, List.nil_append]) | fail)) | (refine yA ?_; intro _ _ _ _) | fail)) | refine yJ ?_ | ((with_reducible apply gJ_if); (first | (refine J_if xR ?_ ?_ <;> intro _ <;> (try (exfalso; first | contradiction | omega))) | (refine J_ifb xR ?_ ?_ <;> (intro hgb; subst hgb)) | (refine J_ifb xR ?_ ?_ <;> intro _) | fail)) | fail))
    refine J_loop (α := Cc) ⟨0, ga, gc⟩ (fun x => p.length - x.i) (fun x => x.i ≤ p.length) (fun x => [(25, .slice a p.length c), (26, .int .i64 p.length), (27, .int .i64 x.i), (6, .slice x.ad (catB (p.take x.i)).length x.c)]) (fun x => [Ar 5 1 byC (.slice x.ad (catB (p.take x.i)).length x.c) (catB (p.take x.i))]) (Nat.zero_le _) ⟨rfl, rfl, rfl, rfl, trivial⟩ (fun w H => H.sel xZ) ?_
    rintro ⟨k, ad, cc⟩ hk
    dsimp only at hk ⊢
    have hkl := catB_le p k
    by_cases hlt : k < p.length
    · obtain ⟨s, hs⟩ : ∃ s, p[k]? = some s := ⟨_, List.getElem?_eq_getElem hlt⟩
      have h1 := catB_le p (k + 1)
      have h2 := catB_take hs
      rw [h2, List.length_append] at h1
      have hu : Kn K (fun w => Vw w (.slice s.a s.l.length s.c) 1 s.l.length (flat byC s.l)) := hK.imp fun _ h => h.parts s (List.mem_of_getElem? hs)
      (repeat' (first | ((with_reducible apply gL); (first | refine yL0 ?_ | ((with_reducible apply gL_c_append); (first | (refine JL_app (fs := s.l) (tabE etab_ok xR) xR xR xA (Src.kn hu) xC xL xU (by omega) xR xR ?_; intro ad2 cc2 _ _) | fail)) | refine yL ?_ | (refine yA ?_; intro _ _ _ _) | fail)) | refine yJ ?_ | ((with_reducible apply gJ_if); (first | (refine J_if xR ?_ ?_ <;> intro _ <;> (try (exfalso; first | contradiction | omega))) | (refine J_ifb xR ?_ ?_ <;> (intro hgb; subst hgb)) | (refine J_ifb xR ?_ ?_ <;> intro _) | fail)) | fail))
      refine J_again ⟨k + 1, ad2, cc2⟩ (by dsimp only; omega) (by dsimp only; omega) ⟨rfl, rfl, rfl, ?_, trivial⟩ (fun w H => ?_)
      · dsimp only
        rw [h2, List.length_append]
        rfl
      · dsimp only
        rw [h2, List.length_append]
        exact H.sel xZ
    · have hke : k = p.length := by omega
      subst hke
      rw [List.take_length]
      (repeat' (first | ((with_reducible apply gL); (first | refine yL0 ?_ | refine yL ?_ | (refine yA ?_; intro _ _ _ _) | fail)) | refine yJ ?_ | ((with_reducible apply gJ_if); (first | (refine J_if xR ?_ ?_ <;> intro _ <;> (try (exfalso; first | contradiction | omega))) | (refine J_ifb xR ?_ ?_ <;> (intro hgb; subst hgb)) | (refine J_ifb xR ?_ ?_ <;> intro _) | fail)) | fail))
      exact J_ret1 rfl (by rfl) fun w H => ⟨_, ⟨ad, cc, rfl, rfl⟩, H.sel xZ⟩
end Go.Proofs.Ytdnokmpnemaoaaa
namespace Go.Pm
set_option linter.unusedSimpArgs false
set_option linter.unusedVariables false
open Go.RowKit
inductive NumsOf : List Value → List Int → Prop
  | nil : NumsOf [] []
  | cons {x : Int} {cs : List Value} {bs : List Int} : NumsOf cs bs → NumsOf (.int .u8 x :: cs) (x :: bs)
theorem NumsOf.eq {cs : List Value} {bs : List Int} (h : NumsOf cs bs) : cs = flat byC bs := by
  induction h with
  | nil => rfl
  | cons _ ih => rw [ih]; rfl
theorem NumsOf.cons' {x y : Int} {cs : List Value} {bs : List Int} (h : y = x) (hc : NumsOf cs bs) : NumsOf (.int .u8 y :: cs) (x :: bs) := by subst h; exact .cons hc
theorem flat_byC_len (bs : List Int) : (flat byC bs).length = bs.length := by
  have := flat_length (f := byC) (sz := 1) (fun _ => rfl) bs
  omega
theorem flat_byC_one (bs : List Int) : ∀ u ∈ flat byC bs, u.oneCell' = true := by
  intro u hu
  obtain ⟨x, _, hx⟩ := List.mem_flatMap.1 hu
  obtain rfl := List.mem_singleton.1 hx
  rfl
section
variable {P : Program} {n : Nat} {W : World} {K : Hl} {F : Fp} {k : List It} {tm : TM} {L L' R S M M' R' : List HP} {T : TypeId} {pos : String} {af : Array Edge} {gd : Option (Nat × Bool)} {ops : Array Oper} {rest nx : List Oper} {d : Tmp}
variable {t e T' : TypeId} {m b : Nat} {s x : Operand} {v : Value} {es bs : List Int} {cs : List Value}
theorem Src.nums {K : Hl} {L R : List HP} {g m : Nat} {cs : List Value} {e : TypeId} {bs : List Int} (t : Tk L (pts g cs e) R) (hb : NumsOf cs bs) (hl : Nat.beq bs.length m = true) (hm : Nat.ble m 1000000 = true) : Src K L (.slice (some ⟨g, 0, none⟩) m m) 1 m (flat byC bs) := by
  rw [← hb.eq]
  have h1 := Nat.eq_of_beq_eq_true hl
  have h2 := Nat.le_of_ble_eq_true hm
  exact Src.lit t (by rw [hb.eq, flat_byC_len]; omega) (by simp [maxLen]; omega)
theorem JL_apN (hi : elemInfo P t = some (e, 1, 1)) (hs : evT tm s = some v) (hx : evT tm x = some (.slice (some ⟨b, 0, none⟩) m m)) (hm : Tk L (Ar e 1 byC v es) R) (hb : Tk R (pts b cs T') R') (hy : NumsOf cs bs) (hlen : Nat.beq bs.length m = true) (hm2 : Nat.ble m 1000000 = true) (hok : elOk P t e 1 1 = true) (hsz : es.length + m ≤ 140737488355328)
    (hn : Nat.blt d n = true) (hg : wantF ops ⟨some d, .call ⟨.builtin .append, #[s, x], #[t, t]⟩, T, pos, af, gd⟩ (tget tm) = some true) (h : ∀ ad c, es.length + m ≤ c → c ≤ maxLen → JL P n W K F ops k rest ((d, .slice ad (es.length + m) c) :: tm) (Ar e 1 byC (.slice ad (es.length + m) c) (es ++ bs) :: R)) : JL P n W K F ops k (⟨some d, .call ⟨.builtin .append, #[s, x], #[t, t]⟩, T, pos, af, gd⟩ :: rest) tm L :=
  JL_app hi hs hx hm (Src.nums hb hy hlen hm2) hok (fun _ => rfl) (flat_byC_one bs) (by omega) hn hg h
theorem JD_apN (hi : elemInfo P t = some (e, 1, 1)) (hs : evT tm s = some v) (hx : evT tm x = some (.slice (some ⟨b, 0, none⟩) m m)) (hm : Tk M (Ar e 1 byC v es) R) (hb : Tk R (pts b cs T') R') (hy : NumsOf cs bs) (hlen : Nat.beq bs.length m = true) (hm2 : Nat.ble m 1000000 = true) (hok : elOk P t e 1 1 = true) (hsz : es.length + m ≤ 140737488355328)
    (hg : wantF ops ⟨some d, .call ⟨.builtin .append, #[s, x], #[t, t]⟩, T, pos, af, gd⟩ (tget tm) = some true) (h : ∀ ad c, es.length + m ≤ c → c ≤ maxLen → JD P n W K F ops k nx rest ((d, .slice ad (es.length + m) c) :: tm) S (Ar e 1 byC (.slice ad (es.length + m) c) (es ++ bs) :: R)) : JD P n W K F ops k nx (⟨some d, .call ⟨.builtin .append, #[s, x], #[t, t]⟩, T, pos, af, gd⟩ :: rest) tm S M :=
  JD_app hi hs hx hm (Src.nums (hb.app S) hy hlen hm2) hok (fun _ => rfl) (flat_byC_one bs) (by omega) hg h
/-- Bytes that are written out, as a slice. -/
theorem Ow.arNums {w : World} (H : Ow W K L w) (hb : Tk L (pts b cs e) R) (hy : NumsOf cs bs) (hlen : Nat.beq bs.length m = true) (hm2 : Nat.ble m 1000000 = true) : Ow W K (Ar e 1 byC (.slice (some ⟨b, 0, none⟩) m m) bs :: R) w := by
  have h1 := Nat.eq_of_beq_eq_true hlen
  have h2 := Nat.le_of_ble_eq_true hm2
  unfold Ar
  rw [h1, ← hy.eq]
  exact H.slLit hb (by rw [hy.eq, flat_byC_len]; omega) (by simp [maxLen]; omega)
end
end Go.Pm
namespace Go.Proofs.Ytdnokmpnemaoaaa
set_option linter.unusedSimpArgs false
set_option linter.unusedVariables false
set_option maxRecDepth 20000
set_option maxHeartbeats 4000000
open Go.RowKit Go.Pm

def num4 (n : Int) : List Int := [n / 16777216, n / 65536 % 256, n / 256 % 256, n % 256]
abbrev Ar4 (b : Nat) (n : Int) : HP := Ar 5 1 byC (.slice (some ⟨b, 0, none⟩) 4 4) (num4 n)
theorem num_s (n : Int) (hn : U32 n) : Pact Try.prog 69 #[.int .u32 n] (fun _ => True) [] (fun u L' => ∃ b, u = .slice (some ⟨b, 0, none⟩) 4 4 ∧ L' = [Ar4 b n]) := by
  refine pact Try.func69 rfl Try.ntmps69 rfl ?_
  intro W K _
  obtain ⟨h0, h1⟩ := hn
  (repeat' (first | ((with_reducible apply gL); (first | refine yL0 ?_ | refine yL ?_ | (refine yM ?_; intro _) | fail)) | refine yJ ?_ | fail))
  rename_i b
  refine J_ret1 rfl (by rfl) fun w H => ⟨_, ⟨b, rfl, rfl⟩, ?_⟩
  refine Ow.sel (Ow.arNums (bs := num4 n) H .here ?_ rfl rfl) xZ
  unfold num4
  repeat (first | exact NumsOf.nil | (refine NumsOf.cons' ?_ ?_; omega))
def kd (b : Bool) : Int := if b then 1 else 2
theorem kind_s (s : Sg) : Pact Try.prog 77 #[.agg (sgC s).toArray] (fun _ => True) [] (ret0 (.int .u8 (kd s.set))) := by
  refine pact Try.func77 rfl Try.ntmps77 rfl ?_
  intro W K _
  (repeat' (first | ((with_reducible apply gL); (first | refine yL0 ?_ | refine yL ?_ | (refine yM ?_; intro _) | fail)) | refine yJ ?_ | ((with_reducible apply gJ_if); (first | (refine J_if xR ?_ ?_ <;> intro _ <;> (try (exfalso; first | contradiction | omega))) | (refine J_ifb xR ?_ ?_ <;> (intro hgb; subst hgb)) | (refine J_ifb xR ?_ ?_ <;> intro _) | fail)) | fail))
  all_goals (rename_i hb; rw [hb]; exact J_ret1 rfl (by rfl) fun w H => ⟨_, ⟨rfl, rfl⟩, H.sel .nil⟩)
def asB (l : List Int) : List Int := l.flatMap num4
def segB (s : Bool × List Int) : List Int := kd s.1 :: (s.2.length : Int) :: asB s.2
def pB (p : List (Bool × List Int)) : List Int := p.flatMap segB
theorem asB_len (l : List Int) : (asB l).length = 4 * l.length := by
  induction l with
  | nil => rfl
  | cons x l ih =>
    have : asB (x :: l) = num4 x ++ asB l := rfl
    rw [this, List.length_append, ih]
    simp only [num4, List.length_cons, List.length_nil]
    omega
theorem pB_len (p : List (Bool × List Int)) : (pB p).length = 2 * p.length + 4 * tot p := by
  induction p with
  | nil => rfl
  | cons s p ih =>
    have : pB (s :: p) = segB s ++ pB p := rfl
    rw [this, List.length_append, ih]
    simp only [segB, List.length_cons, asB_len, tot]
    omega
theorem pB_snoc (p : List (Bool × List Int)) (s : Bool × List Int) : pB (p ++ [s]) = pB p ++ segB s := by simp [pB]
theorem asB_snoc (p : List Int) (s : Int) : asB (p ++ [s]) = asB p ++ num4 s := by simp [asB]
theorem tot_take (p : List (Bool × List Int)) (k : Nat) : tot (p.take k) ≤ tot p := by
  have : tot p = tot (p.take k) + tot (p.drop k) := by rw [← tot_append, List.take_append_drop]
  omega
/-- Bytes of the call's own, so far. -/
structure Lb where
  j : Nat
  xs : List Int
  ad : Option Addr
  c : Nat
theorem pPut_s (a : Option Addr) (c : Nat) (p : List Sg) (h8 : p.length ≤ 1000) (hsm : ∀ s ∈ p, SgN s) (hck : ckP (pN p) 0 = true) : Pact Try.prog 67 #[.slice a p.length c, .bool true] (fun w => PathV w a c p) [] (fun u L' => ∃ a' c', u = .tuple #[.slice a' (pB (pN p)).length c', .int .i64 0] ∧ L' = [Ar 5 1 byC (.slice a' (pB (pN p)).length c') (pB (pN p))]) := by
  refine pact Try.func67 rfl Try.ntmps67 rfl ?_
  intro W K hK
  have hv : Kn K (fun w => Vw w (.slice a p.length c) 2 p.length (flat sgC p)) := hK.imp fun _ h => h.vw
  obtain ⟨hok, h64⟩ := (ckP_iff (pN p) 0 (by omega)).1 hck
  have hPC := pchk_s a c p h8 hsm
  rw [hck] at hPC
  (repeat' (first | ((with_reducible apply gL); (first | refine yL0 ?_ | refine yL ?_ | ((with_reducible apply gL_go); (first | (refine JL_goq (hPC) (hφ := (by (try simp only [List.cons_append, List.nil_append]); exact fun w hr => hK w hr.1)) (h := ?_); rintro _ _ ⟨rfl, rfl⟩; try simp only [List.cons_append, List.nil_append]) | fail)) | (refine yM ?_; intro _) | (refine yA ?_; intro _ _ _ _) | fail)) | ((with_reducible apply gD); (first | (refine JD_nil ?_; try simp only [List.cons_append, List.nil_append]) | (refine JD_bar ?_; try simp only [List.cons_append, List.nil_append]) | refine yD ?_ | ((with_reducible apply gD_go); (first | (refine JD_goq (hPC) (hφ := (by (try simp only [List.cons_append, List.nil_append]); exact fun w hr => hK w hr.1)) (h := ?_); rintro _ _ ⟨rfl, rfl⟩; try simp only [List.cons_append, List.nil_append]) | fail)) | (refine yE ?_; intro _) | (refine yB ?_; intro _ _ _ _) | fail)) | refine yJ ?_ | ((with_reducible apply gJ_if); (first | (refine J_if xR ?_ ?_ <;> intro _ <;> (try (exfalso; first | contradiction | omega))) | (refine J_ifb xR ?_ ?_ <;> (intro hgb; subst hgb)) | (refine J_ifb xR ?_ ?_ <;> intro _) | fail)) | refine J_draw (id := 8) [0, 1, 3, 4, 5, 6, 2, 7] [8, 9] mixed xC xD xD ?_ | fail))
  refine J_loop (α := Lb) ⟨0, [], none, 0⟩ (fun x => p.length - x.j) (fun x => x.j ≤ p.length ∧ x.xs = pB (pN (p.take x.j))) (fun x => [(0, .slice a p.length c), (1, .bool true), (17, .slice a p.length c), (18, .int .i64 p.length), (19, .int .i64 x.j), (7, .slice x.ad x.xs.length x.c)]) (fun x => [Ar 5 1 byC (.slice x.ad x.xs.length x.c) x.xs]) ⟨Nat.zero_le _, rfl⟩ ⟨rfl, rfl, rfl, rfl, rfl, rfl, trivial⟩ (fun w H => (Ow.arNil (e := 5) (sz := 1) (enc := byC) H).sel xZ) ?_
  rintro ⟨k, xs, ad, cc⟩ ⟨hk, hxs⟩
  dsimp only at hk hxs ⊢
  have hxl : xs.length ≤ 2256 := by
    have h1 := tot_take (pN p) k
    have h2 : pN (p.take k) = (pN p).take k := by simp [pN]
    rw [hxs, pB_len, h2]
    simp only [List.length_take, pN, List.length_map] at h1 ⊢
    unfold pN at h64
    omega
  by_cases hlt : k < p.length
  · obtain ⟨s, hs⟩ : ∃ s, p[k]? = some s := ⟨_, List.getElem?_eq_getElem hlt⟩
    have hm := List.mem_of_getElem? hs
    obtain ⟨hsn1, hsn2⟩ := hsm s hm
    have hos := hok (s.set, s.as_) (List.mem_map.2 ⟨s, hm, rfl⟩)
    unfold okS at hos
    obtain ⟨ho1, ho2, _⟩ := of_decide_eq_true hos
    dsimp only at ho1 ho2
    have hu : Kn K (fun w => Vw w (.slice s.a s.as_.length s.c) 1 s.as_.length (flat u32C s.as_)) := hK.imp fun _ h => h.segs s hm
    (repeat' (first | ((with_reducible apply gL); (first | refine yL0 ?_ | ((with_reducible apply gL_c_append); (first | (refine JD_apN (bs := [kd s.set, (s.as_.length : Int)]) (tabE etab_ok xR) xR xR xA xA (by exact .cons (.cons .nil)) rfl rfl xC (by omega) xR ?_; intro ad2 cc2 _ _) | fail)) | refine yL ?_ | ((with_reducible apply gL_go); (first | (refine JL_goq (kind_s s) (hφ := xF) (h := ?_); rintro _ _ ⟨rfl, rfl⟩; try simp only [List.cons_append, List.nil_append]) | fail)) | (refine yM ?_; intro _) | (refine yA ?_; intro _ _ _ _) | fail)) | ((with_reducible apply gD); (first | (refine JD_nil ?_; try simp only [List.cons_append, List.nil_append]) | (refine JD_bar ?_; try simp only [List.cons_append, List.nil_append]) | ((with_reducible apply gD_c_append); (first | (refine JD_apN (bs := [kd s.set, (s.as_.length : Int)]) (tabE etab_ok xR) xR xR xA xA (by exact .cons (.cons .nil)) rfl rfl xC (by omega) xR ?_; intro ad2 cc2 _ _) | fail)) | refine yD ?_ | ((with_reducible apply gD_go); (first | (refine JD_goq (kind_s s) (hφ := xF) (h := ?_); rintro _ _ ⟨rfl, rfl⟩; try simp only [List.cons_append, List.nil_append]) | fail)) | (refine yE ?_; intro _) | (refine yB ?_; intro _ _ _ _) | fail)) | refine yJ ?_ | ((with_reducible apply gJ_if); (first | (refine J_if xR ?_ ?_ <;> intro _ <;> (try (exfalso; first | contradiction | omega))) | (refine J_ifb xR ?_ ?_ <;> (intro hgb; subst hgb)) | (refine J_ifb xR ?_ ?_ <;> intro _) | fail)) | refine J_draw (id := 8) [0, 1, 3, 4, 5, 6, 2, 7] [8, 9] mixed xC xD xD ?_ | fail))
    rename_i b9
    refine J_loop (α := Lb) ⟨0, xs ++ [kd s.set, (s.as_.length : Int)], ad2, cc2⟩ (fun x => s.as_.length - x.j) (fun x => x.j ≤ s.as_.length ∧ x.xs = xs ++ [kd s.set, (s.as_.length : Int)] ++ asB (s.as_.take x.j)) (fun x => [(0, .slice a p.length c), (1, .bool true), (17, .slice a p.length c), (18, .int .i64 p.length), (19, .int .i64 k), (33, .slice s.a s.as_.length s.c), (34, .int .i64 s.as_.length), (35, .int .i64 x.j), (7, .slice x.ad x.xs.length x.c)]) (fun x => [Ar 5 1 byC (.slice x.ad x.xs.length x.c) x.xs]) ⟨Nat.zero_le _, by simp [asB]⟩ ⟨rfl, rfl, rfl, rfl, rfl, rfl, rfl, rfl, ?_, trivial⟩ (fun w H => ?_) ?_
    · dsimp only
      rw [List.length_append]
      rfl
    · dsimp only
      rw [List.length_append]
      exact H.sel xZ
    rintro ⟨j, ys, ad3, cc3⟩ ⟨hj, hys⟩
    dsimp only at hj hys ⊢
    have hyl : ys.length ≤ 4000 := by
      rw [hys, List.length_append, List.length_append, asB_len, List.length_take]
      simp only [List.length_cons, List.length_nil]
      omega
    by_cases hjl : j < s.as_.length
    · obtain ⟨x, hx⟩ : ∃ x, s.as_[j]? = some x := ⟨_, List.getElem?_eq_getElem hjl⟩
      obtain ⟨hx0, hx1⟩ := hsn2 x (List.mem_of_getElem? hx)
      (repeat' (first | ((with_reducible apply gL); (first | refine yL0 ?_ | ((with_reducible apply gL_c_append); (first | (refine JL_apN (tabE etab_ok xR) xR xR xA xA (by exact .cons (.cons .nil)) rfl rfl xC (by first | omega | (simp only [List.length_append, List.length_cons, List.length_nil]; omega)) xR xR ?_; intro ad4 cc4 _ _) | fail)) | refine yL ?_ | (refine yM ?_; intro _) | (refine yA ?_; intro _ _ _ _) | fail)) | ((with_reducible apply gD); (first | (refine JD_nil ?_; try simp only [List.cons_append, List.nil_append]) | (refine JD_bar ?_; try simp only [List.cons_append, List.nil_append]) | ((with_reducible apply gD_c_append); (first | (refine JL_apN (tabE etab_ok xR) xR xR xA xA (by exact .cons (.cons .nil)) rfl rfl xC (by first | omega | (simp only [List.length_append, List.length_cons, List.length_nil]; omega)) xR xR ?_; intro ad4 cc4 _ _) | fail)) | refine yD ?_ | (refine yE ?_; intro _) | (refine yB ?_; intro _ _ _ _) | fail)) | refine yJ ?_ | ((with_reducible apply gJ_if); (first | (refine J_if xR ?_ ?_ <;> intro _ <;> (try (exfalso; first | contradiction | omega))) | (refine J_ifb xR ?_ ?_ <;> (intro hgb; subst hgb)) | (refine J_ifb xR ?_ ?_ <;> intro _) | fail)) | refine J_draw (id := 8) [0, 1, 3, 4, 5, 6, 2, 7] [8, 9] mixed xC xD xD ?_ | fail))
      have e : ys ++ [x / 2 ^ 24, x / 2 ^ 16 % 256] ++ [x / 2 ^ 8 % 256, x % 256] = ys ++ num4 x := by simp [num4]
      refine J_again ⟨j + 1, ys ++ num4 x, ad4, cc4⟩ (by dsimp only; omega) ⟨by dsimp only; omega, ?_⟩ ⟨rfl, rfl, rfl, rfl, rfl, rfl, rfl, rfl, ?_, trivial⟩ (fun w H => ?_)
      · dsimp only
        rw [take_snoc hx, asB_snoc, hys]
        simp
      · dsimp only
        rw [← e]
        simp only [List.length_append, List.length_cons, List.length_nil]
        rfl
      · dsimp only
        rw [← e]
        simp only [List.length_append, List.length_cons, List.length_nil] at H ⊢
        exact H.sel xZ
    · have hje : j = s.as_.length := by omega
      rw [hje, List.take_length] at hys
      (repeat' (first | ((with_reducible apply gL); (first | refine yL0 ?_ | refine yL ?_ | (refine yM ?_; intro _) | (refine yA ?_; intro _ _ _ _) | fail)) | ((with_reducible apply gD); (first | (refine JD_nil ?_; try simp only [List.cons_append, List.nil_append]) | (refine JD_bar ?_; try simp only [List.cons_append, List.nil_append]) | refine yD ?_ | (refine yE ?_; intro _) | (refine yB ?_; intro _ _ _ _) | fail)) | refine yJ ?_ | ((with_reducible apply gJ_if); (first | (refine J_if xR ?_ ?_ <;> intro _ <;> (try (exfalso; first | contradiction | omega))) | (refine J_ifb xR ?_ ?_ <;> (intro hgb; subst hgb)) | (refine J_ifb xR ?_ ?_ <;> intro _) | fail)) | refine J_draw (id := 8) [0, 1, 3, 4, 5, 6, 2, 7] [8, 9] mixed xC xD xD ?_ | fail))
      refine J_again ⟨k + 1, ys, ad3, cc3⟩ (by dsimp only; omega) ⟨by dsimp only; omega, ?_⟩ ⟨rfl, rfl, rfl, rfl, rfl, rfl, trivial⟩ (fun w H => H.sel xZ)
      dsimp only
      rw [take_snoc hs]
      unfold pN at hxs ⊢
      rw [List.map_append, List.map_cons, List.map_nil, pB_snoc, ← hxs, hys]
      simp [segB]
  · have hke : k = p.length := by omega
    rw [hke, List.take_length] at hxs
    subst hxs
    (repeat' (first | ((with_reducible apply gL); (first | refine yL0 ?_ | refine yL ?_ | (refine yM ?_; intro _) | (refine yA ?_; intro _ _ _ _) | fail)) | ((with_reducible apply gD); (first | (refine JD_nil ?_; try simp only [List.cons_append, List.nil_append]) | (refine JD_bar ?_; try simp only [List.cons_append, List.nil_append]) | refine yD ?_ | (refine yE ?_; intro _) | (refine yB ?_; intro _ _ _ _) | fail)) | refine yJ ?_ | ((with_reducible apply gJ_if); (first | (refine J_if xR ?_ ?_ <;> intro _ <;> (try (exfalso; first | contradiction | omega))) | (refine J_ifb xR ?_ ?_ <;> (intro hgb; subst hgb)) | (refine J_ifb xR ?_ ?_ <;> intro _) | fail)) | refine J_draw (id := 8) [0, 1, 3, 4, 5, 6, 2, 7] [8, 9] mixed xC xD xD ?_ | fail))
    exact J_ret2 rfl (by rfl) (by rfl) fun w H => ⟨_, ⟨ad, cc, rfl, rfl⟩, H.sel xZ⟩
end Go.Proofs.Ytdnokmpnemaoaaa
namespace Go.Proofs.Ytdnokmpnemaoaaa
set_option linter.unusedSimpArgs false
set_option linter.unusedVariables false
set_option maxRecDepth 20000
set_option maxHeartbeats 4000000
open Go.RowKit Go.Pm

/-- A writer and what it wrote. -/
def wrO (wb : Nat) (l : List Int) : HP := fun h => ∃ (ad : Option Addr) (cc : Nat), sats [pts wb [.slice ad l.length cc] 131, Ar 5 1 byC (.slice ad l.length cc) l] h
theorem wrOpen {W : World} {K : Hl} {L R : List HP} {w : World} {wb : Nat} {l : List Int} (H : Ow W K L w) (t : Tk L (wrO wb l) R) : ∃ x : Option Addr × Nat, Ow W K (pts wb [.slice x.1 l.length x.2] 131 :: Ar 5 1 byC (.slice x.1 l.length x.2) l :: R) w := by
  have := H.open t (Bs := fun x : Option Addr × Nat => [pts wb [.slice x.1 l.length x.2] 131, Ar 5 1 byC (.slice x.1 l.length x.2) l]) (fun k ⟨a, c, h⟩ => ⟨(a, c), h⟩)
  exact this
theorem wrShut {W : World} {K : Hl} {L R : List HP} {w : World} {wb m : Nat} {l : List Int} {ad : Option Addr} {cc : Nat} (H : Ow W K L w) (t : Sb L [pts wb [.slice ad m cc] 131, Ar 5 1 byC (.slice ad m cc) l] R) (hm : l.length = m) : Ow W K (wrO wb l :: R) w := by
  subst hm
  exact H.shut t (fun k hk => ⟨ad, cc, hk⟩)
def orF (f : Int) : Int := Go.bits .or .u8 f 16
/-- An attribute's bytes. -/
def putB (f k : Int) (d : List Int) : List Int := (if 255 < d.length then [orF f, k, (d.length : Int) / 256, (d.length : Int) % 256] else [f, k, (d.length : Int)]) ++ d
theorem put_s (wb : Nat) (l : List Int) (f k : Int) (a : Option Addr) (c : Nat) (p : List Bs) (hk : 0 ≤ k ∧ k ≤ 255) (hp : p.length ≤ 1000) (hd : (catB p).length ≤ 65535) (hl : l.length ≤ 1000000000) : Pact Try.prog 72 #[.pointer (some ⟨wb, 0, none⟩), .int .u8 f, .int .i64 k, .slice a p.length c] (fun w => PartsV w a c p) [wrO wb l] (fun u L' => L' = [wrO wb (l ++ putB f k (catB p))]) := by
  refine pact Try.func72 rfl Try.ntmps72 rfl ?_
  intro W K hK
  obtain ⟨hk1, hk2⟩ := hk
  refine J_open (fun w H => wrOpen H .here) ?_
  rintro ⟨ad, cc⟩
  dsimp only
  obtain ⟨d, hD⟩ : ∃ d, catB p = d := ⟨_, rfl⟩
  have hcon := concat_s a c p hp (by omega)
  rw [hD] at hcon hd ⊢
  (repeat' (first | ((with_reducible apply gL); (first | refine yL0 ?_ | ((with_reducible apply gL_c_append); (first | (refine JL_apN (tabE etab_ok xR) xR xR xA xA (by first | exact .cons (.cons (.cons (.cons .nil))) | exact .cons (.cons (.cons .nil))) rfl rfl xC (by omega) xR xR ?_; intro ad4 cc4 _ _) | (refine JL_app (fs := d) (tabE etab_ok xR) xR xR xA (Src.ar xA) xC xL xU (by simp only [List.length_append, List.length_cons, List.length_nil]; omega) xR xR ?_; intro ad5 cc5 _ _) | fail)) | refine yL ?_ | ((with_reducible apply gL_go); (first | (refine JL_goq (hcon) (hφ := (by (try simp only [List.cons_append, List.nil_append]); exact fun w hr => hK w hr.1)) (h := ?_); rintro _ _ ⟨a1, c1, rfl, rfl⟩; try simp only [List.cons_append, List.nil_append]) | fail)) | (refine yM ?_; intro _) | (refine yA ?_; intro _ _ _ _) | fail)) | refine yJ ?_ | ((with_reducible apply gJ_if); (first | (refine J_if xR ?_ ?_ <;> intro _ <;> (try (exfalso; first | contradiction | omega))) | (refine J_ifb xR ?_ ?_ <;> (intro hgb; subst hgb)) | (refine J_ifb xR ?_ ?_ <;> intro _) | fail)) | fail))
  · have e : l ++ putB f k d = l ++ [bits .or .u8 f 16, k, (d.length : Int) / 2 ^ (7 + 1), (d.length : Int) % 256] ++ d := by
      unfold putB orF
      rw [if_pos (by omega)]
      simp
    refine J_end0 rfl fun w H => ⟨_, rfl, ?_⟩
    rw [e]
    exact (wrShut (ad := ad5) (cc := cc5) H xZ List.length_append).sel xZ
  · have e : l ++ putB f k d = l ++ [f, k, (d.length : Int)] ++ d := by
      unfold putB
      rw [if_neg (by omega)]
      simp
    refine J_end0 rfl fun w H => ⟨_, rfl, ?_⟩
    rw [e]
    exact (wrShut (ad := ad5) (cc := cc5) H xZ List.length_append).sel xZ
theorem usual_s (wb : Nat) (l : List Int) (k : Int) (a : Option Addr) (c : Nat) (p : List Bs) (hk : 0 ≤ k ∧ k ≤ 255) (hkn : kno k = true) (hp : p.length ≤ 1000) (hd : (catB p).length ≤ 65535) (hl : l.length ≤ 1000000000) : Pact Try.prog 68 #[.pointer (some ⟨wb, 0, none⟩), .int .i64 k, .slice a p.length c] (fun w => PartsV w a c p) [wrO wb l] (fun u L' => L' = [wrO wb (l ++ putB (fl k) k (catB p))]) := by
  refine pact Try.func68 rfl Try.ntmps68 rfl ?_
  intro W K hK
  have hkk := known_s k
  rw [hkn] at hkk
  (repeat' (first | ((with_reducible apply gL); (first | refine yL0 ?_ | refine yL ?_ | ((with_reducible apply gL_go); (first | (refine JL_goq (hkk) (hφ := xF) (h := ?_); rintro _ _ ⟨f, rfl, hf, rfl⟩; try simp only [List.cons_append, List.nil_append]) | (refine JL_goq (put_s wb l f k a c p hk hp hd hl) (hφ := (by (try simp only [List.cons_append, List.nil_append]); exact fun w hr => hK w hr.1)) (h := ?_); rintro _ _ rfl; try simp only [List.cons_append, List.nil_append]) | fail)) | fail)) | refine yJ ?_ | fail))
  obtain rfl := hf rfl
  exact J_end0 rfl fun w H => ⟨_, rfl, H.sel xZ⟩
end Go.Proofs.Ytdnokmpnemaoaaa
namespace Go.Proofs.Ytdnokmpnemaoaaa
set_option linter.unusedSimpArgs false
set_option linter.unusedVariables false
set_option maxRecDepth 20000
set_option maxHeartbeats 4000000
open Go.RowKit Go.Pm

abbrev Tl := Int × Int × List Int
def tlB (t : Tl) : List Int := putB t.1 t.2.1 t.2.2
def tlsB (l : List Tl) : List Int := l.flatMap tlB
theorem tlsB_append (l m : List Tl) : tlsB (l ++ m) = tlsB l ++ tlsB m := by simp [tlsB]
def medT (x : Nf) : List Tl := match x.med with | none => [] | some m => [(128, 4, num4 m)]
def atomT (x : Nf) : List Tl := if x.atomic then [(64, 6, [])] else []
def makT (x : Nf) : List Tl := match x.maker with | none => [] | some m => [(192, 7, num4 m.1 ++ num4 m.2)]
def comT (x : Nf) : List Tl := if x.comms.length = 0 then [] else [(192, 8, asB x.comms)]
structure Lq where
  q : List Bs
  ad : Option Addr
  c : Nat
theorem partsNil (w : World) : PartsV w none 0 [] := ⟨Vw.nil w 1, fun _ h => absurd h List.not_mem_nil⟩
theorem parts1 {K : Hl} {R R1 R2 : List HP} {w : World} {g n c : Nat} {a : Option Addr} {l : List Int} {T : TypeId} (hr : Rdw K R w) (t1 : Tk R (pts g [.slice a n c] T) R1) (t2 : Tk R (Ar 5 1 byC (.slice a n c) l) R2) (hn : l.length = n) : PartsV w (some ⟨g, 0, none⟩) 1 [⟨a, c, l⟩] := by
  subst hn
  refine ⟨Src.lit (sz := 1) (m := 1) t1 rfl (by decide) w hr, fun s hs => ?_⟩
  obtain rfl := List.mem_singleton.1 hs
  exact Src.ar t2 w hr
theorem parts2 {K : Hl} {R R1 R2 R3 : List HP} {w : World} {g n c n' c' : Nat} {a a' : Option Addr} {l l' : List Int} {T : TypeId} (hr : Rdw K R w) (t1 : Tk R (pts g [.slice a n c, .slice a' n' c'] T) R1) (t2 : Tk R (Ar 5 1 byC (.slice a n c) l) R2) (t3 : Tk R (Ar 5 1 byC (.slice a' n' c') l') R3) (hn : l.length = n) (hn' : l'.length = n') : PartsV w (some ⟨g, 0, none⟩) 2 [⟨a, c, l⟩, ⟨a', c', l'⟩] := by
  subst hn hn'
  refine ⟨Src.lit (sz := 1) (m := 2) t1 rfl (by decide) w hr, fun s hs => ?_⟩
  rcases List.mem_cons.1 hs with rfl | hs
  · exact Src.ar t2 w hr
  · obtain rfl := List.mem_singleton.1 hs
    exact Src.ar t3 w hr
theorem tlsB_len (l : List Tl) : (tlsB l).length ≤ (l.map fun t => 4 + t.2.2.length).sum := by
  induction l with
  | nil => exact Nat.le_refl _
  | cons t l ih =>
    have : tlsB (t :: l) = tlB t ++ tlsB l := rfl
    rw [this, List.length_append, List.map_cons, List.sum_cons]
    have : (tlB t).length ≤ 4 + t.2.2.length := by
      unfold tlB putB
      split <;> simp <;> omega
    omega
theorem num4_len (n : Int) : (num4 n).length = 4 := rfl
theorem sys_s (n : Int) (hn : U32 n) : Pact Try.prog 78 #[.int .u32 n, .bool true] (fun _ => True) [] (fun u L' => ∃ b, u = .slice (some ⟨b, 0, none⟩) 4 4 ∧ L' = [Ar4 b n]) := by
  refine pact Try.func78 rfl Try.ntmps78 rfl ?_
  intro W K _
  (repeat' (first | ((with_reducible apply gL); (first | refine yL0 ?_ | refine yL ?_ | ((with_reducible apply gL_go); (first | (refine JL_goq (num_s n hn) (hφ := xF) (h := ?_); rintro _ _ ⟨b, rfl, rfl⟩; try simp only [List.cons_append, List.nil_append]) | fail)) | fail)) | refine yJ ?_ | ((with_reducible apply gJ_if); (first | (refine J_if xR ?_ ?_ <;> intro _ <;> (try (exfalso; first | contradiction | omega))) | (refine J_ifb xR ?_ ?_ <;> (intro hgb; subst hgb)) | (refine J_ifb xR ?_ ?_ <;> intro _) | fail)) | fail))
  exact J_ret1 rfl (by rfl) fun w H => ⟨_, ⟨_, rfl, rfl⟩, H.sel xZ⟩
theorem medT_len (x : Nf) : (tlsB (medT x)).length ≤ 100 := by
  refine Nat.le_trans (tlsB_len _) ?_
  unfold medT
  split <;> simp [num4]
theorem atomT_len (x : Nf) : (tlsB (atomT x)).length ≤ 100 := by
  refine Nat.le_trans (tlsB_len _) ?_
  unfold atomT
  split <;> simp
theorem makT_len (x : Nf) : (tlsB (makT x)).length ≤ 100 := by
  refine Nat.le_trans (tlsB_len _) ?_
  unfold makT
  split <;> simp [num4]
theorem perhaps_s (wb : Nat) (l : List Int) (d : At) (hd : AtF d) (hl : l.length ≤ 1000000) : Pact Try.prog 70 #[.pointer (some ⟨wb, 0, none⟩), .agg (atC d).toArray, .bool true] (fun w => AtV w d) [wrO wb l] (fun u L' => L' = [wrO wb (l ++ tlsB (medT d.nf ++ atomT d.nf ++ makT d.nf ++ comT d.nf))]) := by
  refine pact Try.func70 rfl Try.ntmps70 rfl ?_
  intro W K hK
  have hd2 := hd.comms
  have hc : Kn K (fun w => Vw w (.slice d.ca d.comms.length d.cc) 1 d.comms.length (flat u32C d.comms)) := hK.imp fun _ h => h.comms
  obtain ⟨l1, hl1⟩ : ∃ l1, l ++ tlsB (medT d.nf) = l1 := ⟨_, rfl⟩
  have hn1 : l1.length ≤ 1000000 + 100 := by have := medT_len d.nf; rw [← hl1, List.length_append]; omega
  obtain ⟨l2, hl2⟩ : ∃ l2, l1 ++ tlsB (atomT d.nf) = l2 := ⟨_, rfl⟩
  have hn2 : l2.length ≤ 1000000 + 200 := by have := atomT_len d.nf; rw [← hl2, List.length_append]; omega
  obtain ⟨l3, hl3⟩ : ∃ l3, l2 ++ tlsB (makT d.nf) = l3 := ⟨_, rfl⟩
  have hn3 : l3.length ≤ 1000000 + 300 := by have := makT_len d.nf; rw [← hl3, List.length_append]; omega
  have hfin : l ++ tlsB (medT d.nf ++ atomT d.nf ++ makT d.nf ++ comT d.nf) = l3 ++ tlsB (comT d.nf) := by
    rw [← hl3, ← hl2, ← hl1]
    simp [tlsB_append]
  rw [hfin]
  (iterate 4 (first | ((with_reducible apply gL); (first | refine yL0 ?_ | refine yL ?_ | (refine yM ?_; intro _) | (refine yA ?_; intro _ _ _ _) | fail)) | ((with_reducible apply gD); (first | (refine JD_nil ?_; try simp only [List.cons_append, List.nil_append]) | (refine JD_bar ?_; try simp only [List.cons_append, List.nil_append]) | refine yD ?_ | (refine yE ?_; intro _) | fail)) | refine yJ ?_ | ((with_reducible apply gJ_if); (first | (refine J_if xR ?_ ?_ <;> intro _ <;> (try (exfalso; first | contradiction | omega))) | (refine J_ifb xR ?_ ?_ <;> (intro hgb; subst hgb)) | (refine J_ifb xR ?_ ?_ <;> intro _) | fail)) | refine J_draw (id := 6) [0, 1, 2, 3, 5, 6, 4, 7, 8] [9] mixed xC xD xD ?_ | fail))
  rename_i b0
  refine J_seq ?_
  refine J_cut (α := Unit) (fun _ => True) (fun _ => [(0, .pointer (some ⟨wb, 0, none⟩)), (2, .bool true), (4, .pointer (some ⟨b0, 0, none⟩))]) (fun _ => [pts b0 (atC d) 30, wrO wb l1]) ?_ (fun _ _ => ?_)
  · (repeat' (first | ((with_reducible apply gL); (first | refine yL0 ?_ | refine yL ?_ | ((with_reducible apply gL_go); (first | (refine JL_goq (num_s d.med hd.num.med) (hφ := xF) (h := ?_); rintro _ _ ⟨b1, rfl, rfl⟩; try simp only [List.cons_append, List.nil_append]) | (refine JL_goq (usual_s wb l 4 _ 1 [⟨some ⟨b1, 0, none⟩, 4, num4 d.med⟩] (by decide) (by decide) (by simp) (by simp [catB, num4]) (by omega)) (hφ := (by (try simp only [List.cons_append, List.nil_append]); exact fun w hr => parts1 (n := 4) hr xA xA rfl)) (h := ?_); rintro _ _ rfl; try simp only [List.cons_append, List.nil_append]) | fail)) | (refine yM ?_; intro _) | (refine yA ?_; intro _ _ _ _) | fail)) | ((with_reducible apply gD); (first | (refine JD_nil ?_; try simp only [List.cons_append, List.nil_append]) | (refine JD_bar ?_; try simp only [List.cons_append, List.nil_append]) | refine yD ?_ | ((with_reducible apply gD_go); (first | (refine JD_goq (num_s d.med hd.num.med) (hφ := xF) (h := ?_); rintro _ _ ⟨b1, rfl, rfl⟩; try simp only [List.cons_append, List.nil_append]) | (refine JD_goq (usual_s wb l 4 _ 1 [⟨some ⟨b1, 0, none⟩, 4, num4 d.med⟩] (by decide) (by decide) (by simp) (by simp [catB, num4]) (by omega)) (hφ := (by (try simp only [List.cons_append, List.nil_append]); exact fun w hr => parts1 (n := 4) hr xA xA rfl)) (h := ?_); rintro _ _ rfl; try simp only [List.cons_append, List.nil_append]) | fail)) | (refine yE ?_; intro _) | fail)) | refine yJ ?_ | ((with_reducible apply gJ_if); (first | (refine J_if xR ?_ ?_ <;> intro _ <;> (try (exfalso; first | contradiction | omega))) | (refine J_ifb xR ?_ ?_ <;> (intro hgb; subst hgb)) | (refine J_ifb xR ?_ ?_ <;> intro _) | fail)) | refine J_draw (id := 6) [0, 1, 2, 3, 5, 6, 4, 7, 8] [9] mixed xC xD xD ?_ | fail))
    · refine J_meet () trivial ⟨rfl, rfl, rfl, trivial⟩ (fun w H => ?_)
      have e : l ++ putB (fl 4) 4 (catB [⟨some ⟨b1, 0, none⟩, 4, num4 d.med⟩]) = l1 := by
        rw [← hl1]
        simp_all [medT, At.nf, tlsB, tlB, catB, fl]
      rw [e] at H
      exact H.sel xZ
    · refine J_meet () trivial ⟨rfl, rfl, rfl, trivial⟩ (fun w H => ?_)
      have e : l = l1 := by
        rw [← hl1]
        simp_all [medT, At.nf, tlsB]
      rw [e] at H
      exact H.sel xZ
  refine J_seq ?_
  refine J_cut (α := Unit) (fun _ => True) (fun _ => [(0, .pointer (some ⟨wb, 0, none⟩)), (2, .bool true), (4, .pointer (some ⟨b0, 0, none⟩))]) (fun _ => [pts b0 (atC d) 30, wrO wb l2]) ?_ (fun _ _ => ?_)
  · (repeat' (first | ((with_reducible apply gL); (first | refine yL0 ?_ | refine yL ?_ | ((with_reducible apply gL_go); (first | (refine JL_goq (usual_s wb l1 6 none 0 [] (by decide) (by decide) (by simp) (by simp [catB]) (by omega)) (hφ := (by (try simp only [List.cons_append, List.nil_append]); exact fun w hr => partsNil w)) (h := ?_); rintro _ _ rfl; try simp only [List.cons_append, List.nil_append]) | fail)) | (refine yM ?_; intro _) | (refine yA ?_; intro _ _ _ _) | fail)) | ((with_reducible apply gD); (first | (refine JD_nil ?_; try simp only [List.cons_append, List.nil_append]) | (refine JD_bar ?_; try simp only [List.cons_append, List.nil_append]) | refine yD ?_ | ((with_reducible apply gD_go); (first | (refine JD_goq (usual_s wb l1 6 none 0 [] (by decide) (by decide) (by simp) (by simp [catB]) (by omega)) (hφ := (by (try simp only [List.cons_append, List.nil_append]); exact fun w hr => partsNil w)) (h := ?_); rintro _ _ rfl; try simp only [List.cons_append, List.nil_append]) | fail)) | (refine yE ?_; intro _) | fail)) | refine yJ ?_ | ((with_reducible apply gJ_if); (first | (refine J_if xR ?_ ?_ <;> intro _ <;> (try (exfalso; first | contradiction | omega))) | (refine J_ifb xR ?_ ?_ <;> (intro hgb; subst hgb)) | (refine J_ifb xR ?_ ?_ <;> intro _) | fail)) | refine J_draw (id := 6) [0, 1, 2, 3, 5, 6, 4, 7, 8] [9] mixed xC xD xD ?_ | fail))
    · refine J_meet () trivial ⟨rfl, rfl, rfl, trivial⟩ (fun w H => ?_)
      have e : l1 ++ putB (fl 6) 6 (catB []) = l2 := by
        rw [← hl2]
        simp_all [atomT, At.nf, tlsB, tlB, catB, fl]
      rw [e] at H
      exact H.sel xZ
    · refine J_meet () trivial ⟨rfl, rfl, rfl, trivial⟩ (fun w H => ?_)
      have e : l1 = l2 := by
        rw [← hl2]
        simp_all [atomT, At.nf, tlsB]
      rw [e] at H
      exact H.sel xZ
  refine J_seq ?_
  refine J_cut (α := Unit) (fun _ => True) (fun _ => [(0, .pointer (some ⟨wb, 0, none⟩)), (2, .bool true), (4, .pointer (some ⟨b0, 0, none⟩))]) (fun _ => [pts b0 (atC d) 30, wrO wb l3]) ?_ (fun _ _ => ?_)
  · (repeat' (first | ((with_reducible apply gL); (first | refine yL0 ?_ | refine yL ?_ | ((with_reducible apply gL_go); (first | (refine JL_goq (sys_s d.makerAS hd.num.makerAS) (hφ := xF) (h := ?_); rintro _ _ ⟨b1, rfl, rfl⟩; try simp only [List.cons_append, List.nil_append]) | (refine JL_goq (num_s d.maker hd.num.maker) (hφ := xF) (h := ?_); rintro _ _ ⟨b2, rfl, rfl⟩; try simp only [List.cons_append, List.nil_append]) | (refine JL_goq (usual_s wb l2 7 _ 2 [⟨some ⟨b1, 0, none⟩, 4, num4 d.makerAS⟩, ⟨some ⟨b2, 0, none⟩, 4, num4 d.maker⟩] (by decide) (by decide) (by simp) (by simp [catB, num4]) (by omega)) (hφ := (by (try simp only [List.cons_append, List.nil_append]); exact fun w hr => parts2 (n := 4) (n' := 4) hr xA xA xA rfl rfl)) (h := ?_); rintro _ _ rfl; try simp only [List.cons_append, List.nil_append]) | fail)) | (refine yM ?_; intro _) | (refine yA ?_; intro _ _ _ _) | fail)) | ((with_reducible apply gD); (first | (refine JD_nil ?_; try simp only [List.cons_append, List.nil_append]) | (refine JD_bar ?_; try simp only [List.cons_append, List.nil_append]) | refine yD ?_ | ((with_reducible apply gD_go); (first | (refine JD_goq (sys_s d.makerAS hd.num.makerAS) (hφ := xF) (h := ?_); rintro _ _ ⟨b1, rfl, rfl⟩; try simp only [List.cons_append, List.nil_append]) | (refine JD_goq (num_s d.maker hd.num.maker) (hφ := xF) (h := ?_); rintro _ _ ⟨b2, rfl, rfl⟩; try simp only [List.cons_append, List.nil_append]) | (refine JD_goq (usual_s wb l2 7 _ 2 [⟨some ⟨b1, 0, none⟩, 4, num4 d.makerAS⟩, ⟨some ⟨b2, 0, none⟩, 4, num4 d.maker⟩] (by decide) (by decide) (by simp) (by simp [catB, num4]) (by omega)) (hφ := (by (try simp only [List.cons_append, List.nil_append]); exact fun w hr => parts2 (n := 4) (n' := 4) hr xA xA xA rfl rfl)) (h := ?_); rintro _ _ rfl; try simp only [List.cons_append, List.nil_append]) | fail)) | (refine yE ?_; intro _) | fail)) | refine yJ ?_ | ((with_reducible apply gJ_if); (first | (refine J_if xR ?_ ?_ <;> intro _ <;> (try (exfalso; first | contradiction | omega))) | (refine J_ifb xR ?_ ?_ <;> (intro hgb; subst hgb)) | (refine J_ifb xR ?_ ?_ <;> intro _) | fail)) | refine J_draw (id := 6) [0, 1, 2, 3, 5, 6, 4, 7, 8] [9] mixed xC xD xD ?_ | fail))
    · refine J_meet () trivial ⟨rfl, rfl, rfl, trivial⟩ (fun w H => ?_)
      have e : l2 ++ putB (fl 7) 7 (catB [⟨some ⟨b1, 0, none⟩, 4, num4 d.makerAS⟩, ⟨some ⟨b2, 0, none⟩, 4, num4 d.maker⟩]) = l3 := by
        rw [← hl3]
        simp_all [makT, At.nf, tlsB, tlB, catB, fl]
      rw [e] at H
      exact H.sel xZ
    · refine J_meet () trivial ⟨rfl, rfl, rfl, trivial⟩ (fun w H => ?_)
      have e : l2 = l3 := by
        rw [← hl3]
        simp_all [makT, At.nf, tlsB]
      rw [e] at H
      exact H.sel xZ
  clear hl3 hl2 hl1 hfin
  (repeat' (first | ((with_reducible apply gL); (first | refine yL0 ?_ | refine yL ?_ | (refine yM ?_; intro _) | (refine yA ?_; intro _ _ _ _) | fail)) | ((with_reducible apply gD); (first | (refine JD_nil ?_; try simp only [List.cons_append, List.nil_append]) | (refine JD_bar ?_; try simp only [List.cons_append, List.nil_append]) | refine yD ?_ | (refine yE ?_; intro _) | fail)) | refine yJ ?_ | ((with_reducible apply gJ_if); (first | (refine J_if xR ?_ ?_ <;> intro _ <;> (try (exfalso; first | contradiction | omega))) | (refine J_ifb xR ?_ ?_ <;> (intro hgb; subst hgb)) | (refine J_ifb xR ?_ ?_ <;> intro _) | fail)) | refine J_draw (id := 6) [0, 1, 2, 3, 5, 6, 4, 7, 8] [9] mixed xC xD xD ?_ | fail))
  · refine J_loop (α := Lq) ⟨[], none, 0⟩ (fun x => d.comms.length - x.q.length) (fun x => x.q.length ≤ d.comms.length ∧ x.q.map (·.l) = (d.comms.take x.q.length).map num4) (fun x => [(0, .pointer (some ⟨wb, 0, none⟩)), (38, .slice d.ca d.comms.length d.cc), (39, .int .i64 d.comms.length), (40, .int .i64 x.q.length), (6, .slice x.ad x.q.length x.c)])
      (fun x => [Ar 111 1 bsC (.slice x.ad x.q.length x.c) x.q, has (fun w => ∀ s ∈ x.q, bsV w s), wrO wb l3]) ⟨Nat.zero_le _, rfl⟩ ⟨rfl, rfl, rfl, rfl, rfl, trivial⟩ (fun w H => (Ow.hasTrue (φ := fun w => ∀ s ∈ ([] : List Bs), bsV w s) (Ow.arNil (e := 111) (sz := 1) (enc := bsC) H) (by intro _ _ h; exact absurd h List.not_mem_nil)).sel xZ) ?_
    rintro ⟨q, ad, cc⟩ ⟨hq, hsame⟩
    dsimp only at hq hsame ⊢
    by_cases hlt : q.length < d.comms.length
    · obtain ⟨x, hx⟩ : ∃ x, d.comms[q.length]? = some x := ⟨_, List.getElem?_eq_getElem hlt⟩
      have hxn := hd.num.comms x (List.mem_of_getElem? hx)
      (repeat' (first | ((with_reducible apply gL); (first | refine yL0 ?_ | ((with_reducible apply gL_c_append); (first | (refine JL_ap1 (z := Bs.mk (some ⟨b3, 0, none⟩) 4 (num4 x)) (tabE etab_ok xR) xR xR xA xA xC xR xL xR (by omega) xR xR ?_; intro ad3 c3 _ _) | fail)) | refine yL ?_ | ((with_reducible apply gL_go); (first | (refine JL_goq (num_s x hxn) (hφ := xF) (h := ?_); rintro _ _ ⟨b3, rfl, rfl⟩; try simp only [List.cons_append, List.nil_append]) | fail)) | (refine yM ?_; intro _) | (refine yA ?_; intro _ _ _ _) | fail)) | ((with_reducible apply gD); (first | (refine JD_nil ?_; try simp only [List.cons_append, List.nil_append]) | (refine JD_bar ?_; try simp only [List.cons_append, List.nil_append]) | refine yD ?_ | ((with_reducible apply gD_go); (first | (refine JD_goq (num_s x hxn) (hφ := xF) (h := ?_); rintro _ _ ⟨b3, rfl, rfl⟩; try simp only [List.cons_append, List.nil_append]) | fail)) | (refine yE ?_; intro _) | fail)) | refine yJ ?_ | ((with_reducible apply gJ_if); (first | (refine J_if xR ?_ ?_ <;> intro _ <;> (try (exfalso; first | contradiction | omega))) | (refine J_ifb xR ?_ ?_ <;> (intro hgb; subst hgb)) | (refine J_ifb xR ?_ ?_ <;> intro _) | fail)) | refine J_draw (id := 6) [0, 1, 2, 3, 5, 6, 4, 7, 8] [9] mixed xC xD xD ?_ | fail))
      refine J_again ⟨q ++ [Bs.mk (some ⟨b3, 0, none⟩) 4 (num4 x)], ad3, c3⟩ (by simp; omega) ⟨by simp; omega, ?_⟩ ⟨rfl, rfl, rfl, ?_, ?_, trivial⟩ (fun w H => ?_)
      · simp only [List.length_append, List.length_cons, List.length_nil]
        rw [take_snoc hx, List.map_append, List.map_append, hsame]
        rfl
      · show some _ = some _
        simp
      · show some _ = some _
        simp
      · simp only [List.length_append, List.length_cons, List.length_nil]
        refine (Ow.has (M := [Ar4 b3 x, has (fun w => ∀ s ∈ q, bsV w s)]) (φ := fun w => ∀ s ∈ q ++ [Bs.mk (some ⟨b3, 0, none⟩) 4 (num4 x)], bsV w s) H xZ ?_).sel xZ
        intro w hr s hs
        rcases List.mem_append.1 hs with hs | hs
        · exact hr.has (.there .here) s hs
        · obtain rfl := List.mem_singleton.1 hs
          exact Src.ar .here w hr
    · have hql : q.length = d.comms.length := by omega
      have hcat : catB q = asB d.comms := by
        rw [hql, List.take_length] at hsame
        unfold catB asB
        rw [List.flatMap_def, List.flatMap_def, hsame]
      have hcl : (catB q).length ≤ 65535 := by rw [hcat, asB_len]; omega
      (repeat' (first | ((with_reducible apply gL); (first | refine yL0 ?_ | refine yL ?_ | ((with_reducible apply gL_go); (first | (refine JL_goq (usual_s wb l3 8 ad cc q (by decide) (by decide) (by omega) hcl (by omega)) (hφ := (by (try simp only [List.cons_append, List.nil_append]); exact fun w hr => ⟨Src.ar xA w hr, fun s hs => hr.has (φ := fun w => ∀ s ∈ q, bsV w s) xA s hs⟩)) (h := ?_); rintro _ _ rfl; try simp only [List.cons_append, List.nil_append]) | fail)) | (refine yM ?_; intro _) | (refine yA ?_; intro _ _ _ _) | fail)) | ((with_reducible apply gD); (first | (refine JD_nil ?_; try simp only [List.cons_append, List.nil_append]) | (refine JD_bar ?_; try simp only [List.cons_append, List.nil_append]) | refine yD ?_ | ((with_reducible apply gD_go); (first | (refine JD_goq (usual_s wb l3 8 ad cc q (by decide) (by decide) (by omega) hcl (by omega)) (hφ := (by (try simp only [List.cons_append, List.nil_append]); exact fun w hr => ⟨Src.ar xA w hr, fun s hs => hr.has (φ := fun w => ∀ s ∈ q, bsV w s) xA s hs⟩)) (h := ?_); rintro _ _ rfl; try simp only [List.cons_append, List.nil_append]) | fail)) | (refine yE ?_; intro _) | fail)) | refine yJ ?_ | ((with_reducible apply gJ_if); (first | (refine J_if xR ?_ ?_ <;> intro _ <;> (try (exfalso; first | contradiction | omega))) | (refine J_ifb xR ?_ ?_ <;> (intro hgb; subst hgb)) | (refine J_ifb xR ?_ ?_ <;> intro _) | fail)) | refine J_draw (id := 6) [0, 1, 2, 3, 5, 6, 4, 7, 8] [9] mixed xC xD xD ?_ | fail))
      refine J_end0 rfl fun w H => ⟨_, rfl, ?_⟩
      have e : tlsB (comT d.nf) = putB (fl 8) 8 (catB q) := by
        have : ¬ d.nf.comms.length = 0 := by show ¬ d.comms.length = 0; omega
        unfold comT
        rw [if_neg this, hcat]
        simp [tlsB, tlB, fl, At.nf]
      rw [e]
      exact H.sel xZ
  · refine J_end0 rfl fun w H => ⟨_, rfl, ?_⟩
    have e : tlsB (comT d.nf) = [] := by
      have : d.nf.comms.length = 0 := by show d.comms.length = 0; omega
      unfold comT
      rw [if_pos this]
      rfl
    rw [e, List.append_nil]
    exact H.sel xZ
end Go.Proofs.Ytdnokmpnemaoaaa
namespace Go.Proofs.Ytdnokmpnemaoaaa
set_option linter.unusedSimpArgs false
set_option linter.unusedVariables false
set_option maxRecDepth 20000
set_option maxHeartbeats 4000000
open Go.RowKit Go.Pm

def oT (o : Int × List Int) : Tl := (224, o.1, o.2)
/-- Attributes as a list of what is put. -/
def attrT (x : Nf) : List Tl := [(64, 1, [x.origin]), (64, 2, pB x.path), (64, 3, num4 x.next)] ++ (medT x ++ atomT x ++ makT x ++ comT x) ++ x.others.map oT
def attrB (x : Nf) : List Int := tlsB (attrT x)
theorem ckO_all : ∀ (l : List (Int × List Int)) (n : Int), ckO l n = true → ∀ o ∈ l, n < o.1 ∧ o.1 ≤ 255 ∧ kno o.1 = false ∧ o.2.length ≤ 255
  | [], _, _, o, ho => absurd ho List.not_mem_nil
  | x :: l, n, h, o, ho => by
    unfold ckO at h
    split at h
    · cases h
    · rename_i hn
      rcases List.mem_cons.1 ho with rfl | ho
      · refine ⟨by omega, by omega, ?_, by omega⟩
        rcases hb : kno o.1 with _ | _
        · rfl
        · exact absurd (.inr (.inr (.inl hb))) hn
      · have := ckO_all l x.1 h o ho
        exact ⟨by omega, this.2⟩
theorem putB_len (f k : Int) (d : List Int) : (putB f k d).length ≤ 4 + d.length := by
  unfold putB
  split <;> simp <;> omega
theorem oT_len (l : List (Int × List Int)) (h : ∀ o ∈ l, o.2.length ≤ 255) : (tlsB (l.map oT)).length ≤ 259 * l.length := by
  induction l with
  | nil => exact Nat.le_refl _
  | cons o l ih =>
    have e : tlsB ((o :: l).map oT) = putB 224 o.1 o.2 ++ tlsB (l.map oT) := rfl
    have h1 := ih (fun x hx => h x (List.mem_cons_of_mem _ hx))
    have h2 := putB_len 224 o.1 o.2
    have h3 := h o (List.mem_cons_self ..)
    rw [e, List.length_append, List.length_cons]
    omega
theorem usual_e (wb : Nat) (l l' : List Int) (k : Int) (a : Option Addr) (c : Nat) (p : List Bs) (D : List Int) (hD : catB p = D) (hl' : l ++ putB (fl k) k D = l') (hk : 0 ≤ k ∧ k ≤ 255) (hkn : kno k = true) (hp : p.length ≤ 1000) (hd : D.length ≤ 65535) (hl : l.length ≤ 1000000000) : Pact Try.prog 68 #[.pointer (some ⟨wb, 0, none⟩), .int .i64 k, .slice a p.length c] (fun w => PartsV w a c p) [wrO wb l] (fun u L' => L' = [wrO wb l']) := by
  subst hD hl'
  exact usual_s wb l k a c p hk hkn hp hd hl
theorem perhaps_e (wb : Nat) (l l' : List Int) (d : At) (hd : AtF d) (hl' : l ++ tlsB (medT d.nf ++ atomT d.nf ++ makT d.nf ++ comT d.nf) = l') (hl : l.length ≤ 1000000) : Pact Try.prog 70 #[.pointer (some ⟨wb, 0, none⟩), .agg (atC d).toArray, .bool true] (fun w => AtV w d) [wrO wb l] (fun u L' => L' = [wrO wb l']) := by
  subst hl'
  exact perhaps_s wb l d hd hl
theorem put_e (wb : Nat) (l l' : List Int) (f k : Int) (a : Option Addr) (c : Nat) (p : List Bs) (D : List Int) (hD : catB p = D) (hl' : l ++ putB f k D = l') (hk : 0 ≤ k ∧ k ≤ 255) (hp : p.length ≤ 1000) (hd : D.length ≤ 65535) (hl : l.length ≤ 1000000000) : Pact Try.prog 72 #[.pointer (some ⟨wb, 0, none⟩), .int .u8 f, .int .i64 k, .slice a p.length c] (fun w => PartsV w a c p) [wrO wb l] (fun u L' => L' = [wrO wb l']) := by
  subst hD hl'
  exact put_s wb l f k a c p hk hp hd hl
theorem partsL {K : Hl} {R R1 R2 : List HP} {w : World} {g n b : Nat} {l : List Int} {cs : List Value} {T T' : TypeId} (hr : Rdw K R w) (t1 : Tk R (pts g [.slice (some ⟨b, 0, none⟩) n n] T) R1) (t2 : Tk R (pts b cs T') R2) (hy : NumsOf cs l) (hn : l.length = n) (hm : Nat.ble n 1000000 = true) : PartsV w (some ⟨g, 0, none⟩) 1 [⟨some ⟨b, 0, none⟩, n, l⟩] := by
  subst hn
  refine ⟨Src.lit (sz := 1) (m := 1) t1 rfl (by decide) w hr, fun s hs => ?_⟩
  obtain rfl := List.mem_singleton.1 hs
  exact Src.nums t2 hy (Nat.beq_refl _) hm w hr
theorem partsK {K : Hl} {R R1 : List HP} {w : World} {g n c : Nat} {a : Option Addr} {l : List Int} {T : TypeId} (hr : Rdw K R w) (t1 : Tk R (pts g [.slice a n c] T) R1) (hv : Vw w (.slice a n c) 1 n (flat byC l)) (hn : l.length = n) : PartsV w (some ⟨g, 0, none⟩) 1 [⟨a, c, l⟩] := by
  subst hn
  refine ⟨Src.lit (sz := 1) (m := 1) t1 rfl (by decide) w hr, fun s hs => ?_⟩
  obtain rfl := List.mem_singleton.1 hs
  exact hv
theorem okN_at {d : At} (h : okN d.nf = true) : (0 ≤ d.origin ∧ d.origin ≤ 2) ∧ ckP (pN d.path) 0 = true ∧ (d.next ≠ 0 ∧ d.next < 3758096384) ∧ (d.hasMaker = true → d.makerAS ≠ 0) ∧ d.comms.length ≤ 32 ∧ d.others.length ≤ 8 ∧ ckO (oN d.others) (-1) = true := by
  rcases Classical.em ((0 ≤ d.origin ∧ d.origin ≤ 2) ∧ ckP (pN d.path) 0 = true ∧ (d.next ≠ 0 ∧ d.next < 3758096384) ∧ (d.hasMaker = true → d.makerAS ≠ 0) ∧ d.comms.length ≤ 32 ∧ d.others.length ≤ 8 ∧ ckO (oN d.others) (-1) = true) with h1 | h1
  · exact h1
  · rw [okN_f h1] at h
    cases h
structure PutR (d : At) (v : Value) (L' : List HP) : Prop where
  ex : ∃ a c l, v = .tuple #[.slice a l.length c, .int .i64 (er (okN d.nf))] ∧ (okN d.nf = true → l = attrB d.nf) ∧ l.length ≤ 1000000 ∧ L' = [Ar 5 1 byC (.slice a l.length c) l]
theorem Put_s (d : At) (hd : AtF d) : Pact Try.prog 59 #[.agg (atC d).toArray, .bool true] (fun w => AtV w d) [] (PutR d) := by
  refine pact Try.func59 rfl Try.ntmps59 rfl ?_
  intro W K hK
  have hck := check_s d hd
  rcases hok : okN d.nf with _ | _
  · rw [hok] at hck
    (repeat' (first | ((with_reducible apply gL); (first | refine yL0 ?_ | refine yL ?_ | ((with_reducible apply gL_go); (first | (refine JL_goq (hck) (hφ := (by (try simp only [List.cons_append, List.nil_append]); exact fun w hr => hK w hr.1)) (h := ?_); rintro _ _ ⟨rfl, rfl⟩; try simp only [List.cons_append, List.nil_append]) | fail)) | (refine yM ?_; intro _) | ((with_reducible apply gL_gd); (first | (refine JL_guard xR xR ?_ ?_ <;> intro _ <;> (try (exfalso; first | contradiction | omega))) | (refine JL_guardb xR xR ?_ ?_ <;> (intro hgb; subst hgb)) | (refine JL_guardb xR xR ?_ ?_ <;> (intro hgb; fail_if_success (have : type_of% hgb := rfl))) | fail)) | fail)) | ((with_reducible apply gD); (first | (refine JD_nil ?_; try simp only [List.cons_append, List.nil_append]) | (refine JD_bar ?_; try simp only [List.cons_append, List.nil_append]) | refine yD ?_ | ((with_reducible apply gD_go); (first | (refine JD_goq (hck) (hφ := (by (try simp only [List.cons_append, List.nil_append]); exact fun w hr => hK w hr.1)) (h := ?_); rintro _ _ ⟨rfl, rfl⟩; try simp only [List.cons_append, List.nil_append]) | fail)) | (refine yE ?_; intro _) | fail)) | refine yJ ?_ | ((with_reducible apply gJ_if); (first | (refine J_if xR ?_ ?_ <;> intro _ <;> (try (exfalso; first | contradiction | omega))) | (refine J_ifb xR ?_ ?_ <;> (intro hgb; subst hgb)) | (refine J_ifb xR ?_ ?_ <;> intro _) | fail)) | refine J_draw (id := 14) [0, 1, 2, 4, 5, 3, 6, 7] [8] mixed xC xD xD ?_ | fail))
    refine J_ret2 rfl (by rfl) (by rfl) fun w H => ⟨_, ⟨none, 0, [], by rw [hok]; rfl, (by rw [hok]; exact fun h => absurd h (by decide)), by simp, rfl⟩, (Ow.arNil (e := 5) (sz := 1) (enc := byC) H).sel xZ⟩
  · rw [hok] at hck
    have hd1 := hd.path
    have hd3 := hd.others
    obtain ⟨⟨ho1, ho2⟩, hcp, _, _, _, _, hco⟩ := okN_at hok
    obtain ⟨hos, h64⟩ := (ckP_iff (pN d.path) 0 (by omega)).1 hcp
    have hall := ckO_all _ _ hco
    have hpl := pB_len (pN d.path)
    have hpn : (pN d.path).length = d.path.length := by simp [pN]
    obtain ⟨Pb, hPb⟩ : ∃ Pb, pB (pN d.path) = Pb := ⟨_, rfl⟩
    have hpp := pPut_s d.pa d.pc d.path (by omega) hd.num.path hcp
    rw [hPb] at hpl hpp
    have hpl2 : Pb.length ≤ 300 := by omega
    have hov : Kn K (fun w => Vw w (.slice d.oa d.others.length d.oc) 2 d.others.length (flat rwC d.others)) := hK.imp fun _ h => h.others.vw
    obtain ⟨l1, hl1⟩ : ∃ l1, [] ++ putB (fl 1) 1 [d.origin] = l1 := ⟨_, rfl⟩
    obtain ⟨l2, hl2⟩ : ∃ l2, l1 ++ putB (fl 2) 2 Pb = l2 := ⟨_, rfl⟩
    obtain ⟨l3, hl3⟩ : ∃ l3, l2 ++ putB (fl 3) 3 (num4 d.next) = l3 := ⟨_, rfl⟩
    obtain ⟨l4, hl4⟩ : ∃ l4, l3 ++ tlsB (medT d.nf ++ atomT d.nf ++ makT d.nf ++ comT d.nf) = l4 := ⟨_, rfl⟩
    have hn1 : l1.length ≤ 5 := by rw [← hl1, List.nil_append]; exact putB_len _ _ _
    have hn2 : l2.length ≤ 400 := by have := putB_len (fl 2) 2 Pb; rw [← hl2, List.length_append]; omega
    have hn3 : l3.length ≤ 500 := by have := putB_len (fl 3) 3 (num4 d.next); rw [← hl3, List.length_append]; have : (num4 d.next).length = 4 := rfl; omega
    have hn4 : l4.length ≤ 2000 := by
      have h1 := medT_len d.nf
      have h2 := atomT_len d.nf
      have h3 := makT_len d.nf
      have h4 : (tlsB (comT d.nf)).length ≤ 200 := by
        unfold comT
        split
        · exact Nat.zero_le _
        · have : tlsB [((192 : Int), (8 : Int), asB d.nf.comms)] = putB 192 8 (asB d.nf.comms) ++ [] := rfl
          have h5 := putB_len 192 8 (asB d.nf.comms)
          have h6 := asB_len d.nf.comms
          have h7 : d.nf.comms.length ≤ 40 := hd.comms
          rw [this, List.append_nil]
          omega
      rw [← hl4]
      simp only [tlsB_append, List.length_append]
      omega
    (repeat' (first | ((with_reducible apply gL); (first | refine yL0 ?_ | refine yL ?_ | ((with_reducible apply gL_go); (first | (refine JL_goq (hck) (hφ := (by (try simp only [List.cons_append, List.nil_append]); exact fun w hr => hK w hr.1)) (h := ?_); rintro _ _ ⟨rfl, rfl⟩; try simp only [List.cons_append, List.nil_append]) | (refine JL_goq (hpp) (hφ := (by (try simp only [List.cons_append, List.nil_append]); exact fun w hr => (hK w hr.1).path)) (h := ?_); rintro _ _ ⟨a1, c1, rfl, rfl⟩; try simp only [List.cons_append, List.nil_append]) | fail)) | (refine yM ?_; intro _) | ((with_reducible apply gL_gd); (first | (refine JL_guard xR xR ?_ ?_ <;> intro _ <;> (try (exfalso; first | contradiction | omega))) | (refine JL_guardb xR xR ?_ ?_ <;> (intro hgb; subst hgb)) | (refine JL_guardb xR xR ?_ ?_ <;> (intro hgb; fail_if_success (have : type_of% hgb := rfl))) | fail)) | fail)) | ((with_reducible apply gD); (first | (refine JD_nil ?_; try simp only [List.cons_append, List.nil_append]) | (refine JD_bar ?_; try simp only [List.cons_append, List.nil_append]) | refine yD ?_ | ((with_reducible apply gD_go); (first | (refine JD_goq (hck) (hφ := (by (try simp only [List.cons_append, List.nil_append]); exact fun w hr => hK w hr.1)) (h := ?_); rintro _ _ ⟨rfl, rfl⟩; try simp only [List.cons_append, List.nil_append]) | (refine JD_goq (hpp) (hφ := (by (try simp only [List.cons_append, List.nil_append]); exact fun w hr => (hK w hr.1).path)) (h := ?_); rintro _ _ ⟨a1, c1, rfl, rfl⟩; try simp only [List.cons_append, List.nil_append]) | fail)) | (refine yE ?_; intro _) | fail)) | refine yJ ?_ | ((with_reducible apply gJ_if); (first | (refine J_if xR ?_ ?_ <;> intro _ <;> (try (exfalso; first | contradiction | omega))) | (refine J_ifb xR ?_ ?_ <;> (intro hgb; subst hgb)) | (refine J_ifb xR ?_ ?_ <;> intro _) | fail)) | refine J_draw (id := 14) [0, 1, 2, 4, 5, 3, 6, 7] [8] mixed xC xD xD ?_ | fail))
    rename_i b0 wb _ _
    refine JL_heap (fun w H => wrShut (l := []) (Ow.arNil (e := 5) (sz := 1) (enc := byC) H) xZ rfl) ?_
    (repeat' (first | ((with_reducible apply gL); (first | refine yL0 ?_ | refine yL ?_ | ((with_reducible apply gL_go); (first | (refine JL_goq (usual_e wb [] l1 1 _ 1 [⟨some ⟨_, 0, none⟩, 1, [d.origin]⟩] [d.origin] rfl hl1 (by decide) (by decide) (by simp) (by simp) (by simp)) (hφ := (by (try simp only [List.cons_append, List.nil_append]); exact fun w hr => partsL (n := 1) hr xA xA (.cons .nil) rfl rfl)) (h := ?_); rintro _ _ rfl; try simp only [List.cons_append, List.nil_append]) | (refine JL_goq (usual_e wb l1 l2 2 _ 1 [⟨a1, c1, Pb⟩] Pb (by simp [catB]) hl2 (by decide) (by decide) (by simp) (by omega) (by omega)) (hφ := (by (try simp only [List.cons_append, List.nil_append]); exact fun w hr => parts1 (n := Pb.length) hr xA xA rfl)) (h := ?_); rintro _ _ rfl; try simp only [List.cons_append, List.nil_append]) | (refine JL_goq (num_s d.next hd.num.next) (hφ := xF) (h := ?_); rintro _ _ ⟨b4, rfl, rfl⟩; try simp only [List.cons_append, List.nil_append]) | (refine JL_goq (usual_e wb l2 l3 3 _ 1 [⟨some ⟨b4, 0, none⟩, 4, num4 d.next⟩] (num4 d.next) (by simp [catB]) hl3 (by decide) (by decide) (by simp) (by simp [num4]) (by omega)) (hφ := (by (try simp only [List.cons_append, List.nil_append]); exact fun w hr => parts1 (n := 4) hr xA xA rfl)) (h := ?_); rintro _ _ rfl; try simp only [List.cons_append, List.nil_append]) | (refine JL_goq (perhaps_e wb l3 l4 d hd hl4 (by omega)) (hφ := (by (try simp only [List.cons_append, List.nil_append]); exact fun w hr => hK w hr.1)) (h := ?_); rintro _ _ rfl; try simp only [List.cons_append, List.nil_append]) | fail)) | (refine yM ?_; intro _) | ((with_reducible apply gL_gd); (first | (refine JL_guard xR xR ?_ ?_ <;> intro _ <;> (try (exfalso; first | contradiction | omega))) | (refine JL_guardb xR xR ?_ ?_ <;> (intro hgb; subst hgb)) | (refine JL_guardb xR xR ?_ ?_ <;> (intro hgb; fail_if_success (have : type_of% hgb := rfl))) | fail)) | fail)) | ((with_reducible apply gD); (first | (refine JD_nil ?_; try simp only [List.cons_append, List.nil_append]) | (refine JD_bar ?_; try simp only [List.cons_append, List.nil_append]) | refine yD ?_ | ((with_reducible apply gD_go); (first | (refine JD_goq (usual_e wb [] l1 1 _ 1 [⟨some ⟨_, 0, none⟩, 1, [d.origin]⟩] [d.origin] rfl hl1 (by decide) (by decide) (by simp) (by simp) (by simp)) (hφ := (by (try simp only [List.cons_append, List.nil_append]); exact fun w hr => partsL (n := 1) hr xA xA (.cons .nil) rfl rfl)) (h := ?_); rintro _ _ rfl; try simp only [List.cons_append, List.nil_append]) | (refine JD_goq (usual_e wb l1 l2 2 _ 1 [⟨a1, c1, Pb⟩] Pb (by simp [catB]) hl2 (by decide) (by decide) (by simp) (by omega) (by omega)) (hφ := (by (try simp only [List.cons_append, List.nil_append]); exact fun w hr => parts1 (n := Pb.length) hr xA xA rfl)) (h := ?_); rintro _ _ rfl; try simp only [List.cons_append, List.nil_append]) | (refine JD_goq (num_s d.next hd.num.next) (hφ := xF) (h := ?_); rintro _ _ ⟨b4, rfl, rfl⟩; try simp only [List.cons_append, List.nil_append]) | (refine JD_goq (usual_e wb l2 l3 3 _ 1 [⟨some ⟨b4, 0, none⟩, 4, num4 d.next⟩] (num4 d.next) (by simp [catB]) hl3 (by decide) (by decide) (by simp) (by simp [num4]) (by omega)) (hφ := (by (try simp only [List.cons_append, List.nil_append]); exact fun w hr => parts1 (n := 4) hr xA xA rfl)) (h := ?_); rintro _ _ rfl; try simp only [List.cons_append, List.nil_append]) | (refine JD_goq (perhaps_e wb l3 l4 d hd hl4 (by omega)) (hφ := (by (try simp only [List.cons_append, List.nil_append]); exact fun w hr => hK w hr.1)) (h := ?_); rintro _ _ rfl; try simp only [List.cons_append, List.nil_append]) | fail)) | (refine yE ?_; intro _) | fail)) | refine yJ ?_ | ((with_reducible apply gJ_if); (first | (refine J_if xR ?_ ?_ <;> intro _ <;> (try (exfalso; first | contradiction | omega))) | (refine J_ifb xR ?_ ?_ <;> (intro hgb; subst hgb)) | (refine J_ifb xR ?_ ?_ <;> intro _) | fail)) | refine J_draw (id := 14) [0, 1, 2, 4, 5, 3, 6, 7] [8] mixed xC xD xD ?_ | fail))
    refine J_loop (α := Nat) 0 (fun x => d.others.length - x) (fun x => x ≤ d.others.length) (fun x => [(7, .pointer (some ⟨wb, 0, none⟩)), (85, .slice d.oa d.others.length d.oc), (86, .int .i64 d.others.length), (87, .int .i64 x)]) (fun x => [wrO wb (l4 ++ tlsB ((oN (d.others.take x)).map oT))]) (Nat.zero_le _) ⟨rfl, rfl, rfl, rfl, trivial⟩ (fun w H => by simp only [List.take_zero, oN, List.map_nil, tlsB, List.flatMap_nil, List.append_nil]; exact H.sel xZ) ?_
    intro k hk
    have hlk : ∀ j, (l4 ++ tlsB ((oN (d.others.take j)).map oT)).length ≤ 10000 := by
      intro j
      have h1 := oT_len (oN (d.others.take j)) (fun o ho => (hall o (by
        obtain ⟨r, hr, rfl⟩ := List.mem_map.1 ho
        exact List.mem_map.2 ⟨r, List.take_subset _ _ hr, rfl⟩)).2.2.2)
      have h2 : (oN (d.others.take j)).length ≤ 9 := by simp only [oN, List.length_map, List.length_take]; omega
      rw [List.length_append]
      omega
    obtain ⟨lk, hlke⟩ : ∃ lk, l4 ++ tlsB ((oN (d.others.take k)).map oT) = lk := ⟨_, rfl⟩
    have hlk1 := hlk k
    rw [hlke] at hlk1 ⊢
    by_cases hlt : k < d.others.length
    · obtain ⟨s, hs⟩ : ∃ s, d.others[k]? = some s := ⟨_, List.getElem?_eq_getElem hlt⟩
      have hm := List.mem_of_getElem? hs
      have hsn1 := (hd.num.others s hm).2.1
      obtain ⟨hk1, hk2, _, hk3⟩ := hall (s.kind, s.data) (List.mem_map.2 ⟨s, hm, rfl⟩)
      dsimp only at hk1 hk2 hk3
      have hu : Kn K (fun w => Vw w (.slice s.a s.data.length s.c) 1 s.data.length (flat byC s.data)) := hK.imp fun _ h => h.others.raws s hm
      have he : lk ++ putB 224 s.kind s.data = l4 ++ tlsB ((oN (d.others.take (k + 1))).map oT) := by
        rw [← hlke, take_snoc hs]
        simp [oN, tlsB, tlB, oT]
      (repeat' (first | ((with_reducible apply gL); (first | refine yL0 ?_ | refine yL ?_ | ((with_reducible apply gL_go); (first | (refine JL_goq (put_e wb lk _ 224 s.kind _ 1 [⟨s.a, s.c, s.data⟩] s.data (by simp [catB]) he (by omega) (by simp) (by omega) (by omega)) (hφ := (by (try simp only [List.cons_append, List.nil_append]); exact fun w hr => partsK (n := s.data.length) hr xA (hu w hr.1) rfl)) (h := ?_); rintro _ _ rfl; try simp only [List.cons_append, List.nil_append]) | fail)) | (refine yM ?_; intro _) | ((with_reducible apply gL_gd); (first | (refine JL_guard xR xR ?_ ?_ <;> intro _ <;> (try (exfalso; first | contradiction | omega))) | (refine JL_guardb xR xR ?_ ?_ <;> (intro hgb; subst hgb)) | (refine JL_guardb xR xR ?_ ?_ <;> (intro hgb; fail_if_success (have : type_of% hgb := rfl))) | fail)) | fail)) | ((with_reducible apply gD); (first | (refine JD_nil ?_; try simp only [List.cons_append, List.nil_append]) | (refine JD_bar ?_; try simp only [List.cons_append, List.nil_append]) | refine yD ?_ | ((with_reducible apply gD_go); (first | (refine JD_goq (put_e wb lk _ 224 s.kind _ 1 [⟨s.a, s.c, s.data⟩] s.data (by simp [catB]) he (by omega) (by simp) (by omega) (by omega)) (hφ := (by (try simp only [List.cons_append, List.nil_append]); exact fun w hr => partsK (n := s.data.length) hr xA (hu w hr.1) rfl)) (h := ?_); rintro _ _ rfl; try simp only [List.cons_append, List.nil_append]) | fail)) | (refine yE ?_; intro _) | fail)) | refine yJ ?_ | ((with_reducible apply gJ_if); (first | (refine J_if xR ?_ ?_ <;> intro _ <;> (try (exfalso; first | contradiction | omega))) | (refine J_ifb xR ?_ ?_ <;> (intro hgb; subst hgb)) | (refine J_ifb xR ?_ ?_ <;> intro _) | fail)) | refine J_draw (id := 14) [0, 1, 2, 4, 5, 3, 6, 7] [8] mixed xC xD xD ?_ | fail))
      exact J_again (k + 1) (by omega) (by omega) ⟨rfl, rfl, rfl, rfl, trivial⟩ (fun w H => H.sel xZ)
    · have hke : k = d.others.length := by omega
      have hl : lk = attrB d.nf := by
        rw [← hlke, hke, List.take_length, ← hl4, ← hl3, ← hl2, ← hl1, ← hPb]
        unfold attrB attrT
        simp only [tlsB_append, List.append_assoc]
        simp [tlsB, tlB, fl, At.nf]
      refine J_open (fun w H => wrOpen H .here) ?_
      rintro ⟨ad, cc⟩
      dsimp only
      (repeat' (first | ((with_reducible apply gL); (first | refine yL0 ?_ | refine yL ?_ | (refine yM ?_; intro _) | ((with_reducible apply gL_gd); (first | (refine JL_guard xR xR ?_ ?_ <;> intro _ <;> (try (exfalso; first | contradiction | omega))) | (refine JL_guardb xR xR ?_ ?_ <;> (intro hgb; subst hgb)) | (refine JL_guardb xR xR ?_ ?_ <;> (intro hgb; fail_if_success (have : type_of% hgb := rfl))) | fail)) | fail)) | ((with_reducible apply gD); (first | (refine JD_nil ?_; try simp only [List.cons_append, List.nil_append]) | (refine JD_bar ?_; try simp only [List.cons_append, List.nil_append]) | refine yD ?_ | (refine yE ?_; intro _) | fail)) | refine yJ ?_ | ((with_reducible apply gJ_if); (first | (refine J_if xR ?_ ?_ <;> intro _ <;> (try (exfalso; first | contradiction | omega))) | (refine J_ifb xR ?_ ?_ <;> (intro hgb; subst hgb)) | (refine J_ifb xR ?_ ?_ <;> intro _) | fail)) | refine J_draw (id := 14) [0, 1, 2, 4, 5, 3, 6, 7] [8] mixed xC xD xD ?_ | fail))
      exact J_ret2 rfl (by rfl) (by rfl) fun w H => ⟨_, ⟨ad, cc, lk, by rw [hok]; rfl, fun _ => hl, by omega, rfl⟩, H.sel xZ⟩
/-- The key: the bytes, and the local preference. -/
def locB (x : Nf) : List Int := match x.loc with | none => [0] | some n => num4 n ++ [1]
def keyB (x : Nf) : List Int := attrB x ++ locB x
theorem locB_t {d : At} (h : d.hasLocal = true) : locB d.nf = num4 d.loc ++ [1] := by simp [locB, At.nf, h]
theorem locB_f {d : At} (h : d.hasLocal = false) : locB d.nf = [0] := by simp [locB, At.nf, h]
theorem keyOf_s (d : At) (hd : AtF d) : Pact Try.prog 49 #[.agg (atC d).toArray] (fun w => AtV w d) [] (fun u L' => ∃ k, u = .tuple #[.string k, .int .i64 (er (okN d.nf))] ∧ (okN d.nf = true → k = strOfNums (keyB d.nf)) ∧ L' = []) := by
  refine pact Try.func49 rfl Try.ntmps49 rfl ?_
  intro W K hK
  obtain ⟨hc0, hc1⟩ := hd.num.loc
  (repeat' (first | ((with_reducible apply gL); (first | refine yL0 ?_ | ((with_reducible apply gL_c_append); (first | (refine JL_apN (tabE etab_ok xR) xR xR xA xA (by first | exact .cons (.cons (.cons (.cons (.cons .nil)))) | exact .cons .nil) rfl rfl xC (by omega) xR xR ?_; intro ad4 cc4 _ _) | fail)) | ((with_reducible apply gL_convert); (first | (refine JL_p rfl xR xR (pe_str xR xC xC (Src.ar xA)) ?_) | fail)) | refine yL ?_ | ((with_reducible apply gL_go); (first | (refine JL_goq (Put_s d hd) (hφ := (by (try simp only [List.cons_append, List.nil_append]); exact fun w hr => hK w hr.1)) (h := ?_); rintro _ _ ⟨a1, c1, l, rfl, hl, hl2, rfl⟩; try simp only [List.cons_append, List.nil_append]) | fail)) | (refine yM ?_; intro _) | (refine yA ?_; intro _ _ _ _) | fail)) | refine yJ ?_ | ((with_reducible apply gJ_if); (first | (refine J_if xR ?_ ?_ <;> intro _ <;> (try (exfalso; first | contradiction | omega))) | (refine J_ifb xR ?_ ?_ <;> (intro hgb; subst hgb)) | (refine J_ifb xR ?_ ?_ <;> intro _) | fail)) | fail))
  · rename_i hb _ _ _
    refine J_ret2 rfl (by rfl) (by rfl) fun w H => ⟨_, ⟨_, rfl, fun h => ?_, rfl⟩, H.sel .nil⟩
    rw [hl h]
    unfold keyB
    rw [locB_t hb]
    rfl
  · rename_i hb _ _ _
    refine J_ret2 rfl (by rfl) (by rfl) fun w H => ⟨_, ⟨_, rfl, fun h => ?_, rfl⟩, H.sel .nil⟩
    rw [hl h]
    unfold keyB
    rw [locB_f hb]
end Go.Proofs.Ytdnokmpnemaoaaa
namespace Go.Proofs.Ytdnokmpnemaoaaa
set_option linter.unusedSimpArgs false
set_option linter.unusedVariables false
open Go.RowKit Go.Pm

structure NfN (x : Nf) : Prop where
  next : U32 x.next
  med : ∀ m, x.med = some m → U32 m
  loc : ∀ m, x.loc = some m → U32 m
  maker : ∀ m, x.maker = some m → U32 m.1 ∧ U32 m.2
  path : ∀ s ∈ x.path, ∀ z ∈ s.2, U32 z
  comms : ∀ z ∈ x.comms, U32 z
  others : ∀ o ∈ x.others, ∀ z ∈ o.2, U8 z
theorem At.nfN {d : At} (h : AtN d) : NfN d.nf := by
  refine ⟨h.next, fun m hm => ?_, fun m hm => ?_, fun m hm => ?_, fun s hs z hz => ?_, h.comms, fun o ho z hz => ?_⟩
  · unfold At.nf at hm; dsimp only at hm; split at hm <;> cases hm; exact h.med
  · unfold At.nf at hm; dsimp only at hm; split at hm <;> cases hm; exact h.loc
  · unfold At.nf at hm; dsimp only at hm; split at hm <;> cases hm; exact ⟨h.makerAS, h.maker⟩
  · obtain ⟨t, ht, rfl⟩ := List.mem_map.1 hs
    exact (h.path t ht).2 z hz
  · obtain ⟨t, ht, rfl⟩ := List.mem_map.1 ho
    exact (h.others t ht).2.2 z hz
theorem num4_inj {n m : Int} (hn : U32 n) (hm : U32 m) (h : num4 n = num4 m) : n = m := by
  obtain ⟨_, _⟩ := hn
  obtain ⟨_, _⟩ := hm
  simp only [num4, List.cons.injEq] at h
  omega
theorem asB_inj : ∀ {l m : List Int}, (∀ z ∈ l, U32 z) → (∀ z ∈ m, U32 z) → asB l = asB m → l = m
  | [], [], _, _, _ => rfl
  | [], y :: m, _, _, h => by
    have := congrArg List.length h
    rw [asB_len, asB_len] at this
    simp at this
  | x :: l, [], _, _, h => by
    have := congrArg List.length h
    rw [asB_len, asB_len] at this
    simp at this
  | x :: l, y :: m, h1, h2, h => by
    have e : num4 x ++ asB l = num4 y ++ asB m := h
    obtain ⟨e1, e2⟩ := List.append_inj e rfl
    rw [num4_inj (h1 x (List.mem_cons_self ..)) (h2 y (List.mem_cons_self ..)) e1, asB_inj (fun z hz => h1 z (List.mem_cons_of_mem _ hz)) (fun z hz => h2 z (List.mem_cons_of_mem _ hz)) e2]
theorem kd_inj {a b : Bool} (h : kd a = kd b) : a = b := by
  cases a <;> cases b <;> first | rfl | (exact absurd h (by decide))
theorem pB_inj : ∀ {p q : List (Bool × List Int)}, (∀ s ∈ p, ∀ z ∈ s.2, U32 z) → (∀ s ∈ q, ∀ z ∈ s.2, U32 z) → pB p = pB q → p = q
  | [], [], _, _, _ => rfl
  | [], t :: q, _, _, h => by
    have := congrArg List.length h
    rw [pB_len, pB_len] at this
    simp only [tot, List.length_cons, List.length_nil] at this
    omega
  | s :: p, [], _, _, h => by
    have := congrArg List.length h
    rw [pB_len, pB_len] at this
    simp [tot] at this
  | s :: p, t :: q, h1, h2, h => by
    have e : kd s.1 :: (s.2.length : Int) :: (asB s.2 ++ pB p) = kd t.1 :: (t.2.length : Int) :: (asB t.2 ++ pB q) := h
    simp only [List.cons.injEq] at e
    obtain ⟨e1, e2, e3⟩ := e
    obtain ⟨e4, e5⟩ := List.append_inj e3 (by rw [asB_len, asB_len]; omega)
    have e6 := asB_inj (h1 s (List.mem_cons_self ..)) (h2 t (List.mem_cons_self ..)) e4
    rw [pB_inj (fun z hz => h1 z (List.mem_cons_of_mem _ hz)) (fun z hz => h2 z (List.mem_cons_of_mem _ hz)) e5]
    congr 1
    exact Prod.ext (kd_inj e1) e6
/-- What may be put. -/
structure VT (t : Tl) : Prop where
  f : t.1 = 64 ∨ t.1 = 128 ∨ t.1 = 192 ∨ t.1 = 224
  k : 0 ≤ t.2.1 ∧ t.2.1 ≤ 255
  n : t.2.2.length ≤ 65535
  d : ∀ z ∈ t.2.2, U8 z
theorem orF_v : orF 64 = 80 ∧ orF 128 = 144 ∧ orF 192 = 208 ∧ orF 224 = 240 := by decide
theorem VT.or {t : Tl} (h : VT t) : orF t.1 = t.1 + 16 := by
  obtain ⟨h1, h2, h3, h4⟩ := orF_v
  rcases h.f with e | e | e | e <;> rw [e] <;> assumption
theorem tlB_inj {t u : Tl} {r r' : List Int} (ht : VT t) (hu : VT u) (h : tlB t ++ r = tlB u ++ r') : t = u ∧ r = r' := by
  obtain ⟨f, k, d⟩ := t
  obtain ⟨f', k', d'⟩ := u
  have hn := ht.n
  have hn' := hu.n
  have hf := ht.f
  have hf' := hu.f
  have ho := ht.or
  have ho' := hu.or
  dsimp only at hn hn' hf hf' ho ho'
  unfold tlB putB at h
  dsimp only at h
  rw [ho, ho'] at h
  split at h <;> split at h
  · simp only [List.cons_append, List.nil_append, List.cons.injEq] at h
    obtain ⟨e1, e2, e3, e4, e5⟩ := h
    obtain ⟨e6, e7⟩ := List.append_inj e5 (by omega)
    refine ⟨?_, e7⟩
    rw [show f = f' by omega, e2, e6]
  · simp only [List.cons_append, List.nil_append, List.cons.injEq] at h
    omega
  · simp only [List.cons_append, List.nil_append, List.cons.injEq] at h
    omega
  · simp only [List.cons_append, List.nil_append, List.cons.injEq] at h
    obtain ⟨e1, e2, e3, e5⟩ := h
    obtain ⟨e6, e7⟩ := List.append_inj e5 (by omega)
    refine ⟨?_, e7⟩
    rw [e1, e2, e6]
theorem tlB_ne (t : Tl) : 0 < (tlB t).length := by
  unfold tlB putB
  split <;> simp
theorem tls_inj : ∀ {l m : List Tl}, (∀ t ∈ l, VT t) → (∀ t ∈ m, VT t) → tlsB l = tlsB m → l = m
  | [], [], _, _, _ => rfl
  | [], u :: m, _, _, h => by
    have e : [] = tlB u ++ tlsB m := h
    have h1 := congrArg List.length e
    have h2 := tlB_ne u
    rw [List.length_append, List.length_nil] at h1
    omega
  | t :: l, [], _, _, h => by
    have e : tlB t ++ tlsB l = [] := h
    have h1 := congrArg List.length e
    have h2 := tlB_ne t
    rw [List.length_append, List.length_nil] at h1
    omega
  | t :: l, u :: m, h1, h2, h => by
    have e : tlB t ++ tlsB l = tlB u ++ tlsB m := h
    obtain ⟨e1, e2⟩ := tlB_inj (h1 t (List.mem_cons_self ..)) (h2 u (List.mem_cons_self ..)) e
    rw [e1, tls_inj (fun z hz => h1 z (List.mem_cons_of_mem _ hz)) (fun z hz => h2 z (List.mem_cons_of_mem _ hz)) e2]
theorem num4_u8 {n : Int} (h : U32 n) : ∀ z ∈ num4 n, U8 z := by
  obtain ⟨_, _⟩ := h
  intro z hz
  simp only [num4, List.mem_cons, List.not_mem_nil, or_false] at hz
  unfold U8
  omega
theorem asB_u8 {l : List Int} (h : ∀ z ∈ l, U32 z) : ∀ z ∈ asB l, U8 z := by
  intro z hz
  obtain ⟨x, hx, hz⟩ := List.mem_flatMap.1 hz
  exact num4_u8 (h x hx) z hz
theorem pB_u8 {p : List (Bool × List Int)} (hp : ∀ s ∈ p, okS s = true) (h : ∀ s ∈ p, ∀ z ∈ s.2, U32 z) : ∀ z ∈ pB p, U8 z := by
  intro z hz
  obtain ⟨s, hs, hz⟩ := List.mem_flatMap.1 hz
  have h1 := hp s hs
  unfold okS at h1
  have h1 := of_decide_eq_true h1
  unfold segB at hz
  rcases List.mem_cons.1 hz with rfl | hz
  · unfold kd U8
    split <;> omega
  · rcases List.mem_cons.1 hz with rfl | hz
    · unfold U8
      omega
    · exact asB_u8 (h s hs) z hz
open Classical in
theorem okN_of {x : Nf} (h : okN x = true) : OkN x := by
  unfold okN at h
  exact of_decide_eq_true h
theorem midT_f {x : Nf} : ∀ t ∈ medT x ++ atomT x ++ makT x ++ comT x, t.1 = 64 ∨ t.1 = 128 ∨ t.1 = 192 := by
  intro t ht
  simp only [List.mem_append] at ht
  rcases ht with ((ht | ht) | ht) | ht
  · unfold medT at ht; split at ht <;> simp at ht; subst ht; simp
  · unfold atomT at ht; split at ht <;> simp at ht; subst ht; simp
  · unfold makT at ht; split at ht <;> simp at ht; subst ht; simp
  · unfold comT at ht; split at ht <;> simp at ht; subst ht; simp
theorem attrT_vt {x : Nf} (hn : NfN x) (ho : OkN x) : ∀ t ∈ attrT x, VT t := by
  obtain ⟨hos, h64⟩ := (ckP_iff x.path 0 (by omega)).1 ho.path
  intro t ht
  unfold attrT at ht
  rcases List.mem_append.1 ht with ht | ht
  · rcases List.mem_append.1 ht with ht | ht
    · simp only [List.mem_cons, List.not_mem_nil, or_false] at ht
      rcases ht with rfl | rfl | rfl
      · refine ⟨.inl rfl, ⟨by simp, by simp⟩, by simp, ?_⟩
        intro z hz
        obtain rfl := List.mem_singleton.1 hz
        have := ho.origin
        unfold U8
        omega
      · refine ⟨.inl rfl, ⟨by simp, by simp⟩, ?_, pB_u8 hos hn.path⟩
        have h1 := pB_len x.path
        have h2 : x.path.length ≤ tot x.path := by
          have : ∀ (p : List (Bool × List Int)), (∀ s ∈ p, okS s = true) → p.length ≤ tot p := by
            intro p
            induction p with
            | nil => intro _; exact Nat.zero_le _
            | cons s p ih =>
              intro h
              have h3 := ih (fun s hs => h s (List.mem_cons_of_mem _ hs))
              have h4 := h s (List.mem_cons_self ..)
              unfold okS at h4
              have h4 := of_decide_eq_true h4
              simp only [List.length_cons, tot]
              omega
          exact this _ hos
        show (pB x.path).length ≤ 65535
        omega
      · exact ⟨.inl rfl, ⟨by simp, by simp⟩, by simp [num4], num4_u8 hn.next⟩
    · simp only [List.mem_append] at ht
      rcases ht with ((ht | ht) | ht) | ht
      · unfold medT at ht
        split at ht
        · simp at ht
        · rename_i m hm
          obtain rfl := List.mem_singleton.1 ht
          exact ⟨by simp, by simp, by simp [num4], num4_u8 (hn.med m hm)⟩
      · unfold atomT at ht
        split at ht
        · obtain rfl := List.mem_singleton.1 ht
          exact ⟨by simp, by simp, by simp, by simp⟩
        · simp at ht
      · unfold makT at ht
        split at ht
        · simp at ht
        · rename_i m hm
          obtain rfl := List.mem_singleton.1 ht
          refine ⟨by simp, by simp, by simp [num4], fun z hz => ?_⟩
          rcases List.mem_append.1 hz with hz | hz
          · exact num4_u8 (hn.maker m hm).1 z hz
          · exact num4_u8 (hn.maker m hm).2 z hz
      · unfold comT at ht
        split at ht
        · simp at ht
        · obtain rfl := List.mem_singleton.1 ht
          refine ⟨by simp, by simp, ?_, asB_u8 hn.comms⟩
          have := ho.comms
          show (asB x.comms).length ≤ 65535
          rw [asB_len]
          omega
  · obtain ⟨o, ho2, rfl⟩ := List.mem_map.1 ht
    have := ckO_all _ _ ho.others.2 o ho2
    exact ⟨by simp [oT], ⟨by show 0 ≤ o.1; omega, by show o.1 ≤ 255; omega⟩, by show o.2.length ≤ 65535; omega, hn.others o ho2⟩
def isK (k : Int) (t : Tl) : Bool := decide (t.2.1 = k)
theorem mid_k4 (x : Nf) : (medT x ++ atomT x ++ makT x ++ comT x).filter (isK 4) = medT x := by
  unfold medT atomT makT comT isK
  split <;> split <;> split <;> split <;> simp
theorem mid_k6 (x : Nf) : (medT x ++ atomT x ++ makT x ++ comT x).filter (isK 6) = atomT x := by
  unfold medT atomT makT comT isK
  split <;> split <;> split <;> split <;> simp
theorem mid_k7 (x : Nf) : (medT x ++ atomT x ++ makT x ++ comT x).filter (isK 7) = makT x := by
  unfold medT atomT makT comT isK
  split <;> split <;> split <;> split <;> simp
theorem mid_k8 (x : Nf) : (medT x ++ atomT x ++ makT x ++ comT x).filter (isK 8) = comT x := by
  unfold medT atomT makT comT isK
  split <;> split <;> split <;> split <;> simp
theorem app_split {P : Tl → Prop} : ∀ {a b c d : List Tl}, (∀ t ∈ a, P t) → (∀ t ∈ c, P t) → (∀ t ∈ b, ¬ P t) → (∀ t ∈ d, ¬ P t) → a ++ b = c ++ d → a = c ∧ b = d
  | [], b, [], d, _, _, _, _, h => ⟨rfl, h⟩
  | [], b, z :: c, d, _, h2, h3, _, h => by
    have : z ∈ b := by
      have e : b = z :: (c ++ d) := h
      rw [e]; exact List.mem_cons_self ..
    exact absurd (h2 z (List.mem_cons_self ..)) (h3 z this)
  | z :: a, b, [], d, h1, _, _, h4, h => by
    have : z ∈ d := by
      have e : z :: (a ++ b) = d := h
      rw [← e]; exact List.mem_cons_self ..
    exact absurd (h1 z (List.mem_cons_self ..)) (h4 z this)
  | z :: a, b, y :: c, d, h1, h2, h3, h4, h => by
    have e : z :: (a ++ b) = y :: (c ++ d) := h
    simp only [List.cons.injEq] at e
    obtain ⟨e1, e2⟩ := app_split (fun t ht => h1 t (List.mem_cons_of_mem _ ht)) (fun t ht => h2 t (List.mem_cons_of_mem _ ht)) h3 h4 e.2
    rw [e.1, e1, e2]
    exact ⟨rfl, rfl⟩
theorem oT_inj : ∀ {l m : List (Int × List Int)}, l.map oT = m.map oT → l = m
  | [], [], _ => rfl
  | [], _ :: _, h => by simp at h
  | _ :: _, [], h => by simp at h
  | x :: l, y :: m, h => by
    simp only [List.map_cons, List.cons.injEq, oT, Prod.mk.injEq] at h
    rw [oT_inj (l := l) (m := m) h.2]
    congr 1
    exact Prod.ext h.1.2.1 h.1.2.2
theorem attr_inj {x y : Nf} (hx : NfN x) (hy : NfN y) (hl : x.loc = y.loc) (h : attrT x = attrT y) : x = y := by
  have h : ((64 : Int), (1 : Int), [x.origin]) :: (64, 2, pB x.path) :: (64, 3, num4 x.next) :: ((medT x ++ atomT x ++ makT x ++ comT x) ++ x.others.map oT) = (64, 1, [y.origin]) :: (64, 2, pB y.path) :: (64, 3, num4 y.next) :: ((medT y ++ atomT y ++ makT y ++ comT y) ++ y.others.map oT) := h
  simp only [List.cons_append, List.nil_append, List.cons.injEq, Prod.mk.injEq, true_and] at h
  obtain ⟨⟨e1, _⟩, e2, e3, e4⟩ := h
  have e2 := pB_inj hx.path hy.path e2
  have e3 := num4_inj hx.next hy.next e3
  obtain ⟨e5, e6⟩ := app_split (P := fun t => t.1 ≠ 224) (fun t ht => by rcases midT_f t ht with h | h | h <;> rw [h] <;> decide) (fun t ht => by rcases midT_f t ht with h | h | h <;> rw [h] <;> decide) (fun t ht => by obtain ⟨o, _, rfl⟩ := List.mem_map.1 ht; simp [oT]) (fun t ht => by obtain ⟨o, _, rfl⟩ := List.mem_map.1 ht; simp [oT]) e4
  have e6 := oT_inj e6
  have m4 := congrArg (List.filter (isK 4)) e5
  have m6 := congrArg (List.filter (isK 6)) e5
  have m7 := congrArg (List.filter (isK 7)) e5
  have m8 := congrArg (List.filter (isK 8)) e5
  rw [mid_k4, mid_k4] at m4
  rw [mid_k6, mid_k6] at m6
  rw [mid_k7, mid_k7] at m7
  rw [mid_k8, mid_k8] at m8
  have f4 : x.med = y.med := by
    unfold medT at m4
    have h1 := hx.med
    have h2 := hy.med
    rcases a : x.med with _ | a1 <;> rcases b : y.med with _ | b1 <;> rw [a, b] at m4
    · simp at m4
    · simp at m4
    · simp only [List.cons.injEq, Prod.mk.injEq, true_and, and_true] at m4
      rw [num4_inj (h1 _ a) (h2 _ b) m4]
  have f6 : x.atomic = y.atomic := by
    unfold atomT at m6
    rcases a : x.atomic <;> rcases b : y.atomic <;> rw [a, b] at m6 <;> simp at m6 ⊢
  have f7 : x.maker = y.maker := by
    unfold makT at m7
    have h1 := hx.maker
    have h2 := hy.maker
    rcases a : x.maker with _ | a1 <;> rcases b : y.maker with _ | b1 <;> rw [a, b] at m7
    · simp at m7
    · simp at m7
    · simp only [List.cons.injEq, Prod.mk.injEq, true_and, and_true] at m7
      obtain ⟨g1, g2⟩ := List.append_inj m7 rfl
      congr 1
      exact Prod.ext (num4_inj (h1 _ a).1 (h2 _ b).1 g1) (num4_inj (h1 _ a).2 (h2 _ b).2 g2)
  have f8 : x.comms = y.comms := by
    unfold comT at m8
    split at m8 <;> split at m8
    · rw [List.eq_nil_of_length_eq_zero (by assumption : x.comms.length = 0), List.eq_nil_of_length_eq_zero (by assumption : y.comms.length = 0)]
    · simp at m8
    · simp at m8
    · simp only [List.cons.injEq, Prod.mk.injEq, true_and, and_true] at m8
      exact asB_inj hx.comms hy.comms m8
  obtain ⟨a1, a2, a3, a4, a5, a6, a7, a8, a9⟩ := x
  obtain ⟨b1, b2, b3, b4, b5, b6, b7, b8, b9⟩ := y
  simp_all
theorem locB_u8 {x : Nf} (h : NfN x) : ∀ z ∈ locB x, U8 z := by
  intro z hz
  unfold locB at hz
  split at hz
  · obtain rfl := List.mem_singleton.1 hz
    unfold U8; omega
  · rename_i n hn
    rcases List.mem_append.1 hz with hz | hz
    · exact num4_u8 (h.loc n hn) z hz
    · obtain rfl := List.mem_singleton.1 hz
      unfold U8; omega
theorem tlB_u8 {t : Tl} (h : VT t) : ∀ z ∈ tlB t, U8 z := by
  intro z hz
  unfold tlB putB at hz
  have hf := h.f
  have ho := h.or
  have hk := h.k
  have hn := h.n
  rcases List.mem_append.1 hz with hz | hz
  · split at hz
    · simp only [List.mem_cons, List.not_mem_nil, or_false] at hz
      rw [ho] at hz
      unfold U8
      omega
    · simp only [List.mem_cons, List.not_mem_nil, or_false] at hz
      unfold U8
      omega
  · exact h.d z hz
theorem keyB_u8 {x : Nf} (hn : NfN x) (ho : okN x = true) : ∀ z ∈ keyB x, U8 z := by
  intro z hz
  unfold keyB at hz
  rcases List.mem_append.1 hz with hz | hz
  · obtain ⟨t, ht, hz⟩ := List.mem_flatMap.1 hz
    exact tlB_u8 (attrT_vt hn (okN_of ho) t ht) z hz
  · exact locB_u8 hn z hz
theorem key_inj {x y : Nf} (hx : NfN x) (hy : NfN y) (ox : okN x = true) (oy : okN y = true) (h : keyB x = keyB y) : x = y := by
  unfold keyB at h
  have hl : x.loc = y.loc ∧ attrB x = attrB y := by
    have g := congrArg List.getLast? h
    have h1 := hx.loc
    have h2 := hy.loc
    unfold locB at h g
    rcases a : x.loc with _ | a1 <;> rcases b : y.loc with _ | b1 <;> rw [a, b] at h g
    · exact ⟨rfl, (List.append_inj' h rfl).1⟩
    · rw [← List.append_assoc, List.getLast?_concat, List.getLast?_concat] at g
      simp at g
    · rw [← List.append_assoc, List.getLast?_concat, List.getLast?_concat] at g
      simp at g
    · obtain ⟨g1, g2⟩ := List.append_inj' h rfl
      obtain ⟨g3, _⟩ := List.append_inj g2 rfl
      exact ⟨by rw [num4_inj (h1 _ a) (h2 _ b) g3], g1⟩
  exact attr_inj hx hy hl.1 (tls_inj (attrT_vt hx (okN_of ox)) (attrT_vt hy (okN_of oy)) hl.2)
def keyS (x : Nf) : ByteArray := strOfNums (keyB x)
theorem keyS_inj {x y : Nf} (hx : NfN x) (hy : NfN y) (ox : okN x = true) (oy : okN y = true) (h : keyS x = keyS y) : x = y :=
  key_inj hx hy ox oy (strOf_inj (keyB_u8 hx ox) (keyB_u8 hy oy) h)
end Go.Proofs.Ytdnokmpnemaoaaa
namespace Go.Pm
set_option linter.unusedSimpArgs false
set_option linter.unusedVariables false
open Go.RowKit
section
variable {P : Program} {n : Nat} {W : World} {K : Hl} {F : Fp} {k : List It} {tm : TM} {L L' R S M C : List HP} {T : TypeId} {pos : String} {af : Array Edge} {gd : Option (Nat × Bool)} {ops : Array Oper} {rest nx : List Oper} {d : Option Tmp}
def isMapT : TypeDesc → Bool
  | .map _ _ => true
  | _ => false
theorem run_eqM {t : TypeId} (ht : tyIs P t isMapT = true) (a : Option Nat) (w : World) : (Op.equal t (.map a) (.map none)).run P w = .ok a.isNone w := by
  obtain ⟨d, hd, hf⟩ := tyIs_spec ht
  cases d <;> simp [isMapT] at hf
  have key : ∀ m, (Op.equalIn (m + 1) t (.map a) (.map none)).run P w = .ok a.isNone w := fun m => by cases a <;> simp [Op.equalIn, Sem.run_bind, run_underlying hd]
  exact key 9999
theorem pe_neM {xt yt : TypeId} {x y : Operand} {a : Option Nat} (hx : evT tm x = some (.map a)) (hy : evT tm y = some (.map none)) (ht : tyIs P xt isMapT = true) : PE P K L ⟨d, .binOp .neq xt x y yt, T, pos, af, gd⟩ (tget tm) (.bool (decide (a ≠ none))) := pe_bin hx hy fun w => by
  cases a <;> simp [eqGuard, binOp, Sem.run_bind, run_eqM ht]
end
section
variable {κ : Type} [DecidableEq κ]
theorem mi_of {P : Program} {t key elem : TypeId} {kv : κ → Value} {zv : Value} (h1 : P.underlying t = some (.map key elem)) (hk : KeyOk P key kv) (h2 : (P.info? elem).bind (·.zero) = some zv) : MI P t kv zv := by
  rcases h : P.info? elem with _ | i
  · rw [h] at h2; cases h2
  · rw [h] at h2; exact ⟨key, elem, i, h1, hk, h, h2⟩
theorem aG_none {A : List (κ × Value)} {z : κ} (h : ∀ p ∈ A, p.1 ≠ z) : aG A z = none := by
  induction A with
  | nil => rfl
  | cons p A ih =>
    obtain ⟨x, v⟩ := p
    unfold aG
    rw [if_neg (h (x, v) (List.mem_cons_self ..))]
    exact ih fun q hq => h q (List.mem_cons_of_mem _ hq)
theorem aG_mid {A B : List (κ × Value)} {z : κ} {v : Value} (h : ∀ p ∈ A, p.1 ≠ z) : aG (A ++ (z, v) :: B) z = some v := by
  induction A with
  | nil => simp [aG]
  | cons p A ih =>
    obtain ⟨x, u⟩ := p
    show (if x = z then some u else aG (A ++ (z, v) :: B) z) = _
    rw [if_neg (h (x, u) (List.mem_cons_self ..))]
    exact ih fun q hq => h q (List.mem_cons_of_mem _ hq)
theorem aD_mid {A B : List (κ × Value)} {z : κ} {v : Value} (h : ∀ p ∈ A, p.1 ≠ z) : aD (A ++ (z, v) :: B) z = A ++ B := by
  induction A with
  | nil => simp [aD]
  | cons p A ih =>
    obtain ⟨x, u⟩ := p
    show (if x = z then A ++ (z, v) :: B else (x, u) :: aD (A ++ (z, v) :: B) z) = _
    rw [if_neg (h (x, u) (List.mem_cons_self ..)), ih fun q hq => h q (List.mem_cons_of_mem _ hq)]
    rfl
theorem aP_new {A : List (κ × Value)} {z : κ} {v : Value} (h : ∀ p ∈ A, p.1 ≠ z) : aP A z v = A ++ [(z, v)] := by
  induction A with
  | nil => rfl
  | cons p A ih =>
    obtain ⟨x, u⟩ := p
    show (if x = z then (x, v) :: A else (x, u) :: aP A z v) = _
    rw [if_neg (h (x, u) (List.mem_cons_self ..)), ih fun q hq => h q (List.mem_cons_of_mem _ hq)]
    rfl
end
/-- Take one part out of many, put it back. -/
theorem Ow.satsMid {α : Type} {f : α → HP} {A B : List α} {m : α} {W : World} {K : Hl} {L R : List HP} {w : World} (H : Ow W K L w) (t : Tk L (sats ((A ++ m :: B).map f)) R) : Ow W K (f m :: sats ((A ++ B).map f) :: R) w := by
  have h1 := H.flat t
  rw [List.map_append, List.map_cons] at h1
  have h2 : Ow W K ((A.map f ++ B.map f) ++ (f m :: R)) w := h1.perm (by
    refine List.Perm.trans (l₂ := f m :: ((A.map f ++ B.map f) ++ R)) ?_ ?_
    · simp
    · exact (List.perm_middle (a := f m) (l₁ := A.map f ++ B.map f) (l₂ := R)).symm)
  have h3 := h2.unflat (As := A.map f ++ B.map f) (Sb.all _ _)
  rw [List.map_append]
  exact h3.perm (.swap ..)
theorem Ow.satsBack {α : Type} {f : α → HP} {A B : List α} {m : α} {W : World} {K : Hl} {L R R' : List HP} {w : World} (H : Ow W K L w) (t1 : Tk L (f m) R) (t2 : Tk R (sats ((A ++ B).map f)) R') : Ow W K (sats ((A ++ m :: B).map f) :: R') w := by
  have h0 := H.perm (t1.perm.trans ((t2.perm.cons _).trans (.swap ..)))
  have h1 := h0.flat .here
  have h2 : Ow W K ((A ++ m :: B).map f ++ R') w := h1.perm (by
    rw [List.map_append, List.map_append, List.map_cons]
    refine List.Perm.trans (List.perm_middle (a := f m) (l₁ := A.map f ++ B.map f) (l₂ := R')) ?_
    have := (List.perm_middle (a := f m) (l₁ := A.map f) (l₂ := B.map f ++ R')).symm
    simpa using this)
  exact h2.unflat (Sb.all _ _)
theorem Ow.satsDrop {α : Type} {f : α → HP} {A B : List α} {m : α} {W : World} {K : Hl} {L R : List HP} {w : World} (H : Ow W K L w) (t : Tk L (sats ((A ++ m :: B).map f)) R) : Ow W K (sats ((A ++ B).map f) :: R) w := (H.satsMid t).drop
end Go.Pm
namespace Go.Proofs.Ytdnokmpnemaoaaa
set_option linter.unusedSimpArgs false
set_option linter.unusedVariables false
set_option maxRecDepth 20000
set_option maxHeartbeats 4000000
open Go.RowKit Go.Pm

/-- What is kept: by a number, so often. -/
structure En where
  id : Int
  n : Int
  x : Nf
/-- The same in memory. -/
structure Me where
  b : Nat
  d : At
  e : En
abbrev enC (d : At) (k : ByteArray) (n : Int) : List Value := [.int .i64 d.origin, .slice d.pa d.path.length d.pc, .int .u32 d.next, .bool d.hasMed, .int .u32 d.med, .bool d.hasLocal, .int .u32 d.loc, .bool d.atomic, .bool d.hasMaker, .int .u32 d.makerAS, .int .u32 d.maker, .slice d.ca d.comms.length d.cc, .slice d.oa d.others.length d.oc, .string k, .int .i64 n]
def meP (m : Me) : HP := sats [pts m.b (enC m.d (keyS m.e.x) m.e.n) 92, has (fun w => AtV w m.d)]
theorem meOpen {W : World} {K : Hl} {L R : List HP} {w : World} {m : Me} (H : Ow W K L w) (t : Tk L (meP m) R) : Ow W K (pts m.b (enC m.d (keyS m.e.x) m.e.n) 92 :: has (fun w => AtV w m.d) :: R) w := H.flat t
theorem meShut {W : World} {K : Hl} {L R : List HP} {w : World} {m : Me} (H : Ow W K L w) (t : Sb L [pts m.b (enC m.d (keyS m.e.x) m.e.n) 92, has (fun w => AtV w m.d)] R) : Ow W K (meP m :: R) w := H.unflat t
def byL (M : List Me) : List (ByteArray × Value) := M.map fun m => (keyS m.e.x, Value.int .i64 m.e.id)
def idL (M : List Me) : List (Int × Value) := M.map fun m => (m.e.id, Value.pointer (some ⟨m.b, 0, none⟩))
abbrev stC (mb lb : Nat) (c : Int) : List Value := [.map (some mb), .map (some lb), .int .i64 c]
abbrev mqS := mq Value.string
abbrev mqI := mq (Value.int .i64)
structure MOk (M : List Me) (S : List En) : Prop where
  e : M.map (·.e) = S
  d : ∀ m ∈ M, AtF m.d ∧ m.d.nf = m.e.x
def stoA (sp : Nat) (S : List En) (c : Int) : HP := fun h => ∃ (mb lb : Nat) (M : List Me), MOk M S ∧ sats [pts sp (stC mb lb c) 76, mqS mb (byL M), mqI lb (idL M), sats (M.map meP)] h
structure Mx where
  mb : Nat
  lb : Nat
  M : List Me
theorem stoOpen {W : World} {K : Hl} {L R : List HP} {w : World} {sp : Nat} {S : List En} {c : Int} (H : Ow W K L w) (t : Tk L (stoA sp S c) R) : ∃ x : {x : Mx // MOk x.M S}, Ow W K (pts sp (stC x.1.mb x.1.lb c) 76 :: mqS x.1.mb (byL x.1.M) :: mqI x.1.lb (idL x.1.M) :: sats (x.1.M.map meP) :: R) w :=
  H.open t (Bs := fun x : {x : Mx // MOk x.M S} => [pts sp (stC x.1.mb x.1.lb c) 76, mqS x.1.mb (byL x.1.M), mqI x.1.lb (idL x.1.M), sats (x.1.M.map meP)]) (fun k ⟨mb, lb, M, hM, h⟩ => ⟨⟨⟨mb, lb, M⟩, hM⟩, h⟩)
theorem stoShut {W : World} {K : Hl} {L R : List HP} {w : World} {sp mb lb : Nat} {M : List Me} {S : List En} {c : Int} (hM : MOk M S) (H : Ow W K L w) (t : Sb L [pts sp (stC mb lb c) 76, mqS mb (byL M), mqI lb (idL M), sats (M.map meP)] R) : Ow W K (stoA sp S c :: R) w :=
  H.shut t (fun k hk => ⟨mb, lb, M, hM, hk⟩)
theorem mi_s : MI Try.prog 73 Value.string (.int .i64 0) := mi_of Try.underlying73 (keyOkS Try.underlying9) (by kernel_rfl)
theorem mi_i : MI Try.prog 74 (Value.int .i64) (.pointer none) := mi_of Try.underlying74 (keyOkI Try.underlying3) (by kernel_rfl)
theorem is_s (sp : Nat) (lb : Nat) (x : Value) (c : Int) : Pact Try.prog 48 #[.pointer (some ⟨sp, 0, none⟩)] (fun _ => True) [pts sp [x, .map (some lb), .int .i64 c] 76] (fun u L' => u = .bool true ∧ L' = [pts sp [x, .map (some lb), .int .i64 c] 76]) := by
  refine pact Try.func48 rfl Try.ntmps48 rfl ?_
  intro W K _
  (repeat' (first | ((with_reducible apply gL); (first | refine yL0 ?_ | ((with_reducible apply gL_bin_neq); (first | (refine JL_p rfl xR xR (pe_neM xR xR xC) ?_) | fail)) | refine yL ?_ | ((with_reducible apply gL_gd); (first | (refine JL_guard xR xR ?_ ?_ <;> intro _ <;> (try (exfalso; first | contradiction | omega))) | (refine JL_guardb xR xR ?_ ?_ <;> (intro hgb; subst hgb)) | (refine JL_guardb xR xR ?_ ?_ <;> (intro hgb; fail_if_success (have : type_of% hgb := rfl))) | fail)) | fail)) | refine yJ ?_ | fail))
  exact J_ret1 rfl (by rfl) fun w H => ⟨_, ⟨rfl, rfl⟩, H.sel xZ⟩
theorem isvoid_s (sp : Nat) (x : Value) (c : Int) : Pact Try.prog 48 #[.pointer (some ⟨sp, 0, none⟩)] (fun _ => True) [pts sp [x, .map none, .int .i64 c] 76] (fun u L' => u = .bool false ∧ L' = [pts sp [x, .map none, .int .i64 c] 76]) := by
  refine pact Try.func48 rfl Try.ntmps48 rfl ?_
  intro W K _
  (repeat' (first | ((with_reducible apply gL); (first | refine yL0 ?_ | ((with_reducible apply gL_bin_neq); (first | (refine JL_p rfl xR xR (pe_neM xR xR xC) ?_) | fail)) | refine yL ?_ | ((with_reducible apply gL_gd); (first | (refine JL_guard xR xR ?_ ?_ <;> intro _ <;> (try (exfalso; first | contradiction | omega))) | (refine JL_guardb xR xR ?_ ?_ <;> (intro hgb; subst hgb)) | (refine JL_guardb xR xR ?_ ?_ <;> (intro hgb; fail_if_success (have : type_of% hgb := rfl))) | fail)) | fail)) | refine yJ ?_ | fail))
  exact J_ret1 rfl (by rfl) fun w H => ⟨_, ⟨rfl, rfl⟩, H.sel xZ⟩
theorem isnil_s : Pact Try.prog 48 #[.pointer none] (fun _ => True) [] (ret0 (.bool false)) := by
  refine pact Try.func48 rfl Try.ntmps48 rfl ?_
  intro W K _
  (repeat' (first | ((with_reducible apply gL); (first | refine yL0 ?_ | refine yL ?_ | ((with_reducible apply gL_gd); (first | (refine JL_guard xR xR ?_ ?_ <;> intro _ <;> (try (exfalso; first | contradiction | omega))) | (refine JL_guardb xR xR ?_ ?_ <;> (intro hgb; subst hgb)) | (refine JL_guardb xR xR ?_ ?_ <;> (intro hgb; fail_if_success (have : type_of% hgb := rfl))) | fail)) | fail)) | refine yJ ?_ | fail))
  exact J_ret1 rfl (by rfl) fun w H => ⟨_, ⟨rfl, rfl⟩, H.sel .nil⟩
theorem find_hit (sp mb lb : Nat) (c id : Int) (A B : List Me) (m : Me) (hid : m.e.id = id) (hA : ∀ a ∈ A, a.e.id ≠ id) : Pact Try.prog 43 #[.pointer (some ⟨sp, 0, none⟩), .int .i64 id] (fun _ => True) [pts sp (stC mb lb c) 76, mqI lb (idL (A ++ m :: B))] (fun u L' => u = .tuple #[.pointer (some ⟨m.b, 0, none⟩), .int .i64 0] ∧ L' = [pts sp (stC mb lb c) 76, mqI lb (idL (A ++ m :: B))]) := by
  refine pact Try.func43 rfl Try.ntmps43 rfl ?_
  intro W K _
  have hg : lookV (aG (idL (A ++ m :: B)) id) (.pointer none) false = .pointer (some ⟨m.b, 0, none⟩) := by
    unfold idL
    rw [List.map_append, List.map_cons, hid, aG_mid]
    · rfl
    · intro p hp
      obtain ⟨a, ha, rfl⟩ := List.mem_map.1 hp
      exact hA a ha
  (repeat' (first | ((with_reducible apply gL); (first | refine yL0 ?_ | ((with_reducible apply gL_lookup); (first | (refine JL_p rfl xR xR (pe_lookG mi_i xR xR xA hg) ?_) | fail)) | refine yL ?_ | ((with_reducible apply gL_go); (first | (refine JL_goq (is_s sp lb (.map (some mb)) c) (hφ := xF) (h := ?_); rintro _ _ ⟨rfl, rfl⟩; try simp only [List.cons_append, List.nil_append]) | fail)) | ((with_reducible apply gL_lookup); (first | refine JL_p rfl xR xR (pe_lookup xR xR (tabM mtab_ok xR) xT (by first | apply hlook | apply hlook2 | rfl)) ?_ | refine JL_p rfl xR xR (pe_lookupK xR xR (tabM mtab_ok xR) xH (by first | apply hlook | apply hlook2 | rfl)) ?_ | fail)) | fail)) | refine yJ ?_ | ((with_reducible apply gJ_if); (first | (refine J_if xR ?_ ?_ <;> intro _ <;> (try (exfalso; first | contradiction | omega))) | (refine J_ifb xR ?_ ?_ <;> (intro hgb; subst hgb)) | (refine J_ifb xR ?_ ?_ <;> intro _) | fail)) | fail))
  exact J_ret2 rfl (by rfl) (by rfl) fun w H => ⟨_, ⟨rfl, rfl⟩, H.sel xZ⟩
theorem find_miss (sp mb lb : Nat) (c id : Int) (M : List Me) (hA : ∀ a ∈ M, a.e.id ≠ id) : Pact Try.prog 43 #[.pointer (some ⟨sp, 0, none⟩), .int .i64 id] (fun _ => True) [pts sp (stC mb lb c) 76, mqI lb (idL M)] (fun u L' => u = .tuple #[.pointer none, .int .i64 5] ∧ L' = [pts sp (stC mb lb c) 76, mqI lb (idL M)]) := by
  refine pact Try.func43 rfl Try.ntmps43 rfl ?_
  intro W K _
  have hg : lookV (aG (idL M) id) (.pointer none) false = .pointer none := by
    unfold idL
    rw [aG_none]
    · rfl
    · intro p hp
      obtain ⟨a, ha, rfl⟩ := List.mem_map.1 hp
      exact hA a ha
  (repeat' (first | ((with_reducible apply gL); (first | refine yL0 ?_ | ((with_reducible apply gL_lookup); (first | (refine JL_p rfl xR xR (pe_lookG mi_i xR xR xA hg) ?_) | fail)) | refine yL ?_ | ((with_reducible apply gL_go); (first | (refine JL_goq (is_s sp lb (.map (some mb)) c) (hφ := xF) (h := ?_); rintro _ _ ⟨rfl, rfl⟩; try simp only [List.cons_append, List.nil_append]) | fail)) | ((with_reducible apply gL_lookup); (first | refine JL_p rfl xR xR (pe_lookup xR xR (tabM mtab_ok xR) xT (by first | apply hlook | apply hlook2 | rfl)) ?_ | refine JL_p rfl xR xR (pe_lookupK xR xR (tabM mtab_ok xR) xH (by first | apply hlook | apply hlook2 | rfl)) ?_ | fail)) | fail)) | refine yJ ?_ | ((with_reducible apply gJ_if); (first | (refine J_if xR ?_ ?_ <;> intro _ <;> (try (exfalso; first | contradiction | omega))) | (refine J_ifb xR ?_ ?_ <;> (intro hgb; subst hgb)) | (refine J_ifb xR ?_ ?_ <;> intro _) | fail)) | fail))
  exact J_ret2 rfl (by rfl) (by rfl) fun w H => ⟨_, ⟨rfl, rfl⟩, H.sel xZ⟩
theorem find_nil (id : Int) : Pact Try.prog 43 #[.pointer none, .int .i64 id] (fun _ => True) [] (ret0 (.tuple #[.pointer none, .int .i64 1])) := by
  refine pact Try.func43 rfl Try.ntmps43 rfl ?_
  intro W K _
  (repeat' (first | ((with_reducible apply gL); (first | refine yL0 ?_ | refine yL ?_ | ((with_reducible apply gL_go); (first | (refine JL_goq (isnil_s) (hφ := xF) (h := ?_); rintro _ _ ⟨rfl, rfl⟩; try simp only [List.cons_append, List.nil_append]) | fail)) | ((with_reducible apply gL_lookup); (first | refine JL_p rfl xR xR (pe_lookup xR xR (tabM mtab_ok xR) xT (by first | apply hlook | apply hlook2 | rfl)) ?_ | refine JL_p rfl xR xR (pe_lookupK xR xR (tabM mtab_ok xR) xH (by first | apply hlook | apply hlook2 | rfl)) ?_ | fail)) | fail)) | refine yJ ?_ | ((with_reducible apply gJ_if); (first | (refine J_if xR ?_ ?_ <;> intro _ <;> (try (exfalso; first | contradiction | omega))) | (refine J_ifb xR ?_ ?_ <;> (intro hgb; subst hgb)) | (refine J_ifb xR ?_ ?_ <;> intro _) | fail)) | fail))
  exact J_ret2 rfl (by rfl) (by rfl) fun w H => ⟨_, ⟨rfl, rfl⟩, H.sel .nil⟩
theorem find_void (sp : Nat) (x : Value) (c id : Int) : Pact Try.prog 43 #[.pointer (some ⟨sp, 0, none⟩), .int .i64 id] (fun _ => True) [pts sp [x, .map none, .int .i64 c] 76] (fun u L' => u = .tuple #[.pointer none, .int .i64 1] ∧ L' = [pts sp [x, .map none, .int .i64 c] 76]) := by
  refine pact Try.func43 rfl Try.ntmps43 rfl ?_
  intro W K _
  (repeat' (first | ((with_reducible apply gL); (first | refine yL0 ?_ | refine yL ?_ | ((with_reducible apply gL_go); (first | (refine JL_goq (isvoid_s sp x c) (hφ := xF) (h := ?_); rintro _ _ ⟨rfl, rfl⟩; try simp only [List.cons_append, List.nil_append]) | fail)) | ((with_reducible apply gL_lookup); (first | refine JL_p rfl xR xR (pe_lookup xR xR (tabM mtab_ok xR) xT (by first | apply hlook | apply hlook2 | rfl)) ?_ | refine JL_p rfl xR xR (pe_lookupK xR xR (tabM mtab_ok xR) xH (by first | apply hlook | apply hlook2 | rfl)) ?_ | fail)) | fail)) | refine yJ ?_ | ((with_reducible apply gJ_if); (first | (refine J_if xR ?_ ?_ <;> intro _ <;> (try (exfalso; first | contradiction | omega))) | (refine J_ifb xR ?_ ?_ <;> (intro hgb; subst hgb)) | (refine J_ifb xR ?_ ?_ <;> intro _) | fail)) | fail))
  exact J_ret2 rfl (by rfl) (by rfl) fun w H => ⟨_, ⟨rfl, rfl⟩, H.sel xZ⟩
theorem new_s : Pact Try.prog 15 #[] (fun _ => True) [] (fun u L' => ∃ sp, u = .pointer (some ⟨sp, 0, none⟩) ∧ L' = [stoA sp [] 0]) := by
  refine pact (args := []) Try.func15 rfl Try.ntmps15 rfl ?_
  intro W K _
  (repeat' (first | ((with_reducible apply gL); (first | refine yL0 ?_ | ((with_reducible apply gL_makeMap); (first | (first | (refine JL_mmG (t := 73) Value.string xR xR ?_; intro mb) | (refine JL_mmG (t := 74) (Value.int .i64) xR xR ?_; intro lb)) | fail)) | refine yL ?_ | (refine yM ?_; intro _) | ((with_reducible apply gL_makeMap); (first | (refine JL_mm (tabM mtab_ok xR) xR xR ?_; intro _) | fail)) | fail)) | refine yJ ?_ | fail))
  rename_i sp
  refine J_ret1 rfl (by rfl) fun w H => ⟨_, ⟨sp, rfl, rfl⟩, ?_⟩
  exact Ow.sel (stoShut (M := []) ⟨rfl, fun _ h => absurd h List.not_mem_nil⟩ (Ow.satsNil H) (mb := mb) (lb := lb) xZ) xZ
end Go.Proofs.Ytdnokmpnemaoaaa
namespace Go.Proofs.Ytdnokmpnemaoaaa
set_option linter.unusedSimpArgs false
set_option linter.unusedVariables false
set_option maxRecDepth 20000
set_option maxHeartbeats 4000000
open Go.RowKit Go.Pm

/-- A store as it may be: no number twice, nothing twice, all that is kept right. -/
structure StOk (B : Int) (S : List En) (c : Int) : Prop where
  cnt : 0 ≤ c ∧ c ≤ B
  ids : ∀ e ∈ S, 1 ≤ e.id ∧ e.id ≤ c
  n : ∀ e ∈ S, 1 ≤ e.n ∧ e.n ≤ B
  ok : ∀ e ∈ S, okN e.x = true ∧ NfN e.x
  idd : S.Pairwise (fun a b => a.id ≠ b.id)
  xd : S.Pairwise (fun a b => a.x ≠ b.x)
  len : S.length ≤ 4096
theorem StOk.mono {B B' : Int} {S : List En} {c : Int} (h : StOk B S c) (hb : B ≤ B') : StOk B' S c :=
  ⟨⟨h.cnt.1, by have := h.cnt.2; omega⟩, h.ids, fun e he => ⟨(h.n e he).1, by have := (h.n e he).2; omega⟩, h.ok, h.idd, h.xd, h.len⟩
theorem stok_nil : StOk 0 [] 0 := ⟨by omega, by simp, by simp, by simp, .nil, .nil, by simp⟩
/-- What stands in the middle differs from what stands around it. -/
theorem StOk.mid {B : Int} {A C : List En} {e : En} {c : Int} (h : StOk B (A ++ e :: C) c) : (∀ a ∈ A, a.id ≠ e.id ∧ a.x ≠ e.x) ∧ (∀ a ∈ C, a.id ≠ e.id ∧ a.x ≠ e.x) := by
  have h1 := List.pairwise_append.1 h.idd
  have h2 := List.pairwise_append.1 h.xd
  have h3 := List.pairwise_cons.1 h1.2.1
  have h4 := List.pairwise_cons.1 h2.2.1
  exact ⟨fun a ha => ⟨h1.2.2 a ha e (List.mem_cons_self ..), h2.2.2 a ha e (List.mem_cons_self ..)⟩, fun a ha => ⟨fun q => h3.1 a ha q.symm, fun q => h4.1 a ha q.symm⟩⟩
theorem MOk.split {M : List Me} {A C : List En} {e : En} (h : MOk M (A ++ e :: C)) : ∃ MA m MC, M = MA ++ m :: MC ∧ m.e = e ∧ MOk MA A ∧ MOk MC C ∧ AtF m.d ∧ m.d.nf = e.x := by
  obtain ⟨MA, M2, rfl, h1, h2⟩ := List.map_eq_append_iff.1 h.e
  obtain ⟨m, MC, rfl, h3, h4⟩ := List.map_eq_cons_iff.1 h2
  have hd := h.d m (by simp)
  exact ⟨MA, m, MC, rfl, h3, ⟨h1, fun a ha => h.d a (by simp [ha])⟩, ⟨h4, fun a ha => h.d a (by simp [ha])⟩, hd.1, by rw [hd.2, h3]⟩
theorem MOk.join {MA MC : List Me} {m : Me} {A C : List En} (h1 : MOk MA A) (h2 : MOk MC C) (h3 : AtF m.d) (h4 : m.d.nf = m.e.x) : MOk (MA ++ m :: MC) (A ++ m.e :: C) := by
  refine ⟨by rw [List.map_append, List.map_cons, h1.e, h2.e], fun a ha => ?_⟩
  rcases List.mem_append.1 ha with ha | ha
  · exact h1.d a ha
  · rcases List.mem_cons.1 ha with rfl | ha
    · exact ⟨h3, h4⟩
    · exact h2.d a ha
theorem MOk.two {MA MC : List Me} {A C : List En} (h1 : MOk MA A) (h2 : MOk MC C) : MOk (MA ++ MC) (A ++ C) := by
  refine ⟨by rw [List.map_append, h1.e, h2.e], fun a ha => ?_⟩
  rcases List.mem_append.1 ha with ha | ha
  · exact h1.d a ha
  · exact h2.d a ha
theorem MOk.mem {M : List Me} {S : List En} (h : MOk M S) {a : Me} (ha : a ∈ M) : a.e ∈ S := by rw [← h.e]; exact List.mem_map.2 ⟨a, ha, rfl⟩
theorem keyOk_s (d : At) (hd : AtF d) (hok : okN d.nf = true) : Pact Try.prog 49 #[.agg (atC d).toArray] (fun w => AtV w d) [] (ret0 (.tuple #[.string (keyS d.nf), .int .i64 0])) := fun W K w hK H =>
  (keyOf_s d hd W K w hK H).mono fun e w' ⟨v, L', h2, h1, h3⟩ => by
    obtain ⟨k, rfl, hk, rfl⟩ := h2
    exact ⟨_, [], ⟨by rw [hk hok, hok]; rfl, rfl⟩, h1, h3⟩
theorem keep_bad (sp : Nat) (S : List En) (c : Int) (d : At) (hd : AtF d) (hok : okN d.nf = false) : Pact Try.prog 31 #[.pointer (some ⟨sp, 0, none⟩), .agg (atC d).toArray] (fun w => AtV w d) [stoA sp S c] (fun u L' => u = .tuple #[.int .i64 0, .int .i64 2] ∧ L' = [stoA sp S c]) := by
  refine pact Try.func31 rfl Try.ntmps31 rfl ?_
  intro W K hK
  refine J_open (fun w H => stoOpen H .here) ?_
  rintro ⟨⟨mb, lb, M⟩, hM⟩
  dsimp only
  have hk := keyOf_s d hd
  rw [hok] at hk
  (repeat' (first | ((with_reducible apply gL); (first | refine yL0 ?_ | refine yL ?_ | ((with_reducible apply gL_go); (first | (refine JL_goq (is_s sp lb (.map (some mb)) c) (hφ := xF) (h := ?_); rintro _ _ ⟨rfl, rfl⟩; try simp only [List.cons_append, List.nil_append]) | (refine JL_goq (hk) (hφ := (by (try simp only [List.cons_append, List.nil_append]); exact fun w hr => hK w hr.1)) (h := ?_); rintro _ _ ⟨k, rfl, _, rfl⟩; try simp only [List.cons_append, List.nil_append]) | fail)) | (refine yM ?_; intro _) | ((with_reducible apply gL_lookup); (first | refine JL_p rfl xR xR (pe_lookup xR xR (tabM mtab_ok xR) xT (by first | apply hlook | apply hlook2 | rfl)) ?_ | refine JL_p rfl xR xR (pe_lookupK xR xR (tabM mtab_ok xR) xH (by first | apply hlook | apply hlook2 | rfl)) ?_ | fail)) | fail)) | ((with_reducible apply gD); (first | (refine JD_nil ?_; try simp only [List.cons_append, List.nil_append]) | (refine JD_bar ?_; try simp only [List.cons_append, List.nil_append]) | refine yD ?_ | ((with_reducible apply gD_go); (first | (refine JD_goq (is_s sp lb (.map (some mb)) c) (hφ := xF) (h := ?_); rintro _ _ ⟨rfl, rfl⟩; try simp only [List.cons_append, List.nil_append]) | (refine JD_goq (hk) (hφ := (by (try simp only [List.cons_append, List.nil_append]); exact fun w hr => hK w hr.1)) (h := ?_); rintro _ _ ⟨k, rfl, _, rfl⟩; try simp only [List.cons_append, List.nil_append]) | fail)) | (refine yE ?_; intro _) | ((with_reducible apply gD_mapUpdate); (first | refine JD_mapSet xR xR xR (tabM mtab_ok xR) xT xR ?_ | fail)) | fail)) | refine yJ ?_ | ((with_reducible apply gJ_if); (first | (refine J_if xR ?_ ?_ <;> intro _ <;> (try (exfalso; first | contradiction | omega))) | (refine J_ifb xR ?_ ?_ <;> (intro hgb; subst hgb)) | (refine J_ifb xR ?_ ?_ <;> intro _) | fail)) | refine J_draw (id := 13) [0, 1, 2, 3, 4, 5, 6, 7, 8] [9] mixed xC xD xD ?_ | refine J_draw (id := 14) [0, 1, 2, 3, 4, 5, 6, 7, 8, 10, 9, 11, 12] [13] mixed xC xD xD ?_ | fail))
  exact J_ret2 rfl (by rfl) (by rfl) fun w H => ⟨_, ⟨rfl, rfl⟩, Ow.sel (stoShut hM H xZ) xZ⟩
theorem keep_hit (B : Int) (hB : B ≤ 1000000000) (sp : Nat) (A C : List En) (e : En) (c : Int) (d : At) (hd : AtF d) (hok : okN d.nf = true) (hs : StOk B (A ++ e :: C) c) (he : e.x = d.nf) : Pact Try.prog 31 #[.pointer (some ⟨sp, 0, none⟩), .agg (atC d).toArray] (fun w => AtV w d) [stoA sp (A ++ e :: C) c] (fun u L' => u = .tuple #[.int .i64 e.id, .int .i64 0] ∧ L' = [stoA sp (A ++ ⟨e.id, e.n + 1, e.x⟩ :: C) c]) := by
  refine pact Try.func31 rfl Try.ntmps31 rfl ?_
  intro W K hK
  have hmid := hs.mid
  have hnn := hs.n e (by simp)
  have hii := hs.ids e (by simp)
  refine J_open (fun w H => stoOpen H .here) ?_
  rintro ⟨⟨mb, lb, M⟩, hM⟩
  dsimp only at hM ⊢
  obtain ⟨MA, m, MC, rfl, rfl, hMA, hMC, hmd, hmx⟩ := hM.split
  have hkey := keyOk_s d hd hok
  have g1 : lookV (aG (byL (MA ++ m :: MC)) (keyS d.nf)) (.int .i64 0) false = .int .i64 m.e.id := by
    unfold byL
    rw [List.map_append, List.map_cons, ← he, aG_mid]
    · rfl
    · intro p hp
      obtain ⟨a, ha, rfl⟩ := List.mem_map.1 hp
      have h1 := hMA.mem ha
      have h2 := hs.ok a.e (by simp [h1])
      have h3 := hs.ok m.e (by simp)
      exact fun q => (hmid.1 _ h1).2 (keyS_inj h2.2 h3.2 h2.1 h3.1 q)
  have g2 : lookV (aG (idL (MA ++ m :: MC)) m.e.id) (.pointer none) false = .pointer (some ⟨m.b, 0, none⟩) := by
    unfold idL
    rw [List.map_append, List.map_cons, aG_mid]
    · rfl
    · intro p hp
      obtain ⟨a, ha, rfl⟩ := List.mem_map.1 hp
      exact (hmid.1 _ (hMA.mem ha)).1
  refine J_heap (fun w H => meOpen (Ow.satsMid H xA) .here) ?_
  (repeat' (first | ((with_reducible apply gL); (first | refine yL0 ?_ | ((with_reducible apply gL_lookup); (first | (first | (refine JL_p rfl xR xR (pe_lookG mi_s xR xR xA g1) ?_) | (refine JL_p rfl xR xR (pe_lookG mi_i xR xR xA g2) ?_)) | fail)) | refine yL ?_ | ((with_reducible apply gL_go); (first | (refine JL_goq (is_s sp lb (.map (some mb)) c) (hφ := xF) (h := ?_); rintro _ _ ⟨rfl, rfl⟩; try simp only [List.cons_append, List.nil_append]) | (refine JL_goq (hkey) (hφ := (by (try simp only [List.cons_append, List.nil_append]); exact fun w hr => hK w hr.1)) (h := ?_); rintro _ _ ⟨rfl, rfl⟩; try simp only [List.cons_append, List.nil_append]) | fail)) | (refine yM ?_; intro _) | ((with_reducible apply gL_lookup); (first | refine JL_p rfl xR xR (pe_lookup xR xR (tabM mtab_ok xR) xT (by first | apply hlook | apply hlook2 | rfl)) ?_ | refine JL_p rfl xR xR (pe_lookupK xR xR (tabM mtab_ok xR) xH (by first | apply hlook | apply hlook2 | rfl)) ?_ | fail)) | fail)) | ((with_reducible apply gD); (first | (refine JD_nil ?_; try simp only [List.cons_append, List.nil_append]) | (refine JD_bar ?_; try simp only [List.cons_append, List.nil_append]) | refine yD ?_ | ((with_reducible apply gD_go); (first | (refine JD_goq (is_s sp lb (.map (some mb)) c) (hφ := xF) (h := ?_); rintro _ _ ⟨rfl, rfl⟩; try simp only [List.cons_append, List.nil_append]) | (refine JD_goq (hkey) (hφ := (by (try simp only [List.cons_append, List.nil_append]); exact fun w hr => hK w hr.1)) (h := ?_); rintro _ _ ⟨rfl, rfl⟩; try simp only [List.cons_append, List.nil_append]) | fail)) | (refine yE ?_; intro _) | ((with_reducible apply gD_mapUpdate); (first | refine JD_mapSet xR xR xR (tabM mtab_ok xR) xT xR ?_ | fail)) | fail)) | refine yJ ?_ | ((with_reducible apply gJ_if); (first | (refine J_if xR ?_ ?_ <;> intro _ <;> (try (exfalso; first | contradiction | omega))) | (refine J_ifb xR ?_ ?_ <;> (intro hgb; subst hgb)) | (refine J_ifb xR ?_ ?_ <;> intro _) | fail)) | refine J_draw (id := 13) [0, 1, 2, 3, 4, 5, 6, 7, 8] [9] mixed xC xD xD ?_ | refine J_draw (id := 14) [0, 1, 2, 3, 4, 5, 6, 7, 8, 10, 9, 11, 12] [13] mixed xC xD xD ?_ | fail))
  refine J_ret2 rfl (by rfl) (by rfl) fun w H => ⟨_, ⟨rfl, rfl⟩, ?_⟩
  have e1 : byL (MA ++ m :: MC) = byL (MA ++ ⟨m.b, m.d, ⟨m.e.id, m.e.n + 1, m.e.x⟩⟩ :: MC) := by simp [byL]
  have e2 : idL (MA ++ m :: MC) = idL (MA ++ ⟨m.b, m.d, ⟨m.e.id, m.e.n + 1, m.e.x⟩⟩ :: MC) := by simp [idL]
  rw [e1, e2] at H
  have H := meShut (m := ⟨m.b, m.d, ⟨m.e.id, m.e.n + 1, m.e.x⟩⟩) H xZ
  have H := Ow.satsBack (A := MA) (B := MC) (m := ⟨m.b, m.d, ⟨m.e.id, m.e.n + 1, m.e.x⟩⟩) H .here xA
  have hJ := MOk.join (m := ⟨m.b, m.d, ⟨m.e.id, m.e.n + 1, m.e.x⟩⟩) hMA hMC hmd hmx
  exact (stoShut hJ H xZ).sel xZ
theorem ownHas {W : World} {K : Hl} {L R : List HP} {w : World} {d : At} (H : Ow W K L w) (t : Tk L (ownAt d) R) : Ow W K (has (fun w => AtV w d) :: R) w := by
  have H := H.flat t
  have H := Ow.sgsHas (q := d.path) H (.there .here)
  refine Ow.has (M := [has (fun w => ∀ s ∈ d.path, segV w s), Ar 108 2 sgC (.slice d.pa d.path.length d.pc) d.path, Ar 22 1 u32C (.slice d.ca d.comms.length d.cc) d.comms, has (fun w => RawsV w d.oa d.oc d.others)]) H (.cons .here (.cons .here (.cons .here (.cons .here .nil)))) ?_
  intro w hr
  exact ⟨⟨Src.ar (.there .here) w hr, hr.has .here⟩, Src.ar (.there (.there .here)) w hr, hr.has (.there (.there (.there .here)))⟩
theorem MOk.len {M : List Me} {S : List En} (h : MOk M S) : (idL M).length = S.length := by
  unfold idL
  rw [← h.e, List.length_map, List.length_map]
theorem keep_full (B : Int) (hB : B ≤ 1000000000) (sp : Nat) (S : List En) (c : Int) (d : At) (hd : AtF d) (hok : okN d.nf = true) (hs : StOk B S c) (hn : ∀ e ∈ S, e.x ≠ d.nf) (hf : S.length = 4096) : Pact Try.prog 31 #[.pointer (some ⟨sp, 0, none⟩), .agg (atC d).toArray] (fun w => AtV w d) [stoA sp S c] (fun u L' => u = .tuple #[.int .i64 0, .int .i64 4] ∧ L' = [stoA sp S c]) := by
  refine pact Try.func31 rfl Try.ntmps31 rfl ?_
  intro W K hK
  refine J_open (fun w H => stoOpen H .here) ?_
  rintro ⟨⟨mb, lb, M⟩, hM⟩
  dsimp only at hM ⊢
  have hkey := keyOk_s d hd hok
  have hln := hM.len
  have hnf := At.nfN hd.num
  have g1 : lookV (aG (byL M) (keyS d.nf)) (.int .i64 0) false = .int .i64 0 := by
    unfold byL
    rw [aG_none]
    · rfl
    · intro p hp
      obtain ⟨a, ha, rfl⟩ := List.mem_map.1 hp
      have h1 := hM.mem ha
      have h2 := hs.ok a.e h1
      exact fun q => hn _ h1 (keyS_inj h2.2 hnf h2.1 hok q)
  (repeat' (first | ((with_reducible apply gL); (first | refine yL0 ?_ | ((with_reducible apply gL_lookup); (first | (refine JL_p rfl xR xR (pe_lookG mi_s xR xR xA g1) ?_) | fail)) | ((with_reducible apply gL_c_len); (first | (refine JL_p rfl xR xR (pe_lenG mi_i xR xA hln) ?_) | fail)) | refine yL ?_ | ((with_reducible apply gL_go); (first | (refine JL_goq (is_s sp lb (.map (some mb)) c) (hφ := xF) (h := ?_); rintro _ _ ⟨rfl, rfl⟩; try simp only [List.cons_append, List.nil_append]) | (refine JL_goq (hkey) (hφ := (by (try simp only [List.cons_append, List.nil_append]); exact fun w hr => hK w hr.1)) (h := ?_); rintro _ _ ⟨rfl, rfl⟩; try simp only [List.cons_append, List.nil_append]) | fail)) | (refine yM ?_; intro _) | ((with_reducible apply gL_lookup); (first | refine JL_p rfl xR xR (pe_lookup xR xR (tabM mtab_ok xR) xT (by first | apply hlook | apply hlook2 | rfl)) ?_ | refine JL_p rfl xR xR (pe_lookupK xR xR (tabM mtab_ok xR) xH (by first | apply hlook | apply hlook2 | rfl)) ?_ | fail)) | fail)) | ((with_reducible apply gD); (first | (refine JD_nil ?_; try simp only [List.cons_append, List.nil_append]) | (refine JD_bar ?_; try simp only [List.cons_append, List.nil_append]) | refine yD ?_ | ((with_reducible apply gD_go); (first | (refine JD_goq (is_s sp lb (.map (some mb)) c) (hφ := xF) (h := ?_); rintro _ _ ⟨rfl, rfl⟩; try simp only [List.cons_append, List.nil_append]) | (refine JD_goq (hkey) (hφ := (by (try simp only [List.cons_append, List.nil_append]); exact fun w hr => hK w hr.1)) (h := ?_); rintro _ _ ⟨rfl, rfl⟩; try simp only [List.cons_append, List.nil_append]) | fail)) | (refine yE ?_; intro _) | ((with_reducible apply gD_mapUpdate); (first | refine JD_mapSet xR xR xR (tabM mtab_ok xR) xT xR ?_ | fail)) | fail)) | refine yJ ?_ | ((with_reducible apply gJ_if); (first | (refine J_if xR ?_ ?_ <;> intro _ <;> (try (exfalso; first | contradiction | omega))) | (refine J_ifb xR ?_ ?_ <;> (intro hgb; subst hgb)) | (refine J_ifb xR ?_ ?_ <;> intro _) | fail)) | refine J_draw (id := 13) [0, 1, 2, 3, 4, 5, 6, 7, 8] [9] mixed xC xD xD ?_ | refine J_draw (id := 14) [0, 1, 2, 3, 4, 5, 6, 7, 8, 10, 9, 11, 12] [13] mixed xC xD xD ?_ | fail))
  exact J_ret2 rfl (by rfl) (by rfl) fun w H => ⟨_, ⟨rfl, rfl⟩, Ow.sel (stoShut hM H xZ) xZ⟩
theorem keep_new (B : Int) (hB : B ≤ 1000000000) (sp : Nat) (S : List En) (c : Int) (d : At) (hd : AtF d) (hok : okN d.nf = true) (hs : StOk B S c) (hn : ∀ e ∈ S, e.x ≠ d.nf) (hf : S.length ≠ 4096) : Pact Try.prog 31 #[.pointer (some ⟨sp, 0, none⟩), .agg (atC d).toArray] (fun w => AtV w d) [stoA sp S c] (fun u L' => u = .tuple #[.int .i64 (c + 1), .int .i64 0] ∧ L' = [stoA sp (S ++ [⟨c + 1, 1, d.nf⟩]) (c + 1)]) := by
  refine pact Try.func31 rfl Try.ntmps31 rfl ?_
  intro W K hK
  refine J_open (fun w H => stoOpen H .here) ?_
  rintro ⟨⟨mb, lb, M⟩, hM⟩
  dsimp only at hM ⊢
  have hkey := keyOk_s d hd hok
  have hln := hM.len
  have hnf := At.nfN hd.num
  have hcc := hs.cnt
  have hne : ∀ p ∈ byL M, p.1 ≠ keyS d.nf := by
    intro p hp
    obtain ⟨a, ha, rfl⟩ := List.mem_map.1 hp
    have h1 := hM.mem ha
    have h2 := hs.ok a.e h1
    exact fun q => hn _ h1 (keyS_inj h2.2 hnf h2.1 hok q)
  have hni : ∀ p ∈ idL M, p.1 ≠ c + 1 := by
    intro p hp
    obtain ⟨a, ha, rfl⟩ := List.mem_map.1 hp
    have := hs.ids a.e (hM.mem ha)
    dsimp only
    omega
  have g1 : lookV (aG (byL M) (keyS d.nf)) (.int .i64 0) false = .int .i64 0 := by
    rw [aG_none hne]
    rfl
  (repeat' (first | ((with_reducible apply gL); (first | refine yL0 ?_ | ((with_reducible apply gL_lookup); (first | (refine JL_p rfl xR xR (pe_lookG mi_s xR xR xA g1) ?_) | fail)) | ((with_reducible apply gL_c_len); (first | (refine JL_p rfl xR xR (pe_lenG mi_i xR xA hln) ?_) | fail)) | refine yL ?_ | ((with_reducible apply gL_go); (first | (refine JL_goq (is_s sp lb (.map (some mb)) c) (hφ := xF) (h := ?_); rintro _ _ ⟨rfl, rfl⟩; try simp only [List.cons_append, List.nil_append]) | (refine JL_goq (hkey) (hφ := (by (try simp only [List.cons_append, List.nil_append]); exact fun w hr => hK w hr.1)) (h := ?_); rintro _ _ ⟨rfl, rfl⟩; try simp only [List.cons_append, List.nil_append]) | (refine JL_goq (copy_s d hd) (hφ := (by (try simp only [List.cons_append, List.nil_append]); exact fun w hr => hK w hr.1)) (h := ?_); rintro _ _ ⟨d', hd', hx', rfl, rfl⟩; try simp only [List.cons_append, List.nil_append]) | fail)) | (refine yM ?_; intro _) | ((with_reducible apply gL_lookup); (first | refine JL_p rfl xR xR (pe_lookup xR xR (tabM mtab_ok xR) xT (by first | apply hlook | apply hlook2 | rfl)) ?_ | refine JL_p rfl xR xR (pe_lookupK xR xR (tabM mtab_ok xR) xH (by first | apply hlook | apply hlook2 | rfl)) ?_ | fail)) | fail)) | ((with_reducible apply gD); (first | (refine JD_nil ?_; try simp only [List.cons_append, List.nil_append]) | (refine JD_bar ?_; try simp only [List.cons_append, List.nil_append]) | ((with_reducible apply gD_mapUpdate); (first | (first | (refine JD_setG mi_s xR xR xR xA xR ?_) | (refine JD_setG mi_i xR xR xR xA xR ?_)) | fail)) | refine yD ?_ | ((with_reducible apply gD_go); (first | (refine JD_goq (is_s sp lb (.map (some mb)) c) (hφ := xF) (h := ?_); rintro _ _ ⟨rfl, rfl⟩; try simp only [List.cons_append, List.nil_append]) | (refine JD_goq (hkey) (hφ := (by (try simp only [List.cons_append, List.nil_append]); exact fun w hr => hK w hr.1)) (h := ?_); rintro _ _ ⟨rfl, rfl⟩; try simp only [List.cons_append, List.nil_append]) | (refine JD_goq (copy_s d hd) (hφ := (by (try simp only [List.cons_append, List.nil_append]); exact fun w hr => hK w hr.1)) (h := ?_); rintro _ _ ⟨d', hd', hx', rfl, rfl⟩; try simp only [List.cons_append, List.nil_append]) | fail)) | (refine yE ?_; intro _) | ((with_reducible apply gD_mapUpdate); (first | refine JD_mapSet xR xR xR (tabM mtab_ok xR) xT xR ?_ | fail)) | fail)) | refine yJ ?_ | ((with_reducible apply gJ_if); (first | (refine J_if xR ?_ ?_ <;> intro _ <;> (try (exfalso; first | contradiction | omega))) | (refine J_ifb xR ?_ ?_ <;> (intro hgb; subst hgb)) | (refine J_ifb xR ?_ ?_ <;> intro _) | fail)) | refine J_draw (id := 13) [0, 1, 2, 3, 4, 5, 6, 7, 8] [9] mixed xC xD xD ?_ | refine J_draw (id := 14) [0, 1, 2, 3, 4, 5, 6, 7, 8, 10, 9, 11, 12] [13] mixed xC xD xD ?_ | fail))
  rename_i eb
  refine J_ret2 rfl (by rfl) (by rfl) fun w H => ⟨_, ⟨rfl, rfl⟩, ?_⟩
  rw [aP_new hne, aP_new hni] at H
  have e1 : byL M ++ [(keyS d.nf, Value.int .i64 (c + 1))] = byL (M ++ [⟨eb, d', ⟨c + 1, 1, d.nf⟩⟩]) := by simp [byL]
  have e2 : idL M ++ [(c + 1, Value.pointer (some ⟨eb, 0, none⟩))] = idL (M ++ [⟨eb, d', ⟨c + 1, 1, d.nf⟩⟩]) := by simp [idL]
  rw [e1, e2] at H
  have H := ownHas H xA
  have H := meShut (m := ⟨eb, d', ⟨c + 1, 1, d.nf⟩⟩) H xZ
  have H := Ow.satsBack (A := M) (B := []) (m := ⟨eb, d', ⟨c + 1, 1, d.nf⟩⟩) H .here (by rw [List.append_nil]; (first | ((with_reducible (repeat (first | exact Tk.here | apply Tk.there))); done) | ((simp only [List.cons_append, List.nil_append]); (with_reducible (repeat (first | exact Tk.here | apply Tk.there))); done) | fail))
  have hJ := MOk.join (m := ⟨eb, d', ⟨c + 1, 1, d.nf⟩⟩) hM (MC := []) (C := []) ⟨rfl, fun _ h => absurd h List.not_mem_nil⟩ hd' hx'
  exact (stoShut hJ H xZ).sel xZ
end Go.Proofs.Ytdnokmpnemaoaaa
namespace Go.Proofs.Ytdnokmpnemaoaaa
set_option linter.unusedSimpArgs false
set_option linter.unusedVariables false
set_option maxRecDepth 20000
set_option maxHeartbeats 4000000
open Go.RowKit Go.Pm

/-- What is kept by a number. -/
def fnd (S : List En) (id : Int) : Option En := S.find? (fun e => decide (e.id = id))
def fndX (S : List En) (x : Nf) : Option En := S.find? (fun e => decide (e.x = x))
noncomputable def keepF (S : List En) (c : Int) (x : Nf) : (List En × Int) × Int × Int :=
  match okN x with
  | false => ((S, c), 0, 2)
  | true => match fndX S x with
    | some e => ((S.map (fun a => if a.x = x then ⟨a.id, a.n + 1, a.x⟩ else a), c), e.id, 0)
    | none => if S.length = 4096 then ((S, c), 0, 4) else ((S ++ [⟨c + 1, 1, x⟩], c + 1), c + 1, 0)
def freeF (S : List En) (id : Int) : List En × Int :=
  match fnd S id with
  | none => (S, 5)
  | some e => if e.n = 1 then (S.filter (fun a => decide (a.id ≠ id)), 0) else (S.map (fun a => if a.id = id then ⟨a.id, a.n - 1, a.x⟩ else a), 0)
def cntF (S : List En) (id : Int) : Int := match fnd S id with | none => 0 | some e => e.n
theorem fnd_none {S : List En} {id : Int} (h : fnd S id = none) : ∀ e ∈ S, e.id ≠ id := fun e he => by
  have := List.find?_eq_none.1 h e he
  simpa using this
theorem fnd_some {S : List En} {id : Int} {e : En} (h : fnd S id = some e) : ∃ A C, S = A ++ e :: C ∧ e.id = id ∧ ∀ a ∈ A, a.id ≠ id := by
  obtain ⟨h1, A, C, h2, h3⟩ := List.find?_eq_some_iff_append.1 h
  exact ⟨A, C, h2, by simpa using h1, fun a ha => by simpa using h3 a ha⟩
theorem fndX_none {S : List En} {x : Nf} (h : fndX S x = none) : ∀ e ∈ S, e.x ≠ x := fun e he => by
  have := List.find?_eq_none.1 h e he
  simpa using this
theorem fndX_some {S : List En} {x : Nf} {e : En} (h : fndX S x = some e) : ∃ A C, S = A ++ e :: C ∧ e.x = x ∧ ∀ a ∈ A, a.x ≠ x := by
  obtain ⟨h1, A, C, h2, h3⟩ := List.find?_eq_some_iff_append.1 h
  exact ⟨A, C, h2, by simpa using h1, fun a ha => by simpa using h3 a ha⟩
theorem map_mid {α : Type} {p : α → Prop} [DecidablePred p] {g : α → α} {A C : List α} {e : α} (h1 : ∀ a ∈ A, ¬ p a) (h2 : ∀ a ∈ C, ¬ p a) (he : p e) : (A ++ e :: C).map (fun a => if p a then g a else a) = A ++ g e :: C := by
  rw [List.map_append, List.map_cons, if_pos he]
  congr 1
  · exact (List.map_congr_left fun a ha => if_neg (h1 a ha)).trans (List.map_id' A)
  · congr 1
    exact (List.map_congr_left fun a ha => if_neg (h2 a ha)).trans (List.map_id' C)
theorem filter_mid {α : Type} {p : α → Prop} [DecidablePred p] {A C : List α} {e : α} (h1 : ∀ a ∈ A, p a) (h2 : ∀ a ∈ C, p a) (he : ¬ p e) : (A ++ e :: C).filter (fun a => decide (p a)) = A ++ C := by
  rw [List.filter_append, List.filter_cons, if_neg (by simpa using he)]
  congr 1
  · exact List.filter_eq_self.2 fun a ha => decide_eq_true (h1 a ha)
  · exact List.filter_eq_self.2 fun a ha => decide_eq_true (h2 a ha)
/-- One in the middle is changed, or goes. -/
theorem StOk.set {B B' : Int} {A C : List En} {e : En} {c m : Int} (h : StOk B (A ++ e :: C) c) (hb : B ≤ B') (hm : 1 ≤ m ∧ m ≤ B') : StOk B' (A ++ ⟨e.id, m, e.x⟩ :: C) c := by
  have g : ∀ a ∈ A ++ ⟨e.id, m, e.x⟩ :: C, ∃ b ∈ A ++ e :: C, b.id = a.id ∧ b.x = a.x ∧ (a.n = b.n ∨ a.n = m) := by
    intro a ha
    rcases List.mem_append.1 ha with ha | ha
    · exact ⟨a, by simp [ha], rfl, rfl, .inl rfl⟩
    · rcases List.mem_cons.1 ha with rfl | ha
      · exact ⟨e, by simp, rfl, rfl, .inr rfl⟩
      · exact ⟨a, by simp [ha], rfl, rfl, .inl rfl⟩
  have p1 := List.pairwise_append.1 h.idd
  have p2 := List.pairwise_append.1 h.xd
  have q1 := List.pairwise_cons.1 p1.2.1
  have q2 := List.pairwise_cons.1 p2.2.1
  refine ⟨⟨h.cnt.1, by have := h.cnt.2; omega⟩, fun a ha => ?_, fun a ha => ?_, fun a ha => ?_, ?_, ?_, ?_⟩
  · obtain ⟨b, hb, e1, _⟩ := g a ha
    rw [← e1]; exact h.ids b hb
  · obtain ⟨b, hb', _, _, e3⟩ := g a ha
    have := h.n b hb'
    omega
  · obtain ⟨b, hb, _, e2, _⟩ := g a ha
    rw [← e2]; exact h.ok b hb
  · refine List.pairwise_append.2 ⟨p1.1, List.pairwise_cons.2 ⟨q1.1, q1.2⟩, fun a ha b hb => ?_⟩
    rcases List.mem_cons.1 hb with rfl | hb
    · exact p1.2.2 a ha e (by simp)
    · exact p1.2.2 a ha b (by simp [hb])
  · refine List.pairwise_append.2 ⟨p2.1, List.pairwise_cons.2 ⟨q2.1, q2.2⟩, fun a ha b hb => ?_⟩
    rcases List.mem_cons.1 hb with rfl | hb
    · exact p2.2.2 a ha e (by simp)
    · exact p2.2.2 a ha b (by simp [hb])
  · have := h.len
    simpa using this
theorem StOk.gone {B : Int} {A C : List En} {e : En} {c : Int} (h : StOk B (A ++ e :: C) c) : StOk B (A ++ C) c := by
  have g : (A ++ C).Sublist (A ++ e :: C) := (List.Sublist.refl A).append (List.sublist_cons_self e C)
  exact ⟨h.cnt, fun a ha => h.ids a (g.subset ha), fun a ha => h.n a (g.subset ha), fun a ha => h.ok a (g.subset ha), h.idd.sublist g, h.xd.sublist g, Nat.le_trans g.length_le h.len⟩
theorem StOk.new {B : Int} {S : List En} {c : Int} {x : Nf} (h : StOk B S c) (hB : 0 ≤ B) (hx : okN x = true) (hn : NfN x) (hne : ∀ e ∈ S, e.x ≠ x) (hf : S.length ≠ 4096) : StOk (B + 1) (S ++ [⟨c + 1, 1, x⟩]) (c + 1) := by
  have hc := h.cnt
  refine ⟨by omega, fun a ha => ?_, fun a ha => ?_, fun a ha => ?_, ?_, ?_, ?_⟩
  · rcases List.mem_append.1 ha with ha | ha
    · have := h.ids a ha; omega
    · obtain rfl := List.mem_singleton.1 ha; dsimp only; omega
  · rcases List.mem_append.1 ha with ha | ha
    · have := h.n a ha; omega
    · obtain rfl := List.mem_singleton.1 ha; dsimp only; omega
  · rcases List.mem_append.1 ha with ha | ha
    · exact h.ok a ha
    · obtain rfl := List.mem_singleton.1 ha; exact ⟨hx, hn⟩
  · refine List.pairwise_append.2 ⟨h.idd, List.pairwise_singleton _ _, fun a ha b hb => ?_⟩
    obtain rfl := List.mem_singleton.1 hb
    have := h.ids a ha
    dsimp only
    omega
  · refine List.pairwise_append.2 ⟨h.xd, List.pairwise_singleton _ _, fun a ha b hb => ?_⟩
    obtain rfl := List.mem_singleton.1 hb
    exact hne a ha
  · have := h.len
    simp only [List.length_append, List.length_cons, List.length_nil]
    omega
theorem keepF_hit {B : Int} {A C : List En} {e : En} {c : Int} {x : Nf} (h : StOk B (A ++ e :: C) c) (he : e.x = x) (hf : fndX (A ++ e :: C) x = some e) (hx : okN x = true) : keepF (A ++ e :: C) c x = ((A ++ ⟨e.id, e.n + 1, e.x⟩ :: C, c), e.id, 0) := by
  have hm := h.mid
  unfold keepF
  rw [hx, hf]
  dsimp only
  rw [map_mid (p := fun a : En => a.x = x) (g := fun a => ⟨a.id, a.n + 1, a.x⟩) (fun a ha => by rw [← he]; exact (hm.1 a ha).2) (fun a ha => by rw [← he]; exact (hm.2 a ha).2) he]
theorem keepF_ok {B : Int} {S : List En} {c : Int} {x : Nf} (h : StOk B S c) (hB : 0 ≤ B) (hn : NfN x) : StOk (B + 1) (keepF S c x).1.1 (keepF S c x).1.2 := by
  rcases hx : okN x with _ | _
  · have : keepF S c x = ((S, c), 0, 2) := by unfold keepF; rw [hx]
    rw [this]
    exact h.mono (by omega)
  · rcases hf : fndX S x with _ | e
    · by_cases hl : S.length = 4096
      · have : keepF S c x = ((S, c), 0, 4) := by unfold keepF; rw [hx, hf]; dsimp only; rw [if_pos hl]
        rw [this]
        exact h.mono (by omega)
      · have : keepF S c x = ((S ++ [⟨c + 1, 1, x⟩], c + 1), c + 1, 0) := by unfold keepF; rw [hx, hf]; dsimp only; rw [if_neg hl]
        rw [this]
        exact h.new hB hx hn (fndX_none hf) hl
    · obtain ⟨A, C, rfl, he, _⟩ := fndX_some hf
      rw [keepF_hit h he hf hx]
      have := h.n e (by simp)
      exact h.set (by omega) (by omega)
theorem freeF_hit {B : Int} {A C : List En} {e : En} {c id : Int} (h : StOk B (A ++ e :: C) c) (he : e.id = id) (hf : fnd (A ++ e :: C) id = some e) : freeF (A ++ e :: C) id = if e.n = 1 then (A ++ C, 0) else (A ++ ⟨e.id, e.n - 1, e.x⟩ :: C, 0) := by
  have hm := h.mid
  unfold freeF
  rw [hf]
  dsimp only
  rw [map_mid (p := fun a : En => a.id = id) (g := fun a => ⟨a.id, a.n - 1, a.x⟩) (fun a ha => by rw [← he]; exact (hm.1 a ha).1) (fun a ha => by rw [← he]; exact (hm.2 a ha).1) he,
    filter_mid (p := fun a : En => a.id ≠ id) (fun a ha => by rw [← he]; exact (hm.1 a ha).1) (fun a ha => by rw [← he]; exact (hm.2 a ha).1) (by simpa using he)]
theorem freeF_ok {B : Int} {S : List En} {c id : Int} (h : StOk B S c) : StOk B (freeF S id).1 c := by
  rcases hf : fnd S id with _ | e
  · have : freeF S id = (S, 5) := by unfold freeF; rw [hf]
    rw [this]
    exact h
  · obtain ⟨A, C, rfl, he, _⟩ := fnd_some hf
    rw [freeF_hit h he hf]
    split
    · exact h.gone
    · have := h.n e (by simp)
      exact h.set (by omega) (by omega)
/-- Nothing at all. -/
def zAt : At := ⟨0, none, 0, [], 0, false, 0, false, 0, false, false, 0, 0, none, 0, [], none, 0, []⟩
theorem zAt_f : AtF zAt := by
  refine ⟨⟨by unfold I64 zAt; decide, by unfold U32 zAt; decide, by unfold U32 zAt; decide, by unfold U32 zAt; decide, by unfold U32 zAt; decide, by unfold U32 zAt; decide, ?_, ?_, ?_⟩, by unfold zAt; decide, by unfold zAt; decide, by unfold zAt; decide⟩
  all_goals (intro s hs; exact absurd hs List.not_mem_nil)
theorem zAt_v (w : World) : AtV w zAt := ⟨⟨Vw.nil w 2, fun _ h => absurd h List.not_mem_nil⟩, Vw.nil w 1, Vw.nil w 2, fun _ h => absurd h List.not_mem_nil⟩
theorem free_miss (sp : Nat) (S : List En) (c id : Int) (hn : ∀ e ∈ S, e.id ≠ id) : Pact Try.prog 25 #[.pointer (some ⟨sp, 0, none⟩), .int .i64 id] (fun _ => True) [stoA sp S c] (fun u L' => u = .int .i64 5 ∧ L' = [stoA sp S c]) := by
  refine pact Try.func25 rfl Try.ntmps25 rfl ?_
  intro W K _
  refine J_open (fun w H => stoOpen H .here) ?_
  rintro ⟨⟨mb, lb, M⟩, hM⟩
  dsimp only at hM ⊢
  (repeat' (first | ((with_reducible apply gL); (first | refine yL0 ?_ | refine yL ?_ | ((with_reducible apply gL_go); (first | (refine JL_goq (find_miss sp mb lb c id M (fun a ha => hn _ (hM.mem ha))) (hφ := xF) (h := ?_); rintro _ _ ⟨rfl, rfl⟩; try simp only [List.cons_append, List.nil_append]) | fail)) | fail)) | ((with_reducible apply gD); (first | (refine JD_nil ?_; try simp only [List.cons_append, List.nil_append]) | (refine JD_bar ?_; try simp only [List.cons_append, List.nil_append]) | refine yD ?_ | fail)) | refine yJ ?_ | ((with_reducible apply gJ_if); (first | (refine J_if xR ?_ ?_ <;> intro _ <;> (try (exfalso; first | contradiction | omega))) | (refine J_ifb xR ?_ ?_ <;> (intro hgb; subst hgb)) | (refine J_ifb xR ?_ ?_ <;> intro _) | fail)) | refine J_draw (id := 7) [0, 1, 2, 3, 4, 5, 6, 7] [8] mixed xC xD xD ?_ | fail))
  exact J_ret1 rfl (by rfl) fun w H => ⟨_, ⟨rfl, rfl⟩, Ow.sel (stoShut hM H xZ) xZ⟩
theorem free_dec (B : Int) (hB : B ≤ 1000000000) (sp : Nat) (A C : List En) (e : En) (c id : Int) (hs : StOk B (A ++ e :: C) c) (he : e.id = id) (h1 : e.n ≠ 1) : Pact Try.prog 25 #[.pointer (some ⟨sp, 0, none⟩), .int .i64 id] (fun _ => True) [stoA sp (A ++ e :: C) c] (fun u L' => u = .int .i64 0 ∧ L' = [stoA sp (A ++ ⟨e.id, e.n - 1, e.x⟩ :: C) c]) := by
  refine pact Try.func25 rfl Try.ntmps25 rfl ?_
  intro W K _
  have hmid := hs.mid
  have hnn := hs.n e (by simp)
  refine J_open (fun w H => stoOpen H .here) ?_
  rintro ⟨⟨mb, lb, M⟩, hM⟩
  dsimp only at hM ⊢
  obtain ⟨MA, m, MC, rfl, rfl, hMA, hMC, hmd, hmx⟩ := hM.split
  refine J_heap (fun w H => meOpen (Ow.satsMid H xA) .here) ?_
  (repeat' (first | ((with_reducible apply gL); (first | refine yL0 ?_ | refine yL ?_ | ((with_reducible apply gL_go); (first | (refine JL_goq (find_hit sp mb lb c id MA MC m he (fun a ha => by rw [← he]; exact (hmid.1 _ (hMA.mem ha)).1)) (hφ := xF) (h := ?_); rintro _ _ ⟨rfl, rfl⟩; try simp only [List.cons_append, List.nil_append]) | fail)) | fail)) | ((with_reducible apply gD); (first | (refine JD_nil ?_; try simp only [List.cons_append, List.nil_append]) | (refine JD_bar ?_; try simp only [List.cons_append, List.nil_append]) | refine yD ?_ | fail)) | refine yJ ?_ | ((with_reducible apply gJ_if); (first | (refine J_if xR ?_ ?_ <;> intro _ <;> (try (exfalso; first | contradiction | omega))) | (refine J_ifb xR ?_ ?_ <;> (intro hgb; subst hgb)) | (refine J_ifb xR ?_ ?_ <;> intro _) | fail)) | refine J_draw (id := 7) [0, 1, 2, 3, 4, 5, 6, 7] [8] mixed xC xD xD ?_ | fail))
  refine J_ret1 rfl (by rfl) fun w H => ⟨_, ⟨rfl, rfl⟩, ?_⟩
  have e1 : byL (MA ++ m :: MC) = byL (MA ++ ⟨m.b, m.d, ⟨m.e.id, m.e.n - 1, m.e.x⟩⟩ :: MC) := by simp [byL]
  have e2 : idL (MA ++ m :: MC) = idL (MA ++ ⟨m.b, m.d, ⟨m.e.id, m.e.n - 1, m.e.x⟩⟩ :: MC) := by simp [idL]
  rw [e1, e2] at H
  have H := meShut (m := ⟨m.b, m.d, ⟨m.e.id, m.e.n - 1, m.e.x⟩⟩) H xZ
  have H := Ow.satsBack (A := MA) (B := MC) (m := ⟨m.b, m.d, ⟨m.e.id, m.e.n - 1, m.e.x⟩⟩) H .here xA
  have hJ := MOk.join (m := ⟨m.b, m.d, ⟨m.e.id, m.e.n - 1, m.e.x⟩⟩) hMA hMC hmd hmx
  exact (stoShut hJ H xZ).sel xZ
theorem free_gone (B : Int) (hB : B ≤ 1000000000) (sp : Nat) (A C : List En) (e : En) (c id : Int) (hs : StOk B (A ++ e :: C) c) (he : e.id = id) (h1 : e.n = 1) : Pact Try.prog 25 #[.pointer (some ⟨sp, 0, none⟩), .int .i64 id] (fun _ => True) [stoA sp (A ++ e :: C) c] (fun u L' => u = .int .i64 0 ∧ L' = [stoA sp (A ++ C) c]) := by
  refine pact Try.func25 rfl Try.ntmps25 rfl ?_
  intro W K _
  have hmid := hs.mid
  refine J_open (fun w H => stoOpen H .here) ?_
  rintro ⟨⟨mb, lb, M⟩, hM⟩
  dsimp only at hM ⊢
  obtain ⟨MA, m, MC, rfl, rfl, hMA, hMC, hmd, hmx⟩ := hM.split
  refine J_heap (fun w H => meOpen (Ow.satsMid H xA) .here) ?_
  (repeat' (first | ((with_reducible apply gL); (first | refine yL0 ?_ | ((with_reducible apply gL_c_delete); (first | (first | (refine JL_delG mi_i xR xR xR xA xR ?_) | (refine JD_delG mi_s xR xR xR xA xR ?_)) | fail)) | refine yL ?_ | ((with_reducible apply gL_go); (first | (refine JL_goq (find_hit sp mb lb c id MA MC m he (fun a ha => by rw [← he]; exact (hmid.1 _ (hMA.mem ha)).1)) (hφ := xF) (h := ?_); rintro _ _ ⟨rfl, rfl⟩; try simp only [List.cons_append, List.nil_append]) | fail)) | fail)) | ((with_reducible apply gD); (first | (refine JD_nil ?_; try simp only [List.cons_append, List.nil_append]) | (refine JD_bar ?_; try simp only [List.cons_append, List.nil_append]) | ((with_reducible apply gD_c_delete); (first | (first | (refine JL_delG mi_i xR xR xR xA xR ?_) | (refine JD_delG mi_s xR xR xR xA xR ?_)) | fail)) | refine yD ?_ | fail)) | refine yJ ?_ | ((with_reducible apply gJ_if); (first | (refine J_if xR ?_ ?_ <;> intro _ <;> (try (exfalso; first | contradiction | omega))) | (refine J_ifb xR ?_ ?_ <;> (intro hgb; subst hgb)) | (refine J_ifb xR ?_ ?_ <;> intro _) | fail)) | refine J_draw (id := 7) [0, 1, 2, 3, 4, 5, 6, 7] [8] mixed xC xD xD ?_ | fail))
  refine J_ret1 rfl (by rfl) fun w H => ⟨_, ⟨rfl, rfl⟩, ?_⟩
  have e1 : aD (byL (MA ++ m :: MC)) (keyS m.e.x) = byL (MA ++ MC) := by
    unfold byL
    rw [List.map_append, List.map_append, List.map_cons, aD_mid]
    intro p hp
    obtain ⟨a, ha, rfl⟩ := List.mem_map.1 hp
    have h1 := hMA.mem ha
    have h2 := hs.ok a.e (by simp [h1])
    have h3 := hs.ok m.e (by simp)
    exact fun q => (hmid.1 _ h1).2 (keyS_inj h2.2 h3.2 h2.1 h3.1 q)
  have e2 : aD (idL (MA ++ m :: MC)) id = idL (MA ++ MC) := by
    unfold idL
    rw [List.map_append, List.map_append, List.map_cons, he, aD_mid]
    intro p hp
    obtain ⟨a, ha, rfl⟩ := List.mem_map.1 hp
    rw [← he]
    exact (hmid.1 _ (hMA.mem ha)).1
  rw [e1, e2] at H
  exact (stoShut (MOk.two hMA hMC) H xZ).sel xZ
end Go.Proofs.Ytdnokmpnemaoaaa
namespace Go.Proofs.Ytdnokmpnemaoaaa
set_option linter.unusedSimpArgs false
set_option linter.unusedVariables false
set_option maxRecDepth 20000
set_option maxHeartbeats 4000000
open Go.RowKit Go.Pm

abbrev zC : List Value := [.int .i64 0, .slice none 0 0, .int .u32 0, .bool false, .int .u32 0, .bool false, .int .u32 0, .bool false, .bool false, .int .u32 0, .int .u32 0, .slice none 0 0, .slice none 0 0]
theorem get_miss (sp : Nat) (S : List En) (c id : Int) (hn : ∀ e ∈ S, e.id ≠ id) : Pact Try.prog 42 #[.pointer (some ⟨sp, 0, none⟩), .int .i64 id] (fun _ => True) [stoA sp S c] (fun u L' => u = .tuple #[.agg (atC zAt).toArray, .int .i64 5] ∧ L' = [stoA sp S c]) := by
  refine pact Try.func42 rfl Try.ntmps42 rfl ?_
  intro W K _
  refine J_open (fun w H => stoOpen H .here) ?_
  rintro ⟨⟨mb, lb, M⟩, hM⟩
  dsimp only at hM ⊢
  (repeat' (first | ((with_reducible apply gL); (first | refine yL0 ?_ | refine yL ?_ | ((with_reducible apply gL_go); (first | (refine JL_goq (find_miss sp mb lb c id M (fun a ha => hn _ (hM.mem ha))) (hφ := xF) (h := ?_); rintro _ _ ⟨rfl, rfl⟩; try simp only [List.cons_append, List.nil_append]) | fail)) | (refine yM ?_; intro _) | fail)) | refine yJ ?_ | ((with_reducible apply gJ_if); (first | (refine J_if xR ?_ ?_ <;> intro _ <;> (try (exfalso; first | contradiction | omega))) | (refine J_ifb xR ?_ ?_ <;> (intro hgb; subst hgb)) | (refine J_ifb xR ?_ ?_ <;> intro _) | fail)) | fail))
  exact J_retC1 (cs := zC) rfl (by rfl) (by rfl) xA (by rfl) fun w H => ⟨_, ⟨rfl, rfl⟩, Ow.sel (stoShut hM H xZ) xZ⟩
theorem get_hit (sp : Nat) (A C : List En) (e : En) (c id : Int) (he : e.id = id) (hA : ∀ a ∈ A, a.id ≠ id) : Pact Try.prog 42 #[.pointer (some ⟨sp, 0, none⟩), .int .i64 id] (fun _ => True) [stoA sp (A ++ e :: C) c] (fun u L' => ∃ d', AtF d' ∧ d'.nf = e.x ∧ u = .tuple #[.agg (atC d').toArray, .int .i64 0] ∧ L' = [stoA sp (A ++ e :: C) c, ownAt d']) := by
  refine pact Try.func42 rfl Try.ntmps42 rfl ?_
  intro W K _
  refine J_open (fun w H => stoOpen H .here) ?_
  rintro ⟨⟨mb, lb, M⟩, hM⟩
  dsimp only at hM ⊢
  obtain ⟨MA, m, MC, rfl, rfl, hMA, hMC, hmd, hmx⟩ := hM.split
  refine J_heap (fun w H => meOpen (Ow.satsMid H xA) .here) ?_
  (repeat' (first | ((with_reducible apply gL); (first | refine yL0 ?_ | refine yL ?_ | ((with_reducible apply gL_go); (first | (refine JL_goq (find_hit sp mb lb c id MA MC m he (fun a ha => hA _ (hMA.mem ha))) (hφ := xF) (h := ?_); rintro _ _ ⟨rfl, rfl⟩; try simp only [List.cons_append, List.nil_append]) | (refine JL_goq (copy_s m.d hmd) (hφ := (by (try simp only [List.cons_append, List.nil_append]); exact fun w hr => hr.has (φ := fun w => AtV w m.d) xA)) (h := ?_); rintro _ _ ⟨d', hd', hx', rfl, rfl⟩; try simp only [List.cons_append, List.nil_append]) | fail)) | (refine yM ?_; intro _) | fail)) | refine yJ ?_ | ((with_reducible apply gJ_if); (first | (refine J_if xR ?_ ?_ <;> intro _ <;> (try (exfalso; first | contradiction | omega))) | (refine J_ifb xR ?_ ?_ <;> (intro hgb; subst hgb)) | (refine J_ifb xR ?_ ?_ <;> intro _) | fail)) | fail))
  refine J_retC1 (cs := atC d') rfl (by rfl) (by rfl) xA (by rfl) fun w H => ⟨_, ⟨d', hd', by rw [hx', hmx], rfl, rfl⟩, ?_⟩
  have H := meShut (m := m) H xZ
  have H := Ow.satsBack (A := MA) (B := MC) (m := m) H .here xA
  exact (stoShut hM H xZ).sel xZ
theorem Pact.imp {P : Program} {f : FuncId} {args : Array Value} {φ : World → Prop} {pre : List HP} {Rr Rr' : Value → List HP → Prop} (S : Pact P f args φ pre Rr) (h : ∀ v L', Rr v L' → Rr' v L') : Pact P f args φ pre Rr' := fun W K w hK H =>
  (S W K w hK H).mono fun e w' ⟨v, L', h1, h2, h3⟩ => ⟨v, L', h _ _ h1, h2, h3⟩
theorem keep_s (B : Int) (hB0 : 0 ≤ B) (hB : B ≤ 1000000000) (sp : Nat) (S : List En) (c : Int) (d : At) (hd : AtF d) (hs : StOk B S c) : Pact Try.prog 31 #[.pointer (some ⟨sp, 0, none⟩), .agg (atC d).toArray] (fun w => AtV w d) [stoA sp S c] (fun u L' => u = .tuple #[.int .i64 (keepF S c d.nf).2.1, .int .i64 (keepF S c d.nf).2.2] ∧ L' = [stoA sp (keepF S c d.nf).1.1 (keepF S c d.nf).1.2]) := by
  rcases hx : okN d.nf with _ | _
  · have : keepF S c d.nf = ((S, c), 0, 2) := by unfold keepF; rw [hx]
    rw [this]
    exact keep_bad sp S c d hd hx
  · rcases hf : fndX S d.nf with _ | e
    · by_cases hl : S.length = 4096
      · have : keepF S c d.nf = ((S, c), 0, 4) := by unfold keepF; rw [hx, hf]; dsimp only; rw [if_pos hl]
        rw [this]
        exact keep_full B hB sp S c d hd hx hs (fndX_none hf) hl
      · have : keepF S c d.nf = ((S ++ [⟨c + 1, 1, d.nf⟩], c + 1), c + 1, 0) := by unfold keepF; rw [hx, hf]; dsimp only; rw [if_neg hl]
        rw [this]
        exact keep_new B hB sp S c d hd hx hs (fndX_none hf) hl
    · obtain ⟨A, C, rfl, he, _⟩ := fndX_some hf
      rw [keepF_hit hs he hf hx]
      exact keep_hit B hB sp A C e c d hd hx hs he
theorem free_s (B : Int) (hB : B ≤ 1000000000) (sp : Nat) (S : List En) (c id : Int) (hs : StOk B S c) : Pact Try.prog 25 #[.pointer (some ⟨sp, 0, none⟩), .int .i64 id] (fun _ => True) [stoA sp S c] (fun u L' => u = .int .i64 (freeF S id).2 ∧ L' = [stoA sp (freeF S id).1 c]) := by
  rcases hf : fnd S id with _ | e
  · have : freeF S id = (S, 5) := by unfold freeF; rw [hf]
    rw [this]
    exact free_miss sp S c id (fnd_none hf)
  · obtain ⟨A, C, rfl, he, _⟩ := fnd_some hf
    rw [freeF_hit hs he hf]
    by_cases h1 : e.n = 1
    · rw [if_pos h1]
      exact free_gone B hB sp A C e c id hs he h1
    · rw [if_neg h1]
      exact free_dec B hB sp A C e c id hs he h1
def getE (S : List En) (id : Int) : Int := match fnd S id with | none => 5 | some _ => 0
def getX (S : List En) (id : Int) : Nf := match fnd S id with | none => zAt.nf | some e => e.x
theorem get_s (sp : Nat) (S : List En) (c id : Int) : Pact Try.prog 42 #[.pointer (some ⟨sp, 0, none⟩), .int .i64 id] (fun _ => True) [stoA sp S c] (fun u L' => ∃ d' P, AtF d' ∧ d'.nf = getX S id ∧ u = .tuple #[.agg (atC d').toArray, .int .i64 (getE S id)] ∧ L' = [stoA sp S c, has (fun w => AtV w d')] ++ P ∧ P = []) := by
  rcases hf : fnd S id with _ | e
  · have h1 : getE S id = 5 := by unfold getE; rw [hf]
    have h2 : getX S id = zAt.nf := by unfold getX; rw [hf]
    rw [h1, h2]
    intro W K w hK H
    refine (get_miss sp S c id (fnd_none hf) W K w hK H).mono ?_
    rintro e w' ⟨v, L', ⟨rfl, rfl⟩, h5, H'⟩
    exact ⟨_, _, ⟨zAt, [], zAt_f, rfl, rfl, rfl, rfl⟩, h5, (Ow.hasTrue (φ := fun w => AtV w zAt) H' zAt_v).sel xZ⟩
  · have h1 : getE S id = 0 := by unfold getE; rw [hf]
    have h2 : getX S id = e.x := by unfold getX; rw [hf]
    rw [h1, h2]
    obtain ⟨A, C, rfl, he, hA⟩ := fnd_some hf
    intro W K w hK H
    refine (get_hit sp A C e c id he hA W K w hK H).mono ?_
    rintro e w' ⟨v, L', ⟨d', hd, hx, rfl, rfl⟩, h5, H'⟩
    exact ⟨_, _, ⟨d', [], hd, hx, rfl, rfl, rfl⟩, h5, (ownHas H' xA).sel xZ⟩
/-! A store that is not there, or that no call made. -/
theorem keep_nil (cs : List Value) (hl : cs.length = 13) : Pact Try.prog 31 #[.pointer none, .agg cs.toArray] (fun _ => True) [] (ret0 (.tuple #[.int .i64 0, .int .i64 1])) := by
  refine pact Try.func31 rfl Try.ntmps31 rfl ?_
  intro W K _
  (repeat' (first | ((with_reducible apply gL); (first | refine yL0 ?_ | refine yL ?_ | ((with_reducible apply gL_go); (first | (refine JL_goq (isnil_s) (hφ := xF) (h := ?_); rintro _ _ ⟨rfl, rfl⟩; try simp only [List.cons_append, List.nil_append]) | fail)) | (refine yM ?_; intro _) | ((with_reducible apply gL_lookup); (first | refine JL_p rfl xR xR (pe_lookup xR xR (tabM mtab_ok xR) xT (by first | apply hlook | apply hlook2 | rfl)) ?_ | refine JL_p rfl xR xR (pe_lookupK xR xR (tabM mtab_ok xR) xH (by first | apply hlook | apply hlook2 | rfl)) ?_ | fail)) | fail)) | ((with_reducible apply gD); (first | (refine JD_nil ?_; try simp only [List.cons_append, List.nil_append]) | (refine JD_bar ?_; try simp only [List.cons_append, List.nil_append]) | refine yD ?_ | ((with_reducible apply gD_go); (first | (refine JD_goq (isnil_s) (hφ := xF) (h := ?_); rintro _ _ ⟨rfl, rfl⟩; try simp only [List.cons_append, List.nil_append]) | fail)) | (refine yE ?_; intro _) | ((with_reducible apply gD_mapUpdate); (first | refine JD_mapSet xR xR xR (tabM mtab_ok xR) xT xR ?_ | fail)) | fail)) | refine yJ ?_ | ((with_reducible apply gJ_if); (first | (refine J_if xR ?_ ?_ <;> intro _ <;> (try (exfalso; first | contradiction | omega))) | (refine J_ifb xR ?_ ?_ <;> (intro hgb; subst hgb)) | (refine J_ifb xR ?_ ?_ <;> intro _) | fail)) | refine J_draw (id := 13) [0, 1, 2, 3, 4, 5, 6, 7, 8] [9] mixed xC xD xD ?_ | refine J_draw (id := 14) [0, 1, 2, 3, 4, 5, 6, 7, 8, 10, 9, 11, 12] [13] mixed xC xD xD ?_ | fail))
  exact J_ret2 rfl (by rfl) (by rfl) fun w H => ⟨_, ⟨rfl, rfl⟩, H.sel .nil⟩
theorem keep_void (sp : Nat) (x : Value) (c : Int) (cs : List Value) (hl : cs.length = 13) : Pact Try.prog 31 #[.pointer (some ⟨sp, 0, none⟩), .agg cs.toArray] (fun _ => True) [pts sp [x, .map none, .int .i64 c] 76] (fun u L' => u = .tuple #[.int .i64 0, .int .i64 1] ∧ L' = [pts sp [x, .map none, .int .i64 c] 76]) := by
  refine pact Try.func31 rfl Try.ntmps31 rfl ?_
  intro W K _
  (repeat' (first | ((with_reducible apply gL); (first | refine yL0 ?_ | refine yL ?_ | ((with_reducible apply gL_go); (first | (refine JL_goq (isvoid_s sp x c) (hφ := xF) (h := ?_); rintro _ _ ⟨rfl, rfl⟩; try simp only [List.cons_append, List.nil_append]) | fail)) | (refine yM ?_; intro _) | ((with_reducible apply gL_lookup); (first | refine JL_p rfl xR xR (pe_lookup xR xR (tabM mtab_ok xR) xT (by first | apply hlook | apply hlook2 | rfl)) ?_ | refine JL_p rfl xR xR (pe_lookupK xR xR (tabM mtab_ok xR) xH (by first | apply hlook | apply hlook2 | rfl)) ?_ | fail)) | fail)) | ((with_reducible apply gD); (first | (refine JD_nil ?_; try simp only [List.cons_append, List.nil_append]) | (refine JD_bar ?_; try simp only [List.cons_append, List.nil_append]) | refine yD ?_ | ((with_reducible apply gD_go); (first | (refine JD_goq (isvoid_s sp x c) (hφ := xF) (h := ?_); rintro _ _ ⟨rfl, rfl⟩; try simp only [List.cons_append, List.nil_append]) | fail)) | (refine yE ?_; intro _) | ((with_reducible apply gD_mapUpdate); (first | refine JD_mapSet xR xR xR (tabM mtab_ok xR) xT xR ?_ | fail)) | fail)) | refine yJ ?_ | ((with_reducible apply gJ_if); (first | (refine J_if xR ?_ ?_ <;> intro _ <;> (try (exfalso; first | contradiction | omega))) | (refine J_ifb xR ?_ ?_ <;> (intro hgb; subst hgb)) | (refine J_ifb xR ?_ ?_ <;> intro _) | fail)) | refine J_draw (id := 13) [0, 1, 2, 3, 4, 5, 6, 7, 8] [9] mixed xC xD xD ?_ | refine J_draw (id := 14) [0, 1, 2, 3, 4, 5, 6, 7, 8, 10, 9, 11, 12] [13] mixed xC xD xD ?_ | fail))
  exact J_ret2 rfl (by rfl) (by rfl) fun w H => ⟨_, ⟨rfl, rfl⟩, H.sel xZ⟩
theorem get_nil (id : Int) : Pact Try.prog 42 #[.pointer none, .int .i64 id] (fun _ => True) [] (ret0 (.tuple #[.agg (atC zAt).toArray, .int .i64 1])) := by
  refine pact Try.func42 rfl Try.ntmps42 rfl ?_
  intro W K _
  (repeat' (first | ((with_reducible apply gL); (first | refine yL0 ?_ | refine yL ?_ | ((with_reducible apply gL_go); (first | (refine JL_goq (find_nil id) (hφ := xF) (h := ?_); rintro _ _ ⟨rfl, rfl⟩; try simp only [List.cons_append, List.nil_append]) | fail)) | (refine yM ?_; intro _) | fail)) | refine yJ ?_ | ((with_reducible apply gJ_if); (first | (refine J_if xR ?_ ?_ <;> intro _ <;> (try (exfalso; first | contradiction | omega))) | (refine J_ifb xR ?_ ?_ <;> (intro hgb; subst hgb)) | (refine J_ifb xR ?_ ?_ <;> intro _) | fail)) | fail))
  exact J_retC1 (cs := zC) rfl (by rfl) (by rfl) xA (by rfl) fun w H => ⟨_, ⟨rfl, rfl⟩, H.sel .nil⟩
theorem get_void (sp : Nat) (x : Value) (c id : Int) : Pact Try.prog 42 #[.pointer (some ⟨sp, 0, none⟩), .int .i64 id] (fun _ => True) [pts sp [x, .map none, .int .i64 c] 76] (fun u L' => u = .tuple #[.agg (atC zAt).toArray, .int .i64 1] ∧ L' = [pts sp [x, .map none, .int .i64 c] 76]) := by
  refine pact Try.func42 rfl Try.ntmps42 rfl ?_
  intro W K _
  (repeat' (first | ((with_reducible apply gL); (first | refine yL0 ?_ | refine yL ?_ | ((with_reducible apply gL_go); (first | (refine JL_goq (find_void sp x c id) (hφ := xF) (h := ?_); rintro _ _ ⟨rfl, rfl⟩; try simp only [List.cons_append, List.nil_append]) | fail)) | (refine yM ?_; intro _) | fail)) | refine yJ ?_ | ((with_reducible apply gJ_if); (first | (refine J_if xR ?_ ?_ <;> intro _ <;> (try (exfalso; first | contradiction | omega))) | (refine J_ifb xR ?_ ?_ <;> (intro hgb; subst hgb)) | (refine J_ifb xR ?_ ?_ <;> intro _) | fail)) | fail))
  exact J_retC1 (cs := zC) rfl (by rfl) (by rfl) xA (by rfl) fun w H => ⟨_, ⟨rfl, rfl⟩, H.sel xZ⟩
theorem free_nil (id : Int) : Pact Try.prog 25 #[.pointer none, .int .i64 id] (fun _ => True) [] (ret0 (.int .i64 1)) := by
  refine pact Try.func25 rfl Try.ntmps25 rfl ?_
  intro W K _
  (repeat' (first | ((with_reducible apply gL); (first | refine yL0 ?_ | refine yL ?_ | ((with_reducible apply gL_go); (first | (refine JL_goq (find_nil id) (hφ := xF) (h := ?_); rintro _ _ ⟨rfl, rfl⟩; try simp only [List.cons_append, List.nil_append]) | fail)) | fail)) | ((with_reducible apply gD); (first | (refine JD_nil ?_; try simp only [List.cons_append, List.nil_append]) | (refine JD_bar ?_; try simp only [List.cons_append, List.nil_append]) | refine yD ?_ | fail)) | refine yJ ?_ | ((with_reducible apply gJ_if); (first | (refine J_if xR ?_ ?_ <;> intro _ <;> (try (exfalso; first | contradiction | omega))) | (refine J_ifb xR ?_ ?_ <;> (intro hgb; subst hgb)) | (refine J_ifb xR ?_ ?_ <;> intro _) | fail)) | refine J_draw (id := 7) [0, 1, 2, 3, 4, 5, 6, 7] [8] mixed xC xD xD ?_ | fail))
  exact J_ret1 rfl (by rfl) fun w H => ⟨_, ⟨rfl, rfl⟩, H.sel .nil⟩
theorem free_void (sp : Nat) (x : Value) (c id : Int) : Pact Try.prog 25 #[.pointer (some ⟨sp, 0, none⟩), .int .i64 id] (fun _ => True) [pts sp [x, .map none, .int .i64 c] 76] (fun u L' => u = .int .i64 1 ∧ L' = [pts sp [x, .map none, .int .i64 c] 76]) := by
  refine pact Try.func25 rfl Try.ntmps25 rfl ?_
  intro W K _
  (repeat' (first | ((with_reducible apply gL); (first | refine yL0 ?_ | refine yL ?_ | ((with_reducible apply gL_go); (first | (refine JL_goq (find_void sp x c id) (hφ := xF) (h := ?_); rintro _ _ ⟨rfl, rfl⟩; try simp only [List.cons_append, List.nil_append]) | fail)) | fail)) | ((with_reducible apply gD); (first | (refine JD_nil ?_; try simp only [List.cons_append, List.nil_append]) | (refine JD_bar ?_; try simp only [List.cons_append, List.nil_append]) | refine yD ?_ | fail)) | refine yJ ?_ | ((with_reducible apply gJ_if); (first | (refine J_if xR ?_ ?_ <;> intro _ <;> (try (exfalso; first | contradiction | omega))) | (refine J_ifb xR ?_ ?_ <;> (intro hgb; subst hgb)) | (refine J_ifb xR ?_ ?_ <;> intro _) | fail)) | refine J_draw (id := 7) [0, 1, 2, 3, 4, 5, 6, 7] [8] mixed xC xD xD ?_ | fail))
  exact J_ret1 rfl (by rfl) fun w H => ⟨_, ⟨rfl, rfl⟩, H.sel xZ⟩
end Go.Proofs.Ytdnokmpnemaoaaa
namespace Go.Proofs.Ytdnokmpnemaoaaa
set_option linter.unusedSimpArgs false
set_option linter.unusedVariables false
set_option maxRecDepth 20000
set_option maxHeartbeats 4000000
open Go.RowKit Go.Pm

abbrev vwC (sp : Option Addr) (tb : Nat) (d n : Int) : List Value := [.pointer sp, .pointer (some ⟨tb, 0, none⟩), .int .i64 d, .int .i64 n]
def lateE (x : T.Vt) : Bool := decide (x.1 ≠ x.2.1) || x.2.2
theorem vis_s (vb : Nat) (sp : Option Addr) (tb : Nat) (d n : Int) : Pact Try.prog 22 #[.pointer (some ⟨vb, 0, none⟩)] (fun _ => True) [pts vb (vwC sp tb d n) 36] (fun u L' => u = .bool true ∧ L' = [pts vb (vwC sp tb d n) 36]) := by
  refine pact Try.func22 rfl Try.ntmps22 rfl ?_
  intro W K _
  (repeat' (first | ((with_reducible apply gL); (first | refine yL0 ?_ | refine yL ?_ | ((with_reducible apply gL_gd); (first | (refine JL_guard xR xR ?_ ?_ <;> intro _ <;> (try (exfalso; first | contradiction | omega))) | (refine JL_guardb xR xR ?_ ?_ <;> (intro hgb; subst hgb)) | (refine JL_guardb xR xR ?_ ?_ <;> (intro hgb; fail_if_success (have : type_of% hgb := rfl))) | fail)) | fail)) | refine yJ ?_ | fail))
  exact J_ret1 rfl (by rfl) fun w H => ⟨_, ⟨rfl, rfl⟩, H.sel xZ⟩
theorem visvoid_s (vb : Nat) (a : Value) (d n : Int) : Pact Try.prog 22 #[.pointer (some ⟨vb, 0, none⟩)] (fun _ => True) [pts vb [a, .pointer none, .int .i64 d, .int .i64 n] 36] (fun u L' => u = .bool false ∧ L' = [pts vb [a, .pointer none, .int .i64 d, .int .i64 n] 36]) := by
  refine pact Try.func22 rfl Try.ntmps22 rfl ?_
  intro W K _
  (repeat' (first | ((with_reducible apply gL); (first | refine yL0 ?_ | refine yL ?_ | ((with_reducible apply gL_gd); (first | (refine JL_guard xR xR ?_ ?_ <;> intro _ <;> (try (exfalso; first | contradiction | omega))) | (refine JL_guardb xR xR ?_ ?_ <;> (intro hgb; subst hgb)) | (refine JL_guardb xR xR ?_ ?_ <;> (intro hgb; fail_if_success (have : type_of% hgb := rfl))) | fail)) | fail)) | refine yJ ?_ | fail))
  exact J_ret1 rfl (by rfl) fun w H => ⟨_, ⟨rfl, rfl⟩, H.sel xZ⟩
theorem visnil_s : Pact Try.prog 22 #[.pointer none] (fun _ => True) [] (ret0 (.bool false)) := by
  refine pact Try.func22 rfl Try.ntmps22 rfl ?_
  intro W K _
  (repeat' (first | ((with_reducible apply gL); (first | refine yL0 ?_ | refine yL ?_ | ((with_reducible apply gL_gd); (first | (refine JL_guard xR xR ?_ ?_ <;> intro _ <;> (try (exfalso; first | contradiction | omega))) | (refine JL_guardb xR xR ?_ ?_ <;> (intro hgb; subst hgb)) | (refine JL_guardb xR xR ?_ ?_ <;> (intro hgb; fail_if_success (have : type_of% hgb := rfl))) | fail)) | fail)) | refine yJ ?_ | fail))
  exact J_ret1 rfl (by rfl) fun w H => ⟨_, ⟨rfl, rfl⟩, H.sel .nil⟩
theorem late_s (x : T.Vt) : Pact Try.prog 33 #[.agg (T.vC x).toArray] (fun _ => True) [] (ret0 (.bool (lateE x))) := by
  refine pact Try.func33 rfl Try.ntmps33 rfl ?_
  intro W K _
  (repeat' (first | ((with_reducible apply gL); (first | refine yL0 ?_ | refine yL ?_ | (refine yM ?_; intro _) | ((with_reducible apply gL_gd); (first | (refine JL_guard xR xR ?_ ?_ <;> intro _ <;> (try (exfalso; first | contradiction | omega))) | (refine JL_guardb xR xR ?_ ?_ <;> (intro hgb; subst hgb)) | (refine JL_guardb xR xR ?_ ?_ <;> (intro hgb; fail_if_success (have : type_of% hgb := rfl))) | fail)) | fail)) | refine yJ ?_ | fail))
  all_goals refine J_ret1 rfl (by rfl) fun w H => ⟨_, ⟨?_, rfl⟩, H.sel .nil⟩
  all_goals simp_all [lateE]
theorem wants_s (x : T.Vt) : Pact Try.prog 18 #[.agg (T.vC x).toArray] (fun _ => True) [] (ret0 (.bool (decide (x.1 ≠ 0)))) := by
  refine pact Try.func18 rfl Try.ntmps18 rfl ?_
  intro W K _
  (repeat' (first | ((with_reducible apply gL); (first | refine yL0 ?_ | refine yL ?_ | (refine yM ?_; intro _) | fail)) | refine yJ ?_ | fail))
  exact J_ret1 rfl (by rfl) fun w H => ⟨_, ⟨rfl, rfl⟩, H.sel .nil⟩
theorem whatever_s (x : T.Vt) : Pact Try.prog 20 #[.agg (T.vC x).toArray] (fun _ => True) [] (ret0 (.bool true)) := by
  refine pact Try.func20 rfl Try.ntmps20 rfl ?_
  intro W K _
  (repeat' (first | ((with_reducible apply gL); (first | refine yL0 ?_ | refine yL ?_ | (refine yM ?_; intro _) | fail)) | refine yJ ?_ | fail))
  exact J_ret1 rfl (by rfl) fun w H => ⟨_, ⟨rfl, rfl⟩, H.sel .nil⟩
def frF (S : List En) (id : Int) : List En := if id = 0 then S else (freeF S id).1
theorem free_v (B : Int) (hB : B ≤ 1000000000) (vb sp tb : Nat) (d n : Int) (S : List En) (c id : Int) (hs : StOk B S c) : Pact Try.prog 21 #[.pointer (some ⟨vb, 0, none⟩), .int .i64 id] (fun _ => True) [pts vb (vwC (some ⟨sp, 0, none⟩) tb d n) 36, stoA sp S c] (fun _ L' => L' = [pts vb (vwC (some ⟨sp, 0, none⟩) tb d n) 36, stoA sp (frF S id) c]) := by
  refine pact Try.func21 rfl Try.ntmps21 rfl ?_
  intro W K _
  by_cases h : id = 0
  · have e : frF S id = S := if_pos h
    rw [e]
    (repeat' (first | ((with_reducible apply gL); (first | refine yL0 ?_ | refine yL ?_ | fail)) | refine yJ ?_ | ((with_reducible apply gJ_if); (first | (refine J_if xR ?_ ?_ <;> intro _ <;> (try (exfalso; first | contradiction | omega))) | (refine J_ifb xR ?_ ?_ <;> (intro hgb; subst hgb)) | (refine J_ifb xR ?_ ?_ <;> intro _) | fail)) | fail))
    exact J_end0 rfl fun w H => ⟨_, rfl, H.sel xZ⟩
  · have e : frF S id = (freeF S id).1 := if_neg h
    rw [e]
    (repeat' (first | ((with_reducible apply gL); (first | refine yL0 ?_ | refine yL ?_ | ((with_reducible apply gL_go); (first | (refine JL_goq (free_s B hB sp S c id hs) (hφ := xF) (h := ?_); rintro _ _ ⟨rfl, rfl⟩; try simp only [List.cons_append, List.nil_append]) | fail)) | fail)) | refine yJ ?_ | ((with_reducible apply gJ_if); (first | (refine J_if xR ?_ ?_ <;> intro _ <;> (try (exfalso; first | contradiction | omega))) | (refine J_ifb xR ?_ ?_ <;> (intro hgb; subst hgb)) | (refine J_ifb xR ?_ ?_ <;> intro _) | fail)) | fail))
    exact J_end0 rfl fun w H => ⟨_, rfl, H.sel xZ⟩
noncomputable def agF (S : List En) (c id : Int) : (List En × Int) × Int := if id = 0 then ((S, c), 0) else ((keepF S c (getX S id)).1, (keepF S c (getX S id)).2.1)
theorem again_v (B : Int) (hB0 : 0 ≤ B) (hB : B ≤ 1000000000) (vb sp tb : Nat) (d n : Int) (S : List En) (c id : Int) (hs : StOk B S c) : Pact Try.prog 34 #[.pointer (some ⟨vb, 0, none⟩), .int .i64 id] (fun _ => True) [pts vb (vwC (some ⟨sp, 0, none⟩) tb d n) 36, stoA sp S c] (fun u L' => u = .int .i64 (agF S c id).2 ∧ L' = [pts vb (vwC (some ⟨sp, 0, none⟩) tb d n) 36, stoA sp (agF S c id).1.1 (agF S c id).1.2]) := by
  refine pact Try.func34 rfl Try.ntmps34 rfl ?_
  intro W K _
  by_cases h : id = 0
  · have e : agF S c id = ((S, c), 0) := if_pos h
    rw [e]
    subst h
    (repeat' (first | ((with_reducible apply gL); (first | refine yL0 ?_ | refine yL ?_ | (refine yM ?_; intro _) | fail)) | ((with_reducible apply gD); (first | (refine JD_nil ?_; try simp only [List.cons_append, List.nil_append]) | (refine JD_bar ?_; try simp only [List.cons_append, List.nil_append]) | refine yD ?_ | fail)) | refine yJ ?_ | ((with_reducible apply gJ_if); (first | (refine J_if xR ?_ ?_ <;> intro _ <;> (try (exfalso; first | contradiction | omega))) | (refine J_ifb xR ?_ ?_ <;> (intro hgb; subst hgb)) | (refine J_ifb xR ?_ ?_ <;> intro _) | fail)) | refine J_draw (id := 4) [0, 1, 2, 3, 4] [5, 6, 7, 8, 9] mixed xC xD xD ?_ | fail))
    exact J_ret1 rfl (by rfl) fun w H => ⟨_, ⟨rfl, rfl⟩, H.sel xZ⟩
  · have e : agF S c id = ((keepF S c (getX S id)).1, (keepF S c (getX S id)).2.1) := if_neg h
    rw [e]
    dsimp only
    (repeat' (first | ((with_reducible apply gL); (first | refine yL0 ?_ | refine yL ?_ | ((with_reducible apply gL_go); (first | (refine JL_goq (get_s sp S c id) (hφ := xF) (h := ?_); rintro _ _ ⟨d', P, hd', hnf, rfl, hP, hP2⟩; try simp only [List.cons_append, List.nil_append]) | fail)) | (refine yM ?_; intro _) | fail)) | ((with_reducible apply gD); (first | (refine JD_nil ?_; try simp only [List.cons_append, List.nil_append]) | (refine JD_bar ?_; try simp only [List.cons_append, List.nil_append]) | refine yD ?_ | ((with_reducible apply gD_go); (first | (refine JD_goq (get_s sp S c id) (hφ := xF) (h := ?_); rintro _ _ ⟨d', P, hd', hnf, rfl, hP, hP2⟩; try simp only [List.cons_append, List.nil_append]) | fail)) | fail)) | refine yJ ?_ | ((with_reducible apply gJ_if); (first | (refine J_if xR ?_ ?_ <;> intro _ <;> (try (exfalso; first | contradiction | omega))) | (refine J_ifb xR ?_ ?_ <;> (intro hgb; subst hgb)) | (refine J_ifb xR ?_ ?_ <;> intro _) | fail)) | refine J_draw (id := 4) [0, 1, 2, 3, 4] [5, 6, 7, 8, 9] mixed xC xD xD ?_ | fail))
    subst hP2
    simp only [List.append_nil] at hP
    subst hP
    have hk := keep_s B hB0 hB sp S c d' hd' hs
    rw [hnf] at hk
    simp only [List.cons_append, List.nil_append]
    (repeat' (first | ((with_reducible apply gL); (first | refine yL0 ?_ | refine yL ?_ | ((with_reducible apply gL_go); (first | (refine JL_goq (hk) (hφ := (by (try simp only [List.cons_append, List.nil_append]); exact fun w hr => hr.has xA)) (h := ?_); rintro _ _ ⟨rfl, rfl⟩; try simp only [List.cons_append, List.nil_append]) | fail)) | (refine yM ?_; intro _) | fail)) | ((with_reducible apply gD); (first | (refine JD_nil ?_; try simp only [List.cons_append, List.nil_append]) | (refine JD_bar ?_; try simp only [List.cons_append, List.nil_append]) | refine yD ?_ | ((with_reducible apply gD_go); (first | (refine JD_goq (hk) (hφ := (by (try simp only [List.cons_append, List.nil_append]); exact fun w hr => hr.has xA)) (h := ?_); rintro _ _ ⟨rfl, rfl⟩; try simp only [List.cons_append, List.nil_append]) | fail)) | fail)) | refine yJ ?_ | ((with_reducible apply gJ_if); (first | (refine J_if xR ?_ ?_ <;> intro _ <;> (try (exfalso; first | contradiction | omega))) | (refine J_ifb xR ?_ ?_ <;> (intro hgb; subst hgb)) | (refine J_ifb xR ?_ ?_ <;> intro _) | fail)) | refine J_draw (id := 4) [0, 1, 2, 3, 4] [5, 6, 7, 8, 9] mixed xC xD xD ?_ | fail))
    exact J_ret1 rfl (by rfl) fun w H => ⟨_, ⟨rfl, rfl⟩, H.sel xZ⟩
def whatX (S : List En) (id : Int) : Nf := if id = 0 then zAt.nf else getX S id
def whatB (S : List En) (id : Int) : Bool := if id = 0 then false else decide (getE S id = 0)
theorem what_v (vb sp tb : Nat) (d n : Int) (S : List En) (c id : Int) : Pact Try.prog 24 #[.pointer (some ⟨vb, 0, none⟩), .int .i64 id] (fun _ => True) [pts vb (vwC (some ⟨sp, 0, none⟩) tb d n) 36, stoA sp S c] (fun u L' => ∃ d', (AtF d' ∧ d'.nf = whatX S id) ∧ u = .tuple #[.agg (atC d').toArray, .bool (whatB S id)] ∧ L' = [pts vb (vwC (some ⟨sp, 0, none⟩) tb d n) 36, stoA sp S c, has (fun w => AtV w d')]) := by
  refine pact Try.func24 rfl Try.ntmps24 rfl ?_
  intro W K _
  by_cases h : id = 0
  · have e : whatX S id = zAt.nf := if_pos h
    have e2 : whatB S id = false := if_pos h
    rw [e, e2]
    (repeat' (first | ((with_reducible apply gL); (first | refine yL0 ?_ | refine yL ?_ | (refine yM ?_; intro _) | fail)) | refine yJ ?_ | ((with_reducible apply gJ_if); (first | (refine J_if xR ?_ ?_ <;> intro _ <;> (try (exfalso; first | contradiction | omega))) | (refine J_ifb xR ?_ ?_ <;> (intro hgb; subst hgb)) | (refine J_ifb xR ?_ ?_ <;> intro _) | fail)) | fail))
    exact J_retC1 (cs := zC) rfl (by rfl) (by rfl) xA (by rfl) fun w H => ⟨_, ⟨zAt, ⟨zAt_f, rfl⟩, rfl, rfl⟩, (Ow.hasTrue (φ := fun w => AtV w zAt) H zAt_v).sel xZ⟩
  · have e : whatX S id = getX S id := if_neg h
    have e2 : whatB S id = decide (getE S id = 0) := if_neg h
    rw [e, e2]
    (repeat' (first | ((with_reducible apply gL); (first | refine yL0 ?_ | refine yL ?_ | ((with_reducible apply gL_go); (first | (refine JL_goq (get_s sp S c id) (hφ := xF) (h := ?_); rintro _ _ ⟨d', P, hd', hnf, rfl, hP, hP2⟩; try simp only [List.cons_append, List.nil_append]) | fail)) | (refine yM ?_; intro _) | fail)) | refine yJ ?_ | ((with_reducible apply gJ_if); (first | (refine J_if xR ?_ ?_ <;> intro _ <;> (try (exfalso; first | contradiction | omega))) | (refine J_ifb xR ?_ ?_ <;> (intro hgb; subst hgb)) | (refine J_ifb xR ?_ ?_ <;> intro _) | fail)) | fail))
    subst hP2
    simp only [List.append_nil] at hP
    subst hP
    simp only [List.cons_append, List.nil_append]
    (repeat' (first | ((with_reducible apply gL); (first | refine yL0 ?_ | refine yL ?_ | (refine yM ?_; intro _) | fail)) | refine yJ ?_ | ((with_reducible apply gJ_if); (first | (refine J_if xR ?_ ?_ <;> intro _ <;> (try (exfalso; first | contradiction | omega))) | (refine J_ifb xR ?_ ?_ <;> (intro hgb; subst hgb)) | (refine J_ifb xR ?_ ?_ <;> intro _) | fail)) | fail))
    exact J_retC1 (cs := atC d') rfl (by rfl) (by rfl) xA (by rfl) fun w H => ⟨_, ⟨d', ⟨hd', hnf⟩, rfl, rfl⟩, H.sel xZ⟩
/-- Without a local preference. -/
def bareN (x : Nf) : Nf := { x with loc := none }
def At.bare (d : At) : At := { d with hasLocal := false, loc := 0 }
theorem At.bare_nf (d : At) : d.bare.nf = bareN d.nf := rfl
theorem At.bare_f {d : At} (h : AtF d) : AtF d.bare := ⟨⟨h.num.origin, h.num.next, h.num.med, by show (0 : Int) ≤ 0 ∧ (0 : Int) ≤ 4294967295; decide, h.num.makerAS, h.num.maker, h.num.path, h.num.comms, h.num.others⟩, h.path, h.comms, h.others⟩
theorem bare_s (d : At) (hd : AtF d) : Pact Try.prog 32 #[.agg (atC d).toArray] (fun w => AtV w d) [] (fun u L' => ∃ d', (AtF d' ∧ d'.nf = bareN d.nf) ∧ u = .agg (atC d').toArray ∧ L' = [has (fun w => AtV w d')]) := by
  refine pact Try.func32 rfl Try.ntmps32 rfl ?_
  intro W K hK
  (repeat' (first | ((with_reducible apply gL); (first | refine yL0 ?_ | refine yL ?_ | ((with_reducible apply gL_go); (first | (refine JL_goq (copy_s d hd) (hφ := (by (try simp only [List.cons_append, List.nil_append]); exact fun w hr => hK w hr.1)) (h := ?_); rintro _ _ ⟨d', hd', hnf, rfl, rfl⟩; try simp only [List.cons_append, List.nil_append]) | fail)) | (refine yM ?_; intro _) | fail)) | refine yJ ?_ | fail))
  refine J_retC (cs := [.int .i64 d'.origin, .slice d'.pa d'.path.length d'.pc, .int .u32 d'.next, .bool d'.hasMed, .int .u32 d'.med, .bool false, .int .u32 0, .bool d'.atomic, .bool d'.hasMaker, .int .u32 d'.makerAS, .int .u32 d'.maker, .slice d'.ca d'.comms.length d'.cc, .slice d'.oa d'.others.length d'.oc]) rfl (by rfl) xA (by rfl) fun w H => ⟨_, ⟨d'.bare, ⟨At.bare_f hd', by rw [At.bare_nf, hnf]⟩, rfl, rfl⟩, ?_⟩
  have H := Ow.sel (ownHas (d := d') H xA) (M := [has (fun w => AtV w d')]) xZ
  exact (Ow.has (M := [has (fun w => AtV w d')]) (φ := fun w => AtV w d'.bare) H xZ (fun w hr => by have h := hr.has .here; exact ⟨h.path, h.comms, h.others⟩)).sel xZ
theorem vcount_s (vb : Nat) (sp : Option Addr) (tb : Nat) (d n k : Int) (x : T.Vt) (hd : -1000000 ≤ d ∧ d ≤ 1000000) (hn : -1000000 ≤ n ∧ n ≤ 1000000) (hk : -1 ≤ k ∧ k ≤ 1) : Pact Try.prog 37 #[.pointer (some ⟨vb, 0, none⟩), .agg (T.vC x).toArray, .int .i64 k] (fun _ => True) [pts vb (vwC sp tb d n) 36] (fun _ L' => L' = [pts vb (vwC sp tb (d + if lateE x then k else 0) (n + if x.1 ≠ 0 then k else 0)) 36]) := by
  refine pact Try.func37 rfl Try.ntmps37 rfl ?_
  intro W K _
  rcases hl : lateE x with _ | _ <;> by_cases hx : x.1 = 0
  all_goals (have hls := late_s x; rw [hl] at hls)
  all_goals (repeat' (first | ((with_reducible apply gL); (first | refine yL0 ?_ | refine yL ?_ | ((with_reducible apply gL_go); (first | (refine JL_goq (hls) (hφ := xF) (h := ?_); rintro _ _ ⟨rfl, rfl⟩; try simp only [List.cons_append, List.nil_append]) | fail)) | (refine yM ?_; intro _) | fail)) | refine yJ ?_ | ((with_reducible apply gJ_if); (first | (refine J_if xR ?_ ?_ <;> intro _ <;> (try (exfalso; first | contradiction | omega))) | (refine J_ifb xR ?_ ?_ <;> (intro hgb; subst hgb)) | (refine J_ifb xR ?_ ?_ <;> intro _) | fail)) | fail))
  all_goals first
    | (rw [if_neg (by simp), if_neg (by simp [hx]), Int.add_zero, Int.add_zero]; exact J_end0 rfl fun w H => ⟨_, rfl, H.sel xZ⟩)
    | (rw [if_neg (by simp), if_pos (by simp [hx]), Int.add_zero]; exact J_end0 rfl fun w H => ⟨_, rfl, H.sel xZ⟩)
    | (rw [if_pos trivial, if_neg (by simp [hx]), Int.add_zero]; exact J_end0 rfl fun w H => ⟨_, rfl, H.sel xZ⟩)
    | (rw [if_pos trivial, if_pos (by simp [hx])]; exact J_end0 rfl fun w H => ⟨_, rfl, H.sel xZ⟩)
end Go.Proofs.Ytdnokmpnemaoaaa
namespace Go.Proofs.Ytdnokmpnemaoaaa.T
set_option linter.unusedSimpArgs false
set_option linter.unusedVariables false
open Go.RowKit Go.Pm

def b2 (b : Bool) : Int := if b then 1 else 0
theorem b2_01 (b : Bool) : 0 ≤ b2 b ∧ b2 b ≤ 1 := by cases b <;> decide
def cntI (q : Vt → Bool) (E : List Ent) : Int := ((E.filter fun e => q e.2).length : Nat)
def oldV (E : List Ent) (p : Pf) : Vt := (getL E p).getD zV
theorem cntI_nil (q : Vt → Bool) : cntI q [] = 0 := rfl
theorem cntI_cons (q : Vt → Bool) (x : Ent) (E : List Ent) : cntI q (x :: E) = b2 (q x.2) + cntI q E := by
  unfold cntI b2
  rcases h : q x.2 with _ | _
  · rw [List.filter_cons_of_neg (by simp [h])]; simp
  · rw [List.filter_cons_of_pos (by simp [h])]; simp; omega
theorem cntI_le (q : Vt → Bool) (E : List Ent) : 0 ≤ cntI q E ∧ cntI q E ≤ E.length := by
  unfold cntI
  have := List.length_filter_le (fun e : Ent => q e.2) E
  omega
theorem getL_cons_eq {x : Ent} {E : List Ent} {p : Pf} (h : x.1 = p) : getL (x :: E) p = some x.2 := by
  unfold getL; rw [List.find?_cons_of_pos (by simpa using h)]; rfl
theorem getL_cons_ne {x : Ent} {E : List Ent} {p : Pf} (h : x.1 ≠ p) : getL (x :: E) p = getL E p := by
  unfold getL; rw [List.find?_cons_of_neg (by simpa using h)]
theorem getL_lt {E : List Ent} {p : Pf} (h : ∀ e ∈ E, Ah p e.1) : getL E p = none := getL_none.2 fun e he e2 => by
  have := h e he
  rw [e2] at this
  exact Ah.irrefl this
theorem cnt_put {q : Vt → Bool} (hz : q zV = false) : ∀ {E : List Ent} {p : Pf} {v : Vt}, Srt E → cntI q (putL E p v) = cntI q E - b2 (q (oldV E p)) + b2 (q v)
  | [], p, v, _ => by
    show cntI q [(p, v)] = cntI q [] - b2 (q zV) + b2 (q v)
    rw [cntI_cons, cntI_nil, hz]
    show b2 (q v) + 0 = 0 - 0 + b2 (q v)
    omega
  | x :: r, p, v, h => by
    obtain ⟨h1, h2⟩ := List.pairwise_cons.1 h
    have ih := cnt_put hz (p := p) (v := v) h2
    unfold putL
    by_cases ha : Ah x.1 p
    · have hne : x.1 ≠ p := fun e => by rw [e] at ha; exact Ah.irrefl ha
      have e : oldV (x :: r) p = oldV r p := by unfold oldV; rw [getL_cons_ne hne]
      rw [if_pos ha, cntI_cons, cntI_cons, e, ih]
      omega
    · rw [if_neg ha]
      by_cases hp : x.1 = p
      · have e : oldV (x :: r) p = x.2 := by unfold oldV; rw [getL_cons_eq hp]; rfl
        rw [if_pos hp, cntI_cons, cntI_cons, e]
        show b2 (q v) + cntI q r = _
        omega
      · have hlt : Ah p x.1 := Ah.total ha hp
        have e : oldV (x :: r) p = zV := by
          unfold oldV
          rw [getL_lt (E := x :: r) (fun e he => by
            rcases List.mem_cons.1 he with rfl | he
            · exact hlt
            · exact hlt.trans (h1 e he))]
          rfl
        rw [if_neg hp, cntI_cons, e, hz]
        show b2 (q v) + _ = _ - 0 + b2 (q v)
        omega
theorem cnt_drop {q : Vt → Bool} (hz : q zV = false) : ∀ {E : List Ent} {p : Pf}, Srt E → cntI q (dropL E p) = cntI q E - b2 (q (oldV E p))
  | [], p, _ => by
    show cntI q [] = cntI q [] - b2 (q zV)
    rw [hz]; rfl
  | x :: r, p, h => by
    obtain ⟨h1, h2⟩ := List.pairwise_cons.1 h
    have ih := cnt_drop hz (p := p) h2
    by_cases hp : x.1 = p
    · have e : oldV (x :: r) p = x.2 := by unfold oldV; rw [getL_cons_eq hp]; rfl
      have e2 : dropL (x :: r) p = dropL r p := by unfold dropL; rw [List.filter_cons_of_neg (by simpa using hp)]
      have e3 : dropL r p = r := dropL_none (getL_lt fun e he => by have := h1 e he; rwa [hp] at this)
      rw [e2, e3, e, cntI_cons]
      omega
    · have e : oldV (x :: r) p = oldV r p := by unfold oldV; rw [getL_cons_ne hp]
      have e2 : dropL (x :: r) p = x :: dropL r p := by unfold dropL; rw [List.filter_cons_of_pos (by simpa using hp)]
      rw [e2, e, cntI_cons, cntI_cons, ih]
      omega
theorem srt_dropL {E : List Ent} {p : Pf} (h : Srt E) : Srt (dropL E p) := h.filter _
theorem getL_put {E : List Ent} {p r : Pf} {v : Vt} (h : Srt E) : getL (putL E p v) r = if r = p then some v else getL E r := by
  have hs := srt_putL (p := p) (v := v) h
  by_cases hr : r = p
  · subst hr
    rw [if_pos rfl]
    exact (getL_mem hs).2 ((mem_putL h).2 (.inl rfl))
  · rw [if_neg hr]
    cases hg : getL E r with
    | none =>
      refine getL_none.2 fun e he e2 => ?_
      rcases (mem_putL h).1 he with rfl | ⟨h3, _⟩
      · exact hr e2.symm
      · exact getL_none.1 hg e h3 e2
    | some x => exact (getL_mem hs).2 ((mem_putL h).2 (.inr ⟨(getL_mem h).1 hg, hr⟩))
theorem getL_drop {E : List Ent} {p r : Pf} (h : Srt E) : getL (dropL E p) r = if r = p then none else getL E r := by
  have hs := srt_dropL (p := p) h
  by_cases hr : r = p
  · subst hr
    rw [if_pos rfl]
    exact getL_none.2 fun e he e2 => by
      have := (List.mem_filter.1 he).2
      simp [e2] at this
  · rw [if_neg hr]
    cases hg : getL E r with
    | none => exact getL_none.2 fun e he e2 => getL_none.1 hg e (List.mem_filter.1 he).1 e2
    | some x => exact (getL_mem hs).2 (List.mem_filter.2 ⟨(getL_mem h).1 hg, by simpa using hr⟩)
theorem EOk.put {E : List Ent} {p : Pf} {v : Vt} (h : EOk E) (hr : Rt p) (hp : PfN p) (hv : VN v) : EOk (putL E p v) := ⟨srt_putL h.s, fun x hx => by
  rcases (mem_putL h.s).1 hx with rfl | ⟨h1, _⟩
  · exact ⟨hr, hp, hv⟩
  · exact h.e x h1⟩
theorem EOk.drop {E : List Ent} {p : Pf} (h : EOk E) : EOk (dropL E p) := ⟨srt_dropL h.s, fun x hx => h.e x (List.mem_filter.1 hx).1⟩
theorem putE_ok {E : List Ent} {p : Pf} {v : Vt} (hr : Rt p) (h : (getL E p).isSome = true ∨ E.length < 4096) : putE E p v = (0, putL E p v) := by
  unfold putE
  rw [if_pos hr]
  cases hg : (getL E p).isSome with
  | true => simp
  | false =>
    have : E.length < 4096 := by rcases h with h | h
                                 · rw [hg] at h; cases h
                                 · exact h
    simp; omega
/-- Set: what is nothing is taken away. -/
def setE (E : List Ent) (p : Pf) (x : Vt) : List Ent := if x = zV then dropL E p else putL E p x
theorem cnt_set {q : Vt → Bool} (hz : q zV = false) {E : List Ent} {p : Pf} {x : Vt} (h : Srt E) : cntI q (setE E p x) = cntI q E - b2 (q (oldV E p)) + b2 (q x) := by
  unfold setE
  split
  · rename_i e
    rw [cnt_drop hz h, e, hz]
    show _ = _ + 0
    omega
  · exact cnt_put hz h
theorem EOk.set {E : List Ent} {p : Pf} {x : Vt} (h : EOk E) (hr : Rt p) (hp : PfN p) (hv : VN x) : EOk (setE E p x) := by
  unfold setE
  split
  · exact h.drop
  · exact h.put hr hp hv
theorem set_len {E : List Ent} {p : Pf} {x : Vt} (h : Srt E) : (setE E p x).length ≤ E.length + 1 := by
  unfold setE
  split
  · have := List.length_filter_le (fun e : Ent => decide (e.1 ≠ p)) E
    show (E.filter _).length ≤ _
    omega
  · rw [len_putL h]
    split <;> omega
theorem get_old (tb : Nat) (E : List Ent) (p : Pf) (hp : PfN p) (o : Vt) (ho : oldV E p = o) (b : Bool) (hb : (getL E p).isSome = b) : Pact Try.prog 23 #[.pointer (some ⟨tb, 0, none⟩), .agg (pfC p).toArray] (fun _ => True) [trA tb E] (fun v L' => v = .tuple #[.agg #[.int .i64 o.1, .int .i64 o.2.1, .bool o.2.2], .bool b] ∧ L' = [trA tb E]) := by
  subst ho hb
  exact get_a tb E p hp
end Go.Proofs.Ytdnokmpnemaoaaa.T
namespace Go.Proofs.Ytdnokmpnemaoaaa
set_option linter.unusedSimpArgs false
set_option linter.unusedVariables false
set_option maxRecDepth 20000
set_option maxHeartbeats 4000000
open Go.RowKit Go.Pm

theorem eqF_step {P : Program} {d : Nat} {xs ys : Array Value} {f : Field} {fs : List Field} {v u : Value} {b : Bool} (hn : f.name ≠ "_") (hx : ∀ w, (Go.part f.type xs f.offset).run P w = .ok v w) (hy : ∀ w, (Go.part f.type ys f.offset).run P w = .ok u w) (he : ∀ w, (Op.equalIn d f.type v u).run P w = .ok b w) (w : World) : (Op.eqFields d xs ys (f :: fs)).run P w = if b then (Op.eqFields d xs ys fs).run P w else .ok false w := by
  simp only [Op.eqFields, if_pos hn, Sem.run_bind, hx, hy, he, Result.andThen_ok]
  cases b <;> simp
theorem part_i {P : Program} {t : TypeId} {k : IntKind} (e : P.underlying t = some (.int k)) (xs : Array Value) (o : Nat) (v : Value) (h : xs[o]? = some v) (w : World) : (part t xs o).run P w = .ok v w := by
  simp [part, Sem.run_bind, run_agg e, TypeDesc.isRow, h]
theorem part_b {P : Program} {t : TypeId} (e : P.underlying t = some .bool) (xs : Array Value) (o : Nat) (v : Value) (h : xs[o]? = some v) (w : World) : (part t xs o).run P w = .ok v w := by
  simp [part, Sem.run_bind, run_agg e, TypeDesc.isRow, h]
def eqEnt (a b : Int) (c : Bool) (a' b' : Int) (c' : Bool) : Bool := (a == a') && (b == b') && (c == c')
theorem run_eqEnt (a b : Int) (c : Bool) (a' b' : Int) (c' : Bool) (w : World) : (Op.equalIn 10000 58 (.agg #[.int .i64 a, .int .i64 b, .bool c]) (.agg #[.int .i64 a', .int .i64 b', .bool c'])).run Try.prog w = .ok (eqEnt a b c a' b' c') w := by
  have hv := Try.underlying58
  have hg : ∀ fs : Array Field, Try.prog.underlying 58 = some (.struct fs) → Try.prog.fieldsOf 58 = fs := fun fs h => by simp [Program.fieldsOf, h]
  rw [run_equalIn_struct w 9999 58 _ _ (by rw [hg _ hv]; exact hv) (by decide +kernel), hg _ hv]
  rw [eqF_step (by decide) (part_i Try.underlying3 _ _ _ rfl) (part_i Try.underlying3 _ _ _ rfl) (fun w => run_equalIn_int w 9998 _ _ _ a a' Try.underlying3)]
  rw [eqF_step (by decide) (part_i Try.underlying3 _ _ _ rfl) (part_i Try.underlying3 _ _ _ rfl) (fun w => run_equalIn_int w 9998 _ _ _ b b' Try.underlying3)]
  rw [eqF_step (by decide) (part_b Try.underlying4 _ _ _ rfl) (part_b Try.underlying4 _ _ _ rfl) (fun w => run_equalIn_bool' w 9998 _ c c' Try.underlying4)]
  unfold eqEnt
  cases h1 : (a == a') <;> cases h2 : (b == b') <;> cases h3 : (c == c') <;> simp [Op.eqFields]
theorem pe_eqEnt {K : Hl} {L : List HP} {tm : TM} {d : Option Tmp} {T : TypeId} {pos : String} {af : Array Edge} {gd : Option (Nat × Bool)} {yt : TypeId} {x y : Operand} {a b a' b' : Int} {c c' : Bool} (hx : evT tm x = some (.agg #[.int .i64 a, .int .i64 b, .bool c])) (hy : evT tm y = some (.agg #[.int .i64 a', .int .i64 b', .bool c'])) {r : Bool} (hr : eqEnt a b c a' b' c' = r) : PE Try.prog K L ⟨d, .binOp .eql 58 x y yt, T, pos, af, gd⟩ (tget tm) (.bool r) := pe_bin hx hy fun w => by
  have hq : (eqGuard .eql 58 x y (.agg #[.int .i64 a, .int .i64 b, .bool c]) (.agg #[.int .i64 a', .int .i64 b', .bool c'])).run Try.prog w = .ok () w := run_eqGuard_agg w _ _ x y _ _ (by decide +kernel)
  simp only [Sem.run_bind, hq, Result.andThen_ok, run_eql_struct]
  rw [run_eqEnt, hr]
  rfl
def wantE (x : T.Vt) : Bool := decide (x.1 ≠ 0)
def dueI (E : List T.Ent) : Int := T.cntI lateE E
def wntI (E : List T.Ent) : Int := T.cntI wantE E
theorem late_z : lateE T.zV = false := rfl
theorem want_z : wantE T.zV = false := rfl
/-- A view that has these entries. -/
abbrev vwL (vb : Nat) (sp : Option Addr) (tb : Nat) (E : List T.Ent) : List HP := [pts vb (vwC sp tb (dueI E) (wntI E)) 36, T.trA tb E]
theorem set_s (vb : Nat) (sp : Option Addr) (tb : Nat) (E : List T.Ent) (p : T.Pf) (x : T.Vt) (hE : T.EOk E) (hp : T.PfN p) (hr : T.Rt p) (hx : T.VN x) (hn : E.length < 4096) : Pact Try.prog 19 #[.pointer (some ⟨vb, 0, none⟩), .agg (T.pfC p).toArray, .agg (T.vC x).toArray] (fun _ => True) (vwL vb sp tb E) (fun _ L' => L' = vwL vb sp tb (T.setE E p x)) := by
  refine pact Try.func19 rfl Try.ntmps19 rfl ?_
  intro W K _
  have h1 := T.cntI_le lateE E
  have h2 := T.cntI_le wantE E
  have e1 : dueI (T.setE E p x) = T.cntI lateE E - T.b2 (lateE (T.oldV E p)) + T.b2 (lateE x) := T.cnt_set late_z hE.s
  have e2 : wntI (T.setE E p x) = T.cntI wantE E - T.b2 (wantE (T.oldV E p)) + T.b2 (wantE x) := T.cnt_set want_z hE.s
  have b1 := T.b2_01 (lateE (T.oldV E p))
  have b2 := T.b2_01 (wantE (T.oldV E p))
  rw [vwL, e1, e2]
  unfold vwL dueI wntI
  obtain ⟨o, ho⟩ : ∃ o, T.oldV E p = o := ⟨_, rfl⟩
  obtain ⟨b, hb⟩ : ∃ b, (T.getL E p).isSome = b := ⟨_, rfl⟩
  have hg := T.get_old tb E p hp o ho b hb
  rw [ho] at b1 b2 e1 e2
  rw [ho]
  obtain ⟨D, hD⟩ : ∃ D, T.cntI lateE E = D := ⟨_, rfl⟩
  obtain ⟨N, hN⟩ : ∃ N, T.cntI wantE E = N := ⟨_, rfl⟩
  rw [hD] at h1 ⊢
  rw [hN] at h2 ⊢
  have k1 := vcount_s vb sp tb D N (-1) o (by omega) (by omega) (by omega)
  have f1 : (D + if lateE o then (-1 : Int) else 0) = D - T.b2 (lateE o) := by unfold T.b2; split <;> omega
  have f2 : (N + if o.1 ≠ 0 then (-1 : Int) else 0) = N - T.b2 (wantE o) := by unfold T.b2 wantE; by_cases h : o.1 = 0 <;> simp [h]; omega
  rw [f1, f2] at k1
  obtain ⟨D1, hD1⟩ : ∃ D1, D - T.b2 (lateE o) = D1 := ⟨_, rfl⟩
  obtain ⟨N1, hN1⟩ : ∃ N1, N - T.b2 (wantE o) = N1 := ⟨_, rfl⟩
  rw [hD1, hN1] at k1 ⊢
  have k2 := vcount_s vb sp tb D1 N1 1 x (by omega) (by omega) (by omega)
  have f3 : (D1 + if lateE x then (1 : Int) else 0) = D1 + T.b2 (lateE x) := rfl
  have f4 : (N1 + if x.1 ≠ 0 then (1 : Int) else 0) = N1 + T.b2 (wantE x) := by unfold T.b2 wantE; by_cases h : x.1 = 0 <;> simp [h]
  rw [f3, f4] at k2
  obtain ⟨D2, hD2⟩ : ∃ D2, D1 + T.b2 (lateE x) = D2 := ⟨_, rfl⟩
  obtain ⟨N2, hN2⟩ : ∃ N2, N1 + T.b2 (wantE x) = N2 := ⟨_, rfl⟩
  rw [hD2, hN2] at k2 ⊢
  have hp2 := T.put_a tb E p x hp hx (by omega)
  rw [T.putE_ok hr (.inr hn)] at hp2
  have hdr := T.drop_a tb E p hp (by omega)
  by_cases hz : x.1 = 0 ∧ x.2.1 = 0 ∧ x.2.2 = false
  · have hz2 : x = T.zV := Prod.ext hz.1 (Prod.ext hz.2.1 hz.2.2)
    have e : T.setE E p x = T.dropL E p := if_pos hz2
    rw [e]
    subst hz2
    (repeat' (first | ((with_reducible apply gL); (first | refine yL0 ?_ | ((with_reducible apply gL_bin_eql); (first | (refine JL_p rfl xR xR (pe_eqEnt xR xR (r := true) rfl) ?_) | fail)) | refine yL ?_ | ((with_reducible apply gL_go); (first | (refine JL_goq (hg) (hφ := xF) (h := ?_); rintro _ _ ⟨rfl, rfl⟩; try simp only [List.cons_append, List.nil_append]) | (refine JL_goq (k1) (hφ := xF) (h := ?_); rintro _ _ rfl; try simp only [List.cons_append, List.nil_append]) | (refine JL_goq (k2) (hφ := xF) (h := ?_); rintro _ _ rfl; try simp only [List.cons_append, List.nil_append]) | (refine JL_goq (hdr) (hφ := xF) (h := ?_); rintro _ _ ⟨rfl, rfl⟩; try simp only [List.cons_append, List.nil_append]) | fail)) | (refine yM ?_; intro _) | fail)) | ((with_reducible apply gD); (first | (refine JD_nil ?_; try simp only [List.cons_append, List.nil_append]) | (refine JD_bar ?_; try simp only [List.cons_append, List.nil_append]) | refine yD ?_ | ((with_reducible apply gD_go); (first | (refine JD_goq (hg) (hφ := xF) (h := ?_); rintro _ _ ⟨rfl, rfl⟩; try simp only [List.cons_append, List.nil_append]) | (refine JD_goq (k1) (hφ := xF) (h := ?_); rintro _ _ rfl; try simp only [List.cons_append, List.nil_append]) | (refine JD_goq (k2) (hφ := xF) (h := ?_); rintro _ _ rfl; try simp only [List.cons_append, List.nil_append]) | (refine JD_goq (hdr) (hφ := xF) (h := ?_); rintro _ _ ⟨rfl, rfl⟩; try simp only [List.cons_append, List.nil_append]) | fail)) | (refine yE ?_; intro _) | fail)) | refine yJ ?_ | ((with_reducible apply gJ_if); (first | (refine J_if xR ?_ ?_ <;> intro _ <;> (try (exfalso; first | contradiction | omega))) | (refine J_ifb xR ?_ ?_ <;> (intro hgb; subst hgb)) | (refine J_ifb xR ?_ ?_ <;> intro _) | fail)) | refine J_draw (id := 1) [0, 1, 2, 3, 4, 5, 6, 7, 8, 9, 10] [11] mixed xC xD xD ?_ | refine J_draw (id := 5) [0, 1, 2, 3, 4] [5] mixed xC xD xD ?_ | refine J_draw (id := 6) [0, 1, 2, 3, 4, 5] [6] mixed xC xD xD ?_ | fail))
    exact J_ret0 rfl fun w H => ⟨_, rfl, H.sel xZ⟩
  · have hz2 : x ≠ T.zV := fun e => hz (by rw [e]; exact ⟨rfl, rfl, rfl⟩)
    have e : T.setE E p x = T.putL E p x := if_neg hz2
    rw [e]
    have hq : eqEnt x.1 x.2.1 x.2.2 0 0 false = false := by
      unfold eqEnt
      rcases h1 : x.1 == 0 with _ | _ <;> rcases h2 : x.2.1 == 0 with _ | _ <;> rcases h3 : x.2.2 with _ | _ <;> simp_all
    (repeat' (first | ((with_reducible apply gL); (first | refine yL0 ?_ | ((with_reducible apply gL_bin_eql); (first | (refine JL_p rfl xR xR (pe_eqEnt xR xR (r := false) hq) ?_) | fail)) | refine yL ?_ | ((with_reducible apply gL_go); (first | (refine JL_goq (hg) (hφ := xF) (h := ?_); rintro _ _ ⟨rfl, rfl⟩; try simp only [List.cons_append, List.nil_append]) | (refine JL_goq (k1) (hφ := xF) (h := ?_); rintro _ _ rfl; try simp only [List.cons_append, List.nil_append]) | (refine JL_goq (k2) (hφ := xF) (h := ?_); rintro _ _ rfl; try simp only [List.cons_append, List.nil_append]) | (refine JL_goq (hp2) (hφ := xF) (h := ?_); rintro _ _ ⟨rfl, rfl⟩; try simp only [List.cons_append, List.nil_append]) | fail)) | (refine yM ?_; intro _) | fail)) | ((with_reducible apply gD); (first | (refine JD_nil ?_; try simp only [List.cons_append, List.nil_append]) | (refine JD_bar ?_; try simp only [List.cons_append, List.nil_append]) | refine yD ?_ | ((with_reducible apply gD_go); (first | (refine JD_goq (hg) (hφ := xF) (h := ?_); rintro _ _ ⟨rfl, rfl⟩; try simp only [List.cons_append, List.nil_append]) | (refine JD_goq (k1) (hφ := xF) (h := ?_); rintro _ _ rfl; try simp only [List.cons_append, List.nil_append]) | (refine JD_goq (k2) (hφ := xF) (h := ?_); rintro _ _ rfl; try simp only [List.cons_append, List.nil_append]) | (refine JD_goq (hp2) (hφ := xF) (h := ?_); rintro _ _ ⟨rfl, rfl⟩; try simp only [List.cons_append, List.nil_append]) | fail)) | (refine yE ?_; intro _) | fail)) | refine yJ ?_ | ((with_reducible apply gJ_if); (first | (refine J_if xR ?_ ?_ <;> intro _ <;> (try (exfalso; first | contradiction | omega))) | (refine J_ifb xR ?_ ?_ <;> (intro hgb; subst hgb)) | (refine J_ifb xR ?_ ?_ <;> intro _) | fail)) | refine J_draw (id := 1) [0, 1, 2, 3, 4, 5, 6, 7, 8, 9, 10] [11] mixed xC xD xD ?_ | refine J_draw (id := 5) [0, 1, 2, 3, 4] [5] mixed xC xD xD ?_ | refine J_draw (id := 6) [0, 1, 2, 3, 4, 5] [6] mixed xC xD xD ?_ | fail))
    exact J_end0 rfl fun w H => ⟨_, rfl, H.sel xZ⟩
end Go.Proofs.Ytdnokmpnemaoaaa
