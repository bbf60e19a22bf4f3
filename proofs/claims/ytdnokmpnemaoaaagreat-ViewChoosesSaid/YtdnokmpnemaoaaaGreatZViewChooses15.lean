/-
  Aq5, Aq6: merged.
-/
import Derived.Test.YtdnokmpnemaoaaaGreatZViewChooses14
namespace Go.Proofs.YtdnokmpnemaoaaaGreat
set_option linter.unusedSimpArgs false
set_option linter.unusedVariables false
set_option maxRecDepth 20000
set_option maxHeartbeats 4000000
open Go.RowKit Go.Pm

theorem index_s (a : Option Addr) (c : Nat) (l : List Int) (v : Int) (hl : l.length ≤ 35184372088832) : Pact Tryz.prog 118 #[.slice a l.length c, .int .u32 v] (fun w => Vw w (.slice a l.length c) 1 l.length (flat u32C l)) [] (fun u L' => ∃ z : Int, u = .int .i64 z ∧ (0 ≤ z ↔ v ∈ l) ∧ L' = []) := by
  refine pact Tryz.func118 rfl Tryz.ntmps118 rfl ?_
  intro W K hK
  (repeat' (first | (refine gL ?_; first | refine yL0 ?_ | refine yL ?_) | refine yJ ?_ | (refine yI ?_ ?_ <;> intro _ <;> try exact xX) | (refine yK ?_ ?_ <;> intro hgb <;> first | subst hgb | fail_if_success have : type_of% hgb := rfl) | fail))
  refine J_loop (α := Nat) 0 (fun x => l.length - x) (fun x => x ≤ l.length ∧ v ∉ l.take x) (fun x => [(0, .slice a l.length c), (1, .int .u32 v), (7, .int .i64 l.length), (8, .int .i64 x)]) (fun x => []) ⟨Nat.zero_le _, by simp⟩ ⟨rfl, rfl, rfl, rfl, trivial⟩ (fun w H => H) ?_
  rintro k ⟨hk, hck⟩
  by_cases hlt : k < l.length
  · obtain ⟨x, hx⟩ : ∃ x, l[k]? = some x := ⟨_, List.getElem?_eq_getElem hlt⟩
    (repeat' (first | (refine gL ?_; first | refine yL0 ?_ | refine yL ?_) | refine yJ ?_ | (refine yI ?_ ?_ <;> intro _ <;> try exact xX) | (refine yK ?_ ?_ <;> intro hgb <;> first | subst hgb | fail_if_success have : type_of% hgb := rfl) | fail))
    · rename_i h0
      subst h0
      exact J_ret1 rfl (by rfl) fun w H => ⟨_, ⟨_, rfl, ⟨fun _ => List.mem_of_getElem? hx, fun _ => by omega⟩, rfl⟩, H.sel .nil⟩
    · rename_i h0
      exact J_again (k + 1) (by omega) ⟨by omega, by rw [take_snoc hx]; simp only [List.mem_append, List.mem_singleton]; rintro (h | h); exact hck h; exact h0 h⟩ ⟨rfl, rfl, rfl, rfl, trivial⟩ (fun w H => H.sel .nil)
  · have hke : k = l.length := by omega
    rw [hke, List.take_length] at hck
    (repeat' (first | (refine gL ?_; first | refine yL0 ?_ | refine yL ?_) | refine yJ ?_ | (refine yI ?_ ?_ <;> intro _ <;> try exact xX) | (refine yK ?_ ?_ <;> intro hgb <;> first | subst hgb | fail_if_success have : type_of% hgb := rfl) | fail))
    exact J_ret1 rfl (by rfl) fun w H => ⟨_, ⟨_, rfl, ⟨fun h => absurd h (by decide), fun h => absurd h hck⟩, rfl⟩, H.sel .nil⟩
theorem contains_s (a : Option Addr) (c : Nat) (l : List Int) (v : Int) (hl : l.length ≤ 35184372088832) : Pact Tryz.prog 88 #[.slice a l.length c, .int .u32 v] (fun w => Vw w (.slice a l.length c) 1 l.length (flat u32C l)) [] (ret0 (.bool (decide (v ∈ l)))) := by
  refine pact Tryz.func88 rfl Tryz.ntmps88 rfl ?_
  intro W K hK
  (repeat' (first | (refine gL ?_; first | refine yL0 ?_ | refine yL ?_ | (refine gL_go ?_; (refine JL_goq (index_s a c l v hl) (hφ := (by (try simp only [cAp, nAp]); exact fun w hr => hK w hr.1)) (h := ?_); rintro _ _ ⟨z, rfl, hz, rfl⟩; try simp only [cAp, nAp]))) | refine yJ ?_ | fail))
  refine J_ret1 rfl (by rfl) fun w H => ⟨_, ⟨?_, rfl⟩, H.sel .nil⟩
  exact congrArg Value.bool (by rw [Bool.eq_iff_iff]; simp only [decide_eq_true_eq]; exact hz)
def okS (s : Bool × List Int) : Bool := decide (0 < s.2.length ∧ s.2.length ≤ 255 ∧ (0 : Int) ∉ s.2)
theorem part_s (s : Sg) (hl : s.as_.length ≤ 35184372088832) : Pact Tryz.prog 141 #[.agg (sgC s).toArray] (fun w => segV w s) [] (ret0 (.bool (okS (s.set, s.as_)))) := by
  refine pact Tryz.func141 rfl Tryz.ntmps141 rfl ?_
  intro W K hK
  have hc := contains_s s.a s.c s.as_ 0 hl
  by_cases h0 : (0 : Int) ∈ s.as_
  · rw [decide_eq_true h0] at hc
    have : okS (s.set, s.as_) = false := decide_eq_false (fun h => h.2.2 h0)
    rw [this]
    (repeat' (first | (refine gL ?_; first | refine yL0 ?_ | refine yL ?_ | (refine gL_go ?_; (refine JL_goq (hc) (hφ := (by (try simp only [cAp, nAp]); exact fun w hr => hK w hr.1)) (h := ?_); rintro _ _ ⟨rfl, rfl⟩; try simp only [cAp, nAp])) | (refine yM ?_; intro _)) | refine yJ ?_ | (refine yI ?_ ?_ <;> intro _ <;> try exact xX) | (refine yK ?_ ?_ <;> intro hgb <;> first | subst hgb | fail_if_success have : type_of% hgb := rfl) | fail))
    all_goals exact J_ret1 rfl (by rfl) fun w H => ⟨_, ⟨rfl, rfl⟩, H.sel .nil⟩
  · rw [decide_eq_false h0] at hc
    (repeat' (first | (refine gL ?_; first | refine yL0 ?_ | refine yL ?_ | (refine gL_go ?_; (refine JL_goq (hc) (hφ := (by (try simp only [cAp, nAp]); exact fun w hr => hK w hr.1)) (h := ?_); rintro _ _ ⟨rfl, rfl⟩; try simp only [cAp, nAp])) | (refine yM ?_; intro _)) | refine yJ ?_ | (refine yI ?_ ?_ <;> intro _ <;> try exact xX) | (refine yK ?_ ?_ <;> intro hgb <;> first | subst hgb | fail_if_success have : type_of% hgb := rfl) | fail))
    all_goals (refine J_ret1 rfl (by rfl) fun w H => ⟨_, ⟨?_, rfl⟩, H.sel .nil⟩; refine congrArg Value.bool ?_; unfold okS; rw [Bool.eq_iff_iff]; simp [h0]; try omega)
def tot : List (Bool × List Int) → Nat
  | [] => 0
  | s :: p => s.2.length + tot p
theorem tot_append (p q : List (Bool × List Int)) : tot (p ++ q) = tot p + tot q := by
  induction p with
  | nil => simp [tot]
  | cons s p ih => simp [tot, ih]; omega
theorem tot_le (p : List Sg) (h : ∀ s ∈ p, SgN s) : tot (pN p) ≤ p.length * 35184372088832 := by
  induction p with
  | nil => simp [tot, pN]
  | cons s p ih =>
    have h1 := ih (fun x hx => h x (List.mem_cons_of_mem _ hx))
    have h2 := (h s (List.mem_cons_self ..)).1
    have : tot (pN (s :: p)) = s.as_.length + tot (pN p) := rfl
    rw [this, List.length_cons]
    omega
theorem ckP_iff : ∀ (p : List (Bool × List Int)) (n : Nat), n ≤ 64 → (ckP p n = true ↔ (∀ s ∈ p, okS s = true) ∧ n + tot p ≤ 64)
  | [], n, h => by simp [ckP, tot]; omega
  | s :: p, n, h => by
    unfold ckP
    have hsp : okS s = true ↔ (0 < s.2.length ∧ s.2.length ≤ 255 ∧ (0 : Int) ∉ s.2) := by unfold okS; simp
    split
    · refine ⟨fun h => (by cases h), fun ⟨h1, _⟩ => ?_⟩
      have := hsp.1 (h1 s (List.mem_cons_self ..))
      omega
    · split
      · refine ⟨fun h => (by cases h), fun ⟨h1, _⟩ => ?_⟩
        exact absurd (by assumption) (hsp.1 (h1 s (List.mem_cons_self ..))).2.2
      · split
        · refine ⟨fun h => (by cases h), fun ⟨_, h2⟩ => ?_⟩
          simp only [tot] at h2
          omega
        · rw [ckP_iff p _ (by omega)]
          simp only [tot, List.forall_mem_cons]
          constructor
          · rintro ⟨h1, h2⟩
            exact ⟨⟨hsp.2 ⟨by omega, by omega, by assumption⟩, h1⟩, by omega⟩
          · rintro ⟨⟨_, h1⟩, h2⟩
            exact ⟨h1, by omega⟩
theorem count_s (a : Option Addr) (c : Nat) (p : List Sg) (h8 : p.length ≤ 1000) (hsm : ∀ s ∈ p, SgN s) : Pact Tryz.prog 142 #[.slice a p.length c] (fun w => PathV w a c p) [] (ret0 (.int .i64 (tot (pN p)))) := by
  refine pact Tryz.func142 rfl Tryz.ntmps142 rfl ?_
  intro W K hK
  have hv : Kn K (fun w => Vw w (.slice a p.length c) 2 p.length (flat sgC p)) := hK.imp fun _ h => h.vw
  (repeat' (first | (refine gL ?_; first | refine yL0 ?_ | refine yL ?_ | (refine yM ?_; intro _)) | refine yJ ?_ | (refine yI ?_ ?_ <;> intro _ <;> try exact xX) | (refine yK ?_ ?_ <;> intro hgb <;> first | subst hgb | fail_if_success have : type_of% hgb := rfl) | fail))
  refine J_loop (α := Nat) 0 (fun x => p.length - x) (fun x => x ≤ p.length) (fun x => [(0, .slice a p.length c), (3, .int .i64 (tot (pN (p.take x)))), (6, .slice a p.length c), (7, .int .i64 p.length), (8, .int .i64 x)]) (fun x => []) (Nat.zero_le _) ⟨rfl, rfl, rfl, rfl, rfl, trivial⟩ (fun w H => H) ?_
  rintro k hk
  have htk := tot_le (p.take k) (fun s hs => hsm s (List.take_subset _ _ hs))
  have hlk : (p.take k).length ≤ 1000 := by rw [List.length_take]; omega
  obtain ⟨N, hN⟩ : ∃ N, tot (pN (p.take k)) = N := ⟨_, rfl⟩
  rw [hN] at htk ⊢
  have hNb : N ≤ 35184372088832000 := by omega
  by_cases hlt : k < p.length
  · obtain ⟨s, hs⟩ : ∃ s, p[k]? = some s := ⟨_, List.getElem?_eq_getElem hlt⟩
    have hm := List.mem_of_getElem? hs
    have hsn1 := (hsm s hm).1
    (repeat' (first | (refine gL ?_; first | refine yL0 ?_ | refine yL ?_ | (refine yM ?_; intro _)) | refine yJ ?_ | (refine yI ?_ ?_ <;> intro _ <;> try exact xX) | (refine yK ?_ ?_ <;> intro hgb <;> first | subst hgb | fail_if_success have : type_of% hgb := rfl) | fail))
    refine J_again (k + 1) (by omega) (by omega) ⟨rfl, ?_, rfl, rfl, rfl, trivial⟩ (fun w H => H.sel .nil)
    rw [take_snoc hs]
    unfold pN
    rw [List.map_append, tot_append]
    unfold pN at hN
    rw [hN]
    show some _ = some _
    simp [tot]
  · have hke : k = p.length := by omega
    rw [hke, List.take_length] at hN
    (repeat' (first | (refine gL ?_; first | refine yL0 ?_ | refine yL ?_ | (refine yM ?_; intro _)) | refine yJ ?_ | (refine yI ?_ ?_ <;> intro _ <;> try exact xX) | (refine yK ?_ ?_ <;> intro hgb <;> first | subst hgb | fail_if_success have : type_of% hgb := rfl) | fail))
    exact J_ret1 rfl (by rfl) fun w H => ⟨_, ⟨by rw [hN], rfl⟩, H.sel .nil⟩
theorem pchk_s (a : Option Addr) (c : Nat) (p : List Sg) (h8 : p.length ≤ 1000) (hsm : ∀ s ∈ p, SgN s) : Pact Tryz.prog 106 #[.slice a p.length c] (fun w => PathV w a c p) [] (ret0 (.int .i64 (er (ckP (pN p) 0)))) := by
  refine pact Tryz.func106 rfl Tryz.ntmps106 rfl ?_
  intro W K hK
  have hv : Kn K (fun w => Vw w (.slice a p.length c) 2 p.length (flat sgC p)) := hK.imp fun _ h => h.vw
  have hiff := ckP_iff (pN p) 0 (by omega)
  (repeat' (first | (refine gL ?_; first | refine yL0 ?_ | refine yL ?_ | (refine yM ?_; intro _)) | refine yJ ?_ | (refine yI ?_ ?_ <;> intro _ <;> try exact xX) | (refine yK ?_ ?_ <;> intro hgb <;> first | subst hgb | fail_if_success have : type_of% hgb := rfl) | fail))
  refine J_loop (α := Nat) 0 (fun x => p.length - x) (fun x => x ≤ p.length ∧ ∀ s ∈ p.take x, okS (s.set, s.as_) = true) (fun x => [(0, .slice a p.length c), (5, .slice a p.length c), (6, .int .i64 p.length), (7, .int .i64 x)]) (fun x => []) ⟨Nat.zero_le _, by simp⟩ ⟨rfl, rfl, rfl, rfl, trivial⟩ (fun w H => H) ?_
  rintro k ⟨hk, hck⟩
  by_cases hlt : k < p.length
  · obtain ⟨s, hs⟩ : ∃ s, p[k]? = some s := ⟨_, List.getElem?_eq_getElem hlt⟩
    have hm := List.mem_of_getElem? hs
    have hsn1 := (hsm s hm).1
    have hpt := part_s s hsn1
    rcases hb : okS (s.set, s.as_) with _ | _
    · rw [hb] at hpt
      have : ckP (pN p) 0 = false := by
        rcases h9 : ckP (pN p) 0 with _ | _
        · rfl
        · have := (hiff.1 h9).1 (s.set, s.as_) (List.mem_map.2 ⟨s, hm, rfl⟩)
          rw [hb] at this
          cases this
      rw [this]
      (repeat' (first | (refine gL ?_; first | refine yL0 ?_ | refine yL ?_ | (refine gL_go ?_; (refine JL_goq (hpt) (hφ := (by (try simp only [cAp, nAp]); exact fun w hr => (hK w hr.1).segs s hm)) (h := ?_); rintro _ _ ⟨rfl, rfl⟩; try simp only [cAp, nAp])) | (refine yM ?_; intro _)) | refine yJ ?_ | (refine yI ?_ ?_ <;> intro _ <;> try exact xX) | (refine yK ?_ ?_ <;> intro hgb <;> first | subst hgb | fail_if_success have : type_of% hgb := rfl) | fail))
      exact J_ret1 rfl (by rfl) fun w H => ⟨_, ⟨rfl, rfl⟩, H.sel .nil⟩
    · rw [hb] at hpt
      (repeat' (first | (refine gL ?_; first | refine yL0 ?_ | refine yL ?_ | (refine gL_go ?_; (refine JL_goq (hpt) (hφ := (by (try simp only [cAp, nAp]); exact fun w hr => (hK w hr.1).segs s hm)) (h := ?_); rintro _ _ ⟨rfl, rfl⟩; try simp only [cAp, nAp])) | (refine yM ?_; intro _)) | refine yJ ?_ | (refine yI ?_ ?_ <;> intro _ <;> try exact xX) | (refine yK ?_ ?_ <;> intro hgb <;> first | subst hgb | fail_if_success have : type_of% hgb := rfl) | fail))
      refine J_again (k + 1) (by omega) ⟨by omega, ?_⟩ ⟨rfl, rfl, rfl, rfl, trivial⟩ (fun w H => H.sel .nil)
      rw [take_snoc hs]
      intro x hx
      rcases List.mem_append.1 hx with hx | hx
      · exact hck x hx
      · obtain rfl := List.mem_singleton.1 hx; exact hb
  · have hke : k = p.length := by omega
    rw [hke, List.take_length] at hck
    have hall : ∀ s ∈ pN p, okS s = true := by
      intro s hs
      obtain ⟨t, ht, rfl⟩ := List.mem_map.1 hs
      exact hck t ht
    have htl := tot_le p hsm
    have hct := count_s a c p h8 hsm
    obtain ⟨N, hN⟩ : ∃ N, tot (pN p) = N := ⟨_, rfl⟩
    rw [hN] at hct hiff htl
    by_cases h64 : N ≤ 64
    · rw [hiff.2 ⟨hall, by omega⟩]
      (repeat' (first | (refine gL ?_; first | refine yL0 ?_ | refine yL ?_ | (refine gL_go ?_; (refine JL_goq (hct) (hφ := (by (try simp only [cAp, nAp]); exact fun w hr => hK w hr.1)) (h := ?_); rintro _ _ ⟨rfl, rfl⟩; try simp only [cAp, nAp])) | (refine yM ?_; intro _)) | refine yJ ?_ | (refine yI ?_ ?_ <;> intro _ <;> try exact xX) | (refine yK ?_ ?_ <;> intro hgb <;> first | subst hgb | fail_if_success have : type_of% hgb := rfl) | fail))
      all_goals (first | (exfalso; omega) | skip)
      exact J_ret1 rfl (by rfl) fun w H => ⟨_, ⟨rfl, rfl⟩, H.sel .nil⟩
    · have : ckP (pN p) 0 = false := by
        rcases h9 : ckP (pN p) 0 with _ | _
        · rfl
        · have := (hiff.1 h9).2; omega
      rw [this]
      (repeat' (first | (refine gL ?_; first | refine yL0 ?_ | refine yL ?_ | (refine gL_go ?_; (refine JL_goq (hct) (hφ := (by (try simp only [cAp, nAp]); exact fun w hr => hK w hr.1)) (h := ?_); rintro _ _ ⟨rfl, rfl⟩; try simp only [cAp, nAp])) | (refine yM ?_; intro _)) | refine yJ ?_ | (refine yI ?_ ?_ <;> intro _ <;> try exact xX) | (refine yK ?_ ?_ <;> intro hgb <;> first | subst hgb | fail_if_success have : type_of% hgb := rfl) | fail))
      all_goals (first | (exfalso; omega) | skip)
      exact J_ret1 rfl (by rfl) fun w H => ⟨_, ⟨rfl, rfl⟩, H.sel .nil⟩
theorem hop_s (z : Int) : Pact Tryz.prog 107 #[.int .u32 z] (fun _ => True) [] (ret0 (.bool (decide (z ≠ 0 ∧ z < 3758096384)))) := by
  refine pact Tryz.func107 rfl Tryz.ntmps107 rfl ?_
  intro W K _
  (repeat' (first | (refine gL ?_; first | refine yL0 ?_ | refine yL ?_) | refine yJ ?_ | (refine yI ?_ ?_ <;> intro _ <;> try exact xX) | (refine yK ?_ ?_ <;> intro hgb <;> first | subst hgb | fail_if_success have : type_of% hgb := rfl) | fail))
  all_goals (refine J_ret1 rfl (by rfl) fun w H => ⟨_, ⟨?_, rfl⟩, H.sel .nil⟩; refine congrArg Value.bool ?_; rw [Bool.eq_iff_iff]; simp only [decide_eq_true_eq, true_iff, Bool.false_eq_true, false_iff] <;> omega)
def fl (k : Int) : Int := if k = 4 then 128 else if k = 7 ∨ k = 8 ∨ k = 17 ∨ k = 18 then 192 else 64
theorem known_s (k : Int) : Pact Tryz.prog 143 #[.int .i64 k] (fun _ => True) [] (fun u L' => ∃ f : Int, u = .tuple #[.int .u8 f, .bool (kno k)] ∧ (kno k = true → f = fl k) ∧ L' = []) := by
  refine pact Tryz.func143 rfl Tryz.ntmps143 rfl ?_
  intro W K _
  (repeat' (first | (refine gL ?_; first | refine yL0 ?_ | refine yL ?_) | refine yJ ?_ | (refine yI ?_ ?_ <;> intro _ <;> try exact xX) | (refine yK ?_ ?_ <;> intro hgb <;> first | subst hgb | fail_if_success have : type_of% hgb := rfl) | fail))
  all_goals (refine J_ret2 rfl (by rfl) (by rfl) fun w H => ⟨_, ⟨_, congrArg (fun b => Value.tuple #[_, .bool b]) ?_, fun h => ?_, rfl⟩, H.sel .nil⟩)
  all_goals first
    | (unfold kno; rw [Bool.eq_iff_iff]; simp only [decide_eq_true_eq, true_iff, Bool.false_eq_true, false_iff]; omega)
    | (unfold kno at h; have h := of_decide_eq_true h; unfold fl; (repeat' split) <;> omega)
theorem others_s (a : Option Addr) (c : Nat) (p : List Rw) (h8 : p.length ≤ 1000) (hsm : ∀ s ∈ p, RwN s) : Pact Tryz.prog 108 #[.slice a p.length c] (fun w => RawsV w a c p) [] (ret0 (.bool (ckO (oN p) (-1) && decide (p.length ≤ 8)))) := by
  refine pact Tryz.func108 rfl Tryz.ntmps108 rfl ?_
  intro W K hK
  have hv : Kn K (fun w => Vw w (.slice a p.length c) 2 p.length (flat rwC p)) := hK.imp fun _ h => h.vw
  (repeat' (first | (refine gL ?_; first | refine yL0 ?_ | refine yL ?_ | (refine yM ?_; intro _)) | refine yJ ?_ | (refine yI ?_ ?_ <;> intro _ <;> try exact xX) | (refine yK ?_ ?_ <;> intro hgb <;> first | subst hgb | fail_if_success have : type_of% hgb := rfl) | fail))
  refine J_loop (α := Nat × Int) (0, -1) (fun x => p.length - x.1) (fun x => x.1 ≤ p.length ∧ ckO (oN p) (-1) = ckO (oN (p.drop x.1)) x.2) (fun x => [(0, .slice a p.length c), (3, .int .i64 x.2), (8, .slice a p.length c), (9, .int .i64 p.length), (10, .int .i64 x.1)]) (fun x => []) ⟨Nat.zero_le _, rfl⟩ ⟨rfl, rfl, rfl, rfl, rfl, trivial⟩ (fun w H => H) ?_
  rintro ⟨k, n⟩ ⟨hk, hck⟩
  dsimp only at hk hck ⊢
  by_cases hlt : k < p.length
  · obtain ⟨s, hs⟩ : ∃ s, p[k]? = some s := ⟨_, List.getElem?_eq_getElem hlt⟩
    have hm := List.mem_of_getElem? hs
    have hsn1 := (hsm s hm).2.1
    obtain ⟨hk1, hk2⟩ := (hsm s hm).1
    rw [ckO_step hs] at hck
    have hkn := known_s s.kind
    rcases hb : kno s.kind with _ | _
    · rw [hb] at hkn hck
      (repeat' (first | (refine gL ?_; first | refine yL0 ?_ | refine yL ?_ | (refine gL_go ?_; (refine JL_goq (hkn) (hφ := xF) (h := ?_); rintro _ _ ⟨f, rfl, hf, rfl⟩; try simp only [cAp, nAp])) | (refine yM ?_; intro _)) | refine yJ ?_ | (refine yI ?_ ?_ <;> intro _ <;> try exact xX) | (refine yK ?_ ?_ <;> intro hgb <;> first | subst hgb | fail_if_success have : type_of% hgb := rfl) | fail))
      all_goals (first | (rw [if_pos (by first | exact .inl (by omega) | exact .inr (.inl (by omega)) | exact .inr (.inr (.inr (by omega))))] at hck; rw [hck]; exact J_ret1 rfl (by rfl) fun w H => ⟨_, ⟨rfl, rfl⟩, H.sel .nil⟩) | skip)
      rw [if_neg (by rintro (h | h | h | h) <;> first | omega | (cases h))] at hck
      exact J_again (k + 1, s.kind) (by dsimp only; omega) ⟨by dsimp only; omega, hck⟩ ⟨rfl, rfl, rfl, rfl, rfl, trivial⟩ (fun w H => H.sel .nil)
    · rw [hb] at hkn hck
      rw [if_pos (.inr (.inr (.inl rfl)))] at hck
      rw [hck]
      (repeat' (first | (refine gL ?_; first | refine yL0 ?_ | refine yL ?_ | (refine gL_go ?_; (refine JL_goq (hkn) (hφ := xF) (h := ?_); rintro _ _ ⟨f, rfl, hf, rfl⟩; try simp only [cAp, nAp])) | (refine yM ?_; intro _)) | refine yJ ?_ | (refine yI ?_ ?_ <;> intro _ <;> try exact xX) | (refine yK ?_ ?_ <;> intro hgb <;> first | subst hgb | fail_if_success have : type_of% hgb := rfl) | fail))
      all_goals exact J_ret1 rfl (by rfl) fun w H => ⟨_, ⟨rfl, rfl⟩, H.sel .nil⟩
  · have hke : k = p.length := by omega
    have hck2 : ckO (oN p) (-1) = true := by rw [hck, hke, List.drop_length]; rfl
    rw [hck2]
    (repeat' (first | (refine gL ?_; first | refine yL0 ?_ | refine yL ?_ | (refine yM ?_; intro _)) | refine yJ ?_ | (refine yI ?_ ?_ <;> intro _ <;> try exact xX) | (refine yK ?_ ?_ <;> intro hgb <;> first | subst hgb | fail_if_success have : type_of% hgb := rfl) | fail))
    refine J_ret1 rfl (by rfl) fun w H => ⟨_, ⟨?_, rfl⟩, H.sel .nil⟩
    refine congrArg Value.bool ?_
    rw [Bool.eq_iff_iff]
    simp
    omega
theorem check_s (d : At) (hd : AtF d) : Pact Tryz.prog 67 #[.agg (atC d).toArray] (fun w => AtV w d) [] (ret0 (.int .i64 (er (okN d.nf)))) := by
  refine pact Tryz.func67 rfl Tryz.ntmps67 rfl ?_
  intro W K hK
  have hd1 := hd.path
  have hd2 := hd.comms
  have hd3 := hd.others
  have hPC := pchk_s d.pa d.pc d.path (by omega) hd.num.path
  have hOC := others_s d.oa d.oc d.others (by omega) hd.num.others
  have hho := hop_s d.next
  rcases hp : ckP (pN d.path) 0 with _ | _
  · rw [hp] at hPC
    have hok : okN d.nf = false := okN_f fun h => by rw [hp] at h; exact absurd h.2.1 (by decide)
    rw [hok]
    (repeat' (first | (refine gL ?_; first | refine yL0 ?_ | refine yL ?_ | (refine gL_go ?_; (refine JL_goq (hPC) (hφ := (by (try simp only [cAp, nAp]); exact fun w hr => (hK w hr.1).path)) (h := ?_); rintro _ _ ⟨rfl, rfl⟩; try simp only [cAp, nAp])) | (refine yM ?_; intro _)) | refine yJ ?_ | (refine yI ?_ ?_ <;> intro _ <;> try exact xX) | (refine yK ?_ ?_ <;> intro hgb <;> first | subst hgb | fail_if_success have : type_of% hgb := rfl) | fail))
    all_goals exact J_ret1 rfl (by rfl) fun w H => ⟨_, ⟨rfl, rfl⟩, H.sel .nil⟩
  · rw [hp] at hPC
    rcases ho : (ckO (oN d.others) (-1) && decide (d.others.length ≤ 8)) with _ | _
    · rw [ho] at hOC
      have hok : okN d.nf = false := okN_f fun ⟨_, _, _, _, _, h6, h7⟩ => by rw [h7, decide_eq_true h6] at ho; cases ho
      rw [hok]
      (repeat' (first | (refine gL ?_; first | refine yL0 ?_ | refine yL ?_ | (refine gL_go ?_; first | (refine JL_goq (hPC) (hφ := (by (try simp only [cAp, nAp]); exact fun w hr => (hK w hr.1).path)) (h := ?_); rintro _ _ ⟨rfl, rfl⟩; try simp only [cAp, nAp]) | (refine JL_goq (hOC) (hφ := (by (try simp only [cAp, nAp]); exact fun w hr => (hK w hr.1).others)) (h := ?_); rintro _ _ ⟨rfl, rfl⟩; try simp only [cAp, nAp]) | (refine JL_goq (hho) (hφ := xF) (h := ?_); rintro _ _ ⟨rfl, rfl⟩; try simp only [cAp, nAp])) | (refine yM ?_; intro _)) | refine yJ ?_ | (refine yI ?_ ?_ <;> intro _ <;> try exact xX) | (refine yK ?_ ?_ <;> intro hgb <;> first | subst hgb | fail_if_success have : type_of% hgb := rfl) | fail))
      all_goals exact J_ret1 rfl (by rfl) fun w H => ⟨_, ⟨rfl, rfl⟩, H.sel .nil⟩
    · rw [ho] at hOC
      obtain ⟨ho1, ho2⟩ : ckO (oN d.others) (-1) = true ∧ d.others.length ≤ 8 := by
        rw [Bool.and_eq_true, decide_eq_true_eq] at ho; exact ho
      (repeat' (first | (refine gL ?_; first | refine yL0 ?_ | refine yL ?_ | (refine gL_go ?_; first | (refine JL_goq (hPC) (hφ := (by (try simp only [cAp, nAp]); exact fun w hr => (hK w hr.1).path)) (h := ?_); rintro _ _ ⟨rfl, rfl⟩; try simp only [cAp, nAp]) | (refine JL_goq (hOC) (hφ := (by (try simp only [cAp, nAp]); exact fun w hr => (hK w hr.1).others)) (h := ?_); rintro _ _ ⟨rfl, rfl⟩; try simp only [cAp, nAp]) | (refine JL_goq (hho) (hφ := xF) (h := ?_); rintro _ _ ⟨rfl, rfl⟩; try simp only [cAp, nAp])) | (refine yM ?_; intro _)) | refine yJ ?_ | (refine yI ?_ ?_ <;> intro _ <;> try exact xX) | (refine yK ?_ ?_ <;> intro hgb <;> first | subst hgb | fail_if_success have : type_of% hgb := rfl) | fail))
      all_goals first
        | (have hok : okN d.nf = false := okN_f (fun ⟨h1, _, h3, h4, h5, h6, _⟩ => by first | omega | (have := h4 (by assumption); omega))
           rw [hok]
           exact J_ret1 rfl (by rfl) fun w H => ⟨_, ⟨rfl, rfl⟩, H.sel .nil⟩)
        | (have hok : okN d.nf = true := okN_t (by omega) hp (by omega) (by first | (intro _; assumption) | (intro hh; exfalso; have h2 : true = false := hh.symm.trans (by assumption); cases h2)) (by omega) (by omega) ho1
           rw [hok]
           exact J_ret1 rfl (by rfl) fun w H => ⟨_, ⟨rfl, rfl⟩, H.sel .nil⟩)
theorem zd55Aq6 {p q : Prop} (k : p) (h : p → q := by intro hk; first | exact J_draw (id := 6) [0, 1, 2, 3, 4, 5, 6, 7, 8] [9, 10, 11] mixed xC xD xD hk | exact J_draw (id := 11) [0, 1, 2, 3, 4, 5, 6, 7, 8] [9, 10, 11] mixed xC xD xD hk | fail) : q := h k

theorem cloneU_s (a : Option Addr) (c : Nat) (l : List Int) (hl : l.length ≤ 35184372088832) : Pact Tryz.prog 93 #[.slice a l.length c] (fun w => Vw w (.slice a l.length c) 1 l.length (flat u32C l)) [] (fun u L' => ∃ a c, u = .slice a l.length c ∧ L' = [Ar 22 1 u32C (.slice a l.length c) l]) := by
  refine pact Tryz.func93 rfl Tryz.ntmps93 rfl ?_
  intro W K hK
  cases a with
  | none =>
    refine J_fact (φ := l = []) (fun w H => ?_) ?_
    · obtain ⟨a', c', he, _, _, _, h4, _⟩ := hK.of H
      cases he
      exact List.eq_nil_of_length_eq_zero (h4 rfl).1
    · rintro rfl
      (repeat' (first | (refine gL ?_; first | refine yL0 ?_ | refine yL ?_ | (refine yM ?_; intro _) | (refine yA ?_; intro _ _ _ _)) | refine yJ ?_ | (refine yI ?_ ?_ <;> intro _ <;> try exact xX) | (refine yK ?_ ?_ <;> intro hgb <;> first | subst hgb | fail_if_success have : type_of% hgb := rfl) | fail))
      exact J_ret1 rfl (by rfl) fun w H => ⟨_, ⟨none, 0, rfl, rfl⟩, (Ow.arNil (e := 22) (sz := 1) (enc := u32C) H).sel xZ⟩
  | some p =>
    (repeat' (first | (refine gL ?_; first | refine yL0 ?_ | (refine gL_c_append ?_; (refine JL_appL u32C (fs := l) (tabE etab_ok xR) xR xR xA (Src.kn hK) xC xL (all_one _ (by intro _ _; rfl)) (by omega) xR xR ?_; intro ad c2 _ _)) | refine yL ?_ | (refine yM ?_; intro _) | (refine yA ?_; intro _ _ _ _)) | refine yJ ?_ | (refine yI ?_ ?_ <;> intro _ <;> try exact xX) | (refine yK ?_ ?_ <;> intro hgb <;> first | subst hgb | fail_if_success have : type_of% hgb := rfl) | fail))
    exact J_ret1 rfl (by rfl) fun w H => ⟨_, ⟨ad, c2, rfl, rfl⟩, H.sel xZ⟩
theorem cloneB_s (a : Option Addr) (c : Nat) (l : List Int) (hl : l.length ≤ 140737488355328) : Pact Tryz.prog 94 #[.slice a l.length c] (fun w => Vw w (.slice a l.length c) 1 l.length (flat byC l)) [] (fun u L' => ∃ a c, u = .slice a l.length c ∧ L' = [Ar 5 1 byC (.slice a l.length c) l]) := by
  refine pact Tryz.func94 rfl Tryz.ntmps94 rfl ?_
  intro W K hK
  cases a with
  | none =>
    refine J_fact (φ := l = []) (fun w H => ?_) ?_
    · obtain ⟨a', c', he, _, _, _, h4, _⟩ := hK.of H
      cases he
      exact List.eq_nil_of_length_eq_zero (h4 rfl).1
    · rintro rfl
      (repeat' (first | (refine gL ?_; first | refine yL0 ?_ | refine yL ?_ | (refine yM ?_; intro _) | (refine yA ?_; intro _ _ _ _)) | refine yJ ?_ | (refine yI ?_ ?_ <;> intro _ <;> try exact xX) | (refine yK ?_ ?_ <;> intro hgb <;> first | subst hgb | fail_if_success have : type_of% hgb := rfl) | fail))
      exact J_ret1 rfl (by rfl) fun w H => ⟨_, ⟨none, 0, rfl, rfl⟩, (Ow.arNil (e := 5) (sz := 1) (enc := byC) H).sel xZ⟩
  | some p =>
    (repeat' (first | (refine gL ?_; first | refine yL0 ?_ | (refine gL_c_append ?_; (refine JL_appL byC (fs := l) (tabE etab_ok xR) xR xR xA (Src.kn hK) xC xL xU (by omega) xR xR ?_; intro ad c2 _ _)) | refine yL ?_ | (refine yM ?_; intro _) | (refine yA ?_; intro _ _ _ _)) | refine yJ ?_ | (refine yI ?_ ?_ <;> intro _ <;> try exact xX) | (refine yK ?_ ?_ <;> intro hgb <;> first | subst hgb | fail_if_success have : type_of% hgb := rfl) | fail))
    exact J_ret1 rfl (by rfl) fun w H => ⟨_, ⟨ad, c2, rfl, rfl⟩, H.sel xZ⟩
abbrev sgO (s : Sg) : HP := Ar 22 1 u32C (.slice s.a s.as_.length s.c) s.as_
def sgsO (q : List Sg) : HP := sats (q.map sgO)
theorem tk_mem {A : HP} {L : List HP} (h : A ∈ L) : ∃ R, Tk L A R := by
  induction L with
  | nil => cases h
  | cons B L ih =>
    rcases List.mem_cons.1 h with rfl | h
    · exact ⟨L, .here⟩
    · obtain ⟨R, t⟩ := ih h
      exact ⟨B :: R, .there t⟩
theorem sgsV {K : Hl} {q : List Sg} {w : World} (hr : Rdw K (q.map sgO) w) : ∀ s ∈ q, segV w s := fun s hs => by
  obtain ⟨R, t⟩ := tk_mem (List.mem_map.2 ⟨s, hs, rfl⟩ : sgO s ∈ q.map sgO)
  exact Src.ar t w hr
theorem Ow.sgsHas {W : World} {K : Hl} {L R : List HP} {w : World} {q : List Sg} (H : Ow W K L w) (t : Tk L (sgsO q) R) : Ow W K (has (fun w => ∀ s ∈ q, segV w s) :: R) w :=
  Ow.shut H (.cons t .nil) (fun k hk => by
    have h1 : sgsO q k := by
      obtain ⟨h1, h2, a, b, _, rfl⟩ := hk
      have : h1.add h2 = h1 := by funext x; simp [Hl.add, b x]
      rw [this]; exact a
    exact has_of (M := q.map sgO) (fun w hr => sgsV hr) k h1)
theorem Ow.sgsSnoc {W : World} {K : Hl} {L M R : List HP} {w : World} {q : List Sg} {s : Sg} (H : Ow W K L w) (t : Tk L (sgsO q) M) (t2 : Tk M (sgO s) R) : Ow W K (sgsO (q ++ [s]) :: R) w := by
  have := H.snoc t t2
  unfold sgsO
  rw [List.map_append]
  exact this
theorem Ow.sgsNil {W : World} {K : Hl} {L : List HP} {w : World} (H : Ow W K L w) : Ow W K (sgsO [] :: L) w := H.satsNil
def ownAt (d : At) : HP := sats [Ar 87 2 sgC (.slice d.pa d.path.length d.pc) d.path, sgsO d.path, Ar 22 1 u32C (.slice d.ca d.comms.length d.cc) d.comms, has (fun w => RawsV w d.oa d.oc d.others)]
def CopyO (d : At) (v : Value) (L' : List HP) : Prop := ∃ d', AtF d' ∧ d'.nf = d.nf ∧ v = .agg (atC d').toArray ∧ L' = [ownAt d']
theorem copy_s (d : At) (hd : AtF d) : Pact Tryz.prog 55 #[.agg (atC d).toArray] (fun w => AtV w d) [] (CopyO d) := by
  refine pact Tryz.func55 rfl Tryz.ntmps55 rfl ?_
  intro W K hK
  have hd1 := hd.path
  have hd2 := hd.comms
  have hd3 := hd.others
  have hcv : Kn K (fun w => Vw w (.slice d.ca d.comms.length d.cc) 1 d.comms.length (flat u32C d.comms)) := hK.imp fun _ h => h.comms
  have hov : Kn K (fun w => Vw w (.slice d.oa d.others.length d.oc) 2 d.others.length (flat rwC d.others)) := hK.imp fun _ h => h.others.vw
  have hpv : Kn K (fun w => Vw w (.slice d.pa d.path.length d.pc) 2 d.path.length (flat sgC d.path)) := hK.imp fun _ h => h.path.vw
  (repeat' (first | (refine gL ?_; first | refine yL0 ?_ | refine yL ?_ | (refine gL_go ?_; (refine JL_goq (cloneU_s d.ca d.cc d.comms (by omega)) (hφ := (by (try simp only [cAp, nAp]); exact fun w hr => hcv w hr.1)) (h := ?_); rintro _ _ ⟨ad2, c2, rfl, rfl⟩; try simp only [cAp, nAp])) | (refine yM ?_; intro _)) | (refine gD ?_; first | (refine yN ?_; try simp only [cAp, nAp]) | refine yD ?_ | (refine gD_go ?_; (refine JD_goq (cloneU_s d.ca d.cc d.comms (by omega)) (hφ := (by (try simp only [cAp, nAp]); exact fun w hr => hcv w hr.1)) (h := ?_); rintro _ _ ⟨ad2, c2, rfl, rfl⟩; try simp only [cAp, nAp])) | (refine yE ?_; intro _) | (refine yB ?_; intro _ _ _ _)) | refine yJ ?_ | refine zd55Aq6 ?_ | (refine yI ?_ ?_ <;> intro _ <;> try exact xX) | (refine yK ?_ ?_ <;> intro hgb <;> first | subst hgb | fail_if_success have : type_of% hgb := rfl) | fail))
  rename_i b1 b2 b3
  refine J_loop (α := Lc) ⟨[], none, 0⟩ (fun x => d.path.length - x.q.length) (fun x => x.q.length ≤ d.path.length ∧ pN x.q = pN (d.path.take x.q.length)) (fun x => [(1, .pointer (some ⟨b1, 0, none⟩)), (2, .pointer (some ⟨b2, 0, none⟩)), (3, .pointer (some ⟨b3, 0, none⟩)), (16, .slice d.pa d.path.length d.pc), (17, .int .i64 d.path.length), (18, .int .i64 x.q.length)])
    (fun x => [pts b3 (cpC d x.q.length x.ad x.cc ad2 c2 none 0 0) 35, Ar 87 2 sgC (.slice x.ad x.q.length x.cc) x.q, sgsO x.q, Ar 22 1 u32C (.slice ad2 d.comms.length c2) d.comms, pts b2 [.int .i64 0, .slice none 0 0, .int .u32 0, .bool false, .int .u32 0, .bool false, .int .u32 0, .bool false, .bool false, .int .u32 0, .int .u32 0, .slice none 0 0, .slice none 0 0] 35, pts b1 (atC d) 35]) ⟨Nat.zero_le _, rfl⟩ ⟨rfl, rfl, rfl, rfl, rfl, rfl, trivial⟩ (fun w H => (Ow.sgsNil (Ow.arNil (e := 87) (sz := 2) (enc := sgC) H)).sel xZ) ?_
  rintro ⟨q, ad, cc⟩ ⟨hq, hsame⟩
  dsimp only at hq hsame ⊢
  by_cases hlt : q.length < d.path.length
  · obtain ⟨s, hs⟩ : ∃ s, d.path[q.length]? = some s := ⟨_, List.getElem?_eq_getElem hlt⟩
    have hm := List.mem_of_getElem? hs
    have hsn1 := (hd.num.path s hm).1
    (repeat' (first | (refine gL ?_; first | refine yL0 ?_ | refine yL ?_ | (refine gL_go ?_; (refine JL_goq (cloneU_s s.a s.c s.as_ hsn1) (hφ := (by (try simp only [cAp, nAp]); exact fun w hr => (hK w hr.1).path.segs s hm)) (h := ?_); rintro _ _ ⟨ad3, c3, rfl, rfl⟩; try simp only [cAp, nAp])) | (refine yM ?_; intro _)) | (refine gD ?_; first | (refine yN ?_; try simp only [cAp, nAp]) | (refine gD_c_append ?_; (refine JD_ap1 (z := Sg.mk s.set ad3 c3 s.as_) (tabE etab_ok (by rfl)) (by rfl) (by rfl) xA xA (by decide +kernel) (by rfl) (by intro _; rfl) (by rfl) (by omega) (by rfl) ?_; intro ad4 c4 _ _)) | refine yD ?_ | (refine gD_go ?_; (refine JD_goq (cloneU_s s.a s.c s.as_ hsn1) (hφ := (by (try simp only [cAp, nAp]); exact fun w hr => (hK w hr.1).path.segs s hm)) (h := ?_); rintro _ _ ⟨ad3, c3, rfl, rfl⟩; try simp only [cAp, nAp])) | (refine yE ?_; intro _) | (refine yB ?_; intro _ _ _ _)) | refine yJ ?_ | refine zd55Aq6 ?_ | (refine yI ?_ ?_ <;> intro _ <;> try exact xX) | (refine yK ?_ ?_ <;> intro hgb <;> first | subst hgb | fail_if_success have : type_of% hgb := rfl) | fail))
    refine J_again ⟨q ++ [Sg.mk s.set ad3 c3 s.as_], ad4, c4⟩ (by simp; omega) ⟨by simp; omega, ?_⟩ ⟨rfl, rfl, rfl, rfl, rfl, ?_, trivial⟩ (fun w H => ?_)
    · simp only [List.length_append, List.length_cons, List.length_nil]
      rw [take_snoc hs]
      unfold pN at hsame ⊢
      rw [List.map_append, List.map_append, hsame]
      rfl
    · show some _ = some _
      simp
    · simp only [List.length_append, List.length_cons, List.length_nil]
      exact (Ow.sgsSnoc (s := Sg.mk s.set ad3 c3 s.as_) H xA xA).sel xZ
  · obtain hql : q.length = d.path.length := by omega
    rw [hql, List.take_length] at hsame
    (repeat' (first | (refine gL ?_; first | refine yL0 ?_ | refine yL ?_ | (refine yM ?_; intro _)) | (refine gD ?_; first | (refine yN ?_; try simp only [cAp, nAp]) | refine yD ?_ | (refine yE ?_; intro _) | (refine yB ?_; intro _ _ _ _)) | refine yJ ?_ | refine zd55Aq6 ?_ | (refine yI ?_ ?_ <;> intro _ <;> try exact xX) | (refine yK ?_ ?_ <;> intro hgb <;> first | subst hgb | fail_if_success have : type_of% hgb := rfl) | fail))
    refine J_loop (α := Lo) ⟨[], none, 0⟩ (fun x => d.others.length - x.q.length) (fun x => x.q.length ≤ d.others.length ∧ oN x.q = oN (d.others.take x.q.length)) (fun x => [(1, .pointer (some ⟨b1, 0, none⟩)), (2, .pointer (some ⟨b2, 0, none⟩)), (3, .pointer (some ⟨b3, 0, none⟩)), (35, .slice d.oa d.others.length d.oc), (36, .int .i64 d.others.length), (37, .int .i64 x.q.length)])
      (fun x => [pts b3 (cpC d q.length ad cc ad2 c2 x.ad x.q.length x.cc) 35, Ar 79 2 rwC (.slice x.ad x.q.length x.cc) x.q, has (fun w => ∀ s ∈ x.q, rawV w s), Ar 87 2 sgC (.slice ad q.length cc) q, sgsO q, Ar 22 1 u32C (.slice ad2 d.comms.length c2) d.comms, pts b2 [.int .i64 0, .slice none 0 0, .int .u32 0, .bool false, .int .u32 0, .bool false, .int .u32 0, .bool false, .bool false, .int .u32 0, .int .u32 0, .slice none 0 0, .slice none 0 0] 35, pts b1 (atC d) 35]) ⟨Nat.zero_le _, rfl⟩ ⟨rfl, rfl, rfl, rfl, rfl, rfl, trivial⟩ (fun w H => (Ow.hasTrue (φ := fun w => ∀ s ∈ ([] : List Rw), rawV w s) (Ow.arNil (e := 79) (sz := 2) (enc := rwC) H) (by intro _ _ h; exact absurd h List.not_mem_nil)).sel xZ) ?_
    rintro ⟨o, oa, oc⟩ ⟨ho, hso⟩
    dsimp only at ho hso ⊢
    by_cases hol : o.length < d.others.length
    · obtain ⟨s, hs⟩ : ∃ s, d.others[o.length]? = some s := ⟨_, List.getElem?_eq_getElem hol⟩
      have hm := List.mem_of_getElem? hs
      have hsn1 := (hd.num.others s hm).2.1
      (repeat' (first | (refine gL ?_; first | refine yL0 ?_ | refine yL ?_ | (refine gL_go ?_; (refine JL_goq (cloneB_s s.a s.c s.data hsn1) (hφ := (by (try simp only [cAp, nAp]); exact fun w hr => (hK w hr.1).others.raws s hm)) (h := ?_); rintro _ _ ⟨ad3, c3, rfl, rfl⟩; try simp only [cAp, nAp])) | (refine yM ?_; intro _)) | (refine gD ?_; first | (refine yN ?_; try simp only [cAp, nAp]) | (refine gD_c_append ?_; (refine JD_ap1 (z := Rw.mk s.kind ad3 c3 s.data) (tabE etab_ok (by rfl)) (by rfl) (by rfl) xA xA (by decide +kernel) (by rfl) (by intro _; rfl) (by rfl) (by omega) (by rfl) ?_; intro ad4 c4 _ _)) | refine yD ?_ | (refine gD_go ?_; (refine JD_goq (cloneB_s s.a s.c s.data hsn1) (hφ := (by (try simp only [cAp, nAp]); exact fun w hr => (hK w hr.1).others.raws s hm)) (h := ?_); rintro _ _ ⟨ad3, c3, rfl, rfl⟩; try simp only [cAp, nAp])) | (refine yE ?_; intro _) | (refine yB ?_; intro _ _ _ _)) | refine yJ ?_ | refine zd55Aq6 ?_ | (refine yI ?_ ?_ <;> intro _ <;> try exact xX) | (refine yK ?_ ?_ <;> intro hgb <;> first | subst hgb | fail_if_success have : type_of% hgb := rfl) | fail))
      refine J_again ⟨o ++ [Rw.mk s.kind ad3 c3 s.data], ad4, c4⟩ (by simp; omega) ⟨by simp; omega, ?_⟩ ⟨rfl, rfl, rfl, rfl, rfl, ?_, trivial⟩ (fun w H => ?_)
      · simp only [List.length_append, List.length_cons, List.length_nil]
        rw [take_snoc hs]
        unfold oN at hso ⊢
        rw [List.map_append, List.map_append, hso]
        rfl
      · show some _ = some _
        simp
      · simp only [List.length_append, List.length_cons, List.length_nil]
        refine (Ow.has (M := [Ar 5 1 byC (.slice ad3 s.data.length c3) s.data, has (fun w => ∀ s ∈ o, rawV w s)]) (φ := fun w => ∀ x ∈ o ++ [Rw.mk s.kind ad3 c3 s.data], rawV w x) H xZ ?_).sel xZ
        intro w hr x hx
        rcases List.mem_append.1 hx with hx | hx
        · exact hr.has (.there .here) x hx
        · obtain rfl := List.mem_singleton.1 hx
          exact Src.ar .here w hr
    · have hoe : o.length = d.others.length := by omega
      rw [hoe, List.take_length] at hso
      (repeat' (first | (refine gL ?_; first | refine yL0 ?_ | refine yL ?_ | (refine yM ?_; intro _)) | (refine gD ?_; first | (refine yN ?_; try simp only [cAp, nAp]) | refine yD ?_ | (refine yE ?_; intro _) | (refine yB ?_; intro _ _ _ _)) | refine yJ ?_ | refine zd55Aq6 ?_ | (refine yI ?_ ?_ <;> intro _ <;> try exact xX) | (refine yK ?_ ?_ <;> intro hgb <;> first | subst hgb | fail_if_success have : type_of% hgb := rfl) | fail))
      refine J_retC (cs := cpC d q.length ad cc ad2 c2 oa o.length oc) rfl (by rfl) xA (by rfl) fun w H => ⟨_, ⟨d.at_ q ad cc d.comms ad2 c2 o oa oc, At.at_num hd _ _ _ _ _ _ _ _ _ hsame rfl hso, d.at_nf _ _ _ _ _ _ _ _ _ hsame rfl hso, rfl, rfl⟩, ?_⟩
      have H := Ow.has (M := [Ar 79 2 rwC (.slice oa o.length oc) o, has (fun w => ∀ s ∈ o, rawV w s)]) (φ := fun w => RawsV w oa oc o) H xZ (fun w hr => ⟨Src.ar .here w hr, fun s hs => hr.has (.there .here) s hs⟩)
      have H := H.sel (M := [Ar 87 2 sgC (.slice ad q.length cc) q, sgsO q, Ar 22 1 u32C (.slice ad2 d.comms.length c2) d.comms, has (fun w => RawsV w oa oc o)]) xZ
      exact Ow.unflat (As := [Ar 87 2 sgC (.slice ad q.length cc) q, sgsO q, Ar 22 1 u32C (.slice ad2 d.comms.length c2) d.comms, has (fun w => RawsV w oa oc o)]) H xZ
end Go.Proofs.YtdnokmpnemaoaaaGreat
