/-
  Bq7, Bq8, Vc1, Vc2, Tq1: merged.
-/
import Derived.Test.YtdnokmpnemaoaaaGreatZViewChooses20
namespace Go.Proofs.YtdnokmpnemaoaaaGreat.B
set_option linter.unusedSimpArgs false
set_option linter.unusedVariables false
set_option maxRecDepth 20000
set_option maxHeartbeats 4000000
open Go.RowKit Go.Pm

def stepL (k : Int) (es : List On) : List On :=
  if k = 1 then leastL (fun o => -cLocal o.c) es else if k = 2 then leastL (fun o => (C.lenN (pN o.c.path) : Int)) es else if k = 3 then leastL (fun o => o.c.origin) es else if k = 4 then medsL es
  else if k = 5 then leastL (fun o => o.c.id) es else if k = 6 then leastL (fun o => o.c.addr) es else if k = 7 then leastL (fun o => o.c.peer) es else leastL (fun o => o.at_) es
theorem step_s (k : Int) (a : Option Addr) (c : Nat) (es : List On) (hn : ∀ o ∈ es, CdN o.c ∧ I64 o.at_) :
    Pact Tryz.prog 92 #[.int .i64 k, .slice a es.length c] (pathsV es) [Ar 162 18 onC (.slice a es.length c) es] (Ones (stepL k es)) := by
  refine pact Tryz.func92 rfl Tryz.ntmps92 rfl ?_
  intro W K hK
  (repeat' (first | (refine gL ?_; first | refine yL0 ?_ | refine yL ?_ | (refine gL_go ?_; first | (refine JL_goq (leastI_s a c es 125 _ key1 hn) (hφ := (by (try simp only [cAp, nAp]); exact fun w hr => hK w hr.1)) (h := ?_); rintro _ _ ⟨a', c', rfl, rfl⟩; try simp only [cAp, nAp]) | (refine JL_goq (leastI_s a c es 127 _ key2 hn) (hφ := (by (try simp only [cAp, nAp]); exact fun w hr => hK w hr.1)) (h := ?_); rintro _ _ ⟨a', c', rfl, rfl⟩; try simp only [cAp, nAp]) | (refine JL_goq (leastI_s a c es 129 _ key3 hn) (hφ := (by (try simp only [cAp, nAp]); exact fun w hr => hK w hr.1)) (h := ?_); rintro _ _ ⟨a', c', rfl, rfl⟩; try simp only [cAp, nAp]) | (refine JL_goq (leastI_s a c es 134 _ key6 hn) (hφ := (by (try simp only [cAp, nAp]); exact fun w hr => hK w hr.1)) (h := ?_); rintro _ _ ⟨a', c', rfl, rfl⟩; try simp only [cAp, nAp]) | (refine JL_goq (leastI_s a c es 135 _ key7 hn) (hφ := (by (try simp only [cAp, nAp]); exact fun w hr => hK w hr.1)) (h := ?_); rintro _ _ ⟨a', c', rfl, rfl⟩; try simp only [cAp, nAp]) | (refine JL_goq (leastA_s a c es 132 _ key4 hn) (hφ := (by (try simp only [cAp, nAp]); exact fun w hr => hK w hr.1)) (h := ?_); rintro _ _ ⟨a', c', rfl, rfl⟩; try simp only [cAp, nAp]) | (refine JL_goq (leastA_s a c es 133 _ key5 hn) (hφ := (by (try simp only [cAp, nAp]); exact fun w hr => hK w hr.1)) (h := ?_); rintro _ _ ⟨a', c', rfl, rfl⟩; try simp only [cAp, nAp]) | (refine JL_goq (meds_s a c es hn) (hφ := (by (try simp only [cAp, nAp]); exact fun w hr => hK w hr.1)) (h := ?_); rintro _ _ ⟨a', c', rfl, rfl⟩; try simp only [cAp, nAp]))) | refine yJ ?_ | (refine yI ?_ ?_ <;> intro _ <;> try exact xX) | (refine yK ?_ ?_ <;> intro hgb <;> first | subst hgb | fail_if_success have : type_of% hgb := rfl) | fail))
  all_goals (refine J_ret1 rfl (by rfl) fun w H => ⟨_, ⟨a', c', ?_, rfl⟩, ?_⟩)
  all_goals (first | (simp [stepL, *]; done) | (simp only [stepL, *]; simpa using H) | skip)

theorem keepL_sub (D : On → Bool) (es : List On) : ∀ o ∈ keepL D es, o ∈ es := fun o h => (List.mem_filter.1 h).1
theorem leastL_sub (κ : On → Int) : ∀ (es : List On), ∀ o ∈ leastL κ es, o ∈ es
  | [], _, h => h
  | _ :: _, o, h => keepL_sub _ _ o h
theorem stepL_sub (k : Int) (es : List On) : ∀ o ∈ stepL k es, o ∈ es := by
  intro o
  unfold stepL medsL
  repeat' split
  all_goals first | exact leastL_sub _ _ o | exact keepL_sub _ _ o
def stepsN : Nat → List On → List On
  | 0, es => es
  | n + 1, es => stepL (n + 1 : Nat) (stepsN n es)
theorem stepsN_sub : ∀ (n : Nat) (es : List On), ∀ o ∈ stepsN n es, o ∈ es
  | 0, _, _, h => h
  | n + 1, es, o, h => stepsN_sub n es o (stepL_sub _ _ o h)
theorem leastL_len (κ : On → Int) : ∀ (es : List On), (leastL κ es).length ≤ es.length
  | [] => Nat.le_refl _
  | _ :: _ => keepL_len _ _
theorem stepL_len (k : Int) (es : List On) : (stepL k es).length ≤ es.length := by
  unfold stepL medsL
  repeat' split
  all_goals first | exact leastL_len _ _ | exact keepL_len _ _
theorem stepsN_len : ∀ (n : Nat) (es : List On), (stepsN n es).length ≤ es.length
  | 0, _ => Nat.le_refl _
  | n + 1, es => Nat.le_trans (stepL_len _ _) (stepsN_len n es)
def onesL (cs : List Cd) : List On := (cs.zipIdx).map fun p => ⟨p.1, p.2⟩
theorem onesL_take {cs : List Cd} {k : Nat} {x : Cd} (h : cs[k]? = some x) : onesL (cs.take (k + 1)) = onesL (cs.take k) ++ [⟨x, k⟩] := by
  have hk := (List.getElem?_eq_some_iff.1 h).1
  unfold onesL
  rw [take_snoc h, List.zipIdx_append, List.map_append]
  simp [Nat.min_eq_left (Nat.le_of_lt hk)]
theorem onesL_len (cs : List Cd) : (onesL cs).length = cs.length := by simp [onesL]
theorem onesL_mem {cs : List Cd} {o : On} (h : o ∈ onesL cs) : o.c ∈ cs ∧ 0 ≤ o.at_ ∧ o.at_ < cs.length := by
  obtain ⟨p, hp, rfl⟩ := List.mem_map.1 h
  have := List.mem_zipIdx hp
  simp at this
  exact ⟨by rw [this.2]; exact List.getElem_mem _, by simp, by simpa using this.1⟩
def leftL (cs : List Cd) (steps : Int) : List Int := (stepsN (min steps 8).toNat (onesL cs)).map On.at_
def candsV (cs : List Cd) (w : World) : Prop := ∀ c ∈ cs, PathV w c.pa c.pc c.path
def Ints (zs : List Int) (v : Value) (L' : List HP) : Prop := ∃ a' c', v = .slice a' zs.length c' ∧ L' = [Ar 3 1 i64C (.slice a' zs.length c') zs]
structure La where
  k : Nat
  ad : Option Addr
  cc : Nat

theorem left_s (a : Option Addr) (c : Nat) (cs : List Cd) (steps : Int) (hst : I64 steps) (hn : ∀ o ∈ cs, CdN o) (hl : cs.length ≤ 1000000) :
    Pact Tryz.prog 54 #[.slice a cs.length c, .int .i64 steps] (fun w => Vw w (.slice a cs.length c) 17 cs.length (flat cdC cs) ∧ candsV cs w) [] (Ints (leftL cs steps)) := by
  obtain ⟨hst1, hst2⟩ := hst
  refine pact Tryz.func54 rfl Tryz.ntmps54 rfl ?_
  intro W K hK
  have hv := hK.left
  have hon : ∀ o ∈ onesL cs, CdN o.c ∧ I64 o.at_ := fun o ho => ⟨hn _ (onesL_mem ho).1, by have := (onesL_mem ho).2; unfold I64; omega⟩
  have hol := onesL_len cs
  (repeat' (first | (refine gL ?_; first | refine yL0 ?_ | refine yL ?_ | (refine yM ?_; intro _) | (refine yA ?_; intro _ _ _ _)) | refine yJ ?_ | (refine yI ?_ ?_ <;> intro _ <;> try exact xX) | (refine yK ?_ ?_ <;> intro hgb <;> first | subst hgb | fail_if_success have : type_of% hgb := rfl) | fail))
  refine J_loop (α := La) ⟨0, none, 0⟩ (fun x => cs.length - x.k) (fun x => x.k ≤ cs.length) (fun x => [(1, .int .i64 steps), (5, .slice x.ad (onesL (cs.take x.k)).length x.cc), (12, .slice a cs.length c), (13, .int .i64 cs.length), (14, .int .i64 x.k)])
    (fun x => [Ar 162 18 onC (.slice x.ad (onesL (cs.take x.k)).length x.cc) (onesL (cs.take x.k))]) (Nat.zero_le _) ⟨rfl, rfl, rfl, rfl, rfl, trivial⟩ (fun w H => H.arNil) ?_
  rintro ⟨k, ad, cc⟩ hk
  dsimp only at hk ⊢
  have hok := onesL_len (cs.take k)
  by_cases hlt : k < cs.length
  · obtain ⟨x, hs⟩ : ∃ x, cs[k]? = some x := ⟨_, List.getElem?_eq_getElem hlt⟩
    have htk : (cs.take k).length = k := by simp; omega
    (repeat' (first | (refine gL ?_; first | refine yL0 ?_ | (refine gL_c_append ?_; (refine JL_ap1 (z := On.mk x (k : Int)) (tabE etab_ok (by rfl)) (by rfl) (by rfl) xA xA (by decide +kernel) (by rfl) (by intro _; rfl) (by rfl) (by omega) (by rfl) (by rfl) ?_; intro ad2 c2 _ _)) | refine yL ?_ | (refine yM ?_; intro _) | (refine yA ?_; intro _ _ _ _)) | refine yJ ?_ | (refine yI ?_ ?_ <;> intro _ <;> try exact xX) | (refine yK ?_ ?_ <;> intro hgb <;> first | subst hgb | fail_if_success have : type_of% hgb := rfl) | fail))
    refine J_again ⟨k + 1, ad2, c2⟩ (by dsimp only; omega) hlt ?_ ?_
    · refine ⟨rfl, ?_, rfl, rfl, rfl, trivial⟩
      dsimp only
      rw [onesL_take hs, List.length_append]
      rfl
    · intro w H
      dsimp only
      rw [onesL_take hs, List.length_append]
      exact H.sel xZ
  · obtain rfl : k = cs.length := by omega
    rw [List.take_length] at *
    (repeat' (first | (refine gL ?_; first | refine yL0 ?_ | refine yL ?_ | (refine yM ?_; intro _) | (refine yA ?_; intro _ _ _ _)) | refine yJ ?_ | (refine yI ?_ ?_ <;> intro _ <;> try exact xX) | (refine yK ?_ ?_ <;> intro hgb <;> first | subst hgb | fail_if_success have : type_of% hgb := rfl) | fail))
    refine J_loop (α := La) ⟨1, ad, cc⟩ (fun x => 9 - x.k) (fun x => 1 ≤ x.k ∧ (x.k : Int) ≤ max 1 ((min steps 8) + 1)) (fun x => [(1, .int .i64 steps), (5, .slice x.ad (stepsN (x.k - 1) (onesL cs)).length x.cc), (8, .int .i64 x.k)])
      (fun x => [Ar 162 18 onC (.slice x.ad (stepsN (x.k - 1) (onesL cs)).length x.cc) (stepsN (x.k - 1) (onesL cs))]) ⟨Nat.le_refl _, by simp only; omega⟩ ⟨rfl, rfl, rfl, trivial⟩ (fun w H => H.sel xZ) ?_
    rintro ⟨k, ad, cc⟩ ⟨hk1, hk8⟩
    dsimp only at hk1 hk8 ⊢
    have hsub := stepsN_sub (k - 1) (onesL cs)
    by_cases hlt : (k : Int) ≤ min steps 8
    · (repeat' (first | (refine gL ?_; first | refine yL0 ?_ | refine yL ?_ | (refine gL_go ?_; (refine JL_goq (step_s k ad cc (stepsN (k - 1) (onesL cs)) (fun o ho => hon o (hsub o ho))) (hφ := (by (try simp only [cAp, nAp]); exact fun w hr o ho => (hK w hr.1).2 _ (onesL_mem (hsub o ho)).1)) (h := ?_); rintro _ _ ⟨a', c', rfl, rfl⟩; try simp only [cAp, nAp])) | (refine yM ?_; intro _) | (refine yA ?_; intro _ _ _ _)) | refine yJ ?_ | (refine yI ?_ ?_ <;> intro _ <;> try exact xX) | (refine yK ?_ ?_ <;> intro hgb <;> first | subst hgb | fail_if_success have : type_of% hgb := rfl) | fail))
      obtain ⟨k, rfl⟩ : ∃ j, k = j + 1 := ⟨k - 1, by omega⟩
      refine J_again ⟨k + 2, a', c'⟩ (by dsimp only; omega) ⟨by dsimp only; omega, by dsimp only; omega⟩ ⟨rfl, rfl, rfl, trivial⟩ (fun w H => H.sel xZ)
    · (repeat' (first | (refine gL ?_; first | refine yL0 ?_ | refine yL ?_ | (refine yM ?_; intro _) | (refine yA ?_; intro _ _ _ _)) | refine yJ ?_ | (refine yI ?_ ?_ <;> intro _ <;> try exact xX) | (refine yK ?_ ?_ <;> intro hgb <;> first | subst hgb | fail_if_success have : type_of% hgb := rfl) | fail))
      have hkk : k - 1 = (min steps 8).toNat := by omega
      rw [hkk] at *
      refine J_loop (α := La) ⟨0, none, 0⟩ (fun x => (stepsN (min steps 8).toNat (onesL cs)).length - x.k) (fun x => x.k ≤ (stepsN (min steps 8).toNat (onesL cs)).length)
        (fun x => [(9, .slice x.ad (((stepsN (min steps 8).toNat (onesL cs)).take x.k).map On.at_).length x.cc), (35, .slice ad (stepsN (min steps 8).toNat (onesL cs)).length cc), (36, .int .i64 (stepsN (min steps 8).toNat (onesL cs)).length), (37, .int .i64 x.k)])
        (fun x => [Ar 162 18 onC (.slice ad (stepsN (min steps 8).toNat (onesL cs)).length cc) (stepsN (min steps 8).toNat (onesL cs)), Ar 3 1 i64C (.slice x.ad (((stepsN (min steps 8).toNat (onesL cs)).take x.k).map On.at_).length x.cc) (((stepsN (min steps 8).toNat (onesL cs)).take x.k).map On.at_)]) (Nat.zero_le _) ⟨rfl, rfl, rfl, rfl, trivial⟩ (fun w H => H.arNil.sel xZ) ?_
      rintro ⟨k, ad, cc⟩ hk
      dsimp only at hk ⊢
      have hell := stepsN_len (min steps 8).toNat (onesL cs)
      have hlf : leftL cs steps = (stepsN (min steps 8).toNat (onesL cs)).map On.at_ := rfl
      rw [hlf]
      generalize hes : stepsN (min steps 8).toNat (onesL cs) = es at *
      by_cases hlt : k < es.length
      · obtain ⟨x, hs⟩ : ∃ x, es[k]? = some x := ⟨_, List.getElem?_eq_getElem hlt⟩
        have htk : ((es.take k).map On.at_).length = k := by simp; omega
        (repeat' (first | (refine gL ?_; first | refine yL0 ?_ | refine yL ?_ | (refine yM ?_; intro _) | (refine yA ?_; intro _ _ _ _)) | refine yJ ?_ | (refine yI ?_ ?_ <;> intro _ <;> try exact xX) | (refine yK ?_ ?_ <;> intro hgb <;> first | subst hgb | fail_if_success have : type_of% hgb := rfl) | fail))
        rename_i ad2 c2 _ _
        refine J_again ⟨k + 1, ad2, c2⟩ (by dsimp only; omega) hlt ?_ ?_
        · refine ⟨?_, rfl, rfl, rfl, trivial⟩
          dsimp only
          rw [take_snoc hs, List.map_append, List.length_append]
          rfl
        · intro w H
          dsimp only
          rw [take_snoc hs, List.map_append, List.length_append]
          exact H.sel xZ
      · obtain rfl : k = es.length := by omega
        (repeat' (first | (refine gL ?_; first | refine yL0 ?_ | refine yL ?_ | (refine yM ?_; intro _) | (refine yA ?_; intro _ _ _ _)) | refine yJ ?_ | (refine yI ?_ ?_ <;> intro _ <;> try exact xX) | (refine yK ?_ ?_ <;> intro hgb <;> first | subst hgb | fail_if_success have : type_of% hgb := rfl) | fail))
        refine J_ret1 rfl (by rfl) fun w H => ⟨_, ⟨ad, cc, ?_, rfl⟩, ?_⟩
        · rw [List.take_length]
        · rw [List.take_length] at H
          exact H.sel xZ
theorem pick_s (a : Option Addr) (c : Nat) (cs : List Cd) (hn : ∀ o ∈ cs, CdN o) (hl : cs.length ≤ 1000000) :
    Pact Tryz.prog 22 #[.slice a cs.length c] (fun w => Vw w (.slice a cs.length c) 17 cs.length (flat cdC cs) ∧ candsV cs w) [] (ret0 (.int .i64 ((leftL cs 8).head?.getD (-1)))) := by
  refine pact Tryz.func22 rfl Tryz.ntmps22 rfl ?_
  intro W K hK
  (repeat' (first | (refine gL ?_; first | refine yL0 ?_ | refine yL ?_ | (refine gL_go ?_; (refine JL_goq (left_s a c cs 8 (by unfold I64; omega) hn hl) (hφ := (by (try simp only [cAp, nAp]); exact fun w hr => hK w hr.1)) (h := ?_); rintro _ _ ⟨a', c', rfl, rfl⟩; try simp only [cAp, nAp])) | (refine gL_load ?_; first | (refine JL_el xR xV xL xR xC xR xR xO ?_; intro _ _) | (refine JL_elC xR xV xL xR xC xL xR xR xO ?_; intro _ _) | (refine JL_elF xR xV xL xR xC xL xR xR xO ?_; intro _ _))) | refine yJ ?_ | (refine yI ?_ ?_ <;> intro _ <;> try exact xX) | (refine yK ?_ ?_ <;> intro hgb <;> first | subst hgb | fail_if_success have : type_of% hgb := rfl) | fail))
  all_goals (refine J_ret1 rfl (by rfl) fun w H => ⟨[], ⟨?_, rfl⟩, H.sel .nil⟩)
  all_goals (generalize leftL cs 8 = l at *; cases l <;> first | (simp_all; done) | (exfalso; simp_all; omega))

def beat (k : Int) (x o : On) : Prop :=
  if k = 1 then -cLocal x.c < -cLocal o.c else if k = 2 then (C.lenN (pN x.c.path) : Int) < (C.lenN (pN o.c.path) : Int) else if k = 3 then x.c.origin < o.c.origin else if k = 4 then cNb x.c = cNb o.c ∧ cMed x.c < cMed o.c
  else if k = 5 then x.c.id < o.c.id else if k = 6 then x.c.addr < o.c.addr else if k = 7 then x.c.peer < o.c.peer else x.at_ < o.at_
theorem minL_le (κ : On → Int) : ∀ (l : List On) (m : Int), minL κ l m ≤ m ∧ (∀ o ∈ l, minL κ l m ≤ κ o) ∧ (minL κ l m = m ∨ ∃ o ∈ l, minL κ l m = κ o)
  | [], m => ⟨Int.le_refl _, by simp, .inl rfl⟩
  | o :: r, m => by
    obtain ⟨h1, h2, h3⟩ := minL_le κ r (min m (κ o))
    simp only [minL]
    refine ⟨by omega, ?_, ?_⟩
    · intro x hx
      rcases List.mem_cons.1 hx with rfl | hx
      · omega
      · exact h2 x hx
    · rcases h3 with h3 | ⟨x, hx, h3⟩
      · by_cases hm : m ≤ κ o
        · left; omega
        · right; exact ⟨o, List.mem_cons_self .., by omega⟩
      · exact .inr ⟨x, List.mem_cons_of_mem _ hx, h3⟩
theorem mem_leastL (κ : On → Int) (es : List On) (o : On) : o ∈ leastL κ es ↔ o ∈ es ∧ ∀ x ∈ es, ¬ κ x < κ o := by
  cases es with
  | nil => simp [leastL]
  | cons a r =>
    obtain ⟨h1, h2, h3⟩ := minL_le κ (a :: r) (κ a)
    simp only [leastL, keepL, List.mem_filter]
    constructor
    · rintro ⟨ho, he⟩
      refine ⟨ho, fun x hx => ?_⟩
      have := h2 x hx
      simp at he
      omega
    · rintro ⟨ho, he⟩
      refine ⟨ho, ?_⟩
      have h4 := h2 o ho
      simp only [Bool.not_eq_true', decide_eq_false_iff_not, Decidable.not_not]
      rcases h3 with h3 | ⟨x, hx, h3⟩
      · have := he a (List.mem_cons_self ..)
        omega
      · have := he x hx
        omega
theorem nbMed_le : ∀ (es : List On) (n : Int), match nbMed es n with | none => ∀ o ∈ es, cNb o.c ≠ n | some m => (∀ o ∈ es, cNb o.c = n → m ≤ cMed o.c) ∧ ∃ o ∈ es, cNb o.c = n ∧ cMed o.c = m
  | [], n => by simp [nbMed]
  | o :: r, n => by
    have ih := nbMed_le r n
    simp only [nbMed]
    cases hq : nbMed r n with
    | none =>
      rw [hq] at ih
      by_cases hn : cNb o.c = n
      · simp only [if_pos hn]
        refine ⟨?_, o, List.mem_cons_self .., hn, rfl⟩
        intro x hx hxn
        rcases List.mem_cons.1 hx with rfl | hx
        · omega
        · exact absurd hxn (ih x hx)
      · simp only [if_neg hn]
        intro x hx
        rcases List.mem_cons.1 hx with rfl | hx
        · exact hn
        · exact ih x hx
    | some m =>
      rw [hq] at ih
      obtain ⟨h1, y, hy, hyn, hym⟩ := ih
      by_cases hn : cNb o.c = n
      · simp only [if_pos hn]
        refine ⟨?_, ?_⟩
        · intro x hx hxn
          rcases List.mem_cons.1 hx with rfl | hx
          · omega
          · have := h1 x hx hxn
            omega
        · by_cases hle : cMed o.c ≤ m
          · exact ⟨o, List.mem_cons_self .., hn, by omega⟩
          · exact ⟨y, List.mem_cons_of_mem _ hy, hyn, by omega⟩
      · simp only [if_neg hn]
        refine ⟨?_, y, List.mem_cons_of_mem _ hy, hyn, hym⟩
        intro x hx hxn
        rcases List.mem_cons.1 hx with rfl | hx
        · exact absurd hxn hn
        · exact h1 x hx hxn
theorem mem_medsL (es : List On) (o : On) : o ∈ medsL es ↔ o ∈ es ∧ ∀ x ∈ es, ¬ (cNb x.c = cNb o.c ∧ cMed x.c < cMed o.c) := by
  simp only [medsL, keepL, List.mem_filter, Bool.not_eq_true', decide_eq_false_iff_not]
  constructor
  · rintro ⟨ho, he⟩
    refine ⟨ho, fun x hx hb => ?_⟩
    have h := nbMed_le es (cNb o.c)
    cases hq : nbMed es (cNb o.c) with
    | none => rw [hq] at h; exact h o ho rfl
    | some m =>
      rw [hq] at h he
      have := h.1 x hx hb.1
      simp at he
      omega
  · rintro ⟨ho, he⟩
    refine ⟨ho, fun hb => ?_⟩
    have h := nbMed_le es (cNb o.c)
    cases hq : nbMed es (cNb o.c) with
    | none => rw [hq] at h; exact h o ho rfl
    | some m =>
      rw [hq] at h hb
      obtain ⟨_, y, hy, h1, h2⟩ := h
      simp at hb
      exact he y hy ⟨h1, by omega⟩
theorem mem_stepL (k : Int) (es : List On) (o : On) : o ∈ stepL k es ↔ o ∈ es ∧ ∀ x ∈ es, ¬ beat k x o := by
  unfold stepL beat
  repeat' split
  all_goals first | exact mem_leastL _ _ _ | exact mem_medsL _ _
theorem filter_of_mem {α : Type} {p q : α → Bool} {l : List α} (h : ∀ x ∈ l, p x = true ↔ q x = true) : l.filter p = l.filter q := List.filter_congr fun x hx => Bool.eq_iff_iff.2 (h x hx)
theorem stepL_filter (k : Int) (es : List On) : ∃ p : On → Bool, stepL k es = es.filter p := by
  unfold stepL medsL keepL
  cases es with
  | nil => exact ⟨fun _ => true, by simp [leastL, keepL]⟩
  | cons a r =>
    simp only [leastL, keepL]
    repeat' split
    all_goals exact ⟨_, rfl⟩
theorem stepL_eq (k : Int) (es : List On) (q : On → Bool) (h : ∀ o ∈ es, q o = true ↔ ∀ x ∈ es, ¬ beat k x o) : stepL k es = es.filter q := by
  obtain ⟨p, hp⟩ := stepL_filter k es
  rw [hp]
  refine filter_of_mem fun x hx => ?_
  rw [h x hx]
  have := mem_stepL k es x
  rw [hp, List.mem_filter] at this
  exact ⟨fun hpx => (this.1 ⟨hx, hpx⟩).2, fun hb => (this.2 ⟨hx, hb⟩).2⟩
theorem beat_lt (k : Int) : ∃ κ : On → Int, ∀ x o, beat k x o → κ x < κ o := by
  unfold beat
  repeat' split
  · exact ⟨fun o => -cLocal o.c, fun _ _ h => h⟩
  · exact ⟨fun o => (C.lenN (pN o.c.path) : Int), fun _ _ h => h⟩
  · exact ⟨fun o => o.c.origin, fun _ _ h => h⟩
  · exact ⟨fun o => cMed o.c, fun _ _ h => h.2⟩
  · exact ⟨fun o => o.c.id, fun _ _ h => h⟩
  · exact ⟨fun o => o.c.addr, fun _ _ h => h⟩
  · exact ⟨fun o => o.c.peer, fun _ _ h => h⟩
  · exact ⟨fun o => o.at_, fun _ _ h => h⟩
theorem stepL_ne (k : Int) (es : List On) (h : es ≠ []) : stepL k es ≠ [] := by
  obtain ⟨κ, hκ⟩ := beat_lt k
  cases es with
  | nil => exact absurd rfl h
  | cons a r =>
    obtain ⟨h1, h2, h3⟩ := minL_le κ (a :: r) (κ a)
    have : ∃ o ∈ a :: r, minL κ (a :: r) (κ a) = κ o := by
      rcases h3 with h3 | h3
      · exact ⟨a, List.mem_cons_self .., h3⟩
      · exact h3
    obtain ⟨o, ho, he⟩ := this
    refine List.ne_nil_of_mem ((mem_stepL k _ o).2 ⟨ho, fun x hx hb => ?_⟩)
    have := hκ x o hb
    have := h2 x hx
    omega
theorem stepsN_ne : ∀ (n : Nat) (es : List On), es ≠ [] → stepsN n es ≠ []
  | 0, _, h => h
  | n + 1, es, h => stepL_ne _ _ (stepsN_ne n es h)
theorem stepL_subl (k : Int) (es : List On) : List.Sublist (stepL k es) es := by
  obtain ⟨p, hp⟩ := stepL_filter k es
  rw [hp]
  exact List.filter_sublist
theorem stepsN_subl : ∀ (n : Nat) (es : List On), List.Sublist (stepsN n es) es
  | 0, _ => List.Sublist.refl _
  | n + 1, es => (stepL_subl _ _).trans (stepsN_subl n es)
theorem onesL_at (cs : List Cd) : (onesL cs).map On.at_ = (List.range cs.length).map (fun i : Nat => (i : Int)) := by
  unfold onesL
  rw [List.map_map]
  apply List.ext_getElem?
  intro i
  simp only [List.getElem?_map, List.getElem?_zipIdx, List.getElem?_range', Function.comp]
  by_cases h : i < cs.length
  · simp [List.getElem?_eq_getElem h, List.getElem?_range h]
  · have h2 : (List.range cs.length)[i]? = none := List.getElem?_eq_none (by simp; omega)
    simp [List.getElem?_eq_none (Nat.le_of_not_lt h), h2]
theorem onesL_ne {cs : List Cd} (h : cs ≠ []) : onesL cs ≠ [] := by
  intro e
  have := onesL_len cs
  rw [e] at this
  exact h (List.eq_nil_of_length_eq_zero this.symm)
theorem onesL_get {cs : List Cd} {o : On} (h : o ∈ onesL cs) : ∃ k : Nat, o.at_ = k ∧ cs[k]? = some o.c := by
  obtain ⟨p, hp, rfl⟩ := List.mem_map.1 h
  have := List.mem_zipIdx hp
  simp at this
  exact ⟨p.2, rfl, by rw [this.2, List.getElem?_eq_getElem this.1]⟩
theorem pick_in {cs : List Cd} (h : cs ≠ []) : ∃ k : Nat, (leftL cs 8).head?.getD (-1) = (k : Int) ∧ k < cs.length := by
  have hs : leftL cs 8 = (stepsN 8 (onesL cs)).map On.at_ := rfl
  have h1 := stepsN_ne 8 _ (onesL_ne h)
  rw [hs]
  cases hq : stepsN 8 (onesL cs) with
  | nil => exact absurd hq h1
  | cons o r =>
    have ho : o ∈ stepsN 8 (onesL cs) := by rw [hq]; exact List.mem_cons_self ..
    obtain ⟨k, e1, e2⟩ := onesL_get (stepsN_sub 8 _ o ho)
    exact ⟨k, by simp [e1], (List.getElem?_eq_some_iff.1 e2).1⟩
theorem pick_none : (leftL [] 8).head?.getD (-1) = (-1 : Int) := by rfl
end Go.Proofs.YtdnokmpnemaoaaaGreat.B
namespace Go.Proofs.YtdnokmpnemaoaaaGreat
set_option linter.unusedSimpArgs false
set_option linter.unusedVariables false
set_option maxRecDepth 20000
set_option maxHeartbeats 4000000
open Go.RowKit Go.Pm

structure Qn where
  peer : Int
  as_ : Int
  id : Int
  addr : Int
  nf : Nf
def cnN (x : B.Cd) : Qn := ⟨x.peer, x.as_, x.id, x.addr, x.toAt.nf⟩
def mkC (x : B.Cd) (d : At) : B.Cd := ⟨d, x.peer, x.as_, x.id, x.addr⟩
structure CnN (x : B.Cd) : Prop where
  peer : I64 x.peer
  as_ : U32 x.as_
  id : U32 x.id
  addr : U32 x.addr
  d : AtN x.toAt
def cnV (ds : List B.Cd) (w : World) : Prop := ∀ x ∈ ds, AtV w x.toAt
def trN (x : B.Cd) : Qn := cnN (mkC x x.toAt.trW)
theorem cnV_snoc {K : Hl} {L R : List HP} {w : World} {ds : List B.Cd} {x : B.Cd} (hr : Rdw K L w) (t : Tk L (has (cnV ds)) R) (hx : AtV w x.toAt) : cnV (ds ++ [x]) w := by
  intro d hd
  rcases List.mem_append.1 hd with hd | hd
  · exact hr.has (φ := cnV ds) t d hd
  · obtain rfl := List.mem_singleton.1 hd
    exact hx
def CandsR (cs : List B.Cd) (v : Value) (L' : List HP) : Prop := ∃ ds a' c', v = .slice a' ds.length c' ∧ ds.map cnN = (cs.take 10).map trN ∧ (∀ d ∈ ds, B.CdN d) ∧ L' = [Ar 47 17 B.cdC (.slice a' ds.length c') ds, has (cnV ds)]
structure Qcw where
  k : Nat
  ds : List B.Cd
  ad : Option Addr
  cc : Nat
theorem cands_s (a : Option Addr) (c : Nat) (cs : List B.Cd) (hcs : ∀ x ∈ cs, CnN x) (hl : cs.length ≤ 140737488355328) : Pact Tryz.prog 6 #[.slice a cs.length c] (fun w => Vw w (.slice a cs.length c) 17 cs.length (flat B.cdC cs) ∧ cnV cs w) [] (CandsR cs) := by
  refine pact Tryz.func6 rfl Tryz.ntmps6 rfl ?_
  intro W K hK
  have hv := hK.left
  (repeat' (first | (refine gL ?_; first | refine yL0 ?_ | refine yL ?_ | (refine yM ?_; intro _) | (refine yA ?_; intro _ _ _ _)) | refine yJ ?_ | (refine yI ?_ ?_ <;> intro _ <;> try exact xX) | (refine yK ?_ ?_ <;> intro hgb <;> first | subst hgb | fail_if_success have : type_of% hgb := rfl) | fail))
  rename_i b0
  refine J_loop (α := Qcw) ⟨0, [], some ⟨b0, 0, none⟩, 0⟩ (fun x => cs.length - x.k) (fun x => x.k ≤ cs.length ∧ x.k = x.ds.length ∧ x.k ≤ 10 ∧ x.ds.map cnN = (cs.take x.k).map trN ∧ ∀ d ∈ x.ds, B.CdN d) (fun x => [(0, .slice a cs.length c), (3, .slice x.ad x.ds.length x.cc), (4, .int .i64 x.k)])
    (fun x => [Ar 47 17 B.cdC (.slice x.ad x.ds.length x.cc) x.ds, has (cnV x.ds)]) ⟨Nat.zero_le _, rfl, Nat.zero_le _, rfl, by simp⟩ ⟨rfl, rfl, rfl, trivial⟩ (fun w H => (Ow.hasTrue (φ := cnV []) (H.arLit0 .here) (by intro _ _ h; exact absurd h List.not_mem_nil)).sel xZ) ?_
  rintro ⟨k, ds, ad, cc⟩ ⟨hk, hkl, hk10, hdm, hds⟩
  dsimp only at hk hkl hk10 hdm hds ⊢
  by_cases hlt : k < cs.length ∧ k < 10
  · obtain ⟨hlt, hlt2⟩ := hlt
    obtain ⟨x, hs⟩ : ∃ x, cs[k]? = some x := ⟨_, List.getElem?_eq_getElem hlt⟩
    have hm := List.mem_of_getElem? hs
    have hx := hcs x hm
    (repeat' (first | (refine gL ?_; first | refine yL0 ?_ | (refine gL_c_append ?_; (refine JL_ap1 (z := (⟨d', x.peer, x.as_, x.id, x.addr⟩ : B.Cd)) (tabE etab_ok xR) xR xR xA xA xC xR xL xR (by omega) xR xR ?_; intro ad2 c2 _ _)) | refine yL ?_ | (refine gL_go ?_; (refine JL_goq (fewv_s x.toAt hx.d) (hφ := (by (try simp only [cAp, nAp]); exact fun w hr => (hK w hr.1).2 x hm)) (h := ?_); rintro _ _ ⟨d', hd', hnf, rfl, rfl⟩; try simp only [cAp, nAp])) | (refine yM ?_; intro _) | (refine yA ?_; intro _ _ _ _)) | refine yJ ?_ | (refine yI ?_ ?_ <;> intro _ <;> try exact xX) | (refine yK ?_ ?_ <;> intro hgb <;> first | subst hgb | fail_if_success have : type_of% hgb := rfl) | fail))
    refine J_again ⟨k + 1, ds ++ [⟨d', x.peer, x.as_, x.id, x.addr⟩], ad2, c2⟩ (by dsimp only; omega) ⟨hlt, by simp [hkl], by dsimp only; omega, ?_, ?_⟩ ⟨rfl, ?_, rfl, trivial⟩ (fun w H => ?_)
    · dsimp only
      rw [take_snoc hs, List.map_append, List.map_append, hdm]
      simp only [List.map_cons, List.map_nil, trN, cnN, mkC, hnf]
    · intro d hd
      rcases List.mem_append.1 hd with hd | hd
      · exact hds d hd
      · obtain rfl := List.mem_singleton.1 hd
        exact ⟨hx.peer, hx.as_, hx.id, hx.addr, hd'⟩
    · show some _ = some _
      simp
    · simp only [List.length_append, List.length_cons, List.length_nil]
      exact (Ow.has (M := [has (fun w => AtV w d'), has (cnV ds)]) (φ := cnV (ds ++ [⟨d', x.peer, x.as_, x.id, x.addr⟩])) H xZ (fun w hr => cnV_snoc hr (.there .here) (hr.has (φ := fun w => AtV w d') .here))).sel xZ
  · have htk : cs.take k = cs.take 10 := by
      rcases Nat.lt_or_ge k 10 with h | h
      · rw [List.take_of_length_le (by omega), List.take_of_length_le (by omega)]
      · rw [show k = 10 by omega]
    rw [htk] at hdm
    (repeat' (first | (refine gL ?_; first | refine yL0 ?_ | refine yL ?_ | (refine yM ?_; intro _) | (refine yA ?_; intro _ _ _ _)) | refine yJ ?_ | (refine yI ?_ ?_ <;> intro _ <;> try exact xX) | (refine yK ?_ ?_ <;> intro hgb <;> first | subst hgb | fail_if_success have : type_of% hgb := rfl) | fail))
    all_goals (first | (exfalso; omega) | skip)
    all_goals exact J_ret1 rfl (by rfl) fun w H => ⟨_, ⟨ds, ad, cc, rfl, hdm, hds, rfl⟩, H.sel xZ⟩
theorem trW_id {d : At} (h1 : d.path.length ≤ 6) (h2 : d.comms.length ≤ 40) (h3 : d.others.length ≤ 9) : d.trW.nf = d.nf := by
  unfold At.trW At.at_ At.nf
  simp only [List.take_of_length_le h1, List.take_of_length_le h2, List.take_of_length_le h3]
theorem trW_len (d : At) : d.trW.nf.path.length ≤ 6 ∧ d.trW.nf.comms.length ≤ 40 ∧ d.trW.nf.others.length ≤ 9 := by
  unfold At.trW At.at_ At.nf pN oN
  simp only [List.length_map, List.length_take]
  omega
theorem cands_again {cs ds : List B.Cd} (h : ds.map cnN = (cs.take 10).map trN) : (ds.take 10).map trN = ds.map cnN ∧ ds.length ≤ 10 := by
  have hl : ds.length ≤ 10 := by have := congrArg List.length h; simp only [List.length_map, List.length_take] at this; omega
  refine ⟨?_, hl⟩
  rw [List.take_of_length_le hl]
  refine List.map_congr_left fun d hd => ?_
  have hm : cnN d ∈ (cs.take 10).map trN := h ▸ List.mem_map.2 ⟨d, hd, rfl⟩
  obtain ⟨x, _, hx⟩ := List.mem_map.1 hm
  have hn : d.toAt.nf = x.toAt.trW.nf := (congrArg Qn.nf hx).symm
  obtain ⟨h1, h2, h3⟩ := trW_len x.toAt
  rw [← hn] at h1 h2 h3
  simp only [At.nf, pN, oN, List.length_map] at h1 h2 h3
  show Qn.mk _ _ _ _ d.toAt.trW.nf = Qn.mk _ _ _ _ d.toAt.nf
  rw [trW_id h1 h2 h3]
  rfl
def ofN (x : Qn) : B.Cd := ⟨⟨x.nf.origin, none, 0, x.nf.path.map (fun s => ⟨s.1, none, 0, s.2⟩), x.nf.next, x.nf.med.isSome, x.nf.med.getD 0, x.nf.loc.isSome, x.nf.loc.getD 0, x.nf.atomic, x.nf.maker.isSome, 0, 0, none, 0, x.nf.comms, none, 0, []⟩, x.peer, x.as_, x.id, x.addr⟩
def can (o : B.On) : B.On := ⟨ofN (cnN o.c), o.at_⟩
theorem can_path (o : B.On) : pN (can o).c.path = pN o.c.path := by
  show pN ((pN o.c.path).map fun s => (⟨s.1, none, 0, s.2⟩ : Sg)) = _
  unfold pN
  rw [List.map_map, List.map_map]
  rfl
theorem can_local (o : B.On) : B.cLocal (can o).c = B.cLocal o.c := by
  show (if (if o.c.hasLocal = true then some o.c.loc else none : Option Int).isSome = true then (if o.c.hasLocal = true then some o.c.loc else none : Option Int).getD 0 else 100) = if o.c.hasLocal = true then o.c.loc else 100
  cases o.c.hasLocal <;> rfl
theorem can_med (o : B.On) : B.cMed (can o).c = B.cMed o.c := by
  show (if (if o.c.hasMed = true then some o.c.med else none : Option Int).isSome = true then (if o.c.hasMed = true then some o.c.med else none : Option Int).getD 0 else 0) = if o.c.hasMed = true then o.c.med else 0
  cases o.c.hasMed <;> rfl
theorem can_nb (o : B.On) : B.cNb (can o).c = B.cNb o.c := by
  unfold B.cNb
  rw [can_path]
  rfl
theorem keep_can (D : B.On → Bool) (es : List B.On) : B.keepL D (es.map can) = (B.keepL (fun o => D (can o)) es).map can := by
  unfold B.keepL
  rw [List.filter_map]
  rfl
theorem minL_can {κ : B.On → Int} (h : ∀ o, κ (can o) = κ o) : ∀ (es : List B.On) (m : Int), B.minL κ (es.map can) m = B.minL κ es m
  | [], _ => rfl
  | o :: r, m => by
    simp only [List.map_cons, B.minL, h]
    exact minL_can h r _
theorem least_can {κ : B.On → Int} (h : ∀ o, κ (can o) = κ o) : ∀ (es : List B.On), B.leastL κ (es.map can) = (B.leastL κ es).map can
  | [] => rfl
  | o :: r => by
    have hm := minL_can h (o :: r) (κ o)
    simp only [List.map_cons] at hm
    simp only [List.map_cons, B.leastL, h]
    rw [hm, ← List.map_cons, keep_can]
    simp only [h]
theorem nbMed_can : ∀ (es : List B.On) (n : Int), B.nbMed (es.map can) n = B.nbMed es n
  | [], _ => rfl
  | o :: r, n => by
    simp only [List.map_cons, B.nbMed, can_nb, can_med, nbMed_can r n]
theorem meds_can (es : List B.On) : B.medsL (es.map can) = (B.medsL es).map can := by
  unfold B.medsL
  rw [keep_can]
  simp only [can_nb, can_med, nbMed_can]
theorem step_can (k : Int) (es : List B.On) : B.stepL k (es.map can) = (B.stepL k es).map can := by
  unfold B.stepL
  split
  · exact least_can (fun o => by rw [can_local]) es
  split
  · exact least_can (fun o => by rw [can_path]) es
  split
  · exact least_can (fun _ => rfl) es
  split
  · exact meds_can es
  split
  · exact least_can (fun _ => rfl) es
  split
  · exact least_can (fun _ => rfl) es
  split
  · exact least_can (fun _ => rfl) es
  · exact least_can (fun _ => rfl) es
theorem steps_can : ∀ (n : Nat) (es : List B.On), B.stepsN n (es.map can) = (B.stepsN n es).map can
  | 0, _ => rfl
  | n + 1, es => by
    simp only [B.stepsN, steps_can n es]
    exact step_can _ _
theorem ones_can (cs : List B.Cd) : B.onesL ((cs.map cnN).map ofN) = (B.onesL cs).map can := by
  unfold B.onesL
  rw [List.map_map, List.zipIdx_map, List.map_map, List.map_map]
  rfl
def pickN (l : List Qn) : Int := (B.leftL (l.map ofN) 8).head?.getD (-1)
theorem left_can (cs : List B.Cd) (s : Int) : B.leftL ((cs.map cnN).map ofN) s = B.leftL cs s := by
  unfold B.leftL
  rw [ones_can, steps_can, List.map_map]
  rfl
theorem pickN_cn (cs : List B.Cd) : (B.leftL cs 8).head?.getD (-1) = pickN (cs.map cnN) := by
  unfold pickN
  rw [left_can]
theorem pickN_in {l : List Qn} (h : l ≠ []) : ∃ k : Nat, pickN l = (k : Int) ∧ k < l.length := by
  obtain ⟨k, h1, h2⟩ := B.pick_in (cs := l.map ofN) (by simpa using h)
  exact ⟨k, h1, by simpa using h2⟩
theorem pickN_nil : pickN [] = -1 := B.pick_none
def letF (f : Qn → Option Nf) (l : List Qn) : List (Qn × Nat) := l.zipIdx.filterMap fun e => (f e.1).map fun n => (⟨e.1.peer, e.1.as_, e.1.id, e.1.addr, n⟩, e.2)
theorem letF_yes {f : Qn → Option Nf} {l : List Qn} {k : Nat} {x : Qn} {n : Nf} (h : l[k]? = some x) (hf : f x = some n) : letF f (l.take (k + 1)) = letF f (l.take k) ++ [(⟨x.peer, x.as_, x.id, x.addr, n⟩, k)] := by
  have hk : k < l.length := (List.getElem?_eq_some_iff.1 h).1
  unfold letF
  rw [take_snoc h, List.zipIdx_append, List.filterMap_append]
  simp [Nat.min_eq_left (Nat.le_of_lt hk), hf]
theorem letF_no {f : Qn → Option Nf} {l : List Qn} {k : Nat} {x : Qn} (h : l[k]? = some x) (hf : f x = none) : letF f (l.take (k + 1)) = letF f (l.take k) := by
  have hk : k < l.length := (List.getElem?_eq_some_iff.1 h).1
  unfold letF
  rw [take_snoc h, List.zipIdx_append, List.filterMap_append]
  simp [hf]
theorem letF_len (f : Qn → Option Nf) (l : List Qn) : (letF f l).length ≤ l.length := by
  unfold letF
  refine Nat.le_trans (List.length_filterMap_le _ _) ?_
  rw [List.length_zipIdx]
  exact Nat.le_refl _
end Go.Proofs.YtdnokmpnemaoaaaGreat
namespace Go.Proofs.YtdnokmpnemaoaaaGreat.T
set_option linter.unusedSimpArgs false
set_option linter.unusedVariables false
set_option maxRecDepth 20000
set_option maxHeartbeats 4000000
open Go.RowKit Go.Pm

def ret0 (v : Value) : Value → List HP → Prop := fun u L => u = v ∧ L = []
def U32 (z : Int) : Prop := 0 ≤ z ∧ z ≤ 4294967295
def I64 (z : Int) : Prop := -9223372036854775808 ≤ z ∧ z ≤ 9223372036854775807
abbrev Pf := Int × Int
def PfN (p : Pf) : Prop := U32 p.1 ∧ I64 p.2
abbrev pfC (p : Pf) : List Value := [.int .u32 p.1, .int .i64 p.2]
def pw (l : Int) : Int := 2 ^ (32 - l).toNat
def Rt (p : Pf) : Prop := 0 ≤ p.2 ∧ p.2 ≤ 32 ∧ p.1 % pw p.2 = 0
instance (p : Pf) : Decidable (Rt p) := inferInstanceAs (Decidable (_ ∧ _ ∧ _))
def Wi (p q : Pf) : Prop := Rt p ∧ Rt q ∧ p.2 ≤ q.2 ∧ q.1 / pw p.2 = p.1 / pw p.2
instance (p q : Pf) : Decidable (Wi p q) := inferInstanceAs (Decidable (_ ∧ _ ∧ _ ∧ _))

theorem pw_pos (l : Int) : 0 < pw l := Int.pow_pos (by omega)
theorem pw_le (l : Int) (h : 0 ≤ l) : pw l ≤ 4294967296 := by
  unfold pw
  have : (2 : Int) ^ (32 - l).toNat ≤ 2 ^ 32 := by
    have h1 : (2 : Nat) ^ (32 - l).toNat ≤ 2 ^ 32 := Nat.pow_le_pow_right (by omega) (by omega)
    exact_mod_cast h1
  omega
theorem pw_0 : pw 0 = 4294967296 := rfl
theorem pw_succ (l : Int) (h0 : 0 ≤ l) (h : l < 32) : pw l = 2 * pw (l + 1) := by
  unfold pw
  rw [show (32 - l).toNat = (32 - (l + 1)).toNat + 1 by omega, Int.pow_succ]
  omega
theorem mask_fits (a l : Int) (ha : U32 a) (h : 0 ≤ l) : U32 (a - a % pw l) := by
  have h1 := Int.emod_nonneg a (Int.ne_of_gt (pw_pos l))
  have h2 := Int.emod_lt_of_pos a (pw_pos l)
  have h3 : a % pw l ≤ a := by
    have := Int.mul_ediv_add_emod a (pw l)
    have h4 : 0 ≤ pw l * (a / pw l) := Int.mul_nonneg (Int.le_of_lt (pw_pos l)) (Int.ediv_nonneg ha.1 (Int.le_of_lt (pw_pos l)))
    omega
  unfold U32 at *
  omega
theorem mask_s (a l : Int) (ha : U32 a) (h0 : 0 ≤ l) (h1 : l ≤ 32) : Pact Tryz.prog 105 #[.int .u32 a, .int .i64 l] (fun _ => True) [] (ret0 (.int .u32 (a - a % pw l))) := by
  refine pact Tryz.func105 rfl Tryz.ntmps105 rfl ?_
  intro W K _
  have hm : (32 - l) = (((32 - l).toNat : Nat) : Int) := by omega
  have hle := pw_le l h0
  have hpos := pw_pos l
  have e1 : (1 : Int) * 2 ^ (32 - l).toNat = pw l := by unfold pw; omega
  unfold U32 at ha
  (repeat' (first | (refine gL ?_; first | refine yL0 ?_ | (refine gL_bin_shl ?_; (refine JL_p rfl xR xR (pe_shl (m := (32 - l).toNat) xR xR hm (by show _ ≤ 64; omega) (w_u64 (by rw [e1]; omega) (by rw [e1]; omega))) ?_)) | refine yL ?_) | refine yJ ?_ | fail))
  refine J_ret1 rfl (by rfl) fun w H => ⟨[], ⟨?_, rfl⟩, H.sel .nil⟩
  rw [e1]
  have := bits_andNot (a := a) (m := (32 - l).toNat) (by omega) (by omega) (by omega)
  unfold pw at *
  rw [this]
theorem first_s (a l : Int) (ha : U32 a) (h0 : 0 ≤ l) (h1 : l ≤ 32) : Pact Tryz.prog 170 #[.int .u32 a, .int .i64 l] (fun _ => True) [] (ret0 (.int .u32 (a - a % pw l))) := by
  refine pact Tryz.func170 rfl Tryz.ntmps170 rfl ?_
  intro W K _
  have hm : (32 - l) = (((32 - l).toNat : Nat) : Int) := by omega
  have hle := pw_le l h0
  have hpos := pw_pos l
  have e1 : (1 : Int) * 2 ^ (32 - l).toNat = pw l := by unfold pw; omega
  unfold U32 at ha
  (repeat' (first | (refine gL ?_; first | refine yL0 ?_ | (refine gL_bin_shl ?_; (refine JL_p rfl xR xR (pe_shl (m := (32 - l).toNat) xR xR hm (by show _ ≤ 64; omega) (w_u64 (by rw [e1]; omega) (by rw [e1]; omega))) ?_)) | refine yL ?_) | refine yJ ?_ | fail))
  refine J_ret1 rfl (by rfl) fun w H => ⟨[], ⟨?_, rfl⟩, H.sel .nil⟩
  rw [e1]
  have := bits_andNot (a := a) (m := (32 - l).toNat) (by omega) (by omega) (by omega)
  unfold pw at *
  rw [this]
def bt (a l : Int) : Int := a / pw (l + 1) % 2
theorem bt_cases (a l : Int) : bt a l = 0 ∨ bt a l = 1 := by unfold bt; omega
theorem bit_s (a l : Int) (ha : U32 a) (h0 : 0 ≤ l) (h1 : l ≤ 31) : Pact Tryz.prog 140 #[.int .u32 a, .int .i64 l] (fun _ => True) [] (ret0 (.int .i64 (bt a l))) := by
  refine pact Tryz.func140 rfl Tryz.ntmps140 rfl ?_
  intro W K _
  have hm : (31 - l) = (((31 - l).toNat : Nat) : Int) := by omega
  have e1 : (2 : Int) ^ (31 - l).toNat = pw (l + 1) := by unfold pw; rw [show (32 - (l + 1)).toNat = (31 - l).toNat by omega]
  unfold U32 at ha
  have hd : 0 ≤ a / 2 ^ (31 - l).toNat := Int.ediv_nonneg ha.1 (Int.le_of_lt (Int.pow_pos (by omega)))
  have hd2 : a / 2 ^ (31 - l).toNat ≤ a := Int.ediv_le_self _ ha.1
  (repeat' (first | (refine gL ?_; first | refine yL0 ?_ | (refine gL_bin_shr ?_; (refine JL_p rfl xR xR (pe_shr (m := (31 - l).toNat) xR xR hm (by show _ ≤ 32; omega)) ?_)) | refine yL ?_) | refine yJ ?_ | fail))
  refine J_ret1 rfl (by rfl) fun w H => ⟨[], ⟨?_, rfl⟩, H.sel .nil⟩
  rw [bits_and1 (by omega) (by omega), e1]
  rfl
theorem mask_eq {p q : Pf} (hp : Rt p) : q.1 - q.1 % pw p.2 = p.1 ↔ q.1 / pw p.2 = p.1 / pw p.2 := by
  have h1 := Int.mul_ediv_add_emod q.1 (pw p.2)
  have h2 := Int.mul_ediv_add_emod p.1 (pw p.2)
  have h3 := hp.2.2
  have hpos := pw_pos p.2
  constructor
  · intro h
    have h4 : pw p.2 * (q.1 / pw p.2) = pw p.2 * (p.1 / pw p.2) := by omega
    exact Int.eq_of_mul_eq_mul_left (Int.ne_of_gt hpos) h4
  · intro h
    rw [h] at h1
    omega
theorem right_s (p : Pf) (hp : PfN p) : Pact Tryz.prog 65 #[.agg (pfC p).toArray] (fun _ => True) [] (ret0 (.bool (decide (Rt p)))) := by
  refine pact Tryz.func65 rfl Tryz.ntmps65 rfl ?_
  intro W K _
  (repeat' (first | (refine gL ?_; first | refine yL0 ?_ | refine yL ?_ | (refine yM ?_; intro _)) | (refine gD ?_; first | (refine yN ?_; try simp only [cAp, nAp]) | refine yD0 ?_ | refine yD ?_ | (refine gD_go ?_; (refine JD_goq (mask_s p.1 p.2 hp.1 (by omega) (by omega)) (hφ := xF) (h := ?_); rintro _ _ ⟨rfl, rfl⟩; try simp only [cAp, nAp]))) | refine yJ ?_ | refine J_draw (id := 1) [0, 1, 2, 3, 4, 5, 6, 7, 8, 9, 10, 11, 12, 14, 15, 13] [16, 17, 18] mixed xC xD xD ?_ | (refine yI ?_ ?_ <;> intro _ <;> try exact xX) | (refine yK ?_ ?_ <;> intro hgb <;> first | subst hgb | fail_if_success have : type_of% hgb := rfl) | fail))
  all_goals (refine J_ret1 rfl (by rfl) fun w H => ⟨[], ⟨?_, rfl⟩, H.sel .nil⟩)
  all_goals congr 1
  · rename_i h1 h2
    simp only [Rt, h1, h2, true_and]
    congr 1
    simp only [eq_iff_iff]
    omega
  · rename_i h1 h2
    simp [Rt, h1, h2]
  · rename_i h1
    simp [Rt, h1]
end Go.Proofs.YtdnokmpnemaoaaaGreat.T
