/-
  Bq5, Bq6, Bq7: merged.
-/
import Derived.Test.YtdnokmpnemaoaaaGreatZViewForeign15
namespace Go.Proofs.YtdnokmpnemaoaaaGreat.B
set_option linter.unusedSimpArgs false
set_option linter.unusedVariables false
set_option maxRecDepth 20000
set_option maxHeartbeats 4000000
open Go.RowKit Go.Pm

def minL (κ : On → Int) : List On → Int → Int
  | [], m => m
  | o :: r, m => minL κ r (min m (κ o))
theorem minL_snoc (κ : On → Int) : ∀ (l : List On) (m : Int) (o : On), minL κ (l ++ [o]) m = min (minL κ l m) (κ o)
  | [], _, _ => rfl
  | _ :: r, m, o => minL_snoc κ r _ o
def leastL (κ : On → Int) : List On → List On
  | [] => []
  | o :: r => keepL (fun x => decide (κ x ≠ minL κ (o :: r) (κ o))) (o :: r)
def Ones (es : List On) (v : Value) (L' : List HP) : Prop := ∃ a' c', v = .slice a' es.length c' ∧ L' = [Ar 162 18 onC (.slice a' es.length c') es]

theorem leastI_s (a : Option Addr) (c : Nat) (es : List On) (F : FuncId) (κ : On → Int) (hk : Key .i64 F κ) (hn : ∀ o ∈ es, CdN o.c ∧ I64 o.at_) :
    Pact Tryz.prog 124 #[.slice a es.length c, .func (.func F) #[] #[]] (pathsV es) [Ar 162 18 onC (.slice a es.length c) es] (Ones (leastL κ es)) := by
  have ho := hk.1
  refine pact Tryz.func124 rfl Tryz.ntmps124 rfl ?_
  intro W K hK
  refine J_fact (φ := es.length ≤ c ∧ c ≤ maxLen) (fun w H => (H.arShape .here).2) ?_
  rintro ⟨hnc, hcm⟩
  unfold maxLen at hcm
  cases es with
  | nil =>
    (repeat' (first | ((with_reducible apply gL); (first | refine yL0 ?_ | refine yL ?_ | (refine yM ?_; intro _) | fail)) | ((with_reducible apply gD); (first | (refine JD_nil ?_; try simp only [List.cons_append, List.nil_append]) | (refine JD_bar ?_; try simp only [List.cons_append, List.nil_append]) | refine yD ?_ | (refine yE ?_; intro _) | fail)) | refine yJ ?_ | ((with_reducible apply gJ_if); (first | (refine J_if xR ?_ ?_ <;> intro _ <;> (try (exfalso; first | contradiction | omega))) | (refine J_ifb xR ?_ ?_ <;> (intro hgb; subst hgb)) | (refine J_ifb xR ?_ ?_ <;> intro _) | fail)) | refine J_draw (id := 3) [0, 1, 2, 3, 4, 5] [6] mixed xC xD xD ?_ | refine J_draw (id := 7) [0, 1, 2, 3] [4, 5] mixed xC xD xD ?_ | fail))
    all_goals (refine J_ret1 rfl (by rfl) fun w H => ⟨_, ⟨a, c, rfl, rfl⟩, H.sel xZ⟩)
  | cons o r =>
    generalize hes : o :: r = es at *
    have h0 : es[0]? = some o := by rw [← hes]; rfl
    have hlen : 0 < es.length := by rw [← hes]; simp
    have hm0 := List.mem_of_getElem? h0
    (repeat' (first | ((with_reducible apply gL); (first | refine yL0 ?_ | refine yL ?_ | ((with_reducible apply gL_go); (first | (refine JL_goq (hk.2 o (hn o hm0).1 (hn o hm0).2) (hφ := (by (try simp only [List.cons_append, List.nil_append]); exact fun w hr => hK w hr.1 o hm0)) (h := ?_); rintro _ _ ⟨rfl, rfl⟩; try simp only [List.cons_append, List.nil_append]) | fail)) | (refine yM ?_; intro _) | fail)) | ((with_reducible apply gD); (first | (refine JD_nil ?_; try simp only [List.cons_append, List.nil_append]) | (refine JD_bar ?_; try simp only [List.cons_append, List.nil_append]) | refine yD ?_ | ((with_reducible apply gD_go); (first | (refine JD_goq (hk.2 o (hn o hm0).1 (hn o hm0).2) (hφ := (by (try simp only [List.cons_append, List.nil_append]); exact fun w hr => hK w hr.1 o hm0)) (h := ?_); rintro _ _ ⟨rfl, rfl⟩; try simp only [List.cons_append, List.nil_append]) | fail)) | (refine yE ?_; intro _) | fail)) | refine yJ ?_ | ((with_reducible apply gJ_if); (first | (refine J_if xR ?_ ?_ <;> intro _ <;> (try (exfalso; first | contradiction | omega))) | (refine J_ifb xR ?_ ?_ <;> (intro hgb; subst hgb)) | (refine J_ifb xR ?_ ?_ <;> intro _) | fail)) | refine J_draw (id := 3) [0, 1, 2, 3, 4, 5] [6] mixed xC xD xD ?_ | refine J_draw (id := 7) [0, 1, 2, 3] [4, 5] mixed xC xD xD ?_ | fail))
    rename_i g1 _ g2
    refine J_loop (α := Nat) 0 (fun k => es.length - k) (fun k => k ≤ es.length) (fun k => [(0, .slice a es.length c), (3, .pointer (some ⟨g1, 0, none⟩)), (5, .pointer (some ⟨g2, 0, none⟩)), (17, .slice a es.length c), (18, .int .i64 es.length), (19, .int .i64 k)])
      (fun k => [Ar 162 18 onC (.slice a es.length c) es, pts g1 [.func (.func F) #[] #[]] 197, pts g2 [.int .i64 (minL κ (es.take k) (κ o))] 3]) (Nat.zero_le _) ⟨rfl, rfl, rfl, rfl, rfl, rfl, trivial⟩ (fun w H => H.sel xZ) ?_
    intro k hkl
    by_cases hlt : k < es.length
    · obtain ⟨x, hs⟩ : ∃ x, es[k]? = some x := ⟨_, List.getElem?_eq_getElem hlt⟩
      have hm := List.mem_of_getElem? hs
      (repeat' (first | ((with_reducible apply gL); (first | refine yL0 ?_ | refine yL ?_ | ((with_reducible apply gL_go); (first | (refine JL_goq (hk.2 x (hn x hm).1 (hn x hm).2) (hφ := (by (try simp only [List.cons_append, List.nil_append]); exact fun w hr => hK w hr.1 x hm)) (h := ?_); rintro _ _ ⟨rfl, rfl⟩; try simp only [List.cons_append, List.nil_append]) | fail)) | (refine yM ?_; intro _) | fail)) | ((with_reducible apply gD); (first | (refine JD_nil ?_; try simp only [List.cons_append, List.nil_append]) | (refine JD_bar ?_; try simp only [List.cons_append, List.nil_append]) | refine yD ?_ | ((with_reducible apply gD_go); (first | (refine JD_goq (hk.2 x (hn x hm).1 (hn x hm).2) (hφ := (by (try simp only [List.cons_append, List.nil_append]); exact fun w hr => hK w hr.1 x hm)) (h := ?_); rintro _ _ ⟨rfl, rfl⟩; try simp only [List.cons_append, List.nil_append]) | fail)) | (refine yE ?_; intro _) | fail)) | refine yJ ?_ | ((with_reducible apply gJ_if); (first | (refine J_if xR ?_ ?_ <;> intro _ <;> (try (exfalso; first | contradiction | omega))) | (refine J_ifb xR ?_ ?_ <;> (intro hgb; subst hgb)) | (refine J_ifb xR ?_ ?_ <;> intro _) | fail)) | refine J_draw (id := 3) [0, 1, 2, 3, 4, 5] [6] mixed xC xD xD ?_ | refine J_draw (id := 7) [0, 1, 2, 3] [4, 5] mixed xC xD xD ?_ | fail))
      refine J_again (k + 1) (by omega) (by omega) ⟨rfl, rfl, rfl, rfl, rfl, rfl, trivial⟩ (fun w H => ?_)
      rw [take_snoc hs, minL_snoc]
      exact H.sel xZ
    · obtain rfl : k = es.length := by omega
      rw [List.take_length]
      (repeat' (first | ((with_reducible apply gL); (first | refine yL0 ?_ | refine yL ?_ | ((with_reducible apply gL_go); (first | (refine JL_goq (delete_s a c es 157 [.pointer (some ⟨g1, 0, none⟩), .pointer (some ⟨g2, 0, none⟩)] (fun x => decide (κ x ≠ minL κ es (κ o))) _ (tstI F κ _ g1 g2 hk) hn (by omega)) (hφ := (by (try simp only [List.cons_append, List.nil_append]); exact fun w hr => ⟨⟨hr.cell xA rfl, hr.cell xA rfl⟩, hK w hr.1⟩)) (h := ?_); rintro _ _ ⟨a', c', rfl, rfl⟩; try simp only [List.cons_append, List.nil_append]) | fail)) | (refine yM ?_; intro _) | fail)) | ((with_reducible apply gD); (first | (refine JD_nil ?_; try simp only [List.cons_append, List.nil_append]) | (refine JD_bar ?_; try simp only [List.cons_append, List.nil_append]) | refine yD ?_ | ((with_reducible apply gD_go); (first | (refine JD_goq (delete_s a c es 157 [.pointer (some ⟨g1, 0, none⟩), .pointer (some ⟨g2, 0, none⟩)] (fun x => decide (κ x ≠ minL κ es (κ o))) _ (tstI F κ _ g1 g2 hk) hn (by omega)) (hφ := (by (try simp only [List.cons_append, List.nil_append]); exact fun w hr => ⟨⟨hr.cell xA rfl, hr.cell xA rfl⟩, hK w hr.1⟩)) (h := ?_); rintro _ _ ⟨a', c', rfl, rfl⟩; try simp only [List.cons_append, List.nil_append]) | fail)) | (refine yE ?_; intro _) | fail)) | refine yJ ?_ | ((with_reducible apply gJ_if); (first | (refine J_if xR ?_ ?_ <;> intro _ <;> (try (exfalso; first | contradiction | omega))) | (refine J_ifb xR ?_ ?_ <;> (intro hgb; subst hgb)) | (refine J_ifb xR ?_ ?_ <;> intro _) | fail)) | refine J_draw (id := 3) [0, 1, 2, 3, 4, 5] [6] mixed xC xD xD ?_ | refine J_draw (id := 7) [0, 1, 2, 3] [4, 5] mixed xC xD xD ?_ | fail))
      refine J_ret1 rfl (by rfl) fun w H => ⟨_, ⟨a', c', ?_, rfl⟩, ?_⟩
      all_goals subst hes
      · rfl
      · exact H.sel xZ
theorem leastA_s (a : Option Addr) (c : Nat) (es : List On) (F : FuncId) (κ : On → Int) (hk : Key .u32 F κ) (hn : ∀ o ∈ es, CdN o.c ∧ I64 o.at_) :
    Pact Tryz.prog 131 #[.slice a es.length c, .func (.func F) #[] #[]] (pathsV es) [Ar 162 18 onC (.slice a es.length c) es] (Ones (leastL κ es)) := by
  have ho := hk.1
  refine pact Tryz.func131 rfl Tryz.ntmps131 rfl ?_
  intro W K hK
  refine J_fact (φ := es.length ≤ c ∧ c ≤ maxLen) (fun w H => (H.arShape .here).2) ?_
  rintro ⟨hnc, hcm⟩
  unfold maxLen at hcm
  cases es with
  | nil =>
    (repeat' (first | ((with_reducible apply gL); (first | refine yL0 ?_ | refine yL ?_ | (refine yM ?_; intro _) | fail)) | ((with_reducible apply gD); (first | (refine JD_nil ?_; try simp only [List.cons_append, List.nil_append]) | (refine JD_bar ?_; try simp only [List.cons_append, List.nil_append]) | refine yD ?_ | (refine yE ?_; intro _) | fail)) | refine yJ ?_ | ((with_reducible apply gJ_if); (first | (refine J_if xR ?_ ?_ <;> intro _ <;> (try (exfalso; first | contradiction | omega))) | (refine J_ifb xR ?_ ?_ <;> (intro hgb; subst hgb)) | (refine J_ifb xR ?_ ?_ <;> intro _) | fail)) | refine J_draw (id := 3) [0, 1, 2, 3, 4, 5] [6] mixed xC xD xD ?_ | refine J_draw (id := 7) [0, 1, 2, 3] [4, 5] mixed xC xD xD ?_ | fail))
    all_goals (refine J_ret1 rfl (by rfl) fun w H => ⟨_, ⟨a, c, rfl, rfl⟩, H.sel xZ⟩)
  | cons o r =>
    generalize hes : o :: r = es at *
    have h0 : es[0]? = some o := by rw [← hes]; rfl
    have hlen : 0 < es.length := by rw [← hes]; simp
    have hm0 := List.mem_of_getElem? h0
    (repeat' (first | ((with_reducible apply gL); (first | refine yL0 ?_ | refine yL ?_ | ((with_reducible apply gL_go); (first | (refine JL_goq (hk.2 o (hn o hm0).1 (hn o hm0).2) (hφ := (by (try simp only [List.cons_append, List.nil_append]); exact fun w hr => hK w hr.1 o hm0)) (h := ?_); rintro _ _ ⟨rfl, rfl⟩; try simp only [List.cons_append, List.nil_append]) | fail)) | (refine yM ?_; intro _) | fail)) | ((with_reducible apply gD); (first | (refine JD_nil ?_; try simp only [List.cons_append, List.nil_append]) | (refine JD_bar ?_; try simp only [List.cons_append, List.nil_append]) | refine yD ?_ | ((with_reducible apply gD_go); (first | (refine JD_goq (hk.2 o (hn o hm0).1 (hn o hm0).2) (hφ := (by (try simp only [List.cons_append, List.nil_append]); exact fun w hr => hK w hr.1 o hm0)) (h := ?_); rintro _ _ ⟨rfl, rfl⟩; try simp only [List.cons_append, List.nil_append]) | fail)) | (refine yE ?_; intro _) | fail)) | refine yJ ?_ | ((with_reducible apply gJ_if); (first | (refine J_if xR ?_ ?_ <;> intro _ <;> (try (exfalso; first | contradiction | omega))) | (refine J_ifb xR ?_ ?_ <;> (intro hgb; subst hgb)) | (refine J_ifb xR ?_ ?_ <;> intro _) | fail)) | refine J_draw (id := 3) [0, 1, 2, 3, 4, 5] [6] mixed xC xD xD ?_ | refine J_draw (id := 7) [0, 1, 2, 3] [4, 5] mixed xC xD xD ?_ | fail))
    rename_i g1 _ g2
    refine J_loop (α := Nat) 0 (fun k => es.length - k) (fun k => k ≤ es.length) (fun k => [(0, .slice a es.length c), (3, .pointer (some ⟨g1, 0, none⟩)), (5, .pointer (some ⟨g2, 0, none⟩)), (17, .slice a es.length c), (18, .int .i64 es.length), (19, .int .i64 k)])
      (fun k => [Ar 162 18 onC (.slice a es.length c) es, pts g1 [.func (.func F) #[] #[]] 200, pts g2 [.int .u32 (minL κ (es.take k) (κ o))] 26]) (Nat.zero_le _) ⟨rfl, rfl, rfl, rfl, rfl, rfl, trivial⟩ (fun w H => H.sel xZ) ?_
    intro k hkl
    by_cases hlt : k < es.length
    · obtain ⟨x, hs⟩ : ∃ x, es[k]? = some x := ⟨_, List.getElem?_eq_getElem hlt⟩
      have hm := List.mem_of_getElem? hs
      (repeat' (first | ((with_reducible apply gL); (first | refine yL0 ?_ | refine yL ?_ | ((with_reducible apply gL_go); (first | (refine JL_goq (hk.2 x (hn x hm).1 (hn x hm).2) (hφ := (by (try simp only [List.cons_append, List.nil_append]); exact fun w hr => hK w hr.1 x hm)) (h := ?_); rintro _ _ ⟨rfl, rfl⟩; try simp only [List.cons_append, List.nil_append]) | fail)) | (refine yM ?_; intro _) | fail)) | ((with_reducible apply gD); (first | (refine JD_nil ?_; try simp only [List.cons_append, List.nil_append]) | (refine JD_bar ?_; try simp only [List.cons_append, List.nil_append]) | refine yD ?_ | ((with_reducible apply gD_go); (first | (refine JD_goq (hk.2 x (hn x hm).1 (hn x hm).2) (hφ := (by (try simp only [List.cons_append, List.nil_append]); exact fun w hr => hK w hr.1 x hm)) (h := ?_); rintro _ _ ⟨rfl, rfl⟩; try simp only [List.cons_append, List.nil_append]) | fail)) | (refine yE ?_; intro _) | fail)) | refine yJ ?_ | ((with_reducible apply gJ_if); (first | (refine J_if xR ?_ ?_ <;> intro _ <;> (try (exfalso; first | contradiction | omega))) | (refine J_ifb xR ?_ ?_ <;> (intro hgb; subst hgb)) | (refine J_ifb xR ?_ ?_ <;> intro _) | fail)) | refine J_draw (id := 3) [0, 1, 2, 3, 4, 5] [6] mixed xC xD xD ?_ | refine J_draw (id := 7) [0, 1, 2, 3] [4, 5] mixed xC xD xD ?_ | fail))
      refine J_again (k + 1) (by omega) (by omega) ⟨rfl, rfl, rfl, rfl, rfl, rfl, trivial⟩ (fun w H => ?_)
      rw [take_snoc hs, minL_snoc]
      exact H.sel xZ
    · obtain rfl : k = es.length := by omega
      rw [List.take_length]
      (repeat' (first | ((with_reducible apply gL); (first | refine yL0 ?_ | refine yL ?_ | ((with_reducible apply gL_go); (first | (refine JL_goq (delete_s a c es 161 [.pointer (some ⟨g1, 0, none⟩), .pointer (some ⟨g2, 0, none⟩)] (fun x => decide (κ x ≠ minL κ es (κ o))) _ (tstA F κ _ g1 g2 hk) hn (by omega)) (hφ := (by (try simp only [List.cons_append, List.nil_append]); exact fun w hr => ⟨⟨hr.cell xA rfl, hr.cell xA rfl⟩, hK w hr.1⟩)) (h := ?_); rintro _ _ ⟨a', c', rfl, rfl⟩; try simp only [List.cons_append, List.nil_append]) | fail)) | (refine yM ?_; intro _) | fail)) | ((with_reducible apply gD); (first | (refine JD_nil ?_; try simp only [List.cons_append, List.nil_append]) | (refine JD_bar ?_; try simp only [List.cons_append, List.nil_append]) | refine yD ?_ | ((with_reducible apply gD_go); (first | (refine JD_goq (delete_s a c es 161 [.pointer (some ⟨g1, 0, none⟩), .pointer (some ⟨g2, 0, none⟩)] (fun x => decide (κ x ≠ minL κ es (κ o))) _ (tstA F κ _ g1 g2 hk) hn (by omega)) (hφ := (by (try simp only [List.cons_append, List.nil_append]); exact fun w hr => ⟨⟨hr.cell xA rfl, hr.cell xA rfl⟩, hK w hr.1⟩)) (h := ?_); rintro _ _ ⟨a', c', rfl, rfl⟩; try simp only [List.cons_append, List.nil_append]) | fail)) | (refine yE ?_; intro _) | fail)) | refine yJ ?_ | ((with_reducible apply gJ_if); (first | (refine J_if xR ?_ ?_ <;> intro _ <;> (try (exfalso; first | contradiction | omega))) | (refine J_ifb xR ?_ ?_ <;> (intro hgb; subst hgb)) | (refine J_ifb xR ?_ ?_ <;> intro _) | fail)) | refine J_draw (id := 3) [0, 1, 2, 3, 4, 5] [6] mixed xC xD xD ?_ | refine J_draw (id := 7) [0, 1, 2, 3] [4, 5] mixed xC xD xD ?_ | fail))
      refine J_ret1 rfl (by rfl) fun w H => ⟨_, ⟨a', c', ?_, rfl⟩, ?_⟩
      all_goals subst hes
      · rfl
      · exact H.sel xZ
end Go.Proofs.YtdnokmpnemaoaaaGreat.B
namespace Go.Proofs.YtdnokmpnemaoaaaGreat.B
set_option linter.unusedSimpArgs false
set_option linter.unusedVariables false
set_option maxRecDepth 20000
set_option maxHeartbeats 4000000
open Go.RowKit Go.Pm

def nbMed : List On → Int → Option Int
  | [], _ => none
  | o :: r, n => match nbMed r n with
    | none => if cNb o.c = n then some (cMed o.c) else none
    | some m => some (if cNb o.c = n then min (cMed o.c) m else m)
def MedMap (es : List On) (mm : List (Int × Value)) : Prop := ∀ n, alGet mm n = (nbMed es n).map (Value.int .i64)

theorem MedMap.look {es : List On} {mm : List (Int × Value)} (h : MedMap es mm) (n : Int) : lookV (alGet mm n) (.int .i64 0) false = .int .i64 ((nbMed es n).getD 0) := by
  rw [h n]
  cases nbMed es n <;> rfl
theorem MedMap.look2 {es : List On} {mm : List (Int × Value)} (h : MedMap es mm) (n : Int) : lookV (alGet mm n) (.int .i64 0) true = .tuple [.int .i64 ((nbMed es n).getD 0), .bool (nbMed es n).isSome].toArray := by
  rw [h n]
  cases nbMed es n <;> rfl
theorem nbMed_snoc : ∀ (es : List On) (o : On) (n : Int), nbMed (es ++ [o]) n = if cNb o.c = n then some (match nbMed es n with | none => cMed o.c | some m => min m (cMed o.c)) else nbMed es n
  | [], o, n => by simp [nbMed]
  | x :: r, o, n => by
    have ih := nbMed_snoc r o n
    simp only [List.cons_append, nbMed, ih]
    by_cases h : cNb o.c = n
    · simp only [if_pos h]
      cases nbMed r n <;> (by_cases hx : cNb x.c = n <;> simp [hx]; try omega)
    · simp only [if_neg h]

theorem meds1_s (g1 b : Nat) (mm : List (Int × Value)) (es : List On) (hm : MedMap es mm) : Tst 160 [.pointer (some ⟨g1, 0, none⟩)] (fun o => decide ((nbMed es (cNb o.c)).getD 0 < cMed o.c)) (fun w => w.cell? ⟨g1, 0, none⟩ = some (.map (some b)) ∧ ∃ h, mp .u32 b mm h ∧ h.inn w) := by
  refine ⟨by decide +kernel, fun o h ha => ?_⟩
  refine pact Tryz.func160 rfl Tryz.ntmps160 rfl ?_
  intro W K hK
  have h1 := hK.left.left
  have h2 := hK.left.right
  have hlook := hm.look
  (repeat' (first | ((with_reducible apply gL); (first | refine yL0 ?_ | refine yL ?_ | (refine yM ?_; intro _) | fail)) | ((with_reducible apply gD); (first | (refine JD_nil ?_; try simp only [List.cons_append, List.nil_append]) | (refine JD_bar ?_; try simp only [List.cons_append, List.nil_append]) | refine yD ?_ | ((with_reducible apply gD_go); (first | (refine JD_goq (med_s o.c h) (hφ := xF) (h := ?_); rintro _ _ ⟨rfl, rfl⟩; try simp only [List.cons_append, List.nil_append]) | (refine JD_goq (nb_s o.c h) (hφ := (by (try simp only [List.cons_append, List.nil_append]); exact fun w hr => (hK w hr.1).2)) (h := ?_); rintro _ _ ⟨rfl, rfl⟩; try simp only [List.cons_append, List.nil_append]) | fail)) | ((with_reducible apply gD_lookup); (first | refine JD_p rfl xR rfl (pe_lookup xR xR (tabM mtab_ok xR) xT (by first | apply hlook | apply hlook2 | rfl)) ?_ | refine JD_p rfl xR rfl (pe_lookupK xR xR (tabM mtab_ok xR) xH (by first | apply hlook | apply hlook2 | rfl)) ?_ | refine JD_lookM xR xR (tabM mtab_ok xR) xT (by first | apply hlook | apply hlook2 | rfl) xR ?_ | fail)) | fail)) | refine yJ ?_ | refine J_draw (id := 1) [0, 1, 3, 4, 5, 2, 6] [7, 8, 9] mixed xC xD xD ?_ | fail))
  all_goals (refine J_ret1 rfl (by rfl) fun w H => ⟨[], ⟨rfl, rfl⟩, H.sel .nil⟩)

def medsL (es : List On) : List On := keepL (fun o => decide ((nbMed es (cNb o.c)).getD 0 < cMed o.c)) es
theorem med_put {l : List On} {mm : List (Int × Value)} {x : On} (hm : MedMap l mm) (h : ∀ m, nbMed l (cNb x.c) = some m → cMed x.c < m) : MedMap (l ++ [x]) (alPut mm (cNb x.c) (.int .i64 (cMed x.c))) := fun n => by
  rw [alGet_put, nbMed_snoc]
  by_cases hx : n = cNb x.c
  · subst hx
    rw [if_pos rfl, if_pos rfl]
    cases hq : nbMed l (cNb x.c) with
    | none => rfl
    | some m => have := h m hq; simp; omega
  · rw [if_neg hx, if_neg (Ne.symm hx)]
    exact hm n
theorem med_keep {l : List On} {mm : List (Int × Value)} {x : On} (hm : MedMap l mm) (h : ∃ m, nbMed l (cNb x.c) = some m ∧ ¬ cMed x.c < m) : MedMap (l ++ [x]) mm := fun n => by
  rw [nbMed_snoc, hm n]
  by_cases hx : cNb x.c = n
  · subst hx
    obtain ⟨m, h1, h2⟩ := h
    rw [if_pos rfl, h1]
    simp; omega
  · rw [if_neg hx]
structure Mk where
  k : Nat
  mm : List (Int × Value)
theorem meds_s (a : Option Addr) (c : Nat) (es : List On) (hn : ∀ o ∈ es, CdN o.c ∧ I64 o.at_) :
    Pact Tryz.prog 130 #[.slice a es.length c] (pathsV es) [Ar 162 18 onC (.slice a es.length c) es] (Ones (medsL es)) := by
  refine pact Tryz.func130 rfl Tryz.ntmps130 rfl ?_
  intro W K hK
  refine J_fact (φ := es.length ≤ c ∧ c ≤ maxLen) (fun w H => (H.arShape .here).2) ?_
  rintro ⟨hnc, hcm⟩
  unfold maxLen at hcm
  (repeat' (first | ((with_reducible apply gL); (first | refine yL0 ?_ | refine yL ?_ | (refine yM ?_; intro _) | ((with_reducible apply gL_lookup); (first | refine JL_p rfl xR xR (pe_lookup xR xR (tabM mtab_ok xR) xT (by first | apply hlook | apply hlook2 | rfl)) ?_ | refine JL_p rfl xR xR (pe_lookupK xR xR (tabM mtab_ok xR) xH (by first | apply hlook | apply hlook2 | rfl)) ?_ | fail)) | ((with_reducible apply gL_makeMap); (first | (refine JL_mm (tabM mtab_ok xR) xR xR ?_; intro _) | fail)) | ((with_reducible apply gL_gd); (first | (refine JL_guard xR xR ?_ ?_ <;> intro _ <;> (try (exfalso; first | contradiction | omega))) | (refine JL_guardb xR xR ?_ ?_ <;> (intro hgb; subst hgb)) | (refine JL_guardb xR xR ?_ ?_ <;> (intro hgb; fail_if_success (have : type_of% hgb := rfl))) | fail)) | fail)) | ((with_reducible apply gD); (first | (refine JD_nil ?_; try simp only [List.cons_append, List.nil_append]) | (refine JD_bar ?_; try simp only [List.cons_append, List.nil_append]) | refine yD ?_ | ((with_reducible apply gD_mapUpdate); (first | refine JD_mapSet xR xR xR (tabM mtab_ok xR) xT xR ?_ | fail)) | fail)) | refine yJ ?_ | ((with_reducible apply gJ_if); (first | (refine J_if xR ?_ ?_ <;> intro _ <;> (try (exfalso; first | contradiction | omega))) | (refine J_ifb xR ?_ ?_ <;> (intro hgb; subst hgb)) | (refine J_ifb xR ?_ ?_ <;> intro _) | fail)) | refine J_draw (id := 8) [0, 1, 2, 3, 4] [5] mixed xC xD xD ?_ | fail))
  rename_i b g1
  refine J_loop (α := Mk) ⟨0, []⟩ (fun x => es.length - x.k) (fun x => x.k ≤ es.length ∧ MedMap (es.take x.k) x.mm) (fun x => [(0, .slice a es.length c), (3, .pointer (some ⟨g1, 0, none⟩)), (10, .slice a es.length c), (11, .int .i64 es.length), (12, .int .i64 x.k)])
      (fun x => [Ar 162 18 onC (.slice a es.length c) es, pts g1 [.map (some b)] 221, mp .u32 b x.mm]) ⟨Nat.zero_le _, fun n => rfl⟩ ⟨rfl, rfl, rfl, rfl, rfl, trivial⟩ (fun w H => H.sel xZ) ?_
  rintro ⟨k, mm⟩ ⟨hkl, hmm⟩
  dsimp only at hkl hmm ⊢
  by_cases hlt : k < es.length
  · obtain ⟨x, hs⟩ : ∃ x, es[k]? = some x := ⟨_, List.getElem?_eq_getElem hlt⟩
    have hm := List.mem_of_getElem? hs
    have hlook := hmm.look
    have hlook2 := hmm.look2
    (repeat' (first | ((with_reducible apply gL); (first | refine yL0 ?_ | refine yL ?_ | ((with_reducible apply gL_go); (first | (refine JL_goq (med_s x.c (hn x hm).1) (hφ := xF) (h := ?_); rintro _ _ ⟨rfl, rfl⟩; try simp only [List.cons_append, List.nil_append]) | (refine JL_goq (nb_s x.c (hn x hm).1) (hφ := (by (try simp only [List.cons_append, List.nil_append]); exact fun w hr => hK w hr.1 x hm)) (h := ?_); rintro _ _ ⟨rfl, rfl⟩; try simp only [List.cons_append, List.nil_append]) | fail)) | (refine yM ?_; intro _) | ((with_reducible apply gL_lookup); (first | refine JL_p rfl xR xR (pe_lookup xR xR (tabM mtab_ok xR) xT (by first | apply hlook | apply hlook2 | rfl)) ?_ | refine JL_p rfl xR xR (pe_lookupK xR xR (tabM mtab_ok xR) xH (by first | apply hlook | apply hlook2 | rfl)) ?_ | fail)) | ((with_reducible apply gL_makeMap); (first | (refine JL_mm (tabM mtab_ok xR) xR xR ?_; intro _) | fail)) | ((with_reducible apply gL_gd); (first | (refine JL_guard xR xR ?_ ?_ <;> intro _ <;> (try (exfalso; first | contradiction | omega))) | (refine JL_guardb xR xR ?_ ?_ <;> (intro hgb; subst hgb)) | (refine JL_guardb xR xR ?_ ?_ <;> (intro hgb; fail_if_success (have : type_of% hgb := rfl))) | fail)) | fail)) | ((with_reducible apply gD); (first | (refine JD_nil ?_; try simp only [List.cons_append, List.nil_append]) | (refine JD_bar ?_; try simp only [List.cons_append, List.nil_append]) | refine yD ?_ | ((with_reducible apply gD_go); (first | (refine JD_goq (med_s x.c (hn x hm).1) (hφ := xF) (h := ?_); rintro _ _ ⟨rfl, rfl⟩; try simp only [List.cons_append, List.nil_append]) | (refine JD_goq (nb_s x.c (hn x hm).1) (hφ := (by (try simp only [List.cons_append, List.nil_append]); exact fun w hr => hK w hr.1 x hm)) (h := ?_); rintro _ _ ⟨rfl, rfl⟩; try simp only [List.cons_append, List.nil_append]) | fail)) | ((with_reducible apply gD_mapUpdate); (first | refine JD_mapSet xR xR xR (tabM mtab_ok xR) xT xR ?_ | fail)) | fail)) | refine yJ ?_ | ((with_reducible apply gJ_if); (first | (refine J_if xR ?_ ?_ <;> intro _ <;> (try (exfalso; first | contradiction | omega))) | (refine J_ifb xR ?_ ?_ <;> (intro hgb; subst hgb)) | (refine J_ifb xR ?_ ?_ <;> intro _) | fail)) | refine J_draw (id := 8) [0, 1, 2, 3, 4] [5] mixed xC xD xD ?_ | fail))
    · rename_i h1
      refine J_again ⟨k + 1, _⟩ (by dsimp only; omega) ⟨hlt, ?_⟩ ⟨rfl, rfl, rfl, rfl, rfl, trivial⟩ (fun w H => H.sel xZ)
      rw [take_snoc hs]
      exact med_put hmm fun m hq => by simp [hq] at h1
    · rename_i h1 h2
      refine J_again ⟨k + 1, _⟩ (by dsimp only; omega) ⟨hlt, ?_⟩ ⟨rfl, rfl, rfl, rfl, rfl, trivial⟩ (fun w H => H.sel xZ)
      rw [take_snoc hs]
      exact med_put hmm fun m hq => by simp [hq] at h1 h2; exact h2
    · rename_i h1 h2
      refine J_again ⟨k + 1, mm⟩ (by dsimp only; omega) ⟨hlt, ?_⟩ ⟨rfl, rfl, rfl, rfl, rfl, trivial⟩ (fun w H => H.sel xZ)
      rw [take_snoc hs]
      refine med_keep hmm ?_
      cases hq : nbMed (es.take k) (cNb x.c) with
      | none => simp [hq] at h1
      | some m => refine ⟨m, rfl, ?_⟩; simp [hq] at h1 h2; omega
  · obtain rfl : k = es.length := by omega
    rw [List.take_length] at hmm
    (repeat' (first | ((with_reducible apply gL); (first | refine yL0 ?_ | refine yL ?_ | ((with_reducible apply gL_go); (first | (refine JL_goq (delete_s a c es 160 [.pointer (some ⟨g1, 0, none⟩)] (fun o => decide ((nbMed es (cNb o.c)).getD 0 < cMed o.c)) _ (meds1_s g1 b mm es hmm) hn (by omega)) (hφ := (by (try simp only [List.cons_append, List.nil_append]); exact fun w hr => ⟨⟨hr.cell xA rfl, hr.mp xA⟩, hK w hr.1⟩)) (h := ?_); rintro _ _ ⟨a', c', rfl, rfl⟩; try simp only [List.cons_append, List.nil_append]) | fail)) | (refine yM ?_; intro _) | ((with_reducible apply gL_lookup); (first | refine JL_p rfl xR xR (pe_lookup xR xR (tabM mtab_ok xR) xT (by first | apply hlook | apply hlook2 | rfl)) ?_ | refine JL_p rfl xR xR (pe_lookupK xR xR (tabM mtab_ok xR) xH (by first | apply hlook | apply hlook2 | rfl)) ?_ | fail)) | ((with_reducible apply gL_makeMap); (first | (refine JL_mm (tabM mtab_ok xR) xR xR ?_; intro _) | fail)) | ((with_reducible apply gL_gd); (first | (refine JL_guard xR xR ?_ ?_ <;> intro _ <;> (try (exfalso; first | contradiction | omega))) | (refine JL_guardb xR xR ?_ ?_ <;> (intro hgb; subst hgb)) | (refine JL_guardb xR xR ?_ ?_ <;> (intro hgb; fail_if_success (have : type_of% hgb := rfl))) | fail)) | fail)) | ((with_reducible apply gD); (first | (refine JD_nil ?_; try simp only [List.cons_append, List.nil_append]) | (refine JD_bar ?_; try simp only [List.cons_append, List.nil_append]) | refine yD ?_ | ((with_reducible apply gD_go); (first | (refine JD_goq (delete_s a c es 160 [.pointer (some ⟨g1, 0, none⟩)] (fun o => decide ((nbMed es (cNb o.c)).getD 0 < cMed o.c)) _ (meds1_s g1 b mm es hmm) hn (by omega)) (hφ := (by (try simp only [List.cons_append, List.nil_append]); exact fun w hr => ⟨⟨hr.cell xA rfl, hr.mp xA⟩, hK w hr.1⟩)) (h := ?_); rintro _ _ ⟨a', c', rfl, rfl⟩; try simp only [List.cons_append, List.nil_append]) | fail)) | ((with_reducible apply gD_mapUpdate); (first | refine JD_mapSet xR xR xR (tabM mtab_ok xR) xT xR ?_ | fail)) | fail)) | refine yJ ?_ | ((with_reducible apply gJ_if); (first | (refine J_if xR ?_ ?_ <;> intro _ <;> (try (exfalso; first | contradiction | omega))) | (refine J_ifb xR ?_ ?_ <;> (intro hgb; subst hgb)) | (refine J_ifb xR ?_ ?_ <;> intro _) | fail)) | refine J_draw (id := 8) [0, 1, 2, 3, 4] [5] mixed xC xD xD ?_ | fail))
    refine J_ret1 rfl (by rfl) fun w H => ⟨_, ⟨a', c', rfl, rfl⟩, H.sel xZ⟩
end Go.Proofs.YtdnokmpnemaoaaaGreat.B
namespace Go.Proofs.YtdnokmpnemaoaaaGreat.B
set_option linter.unusedSimpArgs false
set_option linter.unusedVariables false
set_option maxRecDepth 20000
set_option maxHeartbeats 4000000
open Go.RowKit Go.Pm

def stepL (k : Int) (es : List On) : List On :=
  if k = 1 then leastL (fun o => -cLocal o.c) es else if k = 2 then leastL (fun o => (C.lenN (pN o.c.path) : Int)) es else if k = 3 then leastL (fun o => o.c.origin) es else if k = 4 then medsL es
  else if k = 5 then leastL (fun o => o.c.id) es else if k = 6 then leastL (fun o => o.c.addr) es else if k = 7 then leastL (fun o => o.c.peer) es else leastL (fun o => o.at_) es
theorem step_s (k : Int) (a : Option Addr) (c : Nat) (es : List On) (hn : ∀ o ∈ es, CdN o.c ∧ I64 o.at_) :
    Pact Tryz.prog 92 #[.int .i64 k, .slice a es.length c] (pathsV es) [Ar 162 18 onC (.slice a es.length c) es] (Ones (stepL k es)) := by
  refine pact Tryz.func92 rfl Tryz.ntmps92 rfl ?_
  intro W K hK
  (repeat' (first | ((with_reducible apply gL); (first | refine yL0 ?_ | refine yL ?_ | ((with_reducible apply gL_go); (first | (refine JL_goq (leastI_s a c es 125 _ key1 hn) (hφ := (by (try simp only [List.cons_append, List.nil_append]); exact fun w hr => hK w hr.1)) (h := ?_); rintro _ _ ⟨a', c', rfl, rfl⟩; try simp only [List.cons_append, List.nil_append]) | (refine JL_goq (leastI_s a c es 127 _ key2 hn) (hφ := (by (try simp only [List.cons_append, List.nil_append]); exact fun w hr => hK w hr.1)) (h := ?_); rintro _ _ ⟨a', c', rfl, rfl⟩; try simp only [List.cons_append, List.nil_append]) | (refine JL_goq (leastI_s a c es 129 _ key3 hn) (hφ := (by (try simp only [List.cons_append, List.nil_append]); exact fun w hr => hK w hr.1)) (h := ?_); rintro _ _ ⟨a', c', rfl, rfl⟩; try simp only [List.cons_append, List.nil_append]) | (refine JL_goq (leastI_s a c es 134 _ key6 hn) (hφ := (by (try simp only [List.cons_append, List.nil_append]); exact fun w hr => hK w hr.1)) (h := ?_); rintro _ _ ⟨a', c', rfl, rfl⟩; try simp only [List.cons_append, List.nil_append]) | (refine JL_goq (leastI_s a c es 135 _ key7 hn) (hφ := (by (try simp only [List.cons_append, List.nil_append]); exact fun w hr => hK w hr.1)) (h := ?_); rintro _ _ ⟨a', c', rfl, rfl⟩; try simp only [List.cons_append, List.nil_append]) | (refine JL_goq (leastA_s a c es 132 _ key4 hn) (hφ := (by (try simp only [List.cons_append, List.nil_append]); exact fun w hr => hK w hr.1)) (h := ?_); rintro _ _ ⟨a', c', rfl, rfl⟩; try simp only [List.cons_append, List.nil_append]) | (refine JL_goq (leastA_s a c es 133 _ key5 hn) (hφ := (by (try simp only [List.cons_append, List.nil_append]); exact fun w hr => hK w hr.1)) (h := ?_); rintro _ _ ⟨a', c', rfl, rfl⟩; try simp only [List.cons_append, List.nil_append]) | (refine JL_goq (meds_s a c es hn) (hφ := (by (try simp only [List.cons_append, List.nil_append]); exact fun w hr => hK w hr.1)) (h := ?_); rintro _ _ ⟨a', c', rfl, rfl⟩; try simp only [List.cons_append, List.nil_append]) | fail)) | fail)) | refine yJ ?_ | ((with_reducible apply gJ_if); (first | (refine J_if xR ?_ ?_ <;> intro _ <;> (try (exfalso; first | contradiction | omega))) | (refine J_ifb xR ?_ ?_ <;> (intro hgb; subst hgb)) | (refine J_ifb xR ?_ ?_ <;> intro _) | fail)) | fail))
  all_goals (refine J_ret1 rfl (by rfl) fun w H => ⟨_, ⟨a', c', ?_, rfl⟩, ?_⟩)
  all_goals (first | (simp [stepL, *]; done) | (simp only [stepL, *]; simpa using H) | skip)

theorem keepL_sub (D : On → Bool) (es : List On) : ∀ o ∈ keepL D es, o ∈ es := fun o h => (List.mem_filter.1 h).1
theorem leastL_sub (κ : On → Int) : ∀ (es : List On), ∀ o ∈ leastL κ es, o ∈ es
  | [], _, h => h
  | _ :: _, o, h => keepL_sub _ _ o h
theorem stepL_sub (k : Int) (es : List On) : ∀ o ∈ stepL k es, o ∈ es := by
  intro o
  unfold stepL medsL
  repeat' split
  all_goals first | exact leastL_sub _ _ o | exact keepL_sub _ _ o
def stepsN : Nat → List On → List On
  | 0, es => es
  | n + 1, es => stepL (n + 1 : Nat) (stepsN n es)
theorem stepsN_sub : ∀ (n : Nat) (es : List On), ∀ o ∈ stepsN n es, o ∈ es
  | 0, _, _, h => h
  | n + 1, es, o, h => stepsN_sub n es o (stepL_sub _ _ o h)
theorem leastL_len (κ : On → Int) : ∀ (es : List On), (leastL κ es).length ≤ es.length
  | [] => Nat.le_refl _
  | _ :: _ => keepL_len _ _
theorem stepL_len (k : Int) (es : List On) : (stepL k es).length ≤ es.length := by
  unfold stepL medsL
  repeat' split
  all_goals first | exact leastL_len _ _ | exact keepL_len _ _
theorem stepsN_len : ∀ (n : Nat) (es : List On), (stepsN n es).length ≤ es.length
  | 0, _ => Nat.le_refl _
  | n + 1, es => Nat.le_trans (stepL_len _ _) (stepsN_len n es)
def onesL (cs : List Cd) : List On := (cs.zipIdx).map fun p => ⟨p.1, p.2⟩
theorem onesL_take {cs : List Cd} {k : Nat} {x : Cd} (h : cs[k]? = some x) : onesL (cs.take (k + 1)) = onesL (cs.take k) ++ [⟨x, k⟩] := by
  have hk := (List.getElem?_eq_some_iff.1 h).1
  unfold onesL
  rw [take_snoc h, List.zipIdx_append, List.map_append]
  simp [Nat.min_eq_left (Nat.le_of_lt hk)]
theorem onesL_len (cs : List Cd) : (onesL cs).length = cs.length := by simp [onesL]
theorem onesL_mem {cs : List Cd} {o : On} (h : o ∈ onesL cs) : o.c ∈ cs ∧ 0 ≤ o.at_ ∧ o.at_ < cs.length := by
  obtain ⟨p, hp, rfl⟩ := List.mem_map.1 h
  have := List.mem_zipIdx hp
  simp at this
  exact ⟨by rw [this.2]; exact List.getElem_mem _, by simp, by simpa using this.1⟩
def leftL (cs : List Cd) (steps : Int) : List Int := (stepsN (min steps 8).toNat (onesL cs)).map On.at_
def candsV (cs : List Cd) (w : World) : Prop := ∀ c ∈ cs, PathV w c.pa c.pc c.path
def Ints (zs : List Int) (v : Value) (L' : List HP) : Prop := ∃ a' c', v = .slice a' zs.length c' ∧ L' = [Ar 3 1 i64C (.slice a' zs.length c') zs]
structure La where
  k : Nat
  ad : Option Addr
  cc : Nat

theorem left_s (a : Option Addr) (c : Nat) (cs : List Cd) (steps : Int) (hst : I64 steps) (hn : ∀ o ∈ cs, CdN o) (hl : cs.length ≤ 1000000) :
    Pact Tryz.prog 54 #[.slice a cs.length c, .int .i64 steps] (fun w => Vw w (.slice a cs.length c) 17 cs.length (flat cdC cs) ∧ candsV cs w) [] (Ints (leftL cs steps)) := by
  obtain ⟨hst1, hst2⟩ := hst
  refine pact Tryz.func54 rfl Tryz.ntmps54 rfl ?_
  intro W K hK
  have hv := hK.left
  have hon : ∀ o ∈ onesL cs, CdN o.c ∧ I64 o.at_ := fun o ho => ⟨hn _ (onesL_mem ho).1, by have := (onesL_mem ho).2; unfold I64; omega⟩
  have hol := onesL_len cs
  (repeat' (first | ((with_reducible apply gL); (first | refine yL0 ?_ | refine yL ?_ | (refine yM ?_; intro _) | (refine yA ?_; intro _ _ _ _) | fail)) | refine yJ ?_ | ((with_reducible apply gJ_if); (first | (refine J_if xR ?_ ?_ <;> intro _ <;> (try (exfalso; first | contradiction | omega))) | (refine J_ifb xR ?_ ?_ <;> (intro hgb; subst hgb)) | (refine J_ifb xR ?_ ?_ <;> intro _) | fail)) | fail))
  refine J_loop (α := La) ⟨0, none, 0⟩ (fun x => cs.length - x.k) (fun x => x.k ≤ cs.length) (fun x => [(1, .int .i64 steps), (5, .slice x.ad (onesL (cs.take x.k)).length x.cc), (12, .slice a cs.length c), (13, .int .i64 cs.length), (14, .int .i64 x.k)])
    (fun x => [Ar 162 18 onC (.slice x.ad (onesL (cs.take x.k)).length x.cc) (onesL (cs.take x.k))]) (Nat.zero_le _) ⟨rfl, rfl, rfl, rfl, rfl, trivial⟩ (fun w H => H.arNil) ?_
  rintro ⟨k, ad, cc⟩ hk
  dsimp only at hk ⊢
  have hok := onesL_len (cs.take k)
  by_cases hlt : k < cs.length
  · obtain ⟨x, hs⟩ : ∃ x, cs[k]? = some x := ⟨_, List.getElem?_eq_getElem hlt⟩
    have htk : (cs.take k).length = k := by simp; omega
    (repeat' (first | ((with_reducible apply gL); (first | refine yL0 ?_ | ((with_reducible apply gL_c_append); (first | (refine JL_ap1 (z := On.mk x (k : Int)) (tabE etab_ok (by rfl)) (by rfl) (by rfl) xA xA (by decide +kernel) (by rfl) (by intro _; rfl) (by rfl) (by omega) (by rfl) (by rfl) ?_; intro ad2 c2 _ _) | fail)) | refine yL ?_ | (refine yM ?_; intro _) | (refine yA ?_; intro _ _ _ _) | fail)) | refine yJ ?_ | ((with_reducible apply gJ_if); (first | (refine J_if xR ?_ ?_ <;> intro _ <;> (try (exfalso; first | contradiction | omega))) | (refine J_ifb xR ?_ ?_ <;> (intro hgb; subst hgb)) | (refine J_ifb xR ?_ ?_ <;> intro _) | fail)) | fail))
    refine J_again ⟨k + 1, ad2, c2⟩ (by dsimp only; omega) hlt ?_ ?_
    · refine ⟨rfl, ?_, rfl, rfl, rfl, trivial⟩
      dsimp only
      rw [onesL_take hs, List.length_append]
      rfl
    · intro w H
      dsimp only
      rw [onesL_take hs, List.length_append]
      exact H.sel xZ
  · obtain rfl : k = cs.length := by omega
    rw [List.take_length] at *
    (repeat' (first | ((with_reducible apply gL); (first | refine yL0 ?_ | refine yL ?_ | (refine yM ?_; intro _) | (refine yA ?_; intro _ _ _ _) | fail)) | refine yJ ?_ | ((with_reducible apply gJ_if); (first | (refine J_if xR ?_ ?_ <;> intro _ <;> (try (exfalso; first | contradiction | omega))) | (refine J_ifb xR ?_ ?_ <;> (intro hgb; subst hgb)) | (refine J_ifb xR ?_ ?_ <;> intro _) | fail)) | fail))
    refine J_loop (α := La) ⟨1, ad, cc⟩ (fun x => 9 - x.k) (fun x => 1 ≤ x.k ∧ (x.k : Int) ≤ max 1 ((min steps 8) + 1)) (fun x => [(1, .int .i64 steps), (5, .slice x.ad (stepsN (x.k - 1) (onesL cs)).length x.cc), (8, .int .i64 x.k)])
      (fun x => [Ar 162 18 onC (.slice x.ad (stepsN (x.k - 1) (onesL cs)).length x.cc) (stepsN (x.k - 1) (onesL cs))]) ⟨Nat.le_refl _, by simp only; omega⟩ ⟨rfl, rfl, rfl, trivial⟩ (fun w H => H.sel xZ) ?_
    rintro ⟨k, ad, cc⟩ ⟨hk1, hk8⟩
    dsimp only at hk1 hk8 ⊢
    have hsub := stepsN_sub (k - 1) (onesL cs)
    by_cases hlt : (k : Int) ≤ min steps 8
    · (repeat' (first | ((with_reducible apply gL); (first | refine yL0 ?_ | refine yL ?_ | ((with_reducible apply gL_go); (first | (refine JL_goq (step_s k ad cc (stepsN (k - 1) (onesL cs)) (fun o ho => hon o (hsub o ho))) (hφ := (by (try simp only [List.cons_append, List.nil_append]); exact fun w hr o ho => (hK w hr.1).2 _ (onesL_mem (hsub o ho)).1)) (h := ?_); rintro _ _ ⟨a', c', rfl, rfl⟩; try simp only [List.cons_append, List.nil_append]) | fail)) | (refine yM ?_; intro _) | (refine yA ?_; intro _ _ _ _) | fail)) | refine yJ ?_ | ((with_reducible apply gJ_if); (first | (refine J_if xR ?_ ?_ <;> intro _ <;> (try (exfalso; first | contradiction | omega))) | (refine J_ifb xR ?_ ?_ <;> (intro hgb; subst hgb)) | (refine J_ifb xR ?_ ?_ <;> intro _) | fail)) | fail))
      obtain ⟨k, rfl⟩ : ∃ j, k = j + 1 := ⟨k - 1, by omega⟩
      refine J_again ⟨k + 2, a', c'⟩ (by dsimp only; omega) ⟨by dsimp only; omega, by dsimp only; omega⟩ ⟨rfl, rfl, rfl, trivial⟩ (fun w H => H.sel xZ)
    · (repeat' (first | ((with_reducible apply gL); (first | refine yL0 ?_ | refine yL ?_ | (refine yM ?_; intro _) | (refine yA ?_; intro _ _ _ _) | fail)) | refine yJ ?_ | ((with_reducible apply gJ_if); (first | (refine J_if xR ?_ ?_ <;> intro _ <;> (try (exfalso; first | contradiction | omega))) | (refine J_ifb xR ?_ ?_ <;> (intro hgb; subst hgb)) | (refine J_ifb xR ?_ ?_ <;> intro _) | fail)) | fail))
      have hkk : k - 1 = (min steps 8).toNat := by omega
      rw [hkk] at *
      refine J_loop (α := La) ⟨0, none, 0⟩ (fun x => (stepsN (min steps 8).toNat (onesL cs)).length - x.k) (fun x => x.k ≤ (stepsN (min steps 8).toNat (onesL cs)).length)
        (fun x => [(9, .slice x.ad (((stepsN (min steps 8).toNat (onesL cs)).take x.k).map On.at_).length x.cc), (35, .slice ad (stepsN (min steps 8).toNat (onesL cs)).length cc), (36, .int .i64 (stepsN (min steps 8).toNat (onesL cs)).length), (37, .int .i64 x.k)])
        (fun x => [Ar 162 18 onC (.slice ad (stepsN (min steps 8).toNat (onesL cs)).length cc) (stepsN (min steps 8).toNat (onesL cs)), Ar 3 1 i64C (.slice x.ad (((stepsN (min steps 8).toNat (onesL cs)).take x.k).map On.at_).length x.cc) (((stepsN (min steps 8).toNat (onesL cs)).take x.k).map On.at_)]) (Nat.zero_le _) ⟨rfl, rfl, rfl, rfl, trivial⟩ (fun w H => H.arNil.sel xZ) ?_
      rintro ⟨k, ad, cc⟩ hk
      dsimp only at hk ⊢
      have hell := stepsN_len (min steps 8).toNat (onesL cs)
      have hlf : leftL cs steps = (stepsN (min steps 8).toNat (onesL cs)).map On.at_ := rfl
      rw [hlf]
      generalize hes : stepsN (min steps 8).toNat (onesL cs) = es at *
      by_cases hlt : k < es.length
      · obtain ⟨x, hs⟩ : ∃ x, es[k]? = some x := ⟨_, List.getElem?_eq_getElem hlt⟩
        have htk : ((es.take k).map On.at_).length = k := by simp; omega
        (repeat' (first | ((with_reducible apply gL); (first | refine yL0 ?_ | refine yL ?_ | (refine yM ?_; intro _) | (refine yA ?_; intro _ _ _ _) | fail)) | refine yJ ?_ | ((with_reducible apply gJ_if); (first | (refine J_if xR ?_ ?_ <;> intro _ <;> (try (exfalso; first | contradiction | omega))) | (refine J_ifb xR ?_ ?_ <;> (intro hgb; subst hgb)) | (refine J_ifb xR ?_ ?_ <;> intro _) | fail)) | fail))
        rename_i ad2 c2 _ _
        refine J_again ⟨k + 1, ad2, c2⟩ (by dsimp only; omega) hlt ?_ ?_
        · refine ⟨?_, rfl, rfl, rfl, trivial⟩
          dsimp only
          rw [take_snoc hs, List.map_append, List.length_append]
          rfl
        · intro w H
          dsimp only
          rw [take_snoc hs, List.map_append, List.length_append]
          exact H.sel xZ
      · obtain rfl : k = es.length := by omega
        (repeat' (first | ((with_reducible apply gL); (first | refine yL0 ?_ | refine yL ?_ | (refine yM ?_; intro _) | (refine yA ?_; intro _ _ _ _) | fail)) | refine yJ ?_ | ((with_reducible apply gJ_if); (first | (refine J_if xR ?_ ?_ <;> intro _ <;> (try (exfalso; first | contradiction | omega))) | (refine J_ifb xR ?_ ?_ <;> (intro hgb; subst hgb)) | (refine J_ifb xR ?_ ?_ <;> intro _) | fail)) | fail))
        refine J_ret1 rfl (by rfl) fun w H => ⟨_, ⟨ad, cc, ?_, rfl⟩, ?_⟩
        · rw [List.take_length]
        · rw [List.take_length] at H
          exact H.sel xZ
theorem pick_s (a : Option Addr) (c : Nat) (cs : List Cd) (hn : ∀ o ∈ cs, CdN o) (hl : cs.length ≤ 1000000) :
    Pact Tryz.prog 22 #[.slice a cs.length c] (fun w => Vw w (.slice a cs.length c) 17 cs.length (flat cdC cs) ∧ candsV cs w) [] (ret0 (.int .i64 ((leftL cs 8).head?.getD (-1)))) := by
  refine pact Tryz.func22 rfl Tryz.ntmps22 rfl ?_
  intro W K hK
  (repeat' (first | ((with_reducible apply gL); (first | refine yL0 ?_ | refine yL ?_ | ((with_reducible apply gL_go); (first | (refine JL_goq (left_s a c cs 8 (by unfold I64; omega) hn hl) (hφ := (by (try simp only [List.cons_append, List.nil_append]); exact fun w hr => hK w hr.1)) (h := ?_); rintro _ _ ⟨a', c', rfl, rfl⟩; try simp only [List.cons_append, List.nil_append]) | fail)) | ((with_reducible apply gL_load); (first | (refine JL_el xR xV xL xR xC xR xR xO ?_; intro _ _) | (refine JL_elC xR xV xL xR xC xL xR xR xO ?_; intro _ _) | (refine JL_elF xR xV xL xR xC xL xR xR xO ?_; intro _ _) | fail)) | fail)) | refine yJ ?_ | ((with_reducible apply gJ_if); (first | (refine J_if xR ?_ ?_ <;> intro _ <;> (try (exfalso; first | contradiction | omega))) | (refine J_ifb xR ?_ ?_ <;> (intro hgb; subst hgb)) | (refine J_ifb xR ?_ ?_ <;> intro _) | fail)) | fail))
  all_goals (refine J_ret1 rfl (by rfl) fun w H => ⟨[], ⟨?_, rfl⟩, H.sel .nil⟩)
  all_goals (generalize leftL cs 8 = l at *; cases l <;> first | (simp_all; done) | (exfalso; simp_all; omega))
end Go.Proofs.YtdnokmpnemaoaaaGreat.B
