/-
  Bq3, Bq4, Bq5, Bq6: merged.
-/
import Derived.Test.YtdnokmpnemaoaaaGreatZViewChooses19
namespace Go.Proofs.YtdnokmpnemaoaaaGreat.B
set_option linter.unusedSimpArgs false
set_option linter.unusedVariables false
set_option maxRecDepth 20000
set_option maxHeartbeats 4000000
open Go.RowKit Go.Pm

structure On where
  c : Cd
  at_ : Int
def onC (o : On) : List Value := cdC o.c ++ [.int .i64 o.at_]
def pathsV (es : List On) (w : World) : Prop := ∀ o ∈ es, PathV w o.c.pa o.c.pc o.c.path
def Key (k : IntKind) (F : FuncId) (κ : On → Int) : Prop := ownB Tryz.prog F = true ∧ ∀ o : On, CdN o.c → I64 o.at_ → Pact Tryz.prog F #[.agg (onC o).toArray] (fun w => PathV w o.c.pa o.c.pc o.c.path) [] (ret0 (.int k (κ o)))
def Tst (F : FuncId) (caps : List Value) (D : On → Bool) (φ : World → Prop) : Prop := ownB Tryz.prog F = true ∧ ∀ o : On, CdN o.c → I64 o.at_ → Pact Tryz.prog F (.agg (onC o).toArray :: caps).toArray (fun w => φ w ∧ PathV w o.c.pa o.c.pc o.c.path) [] (ret0 (.bool (D o)))

theorem key1 : Key .i64 125 (fun o => -cLocal o.c) := by
  refine ⟨by decide +kernel, fun o h ha => ?_⟩
  · have hb : 0 ≤ cLocal o.c ∧ cLocal o.c ≤ 4294967295 := by have := h.loc; unfold U32 at this; unfold cLocal; split <;> omega
    refine pact Tryz.func125 rfl Tryz.ntmps125 rfl ?_
    intro W K hK
    (repeat' (first | (refine gL ?_; first | refine yL0 ?_ | refine yL ?_ | (refine gL_go ?_; (refine JL_goq (local_s o.c h) (hφ := xF) (h := ?_); rintro _ _ ⟨rfl, rfl⟩; try simp only [cAp, nAp])) | (refine yM ?_; intro _)) | refine yJ ?_ | fail))
    all_goals (refine J_ret1 rfl (by rfl) fun w H => ⟨[], ⟨?_, rfl⟩, H.sel .nil⟩)
    simp
theorem key2 : Key .i64 127 (fun o => (C.lenN (pN o.c.path) : Int)) := by
  refine ⟨by decide +kernel, fun o h ha => ?_⟩
  · refine pact Tryz.func127 rfl Tryz.ntmps127 rfl ?_
    intro W K hK
    (repeat' (first | (refine gL ?_; first | refine yL0 ?_ | refine yL ?_ | (refine gL_go ?_; (refine JL_goq (len_s o.c h) (hφ := (by (try simp only [cAp, nAp]); exact fun w hr => hK w hr.1)) (h := ?_); rintro _ _ ⟨rfl, rfl⟩; try simp only [cAp, nAp])) | (refine yM ?_; intro _)) | refine yJ ?_ | fail))
    all_goals (refine J_ret1 rfl (by rfl) fun w H => ⟨[], ⟨rfl, rfl⟩, H.sel .nil⟩)
theorem key3 : Key .i64 129 (fun o => o.c.origin) := by
  refine ⟨by decide +kernel, fun o h ha => ?_⟩
  · refine pact Tryz.func129 rfl Tryz.ntmps129 rfl ?_
    intro W K hK
    (repeat' (first | (refine gL ?_; first | refine yL0 ?_ | refine yL ?_ | (refine yM ?_; intro _)) | refine yJ ?_ | fail))
    all_goals (refine J_ret1 rfl (by rfl) fun w H => ⟨[], ⟨rfl, rfl⟩, H.sel .nil⟩)

theorem key4 : Key .u32 132 (fun o => o.c.id) := by
  refine ⟨by decide +kernel, fun o h ha => ?_⟩
  · refine pact Tryz.func132 rfl Tryz.ntmps132 rfl ?_
    intro W K hK
    (repeat' (first | (refine gL ?_; first | refine yL0 ?_ | refine yL ?_ | (refine yM ?_; intro _)) | refine yJ ?_ | fail))
    all_goals (refine J_ret1 rfl (by rfl) fun w H => ⟨[], ⟨rfl, rfl⟩, H.sel .nil⟩)

theorem key5 : Key .u32 133 (fun o => o.c.addr) := by
  refine ⟨by decide +kernel, fun o h ha => ?_⟩
  · refine pact Tryz.func133 rfl Tryz.ntmps133 rfl ?_
    intro W K hK
    (repeat' (first | (refine gL ?_; first | refine yL0 ?_ | refine yL ?_ | (refine yM ?_; intro _)) | refine yJ ?_ | fail))
    all_goals (refine J_ret1 rfl (by rfl) fun w H => ⟨[], ⟨rfl, rfl⟩, H.sel .nil⟩)

theorem key6 : Key .i64 134 (fun o => o.c.peer) := by
  refine ⟨by decide +kernel, fun o h ha => ?_⟩
  · refine pact Tryz.func134 rfl Tryz.ntmps134 rfl ?_
    intro W K hK
    (repeat' (first | (refine gL ?_; first | refine yL0 ?_ | refine yL ?_ | (refine yM ?_; intro _)) | refine yJ ?_ | fail))
    all_goals (refine J_ret1 rfl (by rfl) fun w H => ⟨[], ⟨rfl, rfl⟩, H.sel .nil⟩)

theorem key7 : Key .i64 135 (fun o => o.at_) := by
  refine ⟨by decide +kernel, fun o h ha => ?_⟩
  · refine pact Tryz.func135 rfl Tryz.ntmps135 rfl ?_
    intro W K hK
    (repeat' (first | (refine gL ?_; first | refine yL0 ?_ | refine yL ?_ | (refine yM ?_; intro _)) | refine yJ ?_ | fail))
    all_goals (refine J_ret1 rfl (by rfl) fun w H => ⟨[], ⟨rfl, rfl⟩, H.sel .nil⟩)

theorem tstI (F : FuncId) (κ : On → Int) (m : Int) (g1 g2 : Nat) (hk : Key .i64 F κ) : Tst 157 [.pointer (some ⟨g1, 0, none⟩), .pointer (some ⟨g2, 0, none⟩)] (fun o => decide (κ o ≠ m)) (fun w => w.cell? ⟨g1, 0, none⟩ = some (.func (.func F) #[] #[]) ∧ w.cell? ⟨g2, 0, none⟩ = some (.int .i64 m)) := by
  refine ⟨by decide +kernel, fun o h ha => ?_⟩
  have ho := hk.1
  refine pact Tryz.func157 rfl Tryz.ntmps157 rfl ?_
  intro W K hK
  have h1 := hK.left.left
  have h2 := hK.left.right
  (repeat' (first | (refine gL ?_; first | refine yL0 ?_ | refine yL ?_ | (refine yM ?_; intro _)) | (refine gD ?_; first | (refine yN ?_; try simp only [cAp, nAp]) | refine yD ?_ | (refine gD_go ?_; (refine JD_goq (hk.2 o h ha) (hφ := (by (try simp only [cAp, nAp]); exact fun w hr => (hK w hr.1).2)) (h := ?_); rintro _ _ ⟨rfl, rfl⟩; try simp only [cAp, nAp]))) | refine yJ ?_ | refine J_draw (id := 1) [0, 1, 3, 2] [4, 5] mixed xC xD xD ?_ | fail))
  all_goals (refine J_ret1 rfl (by rfl) fun w H => ⟨[], ⟨rfl, rfl⟩, H.sel .nil⟩)
theorem tstA (F : FuncId) (κ : On → Int) (m : Int) (g1 g2 : Nat) (hk : Key .u32 F κ) : Tst 161 [.pointer (some ⟨g1, 0, none⟩), .pointer (some ⟨g2, 0, none⟩)] (fun o => decide (κ o ≠ m)) (fun w => w.cell? ⟨g1, 0, none⟩ = some (.func (.func F) #[] #[]) ∧ w.cell? ⟨g2, 0, none⟩ = some (.int .u32 m)) := by
  refine ⟨by decide +kernel, fun o h ha => ?_⟩
  have ho := hk.1
  refine pact Tryz.func161 rfl Tryz.ntmps161 rfl ?_
  intro W K hK
  have h1 := hK.left.left
  have h2 := hK.left.right
  (repeat' (first | (refine gL ?_; first | refine yL0 ?_ | refine yL ?_ | (refine yM ?_; intro _)) | (refine gD ?_; first | (refine yN ?_; try simp only [cAp, nAp]) | refine yD ?_ | (refine gD_go ?_; (refine JD_goq (hk.2 o h ha) (hφ := (by (try simp only [cAp, nAp]); exact fun w hr => (hK w hr.1).2)) (h := ?_); rintro _ _ ⟨rfl, rfl⟩; try simp only [cAp, nAp]))) | refine yJ ?_ | refine J_draw (id := 1) [0, 1, 3, 2] [4, 5] mixed xC xD xD ?_ | fail))
  all_goals (refine J_ret1 rfl (by rfl) fun w H => ⟨[], ⟨rfl, rfl⟩, H.sel .nil⟩)

def idxOf (D : On → Bool) : List On → Nat → Int
  | [], _ => -1
  | o :: r, k => if D o then k else idxOf D r (k + 1)
theorem idxOf_drop (D : On → Bool) {es : List On} {k : Nat} {o : On} (h : es[k]? = some o) : idxOf D (es.drop k) k = if D o then (k : Int) else idxOf D (es.drop (k + 1)) (k + 1) := by
  obtain ⟨hk, rfl⟩ := List.getElem?_eq_some_iff.1 h
  rw [List.drop_eq_getElem_cons hk]; rfl

theorem index_s (a : Option Addr) (c : Nat) (es : List On) (F : FuncId) (caps : List Value) (D : On → Bool) (φ : World → Prop) (hT : Tst F caps D φ) (hn : ∀ o ∈ es, CdN o.c ∧ I64 o.at_) (hl : es.length ≤ 9223372036854775807) :
    Pact Tryz.prog 178 #[.slice a es.length c, .func (.func F) #[] caps.toArray] (fun w => Vw w (.slice a es.length c) 18 es.length (flat onC es) ∧ φ w ∧ pathsV es w) [] (ret0 (.int .i64 (idxOf D es 0))) := by
  have ho := hT.1
  refine pact Tryz.func178 rfl Tryz.ntmps178 rfl ?_
  intro W K hK
  have hv := hK.left
  (repeat' (first | (refine gL ?_; first | refine yL0 ?_ | refine yL ?_) | refine yJ ?_ | (refine yI ?_ ?_ <;> intro _ <;> try exact xX) | (refine yK ?_ ?_ <;> intro hgb <;> first | subst hgb | fail_if_success have : type_of% hgb := rfl) | fail))
  refine J_loop (α := Nat) 0 (fun k => es.length - k) (fun k => k ≤ es.length ∧ idxOf D es 0 = idxOf D (es.drop k) k) (fun k => [(0, .slice a es.length c), (1, .func (.func F) #[] caps.toArray), (7, .int .i64 es.length), (8, .int .i64 k)]) (fun _ => []) ⟨Nat.zero_le _, rfl⟩ ⟨rfl, rfl, rfl, rfl, trivial⟩ (fun w H => H) ?_
  rintro k ⟨hk, he⟩
  by_cases hlt : k < es.length
  · obtain ⟨o, hs⟩ : ∃ o, es[k]? = some o := ⟨_, List.getElem?_eq_getElem hlt⟩
    have hm := List.mem_of_getElem? hs
    rw [idxOf_drop D hs] at he
    (repeat' (first | (refine gL ?_; first | refine yL0 ?_ | refine yL ?_ | (refine gL_go ?_; (refine JL_goq (hT.2 o (hn o hm).1 (hn o hm).2) (hφ := (by (try simp only [cAp, nAp]); exact fun w hr => ⟨(hK w hr.1).2.1, (hK w hr.1).2.2 o hm⟩)) (h := ?_); rintro _ _ ⟨rfl, rfl⟩; try simp only [cAp, nAp]))) | refine yJ ?_ | (refine yI ?_ ?_ <;> intro _ <;> try exact xX) | (refine yK ?_ ?_ <;> intro hgb <;> first | subst hgb | fail_if_success have : type_of% hgb := rfl) | fail))
    · refine J_ret1 rfl (by rfl) fun w H => ⟨[], ⟨?_, rfl⟩, H.sel .nil⟩
      simp_all
    · refine J_again (k + 1) (by omega) ⟨by omega, ?_⟩ ⟨rfl, rfl, rfl, rfl, trivial⟩ (fun w H => H)
      simp_all
  · obtain rfl : k = es.length := by omega
    (repeat' (first | (refine gL ?_; first | refine yL0 ?_ | refine yL ?_) | refine yJ ?_ | (refine yI ?_ ?_ <;> intro _ <;> try exact xX) | (refine yK ?_ ?_ <;> intro hgb <;> first | subst hgb | fail_if_success have : type_of% hgb := rfl) | fail))
    refine J_ret1 rfl (by rfl) fun w H => ⟨[], ⟨?_, rfl⟩, H.sel .nil⟩
    rw [he, List.drop_length]; rfl

def keepL (D : On → Bool) (es : List On) : List On := es.filter (fun o => !D o)
theorem keepL_snoc (D : On → Bool) {es : List On} {j : Nat} {o : On} (h : es[j]? = some o) : keepL D (es.take (j + 1)) = keepL D (es.take j) ++ (if D o then [] else [o]) := by
  rw [take_snoc h]
  unfold keepL
  rw [List.filter_append]
  congr 1
  cases hD : D o <;> simp [List.filter_cons, hD]
theorem keepL_len (D : On → Bool) (es : List On) : (keepL D es).length ≤ es.length := List.length_filter_le _ _
theorem idxOf_none (D : On → Bool) : ∀ (es : List On) (k : Nat), idxOf D es k = -1 → keepL D es = es
  | [], _, _ => rfl
  | o :: r, k, h => by
    unfold idxOf at h
    cases hD : D o
    · rw [hD] at h
      have := idxOf_none D r (k + 1) h
      unfold keepL at this ⊢
      simp [List.filter_cons, hD, this]
    · rw [hD] at h; simp at h
theorem idxOf_some (D : On → Bool) : ∀ (es : List On) (k : Nat), idxOf D es k ≠ -1 → ∃ i, ∃ (hi : i < es.length), idxOf D es k = (k : Int) + i ∧ D es[i] = true ∧ keepL D (es.take i) = es.take i
  | [], k, h => (h rfl).elim
  | o :: r, k, h => by
    cases hD : D o
    · have he : idxOf D (o :: r) k = idxOf D r (k + 1) := by show (if D o then _ else _) = _; rw [hD]; rfl
      rw [he] at h
      obtain ⟨i, hi, h1, h2, h3⟩ := idxOf_some D r (k + 1) h
      refine ⟨i + 1, by simp; exact hi, by rw [he, h1]; omega, by simpa using h2, ?_⟩
      unfold keepL at h3 ⊢
      simp [List.filter_cons, hD, h3]
    · refine ⟨0, by simp, ?_, by simpa using hD, rfl⟩
      show (if D o then _ else _) = _
      rw [hD]; simp

def onZ : On := ⟨⟨⟨0, none, 0, [], 0, false, 0, false, 0, false, false, 0, 0, none, 0, [], none, 0, []⟩, 0, 0, 0, 0⟩, 0⟩
def DelR (D : On → Bool) (es : List On) (v : Value) (L' : List HP) : Prop := ∃ a' c', v = .slice a' (keepL D es).length c' ∧ L' = [Ar 162 18 onC (.slice a' (keepL D es).length c') (keepL D es)]
structure Lp where
  j : Nat
  xs : List On
theorem delete_s (a : Option Addr) (c : Nat) (es : List On) (F : FuncId) (caps : List Value) (D : On → Bool) (φ : World → Prop) (hT : Tst F caps D φ) (hn : ∀ o ∈ es, CdN o.c ∧ I64 o.at_) (hl : es.length ≤ 9223372036854775807) :
    Pact Tryz.prog 156 #[.slice a es.length c, .func (.func F) #[] caps.toArray] (fun w => φ w ∧ pathsV es w) [Ar 162 18 onC (.slice a es.length c) es] (DelR D es) := by
  have ho := hT.1
  refine pact Tryz.func156 rfl Tryz.ntmps156 rfl ?_
  intro W K hK
  refine J_fact (φ := es.length ≤ c ∧ c ≤ maxLen) (fun w H => (H.arShape .here).2) ?_
  rintro ⟨hnc, hcm⟩
  unfold maxLen at hcm
  by_cases hi : idxOf D es 0 = -1
  · (repeat' (first | (refine gL ?_; first | refine yL0 ?_ | refine yL ?_ | (refine gL_go ?_; (refine JL_goq (index_s a c es F caps D φ hT hn hl) (hφ := (by (try simp only [cAp, nAp]); exact fun w hr => ⟨Src.ar .here w hr, (hK w hr.1).1, (hK w hr.1).2⟩)) (h := ?_); rintro _ _ ⟨rfl, rfl⟩; try simp only [cAp, nAp])) | (refine yM ?_; intro _)) | refine yJ ?_ | (refine yI ?_ ?_ <;> intro _ <;> try exact xX) | (refine yK ?_ ?_ <;> intro hgb <;> first | subst hgb | fail_if_success have : type_of% hgb := rfl) | fail))
    refine J_ret1 rfl (by rfl) fun w H => ⟨_, ⟨a, c, ?_, rfl⟩, ?_⟩ <;> rw [idxOf_none D es 0 hi]
    exact H
  · obtain ⟨i, hil, hie, hD, hkeep⟩ := idxOf_some D es 0 hi
    have hx := index_s a c es F caps D φ hT hn hl
    rw [hie, Int.natCast_zero, Int.zero_add] at hx
    have hk1 : keepL D (es.take (i + 1)) = es.take i := by rw [keepL_snoc D (List.getElem?_eq_getElem hil), hkeep, hD]; simp
    have hkl : (es.take i).length = i := by simp; omega
    (repeat' (first | (refine gL ?_; first | refine yL0 ?_ | refine yL ?_ | (refine gL_go ?_; (refine JL_goq (hx) (hφ := (by (try simp only [cAp, nAp]); exact fun w hr => ⟨Src.ar .here w hr, (hK w hr.1).1, (hK w hr.1).2⟩)) (h := ?_); rintro _ _ ⟨rfl, rfl⟩; try simp only [cAp, nAp])) | (refine yM ?_; intro _)) | refine yJ ?_ | (refine yI ?_ ?_ <;> intro _ <;> try exact xX) | (refine yK ?_ ?_ <;> intro hgb <;> first | subst hgb | fail_if_success have : type_of% hgb := rfl) | fail))
    refine J_loop (α := Lp) ⟨i + 1, es⟩ (fun x => es.length - x.j) (fun x => x.j ≤ es.length ∧ x.xs.length = es.length ∧ (keepL D (es.take x.j)).length < x.j ∧ x.xs.take (keepL D (es.take x.j)).length = keepL D (es.take x.j) ∧ x.xs.drop x.j = es.drop x.j)
      (fun x => [(0, .slice a es.length c), (1, .func (.func F) #[] caps.toArray), (5, .int .i64 (keepL D (es.take x.j)).length), (6, .int .i64 x.j)]) (fun x => [Ar 162 18 onC (.slice a es.length c) x.xs]) ?_ ?_ (fun w H => H) ?_
    · dsimp only; rw [hk1, hkl]; exact ⟨hil, rfl, by omega, rfl, rfl⟩
    · dsimp only; rw [hk1, hkl]; exact ⟨rfl, rfl, rfl, rfl, trivial⟩
    rintro ⟨j, xs⟩ ⟨hj, hxl, hkj, hxt, hxd⟩
    dsimp only at hj hxl hkj hxt hxd ⊢
    by_cases hlt : j < es.length
    · obtain ⟨o, hs⟩ : ∃ o, es[j]? = some o := ⟨_, List.getElem?_eq_getElem hlt⟩
      have hm := List.mem_of_getElem? hs
      have hxs : xs[j]? = some o := by have := congrArg (·[0]?) hxd; simpa [hs] using this
      have hke := keepL_snoc D hs
      (repeat' (first | (refine gL ?_; first | refine yL0 ?_ | refine yL ?_ | (refine gL_go ?_; (refine JL_goq (hT.2 o (hn o hm).1 (hn o hm).2) (hφ := (by (try simp only [cAp, nAp]); exact fun w hr => ⟨(hK w hr.1).1, (hK w hr.1).2 o hm⟩)) (h := ?_); rintro _ _ ⟨rfl, rfl⟩; try simp only [cAp, nAp])) | (refine yM ?_; intro _)) | refine yJ ?_ | (refine yI ?_ ?_ <;> intro _ <;> try exact xX) | (refine yK ?_ ?_ <;> intro hgb <;> first | subst hgb | fail_if_success have : type_of% hgb := rfl) | fail))
      · rename_i hD0
        have hke2 : keepL D (es.take (j + 1)) = keepL D (es.take j) ++ [o] := by rw [hke, if_neg hD0]
        have hil2 : (keepL D (es.take j)).length < xs.length := by omega
        refine J_again ⟨j + 1, xs.set (keepL D (es.take j)).length o⟩ (by dsimp only; omega) ?_ ?_ (fun w H => H.sel xZ)
        · dsimp only
          rw [hke2]
          refine ⟨hlt, by simp [hxl], by simp; omega, ?_, ?_⟩
          · rw [List.length_append, List.length_singleton, List.take_add_one, List.getElem?_set_self hil2, List.take_set_of_le (Nat.le_refl _), hxt]
            rfl
          · rw [List.drop_set_of_lt (by omega), ← List.drop_drop, hxd, List.drop_drop]
        · refine ⟨rfl, rfl, ?_, rfl, trivial⟩
          show some _ = some _
          rw [hke2, List.length_append]
          rfl
      · rename_i hD0
        have hke2 : keepL D (es.take (j + 1)) = keepL D (es.take j) := by rw [hke, if_pos (by simpa using hD0)]; simp
        refine J_again ⟨j + 1, xs⟩ (by dsimp only; omega) ?_ ?_ (fun w H => H.sel xZ)
        · dsimp only
          rw [hke2]
          exact ⟨hlt, hxl, by omega, hxt, by rw [← List.drop_drop, hxd, List.drop_drop]⟩
        · refine ⟨rfl, rfl, ?_, rfl, trivial⟩
          show some _ = some _
          rw [hke2]
    · obtain rfl : j = es.length := by omega
      rw [List.take_length] at *
      (repeat' (first | (refine gL ?_; first | refine yL0 ?_ | (refine gL_c_clear ?_; refine JL_clear onZ (tabE etab_ok (by rfl)) (by rfl) (by with_reducible exact Tk.here) (by rfl) (by decide +kernel) (by decide +kernel) (by intro _; rfl) (by omega) (by rfl) ?_) | refine yL ?_ | (refine yM ?_; intro _)) | refine yJ ?_ | (refine yI ?_ ?_ <;> intro _ <;> try exact xX) | (refine yK ?_ ?_ <;> intro hgb <;> first | subst hgb | fail_if_success have : type_of% hgb := rfl) | fail))
      refine J_ret1 rfl (by rfl) fun w H => ⟨_, ⟨a, c, rfl, rfl⟩, ?_⟩
      have hkl2 := keepL_len D es
      have H2 := H.arTake .here (by intro _; rfl) (keepL D es).length (by simp; omega)
      rw [List.take_append_of_le_length (by simp; omega), List.take_take, Nat.min_self, hxt] at H2
      exact H2
theorem zd124Bq5 {p q : Prop} (k : p) (h : p → q := by intro hk; first | exact J_draw (id := 3) [0, 1, 2, 3, 4, 5] [6] mixed xC xD xD hk | exact J_draw (id := 7) [0, 1, 2, 3] [4, 5] mixed xC xD xD hk | fail) : q := h k
theorem zd131Bq5 {p q : Prop} (k : p) (h : p → q := by intro hk; first | exact J_draw (id := 3) [0, 1, 2, 3, 4, 5] [6] mixed xC xD xD hk | exact J_draw (id := 7) [0, 1, 2, 3] [4, 5] mixed xC xD xD hk | fail) : q := h k

def minL (κ : On → Int) : List On → Int → Int
  | [], m => m
  | o :: r, m => minL κ r (min m (κ o))
theorem minL_snoc (κ : On → Int) : ∀ (l : List On) (m : Int) (o : On), minL κ (l ++ [o]) m = min (minL κ l m) (κ o)
  | [], _, _ => rfl
  | _ :: r, m, o => minL_snoc κ r _ o
def leastL (κ : On → Int) : List On → List On
  | [] => []
  | o :: r => keepL (fun x => decide (κ x ≠ minL κ (o :: r) (κ o))) (o :: r)
def Ones (es : List On) (v : Value) (L' : List HP) : Prop := ∃ a' c', v = .slice a' es.length c' ∧ L' = [Ar 162 18 onC (.slice a' es.length c') es]

theorem leastI_s (a : Option Addr) (c : Nat) (es : List On) (F : FuncId) (κ : On → Int) (hk : Key .i64 F κ) (hn : ∀ o ∈ es, CdN o.c ∧ I64 o.at_) :
    Pact Tryz.prog 124 #[.slice a es.length c, .func (.func F) #[] #[]] (pathsV es) [Ar 162 18 onC (.slice a es.length c) es] (Ones (leastL κ es)) := by
  have ho := hk.1
  refine pact Tryz.func124 rfl Tryz.ntmps124 rfl ?_
  intro W K hK
  refine J_fact (φ := es.length ≤ c ∧ c ≤ maxLen) (fun w H => (H.arShape .here).2) ?_
  rintro ⟨hnc, hcm⟩
  unfold maxLen at hcm
  cases es with
  | nil =>
    (repeat' (first | (refine gL ?_; first | refine yL0 ?_ | refine yL ?_ | (refine yM ?_; intro _)) | (refine gD ?_; first | (refine yN ?_; try simp only [cAp, nAp]) | refine yD ?_ | (refine yE ?_; intro _)) | refine yJ ?_ | refine zd124Bq5 ?_ | (refine yI ?_ ?_ <;> intro _ <;> try exact xX) | (refine yK ?_ ?_ <;> intro hgb <;> first | subst hgb | fail_if_success have : type_of% hgb := rfl) | fail))
    all_goals (refine J_ret1 rfl (by rfl) fun w H => ⟨_, ⟨a, c, rfl, rfl⟩, H.sel xZ⟩)
  | cons o r =>
    generalize hes : o :: r = es at *
    have h0 : es[0]? = some o := by rw [← hes]; rfl
    have hlen : 0 < es.length := by rw [← hes]; simp
    have hm0 := List.mem_of_getElem? h0
    (repeat' (first | (refine gL ?_; first | refine yL0 ?_ | refine yL ?_ | (refine gL_go ?_; (refine JL_goq (hk.2 o (hn o hm0).1 (hn o hm0).2) (hφ := (by (try simp only [cAp, nAp]); exact fun w hr => hK w hr.1 o hm0)) (h := ?_); rintro _ _ ⟨rfl, rfl⟩; try simp only [cAp, nAp])) | (refine yM ?_; intro _)) | (refine gD ?_; first | (refine yN ?_; try simp only [cAp, nAp]) | refine yD ?_ | (refine gD_go ?_; (refine JD_goq (hk.2 o (hn o hm0).1 (hn o hm0).2) (hφ := (by (try simp only [cAp, nAp]); exact fun w hr => hK w hr.1 o hm0)) (h := ?_); rintro _ _ ⟨rfl, rfl⟩; try simp only [cAp, nAp])) | (refine yE ?_; intro _)) | refine yJ ?_ | refine zd124Bq5 ?_ | (refine yI ?_ ?_ <;> intro _ <;> try exact xX) | (refine yK ?_ ?_ <;> intro hgb <;> first | subst hgb | fail_if_success have : type_of% hgb := rfl) | fail))
    rename_i g1 _ g2
    refine J_loop (α := Nat) 0 (fun k => es.length - k) (fun k => k ≤ es.length) (fun k => [(0, .slice a es.length c), (3, .pointer (some ⟨g1, 0, none⟩)), (5, .pointer (some ⟨g2, 0, none⟩)), (17, .slice a es.length c), (18, .int .i64 es.length), (19, .int .i64 k)])
      (fun k => [Ar 162 18 onC (.slice a es.length c) es, pts g1 [.func (.func F) #[] #[]] 197, pts g2 [.int .i64 (minL κ (es.take k) (κ o))] 3]) (Nat.zero_le _) ⟨rfl, rfl, rfl, rfl, rfl, rfl, trivial⟩ (fun w H => H.sel xZ) ?_
    intro k hkl
    by_cases hlt : k < es.length
    · obtain ⟨x, hs⟩ : ∃ x, es[k]? = some x := ⟨_, List.getElem?_eq_getElem hlt⟩
      have hm := List.mem_of_getElem? hs
      (repeat' (first | (refine gL ?_; first | refine yL0 ?_ | refine yL ?_ | (refine gL_go ?_; (refine JL_goq (hk.2 x (hn x hm).1 (hn x hm).2) (hφ := (by (try simp only [cAp, nAp]); exact fun w hr => hK w hr.1 x hm)) (h := ?_); rintro _ _ ⟨rfl, rfl⟩; try simp only [cAp, nAp])) | (refine yM ?_; intro _)) | (refine gD ?_; first | (refine yN ?_; try simp only [cAp, nAp]) | refine yD ?_ | (refine gD_go ?_; (refine JD_goq (hk.2 x (hn x hm).1 (hn x hm).2) (hφ := (by (try simp only [cAp, nAp]); exact fun w hr => hK w hr.1 x hm)) (h := ?_); rintro _ _ ⟨rfl, rfl⟩; try simp only [cAp, nAp])) | (refine yE ?_; intro _)) | refine yJ ?_ | refine zd124Bq5 ?_ | (refine yI ?_ ?_ <;> intro _ <;> try exact xX) | (refine yK ?_ ?_ <;> intro hgb <;> first | subst hgb | fail_if_success have : type_of% hgb := rfl) | fail))
      refine J_again (k + 1) (by omega) (by omega) ⟨rfl, rfl, rfl, rfl, rfl, rfl, trivial⟩ (fun w H => ?_)
      rw [take_snoc hs, minL_snoc]
      exact H.sel xZ
    · obtain rfl : k = es.length := by omega
      rw [List.take_length]
      (repeat' (first | (refine gL ?_; first | refine yL0 ?_ | refine yL ?_ | (refine gL_go ?_; (refine JL_goq (delete_s a c es 157 [.pointer (some ⟨g1, 0, none⟩), .pointer (some ⟨g2, 0, none⟩)] (fun x => decide (κ x ≠ minL κ es (κ o))) _ (tstI F κ _ g1 g2 hk) hn (by omega)) (hφ := (by (try simp only [cAp, nAp]); exact fun w hr => ⟨⟨hr.cell xA rfl, hr.cell xA rfl⟩, hK w hr.1⟩)) (h := ?_); rintro _ _ ⟨a', c', rfl, rfl⟩; try simp only [cAp, nAp])) | (refine yM ?_; intro _)) | (refine gD ?_; first | (refine yN ?_; try simp only [cAp, nAp]) | refine yD ?_ | (refine gD_go ?_; (refine JD_goq (delete_s a c es 157 [.pointer (some ⟨g1, 0, none⟩), .pointer (some ⟨g2, 0, none⟩)] (fun x => decide (κ x ≠ minL κ es (κ o))) _ (tstI F κ _ g1 g2 hk) hn (by omega)) (hφ := (by (try simp only [cAp, nAp]); exact fun w hr => ⟨⟨hr.cell xA rfl, hr.cell xA rfl⟩, hK w hr.1⟩)) (h := ?_); rintro _ _ ⟨a', c', rfl, rfl⟩; try simp only [cAp, nAp])) | (refine yE ?_; intro _)) | refine yJ ?_ | refine zd124Bq5 ?_ | (refine yI ?_ ?_ <;> intro _ <;> try exact xX) | (refine yK ?_ ?_ <;> intro hgb <;> first | subst hgb | fail_if_success have : type_of% hgb := rfl) | fail))
      refine J_ret1 rfl (by rfl) fun w H => ⟨_, ⟨a', c', ?_, rfl⟩, ?_⟩
      all_goals subst hes
      · rfl
      · exact H.sel xZ
theorem leastA_s (a : Option Addr) (c : Nat) (es : List On) (F : FuncId) (κ : On → Int) (hk : Key .u32 F κ) (hn : ∀ o ∈ es, CdN o.c ∧ I64 o.at_) :
    Pact Tryz.prog 131 #[.slice a es.length c, .func (.func F) #[] #[]] (pathsV es) [Ar 162 18 onC (.slice a es.length c) es] (Ones (leastL κ es)) := by
  have ho := hk.1
  refine pact Tryz.func131 rfl Tryz.ntmps131 rfl ?_
  intro W K hK
  refine J_fact (φ := es.length ≤ c ∧ c ≤ maxLen) (fun w H => (H.arShape .here).2) ?_
  rintro ⟨hnc, hcm⟩
  unfold maxLen at hcm
  cases es with
  | nil =>
    (repeat' (first | (refine gL ?_; first | refine yL0 ?_ | refine yL ?_ | (refine yM ?_; intro _)) | (refine gD ?_; first | (refine yN ?_; try simp only [cAp, nAp]) | refine yD ?_ | (refine yE ?_; intro _)) | refine yJ ?_ | refine zd131Bq5 ?_ | (refine yI ?_ ?_ <;> intro _ <;> try exact xX) | (refine yK ?_ ?_ <;> intro hgb <;> first | subst hgb | fail_if_success have : type_of% hgb := rfl) | fail))
    all_goals (refine J_ret1 rfl (by rfl) fun w H => ⟨_, ⟨a, c, rfl, rfl⟩, H.sel xZ⟩)
  | cons o r =>
    generalize hes : o :: r = es at *
    have h0 : es[0]? = some o := by rw [← hes]; rfl
    have hlen : 0 < es.length := by rw [← hes]; simp
    have hm0 := List.mem_of_getElem? h0
    (repeat' (first | (refine gL ?_; first | refine yL0 ?_ | refine yL ?_ | (refine gL_go ?_; (refine JL_goq (hk.2 o (hn o hm0).1 (hn o hm0).2) (hφ := (by (try simp only [cAp, nAp]); exact fun w hr => hK w hr.1 o hm0)) (h := ?_); rintro _ _ ⟨rfl, rfl⟩; try simp only [cAp, nAp])) | (refine yM ?_; intro _)) | (refine gD ?_; first | (refine yN ?_; try simp only [cAp, nAp]) | refine yD ?_ | (refine gD_go ?_; (refine JD_goq (hk.2 o (hn o hm0).1 (hn o hm0).2) (hφ := (by (try simp only [cAp, nAp]); exact fun w hr => hK w hr.1 o hm0)) (h := ?_); rintro _ _ ⟨rfl, rfl⟩; try simp only [cAp, nAp])) | (refine yE ?_; intro _)) | refine yJ ?_ | refine zd131Bq5 ?_ | (refine yI ?_ ?_ <;> intro _ <;> try exact xX) | (refine yK ?_ ?_ <;> intro hgb <;> first | subst hgb | fail_if_success have : type_of% hgb := rfl) | fail))
    rename_i g1 _ g2
    refine J_loop (α := Nat) 0 (fun k => es.length - k) (fun k => k ≤ es.length) (fun k => [(0, .slice a es.length c), (3, .pointer (some ⟨g1, 0, none⟩)), (5, .pointer (some ⟨g2, 0, none⟩)), (17, .slice a es.length c), (18, .int .i64 es.length), (19, .int .i64 k)])
      (fun k => [Ar 162 18 onC (.slice a es.length c) es, pts g1 [.func (.func F) #[] #[]] 200, pts g2 [.int .u32 (minL κ (es.take k) (κ o))] 26]) (Nat.zero_le _) ⟨rfl, rfl, rfl, rfl, rfl, rfl, trivial⟩ (fun w H => H.sel xZ) ?_
    intro k hkl
    by_cases hlt : k < es.length
    · obtain ⟨x, hs⟩ : ∃ x, es[k]? = some x := ⟨_, List.getElem?_eq_getElem hlt⟩
      have hm := List.mem_of_getElem? hs
      (repeat' (first | (refine gL ?_; first | refine yL0 ?_ | refine yL ?_ | (refine gL_go ?_; (refine JL_goq (hk.2 x (hn x hm).1 (hn x hm).2) (hφ := (by (try simp only [cAp, nAp]); exact fun w hr => hK w hr.1 x hm)) (h := ?_); rintro _ _ ⟨rfl, rfl⟩; try simp only [cAp, nAp])) | (refine yM ?_; intro _)) | (refine gD ?_; first | (refine yN ?_; try simp only [cAp, nAp]) | refine yD ?_ | (refine gD_go ?_; (refine JD_goq (hk.2 x (hn x hm).1 (hn x hm).2) (hφ := (by (try simp only [cAp, nAp]); exact fun w hr => hK w hr.1 x hm)) (h := ?_); rintro _ _ ⟨rfl, rfl⟩; try simp only [cAp, nAp])) | (refine yE ?_; intro _)) | refine yJ ?_ | refine zd131Bq5 ?_ | (refine yI ?_ ?_ <;> intro _ <;> try exact xX) | (refine yK ?_ ?_ <;> intro hgb <;> first | subst hgb | fail_if_success have : type_of% hgb := rfl) | fail))
      refine J_again (k + 1) (by omega) (by omega) ⟨rfl, rfl, rfl, rfl, rfl, rfl, trivial⟩ (fun w H => ?_)
      rw [take_snoc hs, minL_snoc]
      exact H.sel xZ
    · obtain rfl : k = es.length := by omega
      rw [List.take_length]
      (repeat' (first | (refine gL ?_; first | refine yL0 ?_ | refine yL ?_ | (refine gL_go ?_; (refine JL_goq (delete_s a c es 161 [.pointer (some ⟨g1, 0, none⟩), .pointer (some ⟨g2, 0, none⟩)] (fun x => decide (κ x ≠ minL κ es (κ o))) _ (tstA F κ _ g1 g2 hk) hn (by omega)) (hφ := (by (try simp only [cAp, nAp]); exact fun w hr => ⟨⟨hr.cell xA rfl, hr.cell xA rfl⟩, hK w hr.1⟩)) (h := ?_); rintro _ _ ⟨a', c', rfl, rfl⟩; try simp only [cAp, nAp])) | (refine yM ?_; intro _)) | (refine gD ?_; first | (refine yN ?_; try simp only [cAp, nAp]) | refine yD ?_ | (refine gD_go ?_; (refine JD_goq (delete_s a c es 161 [.pointer (some ⟨g1, 0, none⟩), .pointer (some ⟨g2, 0, none⟩)] (fun x => decide (κ x ≠ minL κ es (κ o))) _ (tstA F κ _ g1 g2 hk) hn (by omega)) (hφ := (by (try simp only [cAp, nAp]); exact fun w hr => ⟨⟨hr.cell xA rfl, hr.cell xA rfl⟩, hK w hr.1⟩)) (h := ?_); rintro _ _ ⟨a', c', rfl, rfl⟩; try simp only [cAp, nAp])) | (refine yE ?_; intro _)) | refine yJ ?_ | refine zd131Bq5 ?_ | (refine yI ?_ ?_ <;> intro _ <;> try exact xX) | (refine yK ?_ ?_ <;> intro hgb <;> first | subst hgb | fail_if_success have : type_of% hgb := rfl) | fail))
      refine J_ret1 rfl (by rfl) fun w H => ⟨_, ⟨a', c', ?_, rfl⟩, ?_⟩
      all_goals subst hes
      · rfl
      · exact H.sel xZ
theorem zd130Bq6 {p q : Prop} (k : p) (h : p → q := by intro hk; first | exact J_draw (id := 8) [0, 1, 2, 3, 4] [5] mixed xC xD xD hk | fail) : q := h k

def nbMed : List On → Int → Option Int
  | [], _ => none
  | o :: r, n => match nbMed r n with
    | none => if cNb o.c = n then some (cMed o.c) else none
    | some m => some (if cNb o.c = n then min (cMed o.c) m else m)
def MedMap (es : List On) (mm : List (Int × Value)) : Prop := ∀ n, alGet mm n = (nbMed es n).map (Value.int .i64)

theorem MedMap.look {es : List On} {mm : List (Int × Value)} (h : MedMap es mm) (n : Int) : lookV (alGet mm n) (.int .i64 0) false = .int .i64 ((nbMed es n).getD 0) := by
  rw [h n]
  cases nbMed es n <;> rfl
theorem MedMap.look2 {es : List On} {mm : List (Int × Value)} (h : MedMap es mm) (n : Int) : lookV (alGet mm n) (.int .i64 0) true = .tuple [.int .i64 ((nbMed es n).getD 0), .bool (nbMed es n).isSome].toArray := by
  rw [h n]
  cases nbMed es n <;> rfl
theorem nbMed_snoc : ∀ (es : List On) (o : On) (n : Int), nbMed (es ++ [o]) n = if cNb o.c = n then some (match nbMed es n with | none => cMed o.c | some m => min m (cMed o.c)) else nbMed es n
  | [], o, n => by simp [nbMed]
  | x :: r, o, n => by
    have ih := nbMed_snoc r o n
    simp only [List.cons_append, nbMed, ih]
    by_cases h : cNb o.c = n
    · simp only [if_pos h]
      cases nbMed r n <;> (by_cases hx : cNb x.c = n <;> simp [hx]; try omega)
    · simp only [if_neg h]

theorem meds1_s (g1 b : Nat) (mm : List (Int × Value)) (es : List On) (hm : MedMap es mm) : Tst 160 [.pointer (some ⟨g1, 0, none⟩)] (fun o => decide ((nbMed es (cNb o.c)).getD 0 < cMed o.c)) (fun w => w.cell? ⟨g1, 0, none⟩ = some (.map (some b)) ∧ ∃ h, mp .u32 b mm h ∧ h.inn w) := by
  refine ⟨by decide +kernel, fun o h ha => ?_⟩
  refine pact Tryz.func160 rfl Tryz.ntmps160 rfl ?_
  intro W K hK
  have h1 := hK.left.left
  have h2 := hK.left.right
  have hlook := hm.look
  (repeat' (first | (refine gL ?_; first | refine yL0 ?_ | refine yL ?_ | (refine yM ?_; intro _)) | (refine gD ?_; first | (refine yN ?_; try simp only [cAp, nAp]) | refine yD ?_ | (refine gD_go ?_; first | (refine JD_goq (med_s o.c h) (hφ := xF) (h := ?_); rintro _ _ ⟨rfl, rfl⟩; try simp only [cAp, nAp]) | (refine JD_goq (nb_s o.c h) (hφ := (by (try simp only [cAp, nAp]); exact fun w hr => (hK w hr.1).2)) (h := ?_); rintro _ _ ⟨rfl, rfl⟩; try simp only [cAp, nAp])) | (refine gD_lookup ?_; first | refine JD_p rfl xR rfl (pe_lookup xR xR (tabM mtab_ok xR) xT (by first | apply hlook | apply hlook2 | rfl)) ?_ | refine JD_p rfl xR rfl (pe_lookupK xR xR (tabM mtab_ok xR) xH (by first | apply hlook | apply hlook2 | rfl)) ?_ | refine JD_lookM xR xR (tabM mtab_ok xR) xT (by first | apply hlook | apply hlook2 | rfl) xR ?_)) | refine yJ ?_ | refine J_draw (id := 1) [0, 1, 3, 4, 5, 2, 6] [7, 8, 9] mixed xC xD xD ?_ | fail))
  all_goals (refine J_ret1 rfl (by rfl) fun w H => ⟨[], ⟨rfl, rfl⟩, H.sel .nil⟩)

def medsL (es : List On) : List On := keepL (fun o => decide ((nbMed es (cNb o.c)).getD 0 < cMed o.c)) es
theorem med_put {l : List On} {mm : List (Int × Value)} {x : On} (hm : MedMap l mm) (h : ∀ m, nbMed l (cNb x.c) = some m → cMed x.c < m) : MedMap (l ++ [x]) (alPut mm (cNb x.c) (.int .i64 (cMed x.c))) := fun n => by
  rw [alGet_put, nbMed_snoc]
  by_cases hx : n = cNb x.c
  · subst hx
    rw [if_pos rfl, if_pos rfl]
    cases hq : nbMed l (cNb x.c) with
    | none => rfl
    | some m => have := h m hq; simp; omega
  · rw [if_neg hx, if_neg (Ne.symm hx)]
    exact hm n
theorem med_keep {l : List On} {mm : List (Int × Value)} {x : On} (hm : MedMap l mm) (h : ∃ m, nbMed l (cNb x.c) = some m ∧ ¬ cMed x.c < m) : MedMap (l ++ [x]) mm := fun n => by
  rw [nbMed_snoc, hm n]
  by_cases hx : cNb x.c = n
  · subst hx
    obtain ⟨m, h1, h2⟩ := h
    rw [if_pos rfl, h1]
    simp; omega
  · rw [if_neg hx]
structure Mk where
  k : Nat
  mm : List (Int × Value)
theorem meds_s (a : Option Addr) (c : Nat) (es : List On) (hn : ∀ o ∈ es, CdN o.c ∧ I64 o.at_) :
    Pact Tryz.prog 130 #[.slice a es.length c] (pathsV es) [Ar 162 18 onC (.slice a es.length c) es] (Ones (medsL es)) := by
  refine pact Tryz.func130 rfl Tryz.ntmps130 rfl ?_
  intro W K hK
  refine J_fact (φ := es.length ≤ c ∧ c ≤ maxLen) (fun w H => (H.arShape .here).2) ?_
  rintro ⟨hnc, hcm⟩
  unfold maxLen at hcm
  (repeat' (first | (refine gL ?_; first | refine yL0 ?_ | refine yL ?_ | (refine yM ?_; intro _) | (refine gL_lookup ?_; first | refine JL_p rfl xR xR (pe_lookup xR xR (tabM mtab_ok xR) xT (by first | apply hlook | apply hlook2 | rfl)) ?_ | refine JL_p rfl xR xR (pe_lookupK xR xR (tabM mtab_ok xR) xH (by first | apply hlook | apply hlook2 | rfl)) ?_) | (refine gL_makeMap ?_; (refine JL_mm (tabM mtab_ok xR) xR xR ?_; intro _))) | (refine gD ?_; first | (refine yN ?_; try simp only [cAp, nAp]) | refine yD ?_ | (refine gD_mapUpdate ?_; refine JD_mapSet xR xR xR (tabM mtab_ok xR) xT xR ?_)) | refine yJ ?_ | refine zd130Bq6 ?_ | (refine yI ?_ ?_ <;> intro _ <;> try exact xX) | (refine yK ?_ ?_ <;> intro hgb <;> first | subst hgb | fail_if_success have : type_of% hgb := rfl) | fail))
  rename_i b g1
  refine J_loop (α := Mk) ⟨0, []⟩ (fun x => es.length - x.k) (fun x => x.k ≤ es.length ∧ MedMap (es.take x.k) x.mm) (fun x => [(0, .slice a es.length c), (3, .pointer (some ⟨g1, 0, none⟩)), (10, .slice a es.length c), (11, .int .i64 es.length), (12, .int .i64 x.k)])
      (fun x => [Ar 162 18 onC (.slice a es.length c) es, pts g1 [.map (some b)] 221, mp .u32 b x.mm]) ⟨Nat.zero_le _, fun n => rfl⟩ ⟨rfl, rfl, rfl, rfl, rfl, trivial⟩ (fun w H => H.sel xZ) ?_
  rintro ⟨k, mm⟩ ⟨hkl, hmm⟩
  dsimp only at hkl hmm ⊢
  by_cases hlt : k < es.length
  · obtain ⟨x, hs⟩ : ∃ x, es[k]? = some x := ⟨_, List.getElem?_eq_getElem hlt⟩
    have hm := List.mem_of_getElem? hs
    have hlook := hmm.look
    have hlook2 := hmm.look2
    (repeat' (first | (refine gL ?_; first | refine yL0 ?_ | refine yL ?_ | (refine gL_go ?_; first | (refine JL_goq (med_s x.c (hn x hm).1) (hφ := xF) (h := ?_); rintro _ _ ⟨rfl, rfl⟩; try simp only [cAp, nAp]) | (refine JL_goq (nb_s x.c (hn x hm).1) (hφ := (by (try simp only [cAp, nAp]); exact fun w hr => hK w hr.1 x hm)) (h := ?_); rintro _ _ ⟨rfl, rfl⟩; try simp only [cAp, nAp])) | (refine yM ?_; intro _) | (refine gL_lookup ?_; first | refine JL_p rfl xR xR (pe_lookup xR xR (tabM mtab_ok xR) xT (by first | apply hlook | apply hlook2 | rfl)) ?_ | refine JL_p rfl xR xR (pe_lookupK xR xR (tabM mtab_ok xR) xH (by first | apply hlook | apply hlook2 | rfl)) ?_) | (refine gL_makeMap ?_; (refine JL_mm (tabM mtab_ok xR) xR xR ?_; intro _))) | (refine gD ?_; first | (refine yN ?_; try simp only [cAp, nAp]) | refine yD ?_ | (refine gD_go ?_; first | (refine JD_goq (med_s x.c (hn x hm).1) (hφ := xF) (h := ?_); rintro _ _ ⟨rfl, rfl⟩; try simp only [cAp, nAp]) | (refine JD_goq (nb_s x.c (hn x hm).1) (hφ := (by (try simp only [cAp, nAp]); exact fun w hr => hK w hr.1 x hm)) (h := ?_); rintro _ _ ⟨rfl, rfl⟩; try simp only [cAp, nAp])) | (refine gD_mapUpdate ?_; refine JD_mapSet xR xR xR (tabM mtab_ok xR) xT xR ?_)) | refine yJ ?_ | refine zd130Bq6 ?_ | (refine yI ?_ ?_ <;> intro _ <;> try exact xX) | (refine yK ?_ ?_ <;> intro hgb <;> first | subst hgb | fail_if_success have : type_of% hgb := rfl) | fail))
    · rename_i h1
      refine J_again ⟨k + 1, _⟩ (by dsimp only; omega) ⟨hlt, ?_⟩ ⟨rfl, rfl, rfl, rfl, rfl, trivial⟩ (fun w H => H.sel xZ)
      rw [take_snoc hs]
      exact med_put hmm fun m hq => by simp [hq] at h1
    · rename_i h1 h2
      refine J_again ⟨k + 1, _⟩ (by dsimp only; omega) ⟨hlt, ?_⟩ ⟨rfl, rfl, rfl, rfl, rfl, trivial⟩ (fun w H => H.sel xZ)
      rw [take_snoc hs]
      exact med_put hmm fun m hq => by simp [hq] at h1 h2; exact h2
    · rename_i h1 h2
      refine J_again ⟨k + 1, mm⟩ (by dsimp only; omega) ⟨hlt, ?_⟩ ⟨rfl, rfl, rfl, rfl, rfl, trivial⟩ (fun w H => H.sel xZ)
      rw [take_snoc hs]
      refine med_keep hmm ?_
      cases hq : nbMed (es.take k) (cNb x.c) with
      | none => simp [hq] at h1
      | some m => refine ⟨m, rfl, ?_⟩; simp [hq] at h1 h2; omega
  · obtain rfl : k = es.length := by omega
    rw [List.take_length] at hmm
    (repeat' (first | (refine gL ?_; first | refine yL0 ?_ | refine yL ?_ | (refine gL_go ?_; (refine JL_goq (delete_s a c es 160 [.pointer (some ⟨g1, 0, none⟩)] (fun o => decide ((nbMed es (cNb o.c)).getD 0 < cMed o.c)) _ (meds1_s g1 b mm es hmm) hn (by omega)) (hφ := (by (try simp only [cAp, nAp]); exact fun w hr => ⟨⟨hr.cell xA rfl, hr.mp xA⟩, hK w hr.1⟩)) (h := ?_); rintro _ _ ⟨a', c', rfl, rfl⟩; try simp only [cAp, nAp])) | (refine yM ?_; intro _) | (refine gL_lookup ?_; first | refine JL_p rfl xR xR (pe_lookup xR xR (tabM mtab_ok xR) xT (by first | apply hlook | apply hlook2 | rfl)) ?_ | refine JL_p rfl xR xR (pe_lookupK xR xR (tabM mtab_ok xR) xH (by first | apply hlook | apply hlook2 | rfl)) ?_) | (refine gL_makeMap ?_; (refine JL_mm (tabM mtab_ok xR) xR xR ?_; intro _))) | (refine gD ?_; first | (refine yN ?_; try simp only [cAp, nAp]) | refine yD ?_ | (refine gD_go ?_; (refine JD_goq (delete_s a c es 160 [.pointer (some ⟨g1, 0, none⟩)] (fun o => decide ((nbMed es (cNb o.c)).getD 0 < cMed o.c)) _ (meds1_s g1 b mm es hmm) hn (by omega)) (hφ := (by (try simp only [cAp, nAp]); exact fun w hr => ⟨⟨hr.cell xA rfl, hr.mp xA⟩, hK w hr.1⟩)) (h := ?_); rintro _ _ ⟨a', c', rfl, rfl⟩; try simp only [cAp, nAp])) | (refine gD_mapUpdate ?_; refine JD_mapSet xR xR xR (tabM mtab_ok xR) xT xR ?_)) | refine yJ ?_ | refine zd130Bq6 ?_ | (refine yI ?_ ?_ <;> intro _ <;> try exact xX) | (refine yK ?_ ?_ <;> intro hgb <;> first | subst hgb | fail_if_success have : type_of% hgb := rfl) | fail))
    refine J_ret1 rfl (by rfl) fun w H => ⟨_, ⟨a', c', rfl, rfl⟩, H.sel xZ⟩
end Go.Proofs.YtdnokmpnemaoaaaGreat.B
