/-
  Bq8, Vc1, Vc2, Tq1, Tq2, Tq3: merged.
-/
import Derived.Test.YtdnokmpnemaoaaaGreatZViewForeign16
namespace Go.Proofs.YtdnokmpnemaoaaaGreat.B
set_option linter.unusedSimpArgs false
set_option linter.unusedVariables false
open Go.RowKit Go.Pm

def beat (k : Int) (x o : On) : Prop :=
  if k = 1 then -cLocal x.c < -cLocal o.c else if k = 2 then (C.lenN (pN x.c.path) : Int) < (C.lenN (pN o.c.path) : Int) else if k = 3 then x.c.origin < o.c.origin else if k = 4 then cNb x.c = cNb o.c ∧ cMed x.c < cMed o.c
  else if k = 5 then x.c.id < o.c.id else if k = 6 then x.c.addr < o.c.addr else if k = 7 then x.c.peer < o.c.peer else x.at_ < o.at_
theorem minL_le (κ : On → Int) : ∀ (l : List On) (m : Int), minL κ l m ≤ m ∧ (∀ o ∈ l, minL κ l m ≤ κ o) ∧ (minL κ l m = m ∨ ∃ o ∈ l, minL κ l m = κ o)
  | [], m => ⟨Int.le_refl _, by simp, .inl rfl⟩
  | o :: r, m => by
    obtain ⟨h1, h2, h3⟩ := minL_le κ r (min m (κ o))
    simp only [minL]
    refine ⟨by omega, ?_, ?_⟩
    · intro x hx
      rcases List.mem_cons.1 hx with rfl | hx
      · omega
      · exact h2 x hx
    · rcases h3 with h3 | ⟨x, hx, h3⟩
      · by_cases hm : m ≤ κ o
        · left; omega
        · right; exact ⟨o, List.mem_cons_self .., by omega⟩
      · exact .inr ⟨x, List.mem_cons_of_mem _ hx, h3⟩
theorem mem_leastL (κ : On → Int) (es : List On) (o : On) : o ∈ leastL κ es ↔ o ∈ es ∧ ∀ x ∈ es, ¬ κ x < κ o := by
  cases es with
  | nil => simp [leastL]
  | cons a r =>
    obtain ⟨h1, h2, h3⟩ := minL_le κ (a :: r) (κ a)
    simp only [leastL, keepL, List.mem_filter]
    constructor
    · rintro ⟨ho, he⟩
      refine ⟨ho, fun x hx => ?_⟩
      have := h2 x hx
      simp at he
      omega
    · rintro ⟨ho, he⟩
      refine ⟨ho, ?_⟩
      have h4 := h2 o ho
      simp only [Bool.not_eq_true', decide_eq_false_iff_not, Decidable.not_not]
      rcases h3 with h3 | ⟨x, hx, h3⟩
      · have := he a (List.mem_cons_self ..)
        omega
      · have := he x hx
        omega
theorem nbMed_le : ∀ (es : List On) (n : Int), match nbMed es n with | none => ∀ o ∈ es, cNb o.c ≠ n | some m => (∀ o ∈ es, cNb o.c = n → m ≤ cMed o.c) ∧ ∃ o ∈ es, cNb o.c = n ∧ cMed o.c = m
  | [], n => by simp [nbMed]
  | o :: r, n => by
    have ih := nbMed_le r n
    simp only [nbMed]
    cases hq : nbMed r n with
    | none =>
      rw [hq] at ih
      by_cases hn : cNb o.c = n
      · simp only [if_pos hn]
        refine ⟨?_, o, List.mem_cons_self .., hn, rfl⟩
        intro x hx hxn
        rcases List.mem_cons.1 hx with rfl | hx
        · omega
        · exact absurd hxn (ih x hx)
      · simp only [if_neg hn]
        intro x hx
        rcases List.mem_cons.1 hx with rfl | hx
        · exact hn
        · exact ih x hx
    | some m =>
      rw [hq] at ih
      obtain ⟨h1, y, hy, hyn, hym⟩ := ih
      by_cases hn : cNb o.c = n
      · simp only [if_pos hn]
        refine ⟨?_, ?_⟩
        · intro x hx hxn
          rcases List.mem_cons.1 hx with rfl | hx
          · omega
          · have := h1 x hx hxn
            omega
        · by_cases hle : cMed o.c ≤ m
          · exact ⟨o, List.mem_cons_self .., hn, by omega⟩
          · exact ⟨y, List.mem_cons_of_mem _ hy, hyn, by omega⟩
      · simp only [if_neg hn]
        refine ⟨?_, y, List.mem_cons_of_mem _ hy, hyn, hym⟩
        intro x hx hxn
        rcases List.mem_cons.1 hx with rfl | hx
        · exact absurd hxn hn
        · exact h1 x hx hxn
theorem mem_medsL (es : List On) (o : On) : o ∈ medsL es ↔ o ∈ es ∧ ∀ x ∈ es, ¬ (cNb x.c = cNb o.c ∧ cMed x.c < cMed o.c) := by
  simp only [medsL, keepL, List.mem_filter, Bool.not_eq_true', decide_eq_false_iff_not]
  constructor
  · rintro ⟨ho, he⟩
    refine ⟨ho, fun x hx hb => ?_⟩
    have h := nbMed_le es (cNb o.c)
    cases hq : nbMed es (cNb o.c) with
    | none => rw [hq] at h; exact h o ho rfl
    | some m =>
      rw [hq] at h he
      have := h.1 x hx hb.1
      simp at he
      omega
  · rintro ⟨ho, he⟩
    refine ⟨ho, fun hb => ?_⟩
    have h := nbMed_le es (cNb o.c)
    cases hq : nbMed es (cNb o.c) with
    | none => rw [hq] at h; exact h o ho rfl
    | some m =>
      rw [hq] at h hb
      obtain ⟨_, y, hy, h1, h2⟩ := h
      simp at hb
      exact he y hy ⟨h1, by omega⟩
theorem mem_stepL (k : Int) (es : List On) (o : On) : o ∈ stepL k es ↔ o ∈ es ∧ ∀ x ∈ es, ¬ beat k x o := by
  unfold stepL beat
  repeat' split
  all_goals first | exact mem_leastL _ _ _ | exact mem_medsL _ _
theorem beat_lt (k : Int) : ∃ κ : On → Int, ∀ x o, beat k x o → κ x < κ o := by
  unfold beat
  repeat' split
  · exact ⟨fun o => -cLocal o.c, fun _ _ h => h⟩
  · exact ⟨fun o => (C.lenN (pN o.c.path) : Int), fun _ _ h => h⟩
  · exact ⟨fun o => o.c.origin, fun _ _ h => h⟩
  · exact ⟨fun o => cMed o.c, fun _ _ h => h.2⟩
  · exact ⟨fun o => o.c.id, fun _ _ h => h⟩
  · exact ⟨fun o => o.c.addr, fun _ _ h => h⟩
  · exact ⟨fun o => o.c.peer, fun _ _ h => h⟩
  · exact ⟨fun o => o.at_, fun _ _ h => h⟩
theorem stepL_ne (k : Int) (es : List On) (h : es ≠ []) : stepL k es ≠ [] := by
  obtain ⟨κ, hκ⟩ := beat_lt k
  cases es with
  | nil => exact absurd rfl h
  | cons a r =>
    obtain ⟨h1, h2, h3⟩ := minL_le κ (a :: r) (κ a)
    have : ∃ o ∈ a :: r, minL κ (a :: r) (κ a) = κ o := by
      rcases h3 with h3 | h3
      · exact ⟨a, List.mem_cons_self .., h3⟩
      · exact h3
    obtain ⟨o, ho, he⟩ := this
    refine List.ne_nil_of_mem ((mem_stepL k _ o).2 ⟨ho, fun x hx hb => ?_⟩)
    have := hκ x o hb
    have := h2 x hx
    omega
theorem stepsN_ne : ∀ (n : Nat) (es : List On), es ≠ [] → stepsN n es ≠ []
  | 0, _, h => h
  | n + 1, es, h => stepL_ne _ _ (stepsN_ne n es h)
theorem onesL_ne {cs : List Cd} (h : cs ≠ []) : onesL cs ≠ [] := by
  intro e
  have := onesL_len cs
  rw [e] at this
  exact h (List.eq_nil_of_length_eq_zero this.symm)
theorem onesL_get {cs : List Cd} {o : On} (h : o ∈ onesL cs) : ∃ k : Nat, o.at_ = k ∧ cs[k]? = some o.c := by
  obtain ⟨p, hp, rfl⟩ := List.mem_map.1 h
  have := List.mem_zipIdx hp
  simp at this
  exact ⟨p.2, rfl, by rw [this.2, List.getElem?_eq_getElem this.1]⟩
theorem pick_in {cs : List Cd} (h : cs ≠ []) : ∃ k : Nat, (leftL cs 8).head?.getD (-1) = (k : Int) ∧ k < cs.length := by
  have hs : leftL cs 8 = (stepsN 8 (onesL cs)).map On.at_ := rfl
  have h1 := stepsN_ne 8 _ (onesL_ne h)
  rw [hs]
  cases hq : stepsN 8 (onesL cs) with
  | nil => exact absurd hq h1
  | cons o r =>
    have ho : o ∈ stepsN 8 (onesL cs) := by rw [hq]; exact List.mem_cons_self ..
    obtain ⟨k, e1, e2⟩ := onesL_get (stepsN_sub 8 _ o ho)
    exact ⟨k, by simp [e1], (List.getElem?_eq_some_iff.1 e2).1⟩
theorem pick_none : (leftL [] 8).head?.getD (-1) = (-1 : Int) := by rfl
end Go.Proofs.YtdnokmpnemaoaaaGreat.B
namespace Go.Proofs.YtdnokmpnemaoaaaGreat
set_option linter.unusedSimpArgs false
set_option linter.unusedVariables false
set_option maxRecDepth 20000
set_option maxHeartbeats 4000000
open Go.RowKit Go.Pm

structure Qn where
  peer : Int
  as_ : Int
  id : Int
  addr : Int
  nf : Nf
def cnN (x : B.Cd) : Qn := ⟨x.peer, x.as_, x.id, x.addr, x.toAt.nf⟩
def mkC (x : B.Cd) (d : At) : B.Cd := ⟨d, x.peer, x.as_, x.id, x.addr⟩
structure CnN (x : B.Cd) : Prop where
  peer : I64 x.peer
  as_ : U32 x.as_
  id : U32 x.id
  addr : U32 x.addr
  d : AtN x.toAt
def cnV (ds : List B.Cd) (w : World) : Prop := ∀ x ∈ ds, AtV w x.toAt
def trN (x : B.Cd) : Qn := cnN (mkC x x.toAt.trW)
theorem cnV_snoc {K : Hl} {L R : List HP} {w : World} {ds : List B.Cd} {x : B.Cd} (hr : Rdw K L w) (t : Tk L (has (cnV ds)) R) (hx : AtV w x.toAt) : cnV (ds ++ [x]) w := by
  intro d hd
  rcases List.mem_append.1 hd with hd | hd
  · exact hr.has (φ := cnV ds) t d hd
  · obtain rfl := List.mem_singleton.1 hd
    exact hx
def CandsR (cs : List B.Cd) (v : Value) (L' : List HP) : Prop := ∃ ds a' c', v = .slice a' ds.length c' ∧ ds.map cnN = (cs.take 10).map trN ∧ (∀ d ∈ ds, B.CdN d) ∧ L' = [Ar 47 17 B.cdC (.slice a' ds.length c') ds, has (cnV ds)]
structure Qcw where
  k : Nat
  ds : List B.Cd
  ad : Option Addr
  cc : Nat
theorem cands_s (a : Option Addr) (c : Nat) (cs : List B.Cd) (hcs : ∀ x ∈ cs, CnN x) (hl : cs.length ≤ 140737488355328) : Pact Tryz.prog 6 #[.slice a cs.length c] (fun w => Vw w (.slice a cs.length c) 17 cs.length (flat B.cdC cs) ∧ cnV cs w) [] (CandsR cs) := by
  refine pact Tryz.func6 rfl Tryz.ntmps6 rfl ?_
  intro W K hK
  have hv := hK.left
  (repeat' (first | ((with_reducible apply gL); (first | refine yL0 ?_ | refine yL ?_ | (refine yM ?_; intro _) | (refine yA ?_; intro _ _ _ _) | ((with_reducible apply gL_gd); (first | (refine JL_guard xR xR ?_ ?_ <;> intro _ <;> (try (exfalso; first | contradiction | omega))) | (refine JL_guardb xR xR ?_ ?_ <;> (intro hgb; subst hgb)) | (refine JL_guardb xR xR ?_ ?_ <;> (intro hgb; fail_if_success (have : type_of% hgb := rfl))) | fail)) | fail)) | refine yJ ?_ | ((with_reducible apply gJ_if); (first | (refine J_if xR ?_ ?_ <;> intro _ <;> (try (exfalso; first | contradiction | omega))) | (refine J_ifb xR ?_ ?_ <;> (intro hgb; subst hgb)) | (refine J_ifb xR ?_ ?_ <;> intro _) | fail)) | fail))
  rename_i b0
  refine J_loop (α := Qcw) ⟨0, [], some ⟨b0, 0, none⟩, 0⟩ (fun x => cs.length - x.k) (fun x => x.k ≤ cs.length ∧ x.k = x.ds.length ∧ x.k ≤ 10 ∧ x.ds.map cnN = (cs.take x.k).map trN ∧ ∀ d ∈ x.ds, B.CdN d) (fun x => [(0, .slice a cs.length c), (3, .slice x.ad x.ds.length x.cc), (4, .int .i64 x.k)])
    (fun x => [Ar 47 17 B.cdC (.slice x.ad x.ds.length x.cc) x.ds, has (cnV x.ds)]) ⟨Nat.zero_le _, rfl, Nat.zero_le _, rfl, by simp⟩ ⟨rfl, rfl, rfl, trivial⟩ (fun w H => (Ow.hasTrue (φ := cnV []) (H.arLit0 .here) (by intro _ _ h; exact absurd h List.not_mem_nil)).sel xZ) ?_
  rintro ⟨k, ds, ad, cc⟩ ⟨hk, hkl, hk10, hdm, hds⟩
  dsimp only at hk hkl hk10 hdm hds ⊢
  by_cases hlt : k < cs.length ∧ k < 10
  · obtain ⟨hlt, hlt2⟩ := hlt
    obtain ⟨x, hs⟩ : ∃ x, cs[k]? = some x := ⟨_, List.getElem?_eq_getElem hlt⟩
    have hm := List.mem_of_getElem? hs
    have hx := hcs x hm
    (repeat' (first | ((with_reducible apply gL); (first | refine yL0 ?_ | ((with_reducible apply gL_c_append); (first | (refine JL_ap1 (z := (⟨d', x.peer, x.as_, x.id, x.addr⟩ : B.Cd)) (tabE etab_ok xR) xR xR xA xA xC xR xL xR (by omega) xR xR ?_; intro ad2 c2 _ _) | fail)) | refine yL ?_ | ((with_reducible apply gL_go); (first | (refine JL_goq (fewv_s x.toAt hx.d) (hφ := (by (try simp only [List.cons_append, List.nil_append]); exact fun w hr => (hK w hr.1).2 x hm)) (h := ?_); rintro _ _ ⟨d', hd', hnf, rfl, rfl⟩; try simp only [List.cons_append, List.nil_append]) | fail)) | (refine yM ?_; intro _) | (refine yA ?_; intro _ _ _ _) | ((with_reducible apply gL_gd); (first | (refine JL_guard xR xR ?_ ?_ <;> intro _ <;> (try (exfalso; first | contradiction | omega))) | (refine JL_guardb xR xR ?_ ?_ <;> (intro hgb; subst hgb)) | (refine JL_guardb xR xR ?_ ?_ <;> (intro hgb; fail_if_success (have : type_of% hgb := rfl))) | fail)) | fail)) | refine yJ ?_ | ((with_reducible apply gJ_if); (first | (refine J_if xR ?_ ?_ <;> intro _ <;> (try (exfalso; first | contradiction | omega))) | (refine J_ifb xR ?_ ?_ <;> (intro hgb; subst hgb)) | (refine J_ifb xR ?_ ?_ <;> intro _) | fail)) | fail))
    refine J_again ⟨k + 1, ds ++ [⟨d', x.peer, x.as_, x.id, x.addr⟩], ad2, c2⟩ (by dsimp only; omega) ⟨hlt, by simp [hkl], by dsimp only; omega, ?_, ?_⟩ ⟨rfl, ?_, rfl, trivial⟩ (fun w H => ?_)
    · dsimp only
      rw [take_snoc hs, List.map_append, List.map_append, hdm]
      simp only [List.map_cons, List.map_nil, trN, cnN, mkC, hnf]
    · intro d hd
      rcases List.mem_append.1 hd with hd | hd
      · exact hds d hd
      · obtain rfl := List.mem_singleton.1 hd
        exact ⟨hx.peer, hx.as_, hx.id, hx.addr, hd'⟩
    · show some _ = some _
      simp
    · simp only [List.length_append, List.length_cons, List.length_nil]
      exact (Ow.has (M := [has (fun w => AtV w d'), has (cnV ds)]) (φ := cnV (ds ++ [⟨d', x.peer, x.as_, x.id, x.addr⟩])) H xZ (fun w hr => cnV_snoc hr (.there .here) (hr.has (φ := fun w => AtV w d') .here))).sel xZ
  · have htk : cs.take k = cs.take 10 := by
      rcases Nat.lt_or_ge k 10 with h | h
      · rw [List.take_of_length_le (by omega), List.take_of_length_le (by omega)]
      · rw [show k = 10 by omega]
    rw [htk] at hdm
    (repeat' (first | ((with_reducible apply gL); (first | refine yL0 ?_ | refine yL ?_ | (refine yM ?_; intro _) | (refine yA ?_; intro _ _ _ _) | ((with_reducible apply gL_gd); (first | (refine JL_guard xR xR ?_ ?_ <;> intro _ <;> (try (exfalso; first | contradiction | omega))) | (refine JL_guardb xR xR ?_ ?_ <;> (intro hgb; subst hgb)) | (refine JL_guardb xR xR ?_ ?_ <;> (intro hgb; fail_if_success (have : type_of% hgb := rfl))) | fail)) | fail)) | refine yJ ?_ | ((with_reducible apply gJ_if); (first | (refine J_if xR ?_ ?_ <;> intro _ <;> (try (exfalso; first | contradiction | omega))) | (refine J_ifb xR ?_ ?_ <;> (intro hgb; subst hgb)) | (refine J_ifb xR ?_ ?_ <;> intro _) | fail)) | fail))
    all_goals (first | (exfalso; omega) | skip)
    all_goals exact J_ret1 rfl (by rfl) fun w H => ⟨_, ⟨ds, ad, cc, rfl, hdm, hds, rfl⟩, H.sel xZ⟩
theorem trW_id {d : At} (h1 : d.path.length ≤ 6) (h2 : d.comms.length ≤ 40) (h3 : d.others.length ≤ 9) : d.trW.nf = d.nf := by
  unfold At.trW At.at_ At.nf
  simp only [List.take_of_length_le h1, List.take_of_length_le h2, List.take_of_length_le h3]
theorem trW_len (d : At) : d.trW.nf.path.length ≤ 6 ∧ d.trW.nf.comms.length ≤ 40 ∧ d.trW.nf.others.length ≤ 9 := by
  unfold At.trW At.at_ At.nf pN oN
  simp only [List.length_map, List.length_take]
  omega
theorem cands_again {cs ds : List B.Cd} (h : ds.map cnN = (cs.take 10).map trN) : (ds.take 10).map trN = ds.map cnN ∧ ds.length ≤ 10 := by
  have hl : ds.length ≤ 10 := by have := congrArg List.length h; simp only [List.length_map, List.length_take] at this; omega
  refine ⟨?_, hl⟩
  rw [List.take_of_length_le hl]
  refine List.map_congr_left fun d hd => ?_
  have hm : cnN d ∈ (cs.take 10).map trN := h ▸ List.mem_map.2 ⟨d, hd, rfl⟩
  obtain ⟨x, _, hx⟩ := List.mem_map.1 hm
  have hn : d.toAt.nf = x.toAt.trW.nf := (congrArg Qn.nf hx).symm
  obtain ⟨h1, h2, h3⟩ := trW_len x.toAt
  rw [← hn] at h1 h2 h3
  simp only [At.nf, pN, oN, List.length_map] at h1 h2 h3
  show Qn.mk _ _ _ _ d.toAt.trW.nf = Qn.mk _ _ _ _ d.toAt.nf
  rw [trW_id h1 h2 h3]
  rfl
end Go.Proofs.YtdnokmpnemaoaaaGreat
namespace Go.Proofs.YtdnokmpnemaoaaaGreat
set_option linter.unusedSimpArgs false
set_option linter.unusedVariables false
open Go.RowKit Go.Pm
def ofN (x : Qn) : B.Cd := ⟨⟨x.nf.origin, none, 0, x.nf.path.map (fun s => ⟨s.1, none, 0, s.2⟩), x.nf.next, x.nf.med.isSome, x.nf.med.getD 0, x.nf.loc.isSome, x.nf.loc.getD 0, x.nf.atomic, x.nf.maker.isSome, 0, 0, none, 0, x.nf.comms, none, 0, []⟩, x.peer, x.as_, x.id, x.addr⟩
def can (o : B.On) : B.On := ⟨ofN (cnN o.c), o.at_⟩
theorem can_path (o : B.On) : pN (can o).c.path = pN o.c.path := by
  show pN ((pN o.c.path).map fun s => (⟨s.1, none, 0, s.2⟩ : Sg)) = _
  unfold pN
  rw [List.map_map, List.map_map]
  rfl
theorem can_local (o : B.On) : B.cLocal (can o).c = B.cLocal o.c := by
  show (if (if o.c.hasLocal = true then some o.c.loc else none : Option Int).isSome = true then (if o.c.hasLocal = true then some o.c.loc else none : Option Int).getD 0 else 100) = if o.c.hasLocal = true then o.c.loc else 100
  cases o.c.hasLocal <;> rfl
theorem can_med (o : B.On) : B.cMed (can o).c = B.cMed o.c := by
  show (if (if o.c.hasMed = true then some o.c.med else none : Option Int).isSome = true then (if o.c.hasMed = true then some o.c.med else none : Option Int).getD 0 else 0) = if o.c.hasMed = true then o.c.med else 0
  cases o.c.hasMed <;> rfl
theorem can_nb (o : B.On) : B.cNb (can o).c = B.cNb o.c := by
  unfold B.cNb
  rw [can_path]
  rfl
theorem keep_can (D : B.On → Bool) (es : List B.On) : B.keepL D (es.map can) = (B.keepL (fun o => D (can o)) es).map can := by
  unfold B.keepL
  rw [List.filter_map]
  rfl
theorem minL_can {κ : B.On → Int} (h : ∀ o, κ (can o) = κ o) : ∀ (es : List B.On) (m : Int), B.minL κ (es.map can) m = B.minL κ es m
  | [], _ => rfl
  | o :: r, m => by
    simp only [List.map_cons, B.minL, h]
    exact minL_can h r _
theorem least_can {κ : B.On → Int} (h : ∀ o, κ (can o) = κ o) : ∀ (es : List B.On), B.leastL κ (es.map can) = (B.leastL κ es).map can
  | [] => rfl
  | o :: r => by
    have hm := minL_can h (o :: r) (κ o)
    simp only [List.map_cons] at hm
    simp only [List.map_cons, B.leastL, h]
    rw [hm, ← List.map_cons, keep_can]
    simp only [h]
theorem nbMed_can : ∀ (es : List B.On) (n : Int), B.nbMed (es.map can) n = B.nbMed es n
  | [], _ => rfl
  | o :: r, n => by
    simp only [List.map_cons, B.nbMed, can_nb, can_med, nbMed_can r n]
theorem meds_can (es : List B.On) : B.medsL (es.map can) = (B.medsL es).map can := by
  unfold B.medsL
  rw [keep_can]
  simp only [can_nb, can_med, nbMed_can]
theorem step_can (k : Int) (es : List B.On) : B.stepL k (es.map can) = (B.stepL k es).map can := by
  unfold B.stepL
  split
  · exact least_can (fun o => by rw [can_local]) es
  split
  · exact least_can (fun o => by rw [can_path]) es
  split
  · exact least_can (fun _ => rfl) es
  split
  · exact meds_can es
  split
  · exact least_can (fun _ => rfl) es
  split
  · exact least_can (fun _ => rfl) es
  split
  · exact least_can (fun _ => rfl) es
  · exact least_can (fun _ => rfl) es
theorem steps_can : ∀ (n : Nat) (es : List B.On), B.stepsN n (es.map can) = (B.stepsN n es).map can
  | 0, _ => rfl
  | n + 1, es => by
    simp only [B.stepsN, steps_can n es]
    exact step_can _ _
theorem ones_can (cs : List B.Cd) : B.onesL ((cs.map cnN).map ofN) = (B.onesL cs).map can := by
  unfold B.onesL
  rw [List.map_map, List.zipIdx_map, List.map_map, List.map_map]
  rfl
def pickN (l : List Qn) : Int := (B.leftL (l.map ofN) 8).head?.getD (-1)
theorem left_can (cs : List B.Cd) (s : Int) : B.leftL ((cs.map cnN).map ofN) s = B.leftL cs s := by
  unfold B.leftL
  rw [ones_can, steps_can, List.map_map]
  rfl
theorem pickN_cn (cs : List B.Cd) : (B.leftL cs 8).head?.getD (-1) = pickN (cs.map cnN) := by
  unfold pickN
  rw [left_can]
theorem pickN_in {l : List Qn} (h : l ≠ []) : ∃ k : Nat, pickN l = (k : Int) ∧ k < l.length := by
  obtain ⟨k, h1, h2⟩ := B.pick_in (cs := l.map ofN) (by simpa using h)
  exact ⟨k, h1, by simpa using h2⟩
theorem pickN_nil : pickN [] = -1 := B.pick_none
def letF (f : Qn → Option Nf) (l : List Qn) : List (Qn × Nat) := l.zipIdx.filterMap fun e => (f e.1).map fun n => (⟨e.1.peer, e.1.as_, e.1.id, e.1.addr, n⟩, e.2)
theorem letF_yes {f : Qn → Option Nf} {l : List Qn} {k : Nat} {x : Qn} {n : Nf} (h : l[k]? = some x) (hf : f x = some n) : letF f (l.take (k + 1)) = letF f (l.take k) ++ [(⟨x.peer, x.as_, x.id, x.addr, n⟩, k)] := by
  have hk : k < l.length := (List.getElem?_eq_some_iff.1 h).1
  unfold letF
  rw [take_snoc h, List.zipIdx_append, List.filterMap_append]
  simp [Nat.min_eq_left (Nat.le_of_lt hk), hf]
theorem letF_no {f : Qn → Option Nf} {l : List Qn} {k : Nat} {x : Qn} (h : l[k]? = some x) (hf : f x = none) : letF f (l.take (k + 1)) = letF f (l.take k) := by
  have hk : k < l.length := (List.getElem?_eq_some_iff.1 h).1
  unfold letF
  rw [take_snoc h, List.zipIdx_append, List.filterMap_append]
  simp [hf]
theorem letF_mem {f : Qn → Option Nf} {l : List Qn} {y : Qn} {i : Nat} (h : (y, i) ∈ letF f l) : ∃ x n, l[i]? = some x ∧ f x = some n ∧ y = ⟨x.peer, x.as_, x.id, x.addr, n⟩ := by
  obtain ⟨e, he, h2⟩ := List.mem_filterMap.1 h
  obtain ⟨n, h3, h4⟩ := Option.map_eq_some_iff.1 h2
  have := List.mem_zipIdx (x := e.1) (i := e.2) he
  simp only [Nat.zero_le, Nat.zero_add, Nat.sub_zero, true_and] at this
  simp only [Prod.mk.injEq] at h4
  obtain ⟨rfl, rfl⟩ := h4
  exact ⟨e.1, n, by rw [this.2, List.getElem?_eq_getElem this.1], h3, rfl⟩
theorem letF_nil {f : Qn → Option Nf} {l : List Qn} (h : letF f l = []) : ∀ x ∈ l, f x = none := by
  intro x hx
  obtain ⟨i, hi⟩ := List.mem_iff_getElem?.1 hx
  have h2 := List.filterMap_eq_nil_iff.1 h (x, i) (List.mem_iff_getElem?.2 ⟨i, by rw [List.getElem?_zipIdx, hi]; simp⟩)
  simpa using h2
theorem letF_len (f : Qn → Option Nf) (l : List Qn) : (letF f l).length ≤ l.length := by
  unfold letF
  refine Nat.le_trans (List.length_filterMap_le _ _) ?_
  rw [List.length_zipIdx]
  exact Nat.le_refl _
end Go.Proofs.YtdnokmpnemaoaaaGreat
namespace Go.Proofs.YtdnokmpnemaoaaaGreat.T
set_option linter.unusedSimpArgs false
set_option linter.unusedVariables false
set_option maxRecDepth 20000
set_option maxHeartbeats 4000000
open Go.RowKit Go.Pm

def ret0 (v : Value) : Value → List HP → Prop := fun u L => u = v ∧ L = []
def U32 (z : Int) : Prop := 0 ≤ z ∧ z ≤ 4294967295
def I64 (z : Int) : Prop := -9223372036854775808 ≤ z ∧ z ≤ 9223372036854775807
abbrev Pf := Int × Int
def PfN (p : Pf) : Prop := U32 p.1 ∧ I64 p.2
abbrev pfC (p : Pf) : List Value := [.int .u32 p.1, .int .i64 p.2]
def pw (l : Int) : Int := 2 ^ (32 - l).toNat
def Rt (p : Pf) : Prop := 0 ≤ p.2 ∧ p.2 ≤ 32 ∧ p.1 % pw p.2 = 0
instance (p : Pf) : Decidable (Rt p) := inferInstanceAs (Decidable (_ ∧ _ ∧ _))
def Wi (p q : Pf) : Prop := Rt p ∧ Rt q ∧ p.2 ≤ q.2 ∧ q.1 / pw p.2 = p.1 / pw p.2
instance (p q : Pf) : Decidable (Wi p q) := inferInstanceAs (Decidable (_ ∧ _ ∧ _ ∧ _))

theorem pw_pos (l : Int) : 0 < pw l := Int.pow_pos (by omega)
theorem pw_le (l : Int) (h : 0 ≤ l) : pw l ≤ 4294967296 := by
  unfold pw
  have : (2 : Int) ^ (32 - l).toNat ≤ 2 ^ 32 := by
    have h1 : (2 : Nat) ^ (32 - l).toNat ≤ 2 ^ 32 := Nat.pow_le_pow_right (by omega) (by omega)
    exact_mod_cast h1
  omega
theorem pw_0 : pw 0 = 4294967296 := rfl
theorem pw_succ (l : Int) (h0 : 0 ≤ l) (h : l < 32) : pw l = 2 * pw (l + 1) := by
  unfold pw
  rw [show (32 - l).toNat = (32 - (l + 1)).toNat + 1 by omega, Int.pow_succ]
  omega
theorem mask_fits (a l : Int) (ha : U32 a) (h : 0 ≤ l) : U32 (a - a % pw l) := by
  have h1 := Int.emod_nonneg a (Int.ne_of_gt (pw_pos l))
  have h2 := Int.emod_lt_of_pos a (pw_pos l)
  have h3 : a % pw l ≤ a := by
    have := Int.mul_ediv_add_emod a (pw l)
    have h4 : 0 ≤ pw l * (a / pw l) := Int.mul_nonneg (Int.le_of_lt (pw_pos l)) (Int.ediv_nonneg ha.1 (Int.le_of_lt (pw_pos l)))
    omega
  unfold U32 at *
  omega
theorem mask_s (a l : Int) (ha : U32 a) (h0 : 0 ≤ l) (h1 : l ≤ 32) : Pact Tryz.prog 105 #[.int .u32 a, .int .i64 l] (fun _ => True) [] (ret0 (.int .u32 (a - a % pw l))) := by
  refine pact Tryz.func105 rfl Tryz.ntmps105 rfl ?_
  intro W K _
  have hm : (32 - l) = (((32 - l).toNat : Nat) : Int) := by omega
  have hle := pw_le l h0
  have hpos := pw_pos l
  have e1 : (1 : Int) * 2 ^ (32 - l).toNat = pw l := by unfold pw; omega
  unfold U32 at ha
  (repeat' (first | ((with_reducible apply gL); (first | refine yL0 ?_ | ((with_reducible apply gL_bin_shl); (first | (refine JL_p rfl xR xR (pe_shl (m := (32 - l).toNat) xR xR hm (by show _ ≤ 64; omega) (w_u64 (by rw [e1]; omega) (by rw [e1]; omega))) ?_) | fail)) | refine yL ?_ | fail)) | refine yJ ?_ | fail))
  refine J_ret1 rfl (by rfl) fun w H => ⟨[], ⟨?_, rfl⟩, H.sel .nil⟩
  rw [e1]
  have := bits_andNot (a := a) (m := (32 - l).toNat) (by omega) (by omega) (by omega)
  unfold pw at *
  rw [this]
theorem first_s (a l : Int) (ha : U32 a) (h0 : 0 ≤ l) (h1 : l ≤ 32) : Pact Tryz.prog 170 #[.int .u32 a, .int .i64 l] (fun _ => True) [] (ret0 (.int .u32 (a - a % pw l))) := by
  refine pact Tryz.func170 rfl Tryz.ntmps170 rfl ?_
  intro W K _
  have hm : (32 - l) = (((32 - l).toNat : Nat) : Int) := by omega
  have hle := pw_le l h0
  have hpos := pw_pos l
  have e1 : (1 : Int) * 2 ^ (32 - l).toNat = pw l := by unfold pw; omega
  unfold U32 at ha
  (repeat' (first | ((with_reducible apply gL); (first | refine yL0 ?_ | ((with_reducible apply gL_bin_shl); (first | (refine JL_p rfl xR xR (pe_shl (m := (32 - l).toNat) xR xR hm (by show _ ≤ 64; omega) (w_u64 (by rw [e1]; omega) (by rw [e1]; omega))) ?_) | fail)) | refine yL ?_ | fail)) | refine yJ ?_ | fail))
  refine J_ret1 rfl (by rfl) fun w H => ⟨[], ⟨?_, rfl⟩, H.sel .nil⟩
  rw [e1]
  have := bits_andNot (a := a) (m := (32 - l).toNat) (by omega) (by omega) (by omega)
  unfold pw at *
  rw [this]
def bt (a l : Int) : Int := a / pw (l + 1) % 2
theorem bt_cases (a l : Int) : bt a l = 0 ∨ bt a l = 1 := by unfold bt; omega
theorem bit_s (a l : Int) (ha : U32 a) (h0 : 0 ≤ l) (h1 : l ≤ 31) : Pact Tryz.prog 140 #[.int .u32 a, .int .i64 l] (fun _ => True) [] (ret0 (.int .i64 (bt a l))) := by
  refine pact Tryz.func140 rfl Tryz.ntmps140 rfl ?_
  intro W K _
  have hm : (31 - l) = (((31 - l).toNat : Nat) : Int) := by omega
  have e1 : (2 : Int) ^ (31 - l).toNat = pw (l + 1) := by unfold pw; rw [show (32 - (l + 1)).toNat = (31 - l).toNat by omega]
  unfold U32 at ha
  have hd : 0 ≤ a / 2 ^ (31 - l).toNat := Int.ediv_nonneg ha.1 (Int.le_of_lt (Int.pow_pos (by omega)))
  have hd2 : a / 2 ^ (31 - l).toNat ≤ a := Int.ediv_le_self _ ha.1
  (repeat' (first | ((with_reducible apply gL); (first | refine yL0 ?_ | ((with_reducible apply gL_bin_shr); (first | (refine JL_p rfl xR xR (pe_shr (m := (31 - l).toNat) xR xR hm (by show _ ≤ 32; omega)) ?_) | fail)) | refine yL ?_ | fail)) | refine yJ ?_ | fail))
  refine J_ret1 rfl (by rfl) fun w H => ⟨[], ⟨?_, rfl⟩, H.sel .nil⟩
  rw [bits_and1 (by omega) (by omega), e1]
  rfl
theorem mask_eq {p q : Pf} (hp : Rt p) : q.1 - q.1 % pw p.2 = p.1 ↔ q.1 / pw p.2 = p.1 / pw p.2 := by
  have h1 := Int.mul_ediv_add_emod q.1 (pw p.2)
  have h2 := Int.mul_ediv_add_emod p.1 (pw p.2)
  have h3 := hp.2.2
  have hpos := pw_pos p.2
  constructor
  · intro h
    have h4 : pw p.2 * (q.1 / pw p.2) = pw p.2 * (p.1 / pw p.2) := by omega
    exact Int.eq_of_mul_eq_mul_left (Int.ne_of_gt hpos) h4
  · intro h
    rw [h] at h1
    omega
theorem right_s (p : Pf) (hp : PfN p) : Pact Tryz.prog 65 #[.agg (pfC p).toArray] (fun _ => True) [] (ret0 (.bool (decide (Rt p)))) := by
  refine pact Tryz.func65 rfl Tryz.ntmps65 rfl ?_
  intro W K _
  (repeat' (first | ((with_reducible apply gL); (first | refine yL0 ?_ | refine yL ?_ | (refine yM ?_; intro _) | fail)) | ((with_reducible apply gD); (first | (refine JD_nil ?_; try simp only [List.cons_append, List.nil_append]) | (refine JD_bar ?_; try simp only [List.cons_append, List.nil_append]) | refine yD0 ?_ | refine yD ?_ | ((with_reducible apply gD_go); (first | (refine JD_goq (mask_s p.1 p.2 hp.1 (by omega) (by omega)) (hφ := xF) (h := ?_); rintro _ _ ⟨rfl, rfl⟩; try simp only [List.cons_append, List.nil_append]) | fail)) | ((with_reducible apply gD_gd); (first | (refine JD_guard xR xR ?_ ?_ <;> intro _ <;> (try (exfalso; first | contradiction | omega))) | (refine JD_guardb xR xR ?_ ?_ <;> (intro hgb; subst hgb)) | (refine JD_guardb xR xR ?_ ?_ <;> (intro hgb; fail_if_success (have : type_of% hgb := rfl))) | fail)) | fail)) | refine yJ ?_ | refine J_draw (id := 1) [0, 1, 2, 3, 4, 5, 6, 7, 8, 9, 10, 11, 12, 14, 15, 13] [16, 17, 18] mixed xC xD xD ?_ | fail))
  all_goals (refine J_ret1 rfl (by rfl) fun w H => ⟨[], ⟨?_, rfl⟩, H.sel .nil⟩)
  all_goals congr 1
  · rename_i h1 h2
    simp only [Rt, h1, h2, true_and]
    congr 1
    simp only [eq_iff_iff]
    omega
  · rename_i h1 h2
    simp [Rt, h1, h2]
  · rename_i h1
    simp [Rt, h1]
end Go.Proofs.YtdnokmpnemaoaaaGreat.T
namespace Go.Proofs.YtdnokmpnemaoaaaGreat.T
set_option linter.unusedSimpArgs false
set_option linter.unusedVariables false
set_option maxRecDepth 20000
set_option maxHeartbeats 4000000
open Go.RowKit Go.Pm

theorem rt_lo {p : Pf} (h : Rt p) : 0 ≤ p.2 := h.1
theorem rt_hi {p : Pf} (h : Rt p) : p.2 ≤ 32 := h.2.1
theorem within_s (p q : Pf) (hp : PfN p) (hq : PfN q) : Pact Tryz.prog 139 #[.agg (pfC p).toArray, .agg (pfC q).toArray] (fun _ => True) [] (ret0 (.bool (decide (Wi p q)))) := by
  refine pact Tryz.func139 rfl Tryz.ntmps139 rfl ?_
  intro W K _
  (repeat' (first | ((with_reducible apply gL); (first | refine yL0 ?_ | refine yL ?_ | (refine yM ?_; intro _) | fail)) | ((with_reducible apply gD); (first | (refine JD_nil ?_; try simp only [List.cons_append, List.nil_append]) | (refine JD_bar ?_; try simp only [List.cons_append, List.nil_append]) | refine yD0 ?_ | refine yD ?_ | ((with_reducible apply gD_go); (first | (refine JD_goq (right_s p hp) (hφ := xF) (h := ?_); rintro _ _ ⟨rfl, rfl⟩; try simp only [List.cons_append, List.nil_append]) | (refine JD_goq (right_s q hq) (hφ := xF) (h := ?_); rintro _ _ ⟨rfl, rfl⟩; try simp only [List.cons_append, List.nil_append]) | (refine JD_goq (mask_s q.1 p.2 hq.1 (rt_lo (by assumption)) (rt_hi (by assumption))) (hφ := xF) (h := ?_); rintro _ _ ⟨rfl, rfl⟩; try simp only [List.cons_append, List.nil_append]) | fail)) | ((with_reducible apply gD_gd); (first | (refine JD_guard xR xR ?_ ?_ <;> intro _ <;> (try (exfalso; first | contradiction | omega))) | (refine JD_guardb xR xR ?_ ?_ <;> (intro hgb; subst hgb)) | (refine JD_guardb xR xR ?_ ?_ <;> (intro hgb; fail_if_success (have : type_of% hgb := rfl))) | fail)) | fail)) | refine yJ ?_ | refine J_draw (id := 1) [0] [1, 2, 3, 4, 5, 6, 7, 8, 9, 10, 11, 12, 13, 14, 15, 16, 17, 19, 20, 18, 21, 22, 23] mixed xC xD xD ?_ | fail))
  all_goals (refine J_ret1 rfl (by rfl) fun w H => ⟨[], ⟨?_, rfl⟩, H.sel .nil⟩)
  all_goals congr 1
  · rename_i h1 h2 h3
    have := mask_eq (q := q) h1
    simp [Wi, h1, h2, h3, this]
  · rename_i h1 h2 h3
    simp [Wi, h1, h2, h3]
  · rename_i h1 h2
    simp [Wi, h1, h2]
  · rename_i h1
    simp [Wi, h1]
theorem bt_div (a l : Int) (h0 : 0 ≤ l) (h1 : l < 32) : a / pw (l + 1) = 2 * (a / pw l) + bt a l := by
  have h := pw_succ l h0 h1
  have h2 : a / pw l = a / pw (l + 1) / 2 := by
    rw [h, Int.mul_comm, Int.ediv_ediv_of_nonneg (Int.le_of_lt (pw_pos _))]
  unfold bt
  omega
def Com (p q : Pf) (v : Value) : Prop := ∃ n : Int, 0 ≤ n ∧ n ≤ p.2 ∧ n ≤ q.2 ∧ p.1 / pw n = q.1 / pw n ∧ (n < p.2 → n < q.2 → bt p.1 n ≠ bt q.1 n) ∧ v = .agg (pfC (p.1 - p.1 % pw n, n)).toArray
theorem common_s (p q : Pf) (hp : PfN p) (hq : PfN q) (rp : Rt p) (rq : Rt q) : Pact Tryz.prog 148 #[.agg (pfC p).toArray, .agg (pfC q).toArray] (fun _ => True) [] (fun v L' => Com p q v ∧ L' = []) := by
  refine pact Tryz.func148 rfl Tryz.ntmps148 rfl ?_
  intro W K _
  have b1 := rp.1
  have b2 := rp.2.1
  have b3 := rq.1
  have b4 := rq.2.1
  (repeat' (first | ((with_reducible apply gL); (first | refine yL0 ?_ | refine yL ?_ | (refine yM ?_; intro _) | fail)) | ((with_reducible apply gD); (first | (refine JD_nil ?_; try simp only [List.cons_append, List.nil_append]) | (refine JD_bar ?_; try simp only [List.cons_append, List.nil_append]) | refine yD0 ?_ | refine yD ?_ | ((with_reducible apply gD_gd); (first | (refine JD_guard xR xR ?_ ?_ <;> intro _ <;> (try (exfalso; first | contradiction | omega))) | (refine JD_guardb xR xR ?_ ?_ <;> (intro hgb; subst hgb)) | (refine JD_guardb xR xR ?_ ?_ <;> (intro hgb; fail_if_success (have : type_of% hgb := rfl))) | fail)) | fail)) | refine yJ ?_ | ((with_reducible apply gJ_if); (first | (refine J_if xR ?_ ?_ <;> intro _ <;> (try (exfalso; first | contradiction | omega))) | (refine J_ifb xR ?_ ?_ <;> (intro hgb; subst hgb)) | (refine J_ifb xR ?_ ?_ <;> intro _) | fail)) | refine J_draw (id := 2) [0, 1, 2, 3, 4, 5, 6, 7, 8, 9, 10, 12, 13, 14, 11] [15, 16, 17] mixed xC xD xD ?_ | fail))
  rename_i g1 g2 g3
  refine J_loop (α := Nat) 0 (fun k => (min p.2 q.2).toNat - k) (fun k => (k : Int) ≤ p.2 ∧ (k : Int) ≤ q.2 ∧ p.1 / pw k = q.1 / pw k) (fun k => [(2, .pointer (some ⟨g1, 0, none⟩)), (3, .pointer (some ⟨g2, 0, none⟩)), (4, .pointer (some ⟨g3, 0, none⟩)), (5, .int .i64 k)])
    (fun _ => [pts g1 (pfC p) 28, pts g2 (pfC q) 28, pts g3 [.int .u32 0, .int .i64 0] 28]) ⟨b1, b3, ?_⟩ ⟨rfl, rfl, rfl, rfl, trivial⟩ (fun w H => H.sel xZ) ?_
  · have h1 := hp.1
    have h2 := hq.1
    unfold U32 at h1 h2
    show p.1 / pw 0 = q.1 / pw 0
    rw [pw_0]
    omega
  rintro k ⟨hk1, hk2, he⟩
  by_cases hlt : (k : Int) < min p.2 q.2
  · have d1 := bt_div p.1 k (by omega) (by omega)
    have d2 := bt_div q.1 k (by omega) (by omega)
    by_cases hb : bt p.1 k = bt q.1 k
    · (repeat' (first | ((with_reducible apply gL); (first | refine yL0 ?_ | refine yL ?_ | ((with_reducible apply gL_go); (first | (refine JL_goq (bit_s p.1 k hp.1 (by omega) (by omega)) (hφ := xF) (h := ?_); rintro _ _ ⟨rfl, rfl⟩; try simp only [List.cons_append, List.nil_append]) | (refine JL_goq (bit_s q.1 k hq.1 (by omega) (by omega)) (hφ := xF) (h := ?_); rintro _ _ ⟨rfl, rfl⟩; try simp only [List.cons_append, List.nil_append]) | fail)) | (refine yM ?_; intro _) | fail)) | ((with_reducible apply gD); (first | (refine JD_nil ?_; try simp only [List.cons_append, List.nil_append]) | (refine JD_bar ?_; try simp only [List.cons_append, List.nil_append]) | refine yD0 ?_ | refine yD ?_ | ((with_reducible apply gD_go); (first | (refine JD_goq (bit_s p.1 k hp.1 (by omega) (by omega)) (hφ := xF) (h := ?_); rintro _ _ ⟨rfl, rfl⟩; try simp only [List.cons_append, List.nil_append]) | (refine JD_goq (bit_s q.1 k hq.1 (by omega) (by omega)) (hφ := xF) (h := ?_); rintro _ _ ⟨rfl, rfl⟩; try simp only [List.cons_append, List.nil_append]) | fail)) | ((with_reducible apply gD_gd); (first | (refine JD_guard xR xR ?_ ?_ <;> intro _ <;> (try (exfalso; first | contradiction | omega))) | (refine JD_guardb xR xR ?_ ?_ <;> (intro hgb; subst hgb)) | (refine JD_guardb xR xR ?_ ?_ <;> (intro hgb; fail_if_success (have : type_of% hgb := rfl))) | fail)) | fail)) | refine yJ ?_ | ((with_reducible apply gJ_if); (first | (refine J_if xR ?_ ?_ <;> intro _ <;> (try (exfalso; first | contradiction | omega))) | (refine J_ifb xR ?_ ?_ <;> (intro hgb; subst hgb)) | (refine J_ifb xR ?_ ?_ <;> intro _) | fail)) | refine J_draw (id := 2) [0, 1, 2, 3, 4, 5, 6, 7, 8, 9, 10, 12, 13, 14, 11] [15, 16, 17] mixed xC xD xD ?_ | fail))
      refine J_again (k + 1) (by omega) ⟨by omega, by omega, ?_⟩ ⟨rfl, rfl, rfl, rfl, trivial⟩ (fun w H => H.sel xZ)
      show p.1 / pw ((k : Int) + 1) = q.1 / pw ((k : Int) + 1)
      rw [d1, d2, he, hb]
    · (repeat' (first | ((with_reducible apply gL); (first | refine yL0 ?_ | refine yL ?_ | ((with_reducible apply gL_go); (first | (refine JL_goq (bit_s p.1 k hp.1 (by omega) (by omega)) (hφ := xF) (h := ?_); rintro _ _ ⟨rfl, rfl⟩; try simp only [List.cons_append, List.nil_append]) | (refine JL_goq (bit_s q.1 k hq.1 (by omega) (by omega)) (hφ := xF) (h := ?_); rintro _ _ ⟨rfl, rfl⟩; try simp only [List.cons_append, List.nil_append]) | (refine JL_goq (first_s p.1 k hp.1 (by omega) (by omega)) (hφ := xF) (h := ?_); rintro _ _ ⟨rfl, rfl⟩; try simp only [List.cons_append, List.nil_append]) | fail)) | (refine yM ?_; intro _) | fail)) | ((with_reducible apply gD); (first | (refine JD_nil ?_; try simp only [List.cons_append, List.nil_append]) | (refine JD_bar ?_; try simp only [List.cons_append, List.nil_append]) | refine yD0 ?_ | refine yD ?_ | ((with_reducible apply gD_go); (first | (refine JD_goq (bit_s p.1 k hp.1 (by omega) (by omega)) (hφ := xF) (h := ?_); rintro _ _ ⟨rfl, rfl⟩; try simp only [List.cons_append, List.nil_append]) | (refine JD_goq (bit_s q.1 k hq.1 (by omega) (by omega)) (hφ := xF) (h := ?_); rintro _ _ ⟨rfl, rfl⟩; try simp only [List.cons_append, List.nil_append]) | (refine JD_goq (first_s p.1 k hp.1 (by omega) (by omega)) (hφ := xF) (h := ?_); rintro _ _ ⟨rfl, rfl⟩; try simp only [List.cons_append, List.nil_append]) | fail)) | ((with_reducible apply gD_gd); (first | (refine JD_guard xR xR ?_ ?_ <;> intro _ <;> (try (exfalso; first | contradiction | omega))) | (refine JD_guardb xR xR ?_ ?_ <;> (intro hgb; subst hgb)) | (refine JD_guardb xR xR ?_ ?_ <;> (intro hgb; fail_if_success (have : type_of% hgb := rfl))) | fail)) | fail)) | refine yJ ?_ | ((with_reducible apply gJ_if); (first | (refine J_if xR ?_ ?_ <;> intro _ <;> (try (exfalso; first | contradiction | omega))) | (refine J_ifb xR ?_ ?_ <;> (intro hgb; subst hgb)) | (refine J_ifb xR ?_ ?_ <;> intro _) | fail)) | refine J_draw (id := 2) [0, 1, 2, 3, 4, 5, 6, 7, 8, 9, 10, 12, 13, 14, 11] [15, 16, 17] mixed xC xD xD ?_ | fail))
      refine J_retC (cs := [.int .u32 (p.1 - p.1 % pw k), .int .i64 k]) rfl (by rfl) xA (by rfl) fun w H => ⟨_, ⟨⟨k, by omega, hk1, hk2, he, fun _ _ => hb, rfl⟩, rfl⟩, H.sel .nil⟩
  · (repeat' (first | ((with_reducible apply gL); (first | refine yL0 ?_ | refine yL ?_ | ((with_reducible apply gL_go); (first | (refine JL_goq (first_s p.1 k hp.1 (by omega) (by omega)) (hφ := xF) (h := ?_); rintro _ _ ⟨rfl, rfl⟩; try simp only [List.cons_append, List.nil_append]) | fail)) | (refine yM ?_; intro _) | fail)) | ((with_reducible apply gD); (first | (refine JD_nil ?_; try simp only [List.cons_append, List.nil_append]) | (refine JD_bar ?_; try simp only [List.cons_append, List.nil_append]) | refine yD0 ?_ | refine yD ?_ | ((with_reducible apply gD_go); (first | (refine JD_goq (first_s p.1 k hp.1 (by omega) (by omega)) (hφ := xF) (h := ?_); rintro _ _ ⟨rfl, rfl⟩; try simp only [List.cons_append, List.nil_append]) | fail)) | ((with_reducible apply gD_gd); (first | (refine JD_guard xR xR ?_ ?_ <;> intro _ <;> (try (exfalso; first | contradiction | omega))) | (refine JD_guardb xR xR ?_ ?_ <;> (intro hgb; subst hgb)) | (refine JD_guardb xR xR ?_ ?_ <;> (intro hgb; fail_if_success (have : type_of% hgb := rfl))) | fail)) | fail)) | refine yJ ?_ | ((with_reducible apply gJ_if); (first | (refine J_if xR ?_ ?_ <;> intro _ <;> (try (exfalso; first | contradiction | omega))) | (refine J_ifb xR ?_ ?_ <;> (intro hgb; subst hgb)) | (refine J_ifb xR ?_ ?_ <;> intro _) | fail)) | refine J_draw (id := 2) [0, 1, 2, 3, 4, 5, 6, 7, 8, 9, 10, 12, 13, 14, 11] [15, 16, 17] mixed xC xD xD ?_ | fail))
    refine J_retC (cs := [.int .u32 (p.1 - p.1 % pw k), .int .i64 k]) rfl (by rfl) xA (by rfl) fun w H => ⟨_, ⟨⟨k, by omega, hk1, hk2, he, fun _ _ => by omega, rfl⟩, rfl⟩, H.sel .nil⟩

/-! The document's answer. -/
def Ah (p q : Pf) : Prop := p.1 < q.1 ∨ (p.1 = q.1 ∧ p.2 < q.2)
instance (p q : Pf) : Decidable (Ah p q) := inferInstanceAs (Decidable (_ ∨ (_ ∧ _)))
end Go.Proofs.YtdnokmpnemaoaaaGreat.T
namespace Go.Proofs.YtdnokmpnemaoaaaGreat.T
set_option linter.unusedSimpArgs false
set_option linter.unusedVariables false
open Go.RowKit Go.Pm

theorem div_pw (a l m : Int) (h0 : 0 ≤ l) (h1 : l ≤ m) (h2 : m ≤ 32) : a / pw l = a / pw m / 2 ^ (m - l).toNat := by
  have : pw l = pw m * 2 ^ (m - l).toNat := by
    unfold pw
    rw [← Int.pow_add]
    congr 1
    omega
  rw [this, Int.ediv_ediv_of_nonneg (Int.le_of_lt (pw_pos _))]
theorem Wi.rt1 {p q : Pf} (h : Wi p q) : Rt p := h.1
theorem Wi.rt2 {p q : Pf} (h : Wi p q) : Rt q := h.2.1
theorem Wi.le {p q : Pf} (h : Wi p q) : p.2 ≤ q.2 := h.2.2.1
theorem Wi.refl {p : Pf} (h : Rt p) : Wi p p := ⟨h, h, Int.le_refl _, rfl⟩
theorem Wi.trans {p q r : Pf} (h : Wi p q) (k : Wi q r) : Wi p r := by
  refine ⟨h.1, k.2.1, Int.le_trans h.le k.le, ?_⟩
  rw [div_pw r.1 p.2 q.2 h.1.1 h.le (rt_hi h.2.1), k.2.2.2, ← div_pw q.1 p.2 q.2 h.1.1 h.le (rt_hi h.2.1), h.2.2.2]
theorem Wi.comp {p q r : Pf} (h : Wi p r) (k : Wi q r) (hl : p.2 ≤ q.2) : Wi p q := by
  refine ⟨h.1, k.1, hl, ?_⟩
  rw [div_pw q.1 p.2 q.2 h.1.1 hl (rt_hi k.1), ← k.2.2.2, ← div_pw r.1 p.2 q.2 h.1.1 hl (rt_hi k.1), h.2.2.2]
theorem rt_eq {p : Pf} (h : Rt p) : p.1 = pw p.2 * (p.1 / pw p.2) := by
  have := Int.mul_ediv_add_emod p.1 (pw p.2)
  have := h.2.2
  omega
theorem Wi.anti {p q : Pf} (h : Wi p q) (hl : q.2 ≤ p.2) : p = q := by
  have hle := h.le
  have e : p.2 = q.2 := by omega
  have h1 := rt_eq h.1
  have h2 := rt_eq h.2.1
  have h3 := h.2.2.2
  rw [e] at h1 h3
  have : p.1 = q.1 := by rw [h1, h2, h3]
  exact Prod.ext this e
theorem Wi.lt {p q : Pf} (h : Wi p q) (hne : p ≠ q) : p.2 < q.2 := by
  rcases Int.lt_or_le p.2 q.2 with h1 | h1
  · exact h1
  · exact (hne (h.anti h1)).elim
theorem Wi.lo {p q : Pf} (h : Wi p q) : p.1 ≤ q.1 := by
  have h1 := rt_eq h.1
  have h2 := Int.mul_ediv_add_emod q.1 (pw p.2)
  have h3 := Int.emod_nonneg q.1 (Int.ne_of_gt (pw_pos p.2))
  rw [h.2.2.2] at h2
  omega
theorem Wi.hi {p q : Pf} (h : Wi p q) : q.1 < p.1 + pw p.2 := by
  have h1 := rt_eq h.1
  have h2 := Int.mul_ediv_add_emod q.1 (pw p.2)
  have h3 := Int.emod_lt_of_pos q.1 (pw_pos p.2)
  rw [h.2.2.2] at h2
  omega

def kid (p : Pf) (i : Bool) : Pf := (p.1 + (if i then pw (p.2 + 1) else 0), p.2 + 1)
def btB (a l : Int) : Bool := decide (bt a l = 1)
theorem kid_div {p : Pf} (h : Rt p) (h1 : p.2 < 32) (i : Bool) : (kid p i).1 / pw (p.2 + 1) = 2 * (p.1 / pw p.2) + (if i then 1 else 0) := by
  have e := rt_eq h
  have hp := pw_succ p.2 h.1 h1
  have hpos := pw_pos (p.2 + 1)
  have e2 : (kid p i).1 = pw (p.2 + 1) * (2 * (p.1 / pw p.2) + (if i then 1 else 0)) := by
    show p.1 + (if i then pw (p.2 + 1) else 0) = _
    rw [Int.mul_add, ← Int.mul_assoc, Int.mul_comm (pw (p.2 + 1)) 2, ← hp, ← e]
    cases i <;> simp
  rw [e2, Int.mul_ediv_cancel_left _ (Int.ne_of_gt hpos)]
theorem kid_rt {p : Pf} (h : Rt p) (h1 : p.2 < 32) (i : Bool) : Rt (kid p i) := by
  have e := rt_eq h
  have hp := pw_succ p.2 h.1 h1
  refine ⟨by show 0 ≤ p.2 + 1; have := h.1; omega, by show p.2 + 1 ≤ 32; omega, ?_⟩
  show (kid p i).1 % pw (p.2 + 1) = 0
  have e2 : (kid p i).1 = pw (p.2 + 1) * (2 * (p.1 / pw p.2) + (if i then 1 else 0)) := by
    show p.1 + (if i then pw (p.2 + 1) else 0) = _
    rw [Int.mul_add, ← Int.mul_assoc, Int.mul_comm (pw (p.2 + 1)) 2, ← hp, ← e]
    cases i <;> simp
  rw [e2, Int.mul_emod_right]
theorem kid_wi {p q : Pf} {i : Bool} (h : Wi (kid p i) q) (hp : Rt p) : Wi p q ∧ p ≠ q ∧ btB q.1 p.2 = i := by
  have hlt : p.2 < 32 := by have := h.rt1.2.1; have e : (kid p i).2 = p.2 + 1 := rfl; omega
  have hle : p.2 + 1 ≤ q.2 := h.le
  have h3 : q.1 / pw (p.2 + 1) = (kid p i).1 / pw (p.2 + 1) := h.2.2.2
  rw [kid_div hp hlt i, bt_div q.1 p.2 hp.1 hlt] at h3
  have hb := bt_cases q.1 p.2
  have e1 : q.1 / pw p.2 = p.1 / pw p.2 := by cases i <;> simp at h3 <;> omega
  refine ⟨⟨hp, h.rt2, by omega, e1⟩, fun e => by subst e; omega, ?_⟩
  unfold btB
  cases i
  · apply decide_eq_false; simp at h3; omega
  · apply decide_eq_true; simp at h3; omega
theorem wi_kid {p q : Pf} (h : Wi p q) (hne : p ≠ q) : p.2 < 32 ∧ Wi (kid p (btB q.1 p.2)) q := by
  have hl := h.lt hne
  have hq := rt_hi h.2.1
  have hlt : p.2 < 32 := by omega
  refine ⟨hlt, kid_rt h.1 hlt _, h.rt2, by show p.2 + 1 ≤ q.2; omega, ?_⟩
  show q.1 / pw (p.2 + 1) = _
  show q.1 / pw (p.2 + 1) = (kid p (btB q.1 p.2)).1 / pw (p.2 + 1)
  rw [kid_div h.1 hlt, bt_div q.1 p.2 h.1.1 hlt, h.2.2.2]
  have hb := bt_cases q.1 p.2
  unfold btB
  rcases hb with hb | hb <;> simp [hb]

/-! Order. -/
theorem Ah.trans {p q r : Pf} (h : Ah p q) (k : Ah q r) : Ah p r := by unfold Ah at *; omega
theorem Ah.irrefl {p : Pf} : ¬ Ah p p := by unfold Ah; omega
theorem Ah.asymm {p q : Pf} (h : Ah p q) : ¬ Ah q p := by unfold Ah at *; omega
theorem Ah.total {p q : Pf} (h : ¬ Ah p q) (hne : p ≠ q) : Ah q p := by
  have : ¬ (p.1 = q.1 ∧ p.2 = q.2) := fun ⟨a, b⟩ => hne (Prod.ext a b)
  unfold Ah at *
  omega
theorem wi_ah {p q : Pf} (h : Wi p q) (hne : p ≠ q) : Ah p q := by
  have := h.lo
  have := h.lt hne
  unfold Ah
  omega

/-! Values. -/
abbrev Vt := Int × Int × Bool
abbrev vC (v : Vt) : List Value := [.int .i64 v.1, .int .i64 v.2.1, .bool v.2.2]
def VN (v : Vt) : Prop := I64 v.1 ∧ I64 v.2.1
abbrev zV : Vt := (0, 0, false)
/-! Trees. -/
inductive Tr where
  | nil
  | node (b : Nat) (p : Pf) (has : Bool) (v : Vt) (k0 k1 : Tr)
abbrev Ent := Pf × Vt
def ents : Tr → List Ent
  | .nil => []
  | .node _ p has v k0 k1 => (if has then [(p, v)] else []) ++ (ents k0 ++ ents k1)
def wf : Pf → Tr → Prop
  | _, .nil => True
  | r, .node _ p _ v k0 k1 => PfN p ∧ VN v ∧ Wi r p ∧ wf (kid p false) k0 ∧ wf (kid p true) k1
theorem wf_wi : ∀ {t : Tr} {r : Pf} {e : Ent}, wf r t → e ∈ ents t → Wi r e.1 ∧ PfN e.1 ∧ VN e.2
  | .nil, _, _, _, h => by simp [ents] at h
  | .node b p has v k0 k1, r, e, ⟨hn, hv, hw, h0, h1⟩, h => by
    simp only [ents, List.mem_append] at h
    rcases h with h | h | h
    · cases has <;> simp at h
      subst h
      exact ⟨hw, hn, hv⟩
    · obtain ⟨a, c⟩ := wf_wi h0 h
      exact ⟨hw.trans (kid_wi a hw.rt2).1, c⟩
    · obtain ⟨a, c⟩ := wf_wi h1 h
      exact ⟨hw.trans (kid_wi a hw.rt2).1, c⟩
def Srt (l : List Ent) : Prop := l.Pairwise fun x y => Ah x.1 y.1
theorem wf_srt : ∀ {t : Tr} {r : Pf}, wf r t → Srt (ents t)
  | .nil, _, _ => .nil
  | .node b p has v k0 k1, r, ⟨hn, hv, hw, h0, h1⟩ => by
    have hp := hw.rt2
    refine List.pairwise_append.2 ⟨by cases has <;> simp, List.pairwise_append.2 ⟨wf_srt h0, wf_srt h1, fun x hx y hy => ?_⟩, fun x hx y hy => ?_⟩
    · have a := (wf_wi h0 hx).1
      have c := (wf_wi h1 hy).1
      have e1 := a.hi
      have e2 := c.lo
      have e3 : (kid p false).1 = p.1 := by show p.1 + (if false = true then _ else 0) = p.1; simp
      have e4 : (kid p true).1 = p.1 + pw (p.2 + 1) := rfl
      have e5 : (kid p false).2 = p.2 + 1 := rfl
      rw [e3, e5] at e1
      rw [e4] at e2
      exact .inl (by omega)
    · cases has <;> simp at hx
      subst hx
      rcases List.mem_append.1 hy with hy | hy
      · obtain ⟨a, c, _⟩ := kid_wi (wf_wi h0 hy).1 hp
        exact wi_ah a c
      · obtain ⟨a, c, _⟩ := kid_wi (wf_wi h1 hy).1 hp
        exact wi_ah a c

theorem srt_ext : ∀ {l m : List Ent}, Srt l → Srt m → (∀ x, x ∈ l ↔ x ∈ m) → l = m
  | [], [], _, _, _ => rfl
  | [], y :: m, _, _, h => by have := (h y).2 (by simp); simp at this
  | x :: l, [], _, _, h => by have := (h x).1 (by simp); simp at this
  | x :: l, y :: m, hl, hm, h => by
    have hxy : x = y := by
      have h1 := (h x).1 (by simp)
      have h2 := (h y).2 (by simp)
      rcases List.mem_cons.1 h1 with h1 | h1
      · exact h1
      rcases List.mem_cons.1 h2 with h2 | h2
      · exact h2.symm
      exact absurd ((List.pairwise_cons.1 hl).1 y h2) ((List.pairwise_cons.1 hm).1 x h1).asymm
    subst hxy
    congr 1
    refine srt_ext (List.pairwise_cons.1 hl).2 (List.pairwise_cons.1 hm).2 fun z => ?_
    have hz := h z
    constructor
    · intro hzl
      have := hz.1 (List.mem_cons_of_mem _ hzl)
      rcases List.mem_cons.1 this with e | e
      · subst e; exact absurd ((List.pairwise_cons.1 hl).1 z hzl) Ah.irrefl
      · exact e
    · intro hzl
      have := hz.2 (List.mem_cons_of_mem _ hzl)
      rcases List.mem_cons.1 this with e | e
      · subst e; exact absurd ((List.pairwise_cons.1 hm).1 z hzl) Ah.irrefl
      · exact e
theorem srt_key {l : List Ent} (h : Srt l) {x y : Ent} (hx : x ∈ l) (hy : y ∈ l) (e : x.1 = y.1) : x = y := by
  induction h with
  | nil => simp at hx
  | cons ha _ ih =>
    rcases List.mem_cons.1 hx with h1 | h1 <;> rcases List.mem_cons.1 hy with h2 | h2
    · rw [h1, h2]
    · subst h1; exact absurd (ha y h2) (by rw [e]; exact Ah.irrefl)
    · subst h2; exact absurd (ha x h1) (by rw [e]; exact Ah.irrefl)
    · exact ih h1 h2
end Go.Proofs.YtdnokmpnemaoaaaGreat.T
