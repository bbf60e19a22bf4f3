/-
  Ru14, Ru15, Ru19: merged.
-/
import Derived.Test.YtmbgbhambgoejaaZRunMeans20
namespace Go.Proofs.Ytmbgbhambgoejaa.C
set_option linter.unusedSimpArgs false
set_option linter.unusedVariables false
set_option maxRecDepth 20000
set_option maxHeartbeats 4000000
open Go.RowKit Go.Pm

theorem cloneG_s (a : Option Addr) (c : Nat) (l : List Sg) (hl : l.length ≤ 1000) : Pact Try.prog 41 #[.slice a l.length c] (fun w => Vw w (.slice a l.length c) 2 l.length (flat sgC l)) [] (fun u L' => ∃ a c, u = .slice a l.length c ∧ L' = [Ar 56 2 sgC (.slice a l.length c) l]) := by
  refine pact Try.func41 rfl Try.ntmps41 rfl ?_
  intro W K hK
  cases a with
  | none =>
    refine J_fact (φ := l = []) (fun w H => ?_) ?_
    · obtain ⟨a', c', he, _, _, _, h4, _⟩ := hK.of H
      cases he
      exact List.eq_nil_of_length_eq_zero (h4 rfl).1
    · rintro rfl
      (repeat' (first | ((with_reducible apply gL); (first | refine yL0 ?_ | refine yL ?_ | (refine yM ?_; intro _) | (refine yA ?_; intro _ _ _ _) | fail)) | refine yJ ?_ | ((with_reducible apply gJ_if); (first | (refine J_if xR ?_ ?_ <;> intro _ <;> (try (exfalso; first | contradiction | omega))) | (refine J_ifb xR ?_ ?_ <;> (intro hgb; subst hgb)) | (refine J_ifb xR ?_ ?_ <;> intro _) | fail)) | fail))
      exact J_ret1 rfl (by rfl) fun w H => ⟨_, ⟨none, 0, rfl, rfl⟩, (Ow.arNil (e := 56) (sz := 2) (enc := sgC) H).sel xZ⟩
  | some p =>
    (repeat' (first | ((with_reducible apply gL); (first | refine yL0 ?_ | ((with_reducible apply gL_c_append); (first | (refine JL_appL sgC (fs := l) (tabE etab_ok xR) xR xR xA (Src.kn hK) xC (by intro _; rfl) (all_one _ (by intro _ _; rfl)) (by omega) xR xR ?_; intro ad c2 _ _) | fail)) | refine yL ?_ | (refine yM ?_; intro _) | (refine yA ?_; intro _ _ _ _) | fail)) | refine yJ ?_ | ((with_reducible apply gJ_if); (first | (refine J_if xR ?_ ?_ <;> intro _ <;> (try (exfalso; first | contradiction | omega))) | (refine J_ifb xR ?_ ?_ <;> (intro hgb; subst hgb)) | (refine J_ifb xR ?_ ?_ <;> intro _) | fail)) | fail))
    exact J_ret1 rfl (by rfl) fun w H => ⟨_, ⟨ad, c2, rfl, rfl⟩, H.sel xZ⟩
theorem cloneR_s (a : Option Addr) (c : Nat) (l : List Rw) (hl : l.length ≤ 1000) : Pact Try.prog 42 #[.slice a l.length c] (fun w => Vw w (.slice a l.length c) 2 l.length (flat rwC l)) [] (fun u L' => ∃ a c, u = .slice a l.length c ∧ L' = [Ar 79 2 rwC (.slice a l.length c) l]) := by
  refine pact Try.func42 rfl Try.ntmps42 rfl ?_
  intro W K hK
  cases a with
  | none =>
    refine J_fact (φ := l = []) (fun w H => ?_) ?_
    · obtain ⟨a', c', he, _, _, _, h4, _⟩ := hK.of H
      cases he
      exact List.eq_nil_of_length_eq_zero (h4 rfl).1
    · rintro rfl
      (repeat' (first | ((with_reducible apply gL); (first | refine yL0 ?_ | refine yL ?_ | (refine yM ?_; intro _) | (refine yA ?_; intro _ _ _ _) | fail)) | refine yJ ?_ | ((with_reducible apply gJ_if); (first | (refine J_if xR ?_ ?_ <;> intro _ <;> (try (exfalso; first | contradiction | omega))) | (refine J_ifb xR ?_ ?_ <;> (intro hgb; subst hgb)) | (refine J_ifb xR ?_ ?_ <;> intro _) | fail)) | fail))
      exact J_ret1 rfl (by rfl) fun w H => ⟨_, ⟨none, 0, rfl, rfl⟩, (Ow.arNil (e := 79) (sz := 2) (enc := rwC) H).sel xZ⟩
  | some p =>
    (repeat' (first | ((with_reducible apply gL); (first | refine yL0 ?_ | ((with_reducible apply gL_c_append); (first | (refine JL_appL rwC (fs := l) (tabE etab_ok xR) xR xR xA (Src.kn hK) xC (by intro _; rfl) (all_one _ (by intro _ _; rfl)) (by omega) xR xR ?_; intro ad c2 _ _) | fail)) | refine yL ?_ | (refine yM ?_; intro _) | (refine yA ?_; intro _ _ _ _) | fail)) | refine yJ ?_ | ((with_reducible apply gJ_if); (first | (refine J_if xR ?_ ?_ <;> intro _ <;> (try (exfalso; first | contradiction | omega))) | (refine J_ifb xR ?_ ?_ <;> (intro hgb; subst hgb)) | (refine J_ifb xR ?_ ?_ <;> intro _) | fail)) | fail))
    exact J_ret1 rfl (by rfl) fun w H => ⟨_, ⟨ad, c2, rfl, rfl⟩, H.sel xZ⟩
abbrev ownC (d : At) (a1 : Option Addr) (c1 : Nat) (a2 : Option Addr) (c2 : Nat) (a3 : Option Addr) (c3 : Nat) : List Value := [.int .i64 d.origin, .slice a1 d.path.length c1, .int .u32 d.next, .bool d.hasMed, .int .u32 d.med, .bool d.hasLocal, .int .u32 d.loc, .bool d.atomic, .bool d.hasMaker, .int .u32 d.makerAS, .int .u32 d.maker, .slice a2 d.comms.length c2, .slice a3 d.others.length c3]
structure Lg where
  k : Nat
  xs : List Sg
structure Lr where
  k : Nat
  xs : List Rw
theorem pN_set {xs : List Sg} {k : Nat} {s z : Sg} (h : xs[k]? = some s) (h1 : z.set = s.set) (h2 : z.as_ = s.as_) : pN (xs.set k z) = pN xs := by
  obtain ⟨hk, he⟩ := List.getElem?_eq_some_iff.1 h
  unfold pN
  rw [List.map_set, h1, h2]
  apply List.ext_getElem?
  intro j
  by_cases hj : k = j
  · subst hj
    rw [List.getElem?_set_self (by simpa using hk), List.getElem?_map, h]
    rfl
  · rw [List.getElem?_set_ne hj]
theorem oN_set {xs : List Rw} {k : Nat} {s z : Rw} (h : xs[k]? = some s) (h1 : z.kind = s.kind) (h2 : z.data = s.data) : oN (xs.set k z) = oN xs := by
  obtain ⟨hk, he⟩ := List.getElem?_eq_some_iff.1 h
  unfold oN
  rw [List.map_set, h1, h2]
  apply List.ext_getElem?
  intro j
  by_cases hj : k = j
  · subst hj
    rw [List.getElem?_set_self (by simpa using hk), List.getElem?_map, h]
    rfl
  · rw [List.getElem?_set_ne hj]
theorem take_set {α : Type} {xs : List α} {k : Nat} {z : α} (h : k < xs.length) : (xs.set k z).take (k + 1) = xs.take k ++ [z] := by
  rw [List.take_add_one, List.getElem?_set_self h, List.take_set_of_le (Nat.le_refl _)]
  rfl
theorem own_s (d : At) (hd : AtF d) : Pact Try.prog 23 #[.agg (atC d).toArray] (fun w => AtV w d) [] (CopyR d) := by
  refine pact Try.func23 rfl Try.ntmps23 rfl ?_
  intro W K hK
  have hd1 := hd.path
  have hd2 := hd.comms
  have hd3 := hd.others
  (repeat' (first | ((with_reducible apply gL); (first | refine yL0 ?_ | refine yL ?_ | (refine yM ?_; intro _) | fail)) | ((with_reducible apply gD); (first | (refine JD_nil ?_; try simp only [List.cons_append, List.nil_append]) | (refine JD_bar ?_; try simp only [List.cons_append, List.nil_append]) | refine yD ?_ | ((with_reducible apply gD_go); (first | (refine JD_goq (cloneU_s d.ca d.cc d.comms (by omega)) (hφ := (by (try simp only [List.cons_append, List.nil_append]); exact fun w hr => (hK w hr.1).comms)) (h := ?_); rintro _ _ ⟨a2, c2, rfl, rfl⟩; try simp only [List.cons_append, List.nil_append]) | (refine JD_goq (cloneG_s d.pa d.pc d.path (by omega)) (hφ := (by (try simp only [List.cons_append, List.nil_append]); exact fun w hr => (hK w hr.1).path.vw)) (h := ?_); rintro _ _ ⟨a1, c1, rfl, rfl⟩; try simp only [List.cons_append, List.nil_append]) | (refine JD_goq (cloneR_s d.oa d.oc d.others (by omega)) (hφ := (by (try simp only [List.cons_append, List.nil_append]); exact fun w hr => (hK w hr.1).others.vw)) (h := ?_); rintro _ _ ⟨a3, c3, rfl, rfl⟩; try simp only [List.cons_append, List.nil_append]) | fail)) | fail)) | refine yJ ?_ | ((with_reducible apply gJ_if); (first | (refine J_if xR ?_ ?_ <;> intro _ <;> (try (exfalso; first | contradiction | omega))) | (refine J_ifb xR ?_ ?_ <;> (intro hgb; subst hgb)) | (refine J_ifb xR ?_ ?_ <;> intro _) | fail)) | refine J_draw (id := 1) [0, 1, 3, 4, 6, 7, 2, 9, 5, 8] [10, 11, 12, 13, 14] mixed xC xD xD ?_ | refine J_draw (id := 5) [0, 1, 2, 3, 4, 5] [6, 7, 8] mixed xC xD xD ?_ | refine J_draw (id := 10) [0, 1, 2, 3, 4, 5] [6, 7, 8] mixed xC xD xD ?_ | fail))
  rename_i b1 b2
  refine J_loop (α := Lg) ⟨0, d.path⟩ (fun x => d.path.length - x.k) (fun x => x.k ≤ d.path.length ∧ x.xs.length = d.path.length ∧ pN x.xs = pN d.path ∧ x.xs.drop x.k = d.path.drop x.k) (fun x => [(1, .pointer (some ⟨b1, 0, none⟩)), (2, .pointer (some ⟨b2, 0, none⟩)), (20, .slice a1 d.path.length c1), (21, .int .i64 d.path.length), (22, .int .i64 x.k)])
    (fun x => [pts b1 (ownC d a1 c1 a2 c2 a3 c3) 33, Ar 79 2 rwC (.slice a3 d.others.length c3) d.others, Ar 56 2 sgC (.slice a1 d.path.length c1) x.xs, has (fun w => ∀ s ∈ x.xs.take x.k, segV w s), Ar 25 1 u32C (.slice a2 d.comms.length c2) d.comms, pts b2 [.int .i64 0, .slice none 0 0, .int .u32 0, .bool false, .int .u32 0, .bool false, .int .u32 0, .bool false, .bool false, .int .u32 0, .int .u32 0, .slice none 0 0, .slice none 0 0] 33]) ⟨Nat.zero_le _, rfl, rfl, rfl⟩ ⟨rfl, rfl, rfl, rfl, rfl, trivial⟩ (fun w H => (Ow.hasTrue (φ := fun w => ∀ s ∈ d.path.take 0, segV w s) H (by intro _ _ h; exact absurd h (by simp))).sel xZ) ?_
  rintro ⟨k, xs⟩ ⟨hk, hxl, hxn, hxd⟩
  dsimp only at hk hxl hxn hxd ⊢
  by_cases hlt : k < d.path.length
  · obtain ⟨s, hs0⟩ : ∃ s, d.path[k]? = some s := ⟨_, List.getElem?_eq_getElem hlt⟩
    have hs : xs[k]? = some s := by have := congrArg (·[0]?) hxd; simpa [hs0] using this
    have hm := List.mem_of_getElem? hs0
    have hsn1 := (hd.num.path s hm).1
    (repeat' (first | ((with_reducible apply gL); (first | refine yL0 ?_ | ((with_reducible apply gL_store); (first | (refine JD_stEf (z' := (⟨s.set, ad5, c5, s.as_⟩ : Sg)) (by rfl) (by rfl) xA hs (by rfl) (by intro _; rfl) (by rfl) (by rfl) (by (first | ((repeat (first | exact Put.e | apply Put.t | apply Put.s)); done) | fail)) (by rfl) (by rfl) (by rfl) ?_) | fail)) | refine yL ?_ | (refine yM ?_; intro _) | fail)) | ((with_reducible apply gD); (first | (refine JD_nil ?_; try simp only [List.cons_append, List.nil_append]) | (refine JD_bar ?_; try simp only [List.cons_append, List.nil_append]) | ((with_reducible apply gD_store); (first | (refine JD_stEf (z' := (⟨s.set, ad5, c5, s.as_⟩ : Sg)) (by rfl) (by rfl) xA hs (by rfl) (by intro _; rfl) (by rfl) (by rfl) (by (first | ((repeat (first | exact Put.e | apply Put.t | apply Put.s)); done) | fail)) (by rfl) (by rfl) (by rfl) ?_) | fail)) | refine yD ?_ | ((with_reducible apply gD_go); (first | (refine JD_goq (cloneU_s s.a s.c s.as_ hsn1) (hφ := (by (try simp only [List.cons_append, List.nil_append]); exact fun w hr => (hK w hr.1).path.segs s hm)) (h := ?_); rintro _ _ ⟨ad5, c5, rfl, rfl⟩; try simp only [List.cons_append, List.nil_append]) | fail)) | fail)) | refine yJ ?_ | ((with_reducible apply gJ_if); (first | (refine J_if xR ?_ ?_ <;> intro _ <;> (try (exfalso; first | contradiction | omega))) | (refine J_ifb xR ?_ ?_ <;> (intro hgb; subst hgb)) | (refine J_ifb xR ?_ ?_ <;> intro _) | fail)) | refine J_draw (id := 5) [0, 1, 2, 3, 4, 5, 6, 7] [8] mixed xC xD xD ?_ | refine J_draw (id := 1) [0, 1, 3, 4, 6, 7, 2, 9, 5, 8] [10, 11, 12, 13, 14] mixed xC xD xD ?_ | refine J_draw (id := 10) [0, 1, 2, 3, 4, 5] [6, 7, 8] mixed xC xD xD ?_ | fail))
    refine J_again ⟨k + 1, xs.set k ⟨s.set, ad5, c5, s.as_⟩⟩ (by dsimp only; omega) ⟨by dsimp only; omega, by simp [hxl], (pN_set (z := ⟨s.set, ad5, c5, s.as_⟩) hs rfl rfl).trans hxn, ?_⟩ ⟨rfl, rfl, rfl, rfl, rfl, trivial⟩ (fun w H => ?_)
    · dsimp only
      rw [List.drop_set_of_lt (by omega), ← List.drop_drop, hxd, List.drop_drop]
    · refine (Ow.has (M := [Ar 25 1 u32C (.slice ad5 s.as_.length c5) s.as_, has (fun w => ∀ s ∈ xs.take k, segV w s)]) (φ := fun w => ∀ x ∈ (xs.set k ⟨s.set, ad5, c5, s.as_⟩).take (k + 1), segV w x) H xZ ?_).sel xZ
      intro w hr x hx
      rw [take_set (by omega)] at hx
      rcases List.mem_append.1 hx with hx | hx
      · exact hr.has (.there .here) x hx
      · obtain rfl := List.mem_singleton.1 hx
        exact Src.ar .here w hr
  · obtain rfl : k = d.path.length := by omega
    rw [← hxl, List.take_length, hxl]
    (repeat' (first | ((with_reducible apply gL); (first | refine yL0 ?_ | refine yL ?_ | (refine yM ?_; intro _) | fail)) | ((with_reducible apply gD); (first | (refine JD_nil ?_; try simp only [List.cons_append, List.nil_append]) | (refine JD_bar ?_; try simp only [List.cons_append, List.nil_append]) | refine yD ?_ | fail)) | refine yJ ?_ | ((with_reducible apply gJ_if); (first | (refine J_if xR ?_ ?_ <;> intro _ <;> (try (exfalso; first | contradiction | omega))) | (refine J_ifb xR ?_ ?_ <;> (intro hgb; subst hgb)) | (refine J_ifb xR ?_ ?_ <;> intro _) | fail)) | refine J_draw (id := 1) [0, 1, 3, 4, 6, 7, 2, 9, 5, 8] [10, 11, 12, 13, 14] mixed xC xD xD ?_ | refine J_draw (id := 5) [0, 1, 2, 3, 4, 5] [6, 7, 8] mixed xC xD xD ?_ | refine J_draw (id := 10) [0, 1, 2, 3, 4, 5] [6, 7, 8] mixed xC xD xD ?_ | fail))
    refine J_loop (α := Lr) ⟨0, d.others⟩ (fun x => d.others.length - x.k) (fun x => x.k ≤ d.others.length ∧ x.xs.length = d.others.length ∧ oN x.xs = oN d.others ∧ x.xs.drop x.k = d.others.drop x.k) (fun x => [(1, .pointer (some ⟨b1, 0, none⟩)), (2, .pointer (some ⟨b2, 0, none⟩)), (37, .slice a3 d.others.length c3), (38, .int .i64 d.others.length), (39, .int .i64 x.k)])
      (fun x => [pts b1 (ownC d a1 c1 a2 c2 a3 c3) 33, Ar 79 2 rwC (.slice a3 d.others.length c3) x.xs, has (fun w => ∀ s ∈ x.xs.take x.k, rawV w s), Ar 56 2 sgC (.slice a1 d.path.length c1) xs, has (fun w => ∀ s ∈ xs, segV w s), Ar 25 1 u32C (.slice a2 d.comms.length c2) d.comms, pts b2 [.int .i64 0, .slice none 0 0, .int .u32 0, .bool false, .int .u32 0, .bool false, .int .u32 0, .bool false, .bool false, .int .u32 0, .int .u32 0, .slice none 0 0, .slice none 0 0] 33]) ⟨Nat.zero_le _, rfl, rfl, rfl⟩ ⟨rfl, rfl, rfl, rfl, rfl, trivial⟩ (fun w H => (Ow.hasTrue (φ := fun w => ∀ s ∈ d.others.take 0, rawV w s) H (by intro _ _ h; exact absurd h (by simp))).sel xZ) ?_
    rintro ⟨j, ys⟩ ⟨hj, hyl, hyn, hyd⟩
    dsimp only at hj hyl hyn hyd ⊢
    by_cases hlt : j < d.others.length
    · obtain ⟨s, hs0⟩ : ∃ s, d.others[j]? = some s := ⟨_, List.getElem?_eq_getElem hlt⟩
      have hs : ys[j]? = some s := by have := congrArg (·[0]?) hyd; simpa [hs0] using this
      have hm := List.mem_of_getElem? hs0
      have hsn1 := (hd.num.others s hm).2.1
      (repeat' (first | ((with_reducible apply gL); (first | refine yL0 ?_ | ((with_reducible apply gL_store); (first | (refine JD_stEf (z' := (⟨s.kind, ad5, c5, s.data⟩ : Rw)) (by rfl) (by rfl) xA hs (by rfl) (by intro _; rfl) (by rfl) (by rfl) (by (first | ((repeat (first | exact Put.e | apply Put.t | apply Put.s)); done) | fail)) (by rfl) (by rfl) (by rfl) ?_) | fail)) | refine yL ?_ | (refine yM ?_; intro _) | fail)) | ((with_reducible apply gD); (first | (refine JD_nil ?_; try simp only [List.cons_append, List.nil_append]) | (refine JD_bar ?_; try simp only [List.cons_append, List.nil_append]) | ((with_reducible apply gD_store); (first | (refine JD_stEf (z' := (⟨s.kind, ad5, c5, s.data⟩ : Rw)) (by rfl) (by rfl) xA hs (by rfl) (by intro _; rfl) (by rfl) (by rfl) (by (first | ((repeat (first | exact Put.e | apply Put.t | apply Put.s)); done) | fail)) (by rfl) (by rfl) (by rfl) ?_) | fail)) | refine yD ?_ | ((with_reducible apply gD_go); (first | (refine JD_goq (cloneB_s s.a s.c s.data hsn1) (hφ := (by (try simp only [List.cons_append, List.nil_append]); exact fun w hr => (hK w hr.1).others.raws s hm)) (h := ?_); rintro _ _ ⟨ad5, c5, rfl, rfl⟩; try simp only [List.cons_append, List.nil_append]) | fail)) | fail)) | refine yJ ?_ | ((with_reducible apply gJ_if); (first | (refine J_if xR ?_ ?_ <;> intro _ <;> (try (exfalso; first | contradiction | omega))) | (refine J_ifb xR ?_ ?_ <;> (intro hgb; subst hgb)) | (refine J_ifb xR ?_ ?_ <;> intro _) | fail)) | refine J_draw (id := 10) [0, 1, 2, 3, 4, 5, 6, 7] [8] mixed xC xD xD ?_ | refine J_draw (id := 1) [0, 1, 3, 4, 6, 7, 2, 9, 5, 8] [10, 11, 12, 13, 14] mixed xC xD xD ?_ | refine J_draw (id := 5) [0, 1, 2, 3, 4, 5] [6, 7, 8] mixed xC xD xD ?_ | fail))
      refine J_again ⟨j + 1, ys.set j ⟨s.kind, ad5, c5, s.data⟩⟩ (by dsimp only; omega) ⟨by dsimp only; omega, by simp [hyl], (oN_set (z := ⟨s.kind, ad5, c5, s.data⟩) hs rfl rfl).trans hyn, ?_⟩ ⟨rfl, rfl, rfl, rfl, rfl, trivial⟩ (fun w H => ?_)
      · dsimp only
        rw [List.drop_set_of_lt (by omega), ← List.drop_drop, hyd, List.drop_drop]
      · refine (Ow.has (M := [Ar 5 1 byC (.slice ad5 s.data.length c5) s.data, has (fun w => ∀ s ∈ ys.take j, rawV w s)]) (φ := fun w => ∀ x ∈ (ys.set j ⟨s.kind, ad5, c5, s.data⟩).take (j + 1), rawV w x) H xZ ?_).sel xZ
        intro w hr x hx
        rw [take_set (by omega)] at hx
        rcases List.mem_append.1 hx with hx | hx
        · exact hr.has (.there .here) x hx
        · obtain rfl := List.mem_singleton.1 hx
          exact Src.ar .here w hr
    · obtain rfl : j = d.others.length := by omega
      rw [← hyl, List.take_length, hyl]
      (repeat' (first | ((with_reducible apply gL); (first | refine yL0 ?_ | refine yL ?_ | (refine yM ?_; intro _) | fail)) | ((with_reducible apply gD); (first | (refine JD_nil ?_; try simp only [List.cons_append, List.nil_append]) | (refine JD_bar ?_; try simp only [List.cons_append, List.nil_append]) | refine yD ?_ | fail)) | refine yJ ?_ | ((with_reducible apply gJ_if); (first | (refine J_if xR ?_ ?_ <;> intro _ <;> (try (exfalso; first | contradiction | omega))) | (refine J_ifb xR ?_ ?_ <;> (intro hgb; subst hgb)) | (refine J_ifb xR ?_ ?_ <;> intro _) | fail)) | refine J_draw (id := 1) [0, 1, 3, 4, 6, 7, 2, 9, 5, 8] [10, 11, 12, 13, 14] mixed xC xD xD ?_ | refine J_draw (id := 5) [0, 1, 2, 3, 4, 5] [6, 7, 8] mixed xC xD xD ?_ | refine J_draw (id := 10) [0, 1, 2, 3, 4, 5] [6, 7, 8] mixed xC xD xD ?_ | fail))
      refine J_retC (cs := ownC d a1 c1 a2 c2 a3 c3) rfl (by rfl) xA (by rfl) fun w H => ⟨_, ⟨d.at_ xs a1 c1 d.comms a2 c2 ys a3 c3, At.at_num hd _ _ _ _ _ _ _ _ _ hxn rfl hyn, d.at_nf _ _ _ _ _ _ _ _ _ hxn rfl hyn, by simp only [atC, atN, At.at_, hxl, hyl], rfl⟩, ?_⟩
      refine (Ow.has (M := [Ar 56 2 sgC (.slice a1 d.path.length c1) xs, has (fun w => ∀ s ∈ xs, segV w s), Ar 25 1 u32C (.slice a2 d.comms.length c2) d.comms, Ar 79 2 rwC (.slice a3 d.others.length c3) ys, has (fun w => ∀ s ∈ ys, rawV w s)]) (φ := fun w => AtV w (d.at_ xs a1 c1 d.comms a2 c2 ys a3 c3)) H xZ ?_).sel xZ
      intro w hr
      have h1 := Src.ar (enc := sgC) (es := xs) .here w hr
      have h2 := Src.ar (enc := rwC) (es := ys) (.there (.there (.there .here))) w hr
      rw [← hxl] at h1
      rw [← hyl] at h2
      exact ⟨⟨h1, fun s hs => hr.has (φ := fun w => ∀ s ∈ xs, segV w s) (.there .here) s hs⟩, Src.ar (.there (.there .here)) w hr, ⟨h2, fun s hs => hr.has (φ := fun w => ∀ s ∈ ys, rawV w s) (.there (.there (.there (.there .here)))) s hs⟩⟩
end Go.Proofs.Ytmbgbhambgoejaa.C
namespace Go.Proofs.Ytmbgbhambgoejaa.C
set_option linter.unusedSimpArgs false
set_option linter.unusedVariables false
set_option maxRecDepth 20000
set_option maxHeartbeats 4000000
open Go.RowKit Go.Pm

def at0 : At := ⟨0, none, 0, [], 0, false, 0, false, 0, false, false, 0, 0, none, 0, [], none, 0, []⟩
theorem at0_f : AtF at0 := ⟨⟨by show I64 0; unfold I64; decide, by show U32 0; unfold U32; decide, by show U32 0; unfold U32; decide, by show U32 0; unfold U32; decide, by show U32 0; unfold U32; decide, by show U32 0; unfold U32; decide, fun s h => (by cases h), fun s h => (by cases h), fun s h => (by cases h)⟩, by simp [at0], by simp [at0], by simp [at0]⟩
theorem at0_v (w : World) : AtV w at0 := ⟨⟨Vw.nil w 2, fun s h => (by cases h)⟩, Vw.nil w 1, ⟨Vw.nil w 2, fun s h => (by cases h)⟩⟩
def PlR (r : Option Nf) (u : Value) (L' : List HP) : Prop := ∃ d' : At, AtF d' ∧ d'.nf = r.getD at0.nf ∧ u = .tuple #[.agg (atC d').toArray, .bool r.isSome, .int .i64 0] ∧ L' = [has (fun w => AtV w d')]
theorem Play_s (a : Option Addr) (c : Nat) (T : List Sp) (p : Pf) (hp : PfN p) (d : At) (hd : AtF d) (hc : checkE T = 0) (hsn : ∀ s ∈ T, SpN s) (h0 : 0 < T.length) (hl : T.length ≤ 4096) : Pact Try.prog 10 #[.slice a T.length c, .agg (pfC p).toArray, .agg (atC d).toArray] (fun w => AtV w d ∧ Vw w (.slice a T.length c) 7 T.length (flat spC T)) [] (PlR (playW T p 0 d.nf).1) := by
  have hT := right_of_check hc
  refine pact Try.func10 rfl Try.ntmps10 rfl ?_
  intro W K hK
  obtain ⟨r0, hr0⟩ : ∃ r, playW T p 0 d.nf = r := ⟨_, rfl⟩
  rw [hr0]
  have hC := check_b a c T hsn (by omega) 0 hc
  have hP := fun rb => play_s rb p hp d hd a c T hT hsn h0 hl
  rw [hr0] at hP
  obtain ⟨r, N⟩ := r0
  cases r with
  | none =>
    (repeat' (first | ((with_reducible apply gL); (first | refine yL0 ?_ | refine yL ?_ | ((with_reducible apply gL_go); (first | (refine JL_goq (hC) (hφ := (by (try simp only [List.cons_append, List.nil_append]); exact fun w hr => (hK w hr.1).2)) (h := ?_); rintro _ _ ⟨rfl, rfl⟩; try simp only [List.cons_append, List.nil_append]) | (refine JL_goq (hP _) (hφ := (by (try simp only [List.cons_append, List.nil_append]); exact fun w hr => hK w hr.1)) (h := ?_); rintro _ _ ⟨d', hd', rfl, hx, rfl⟩; try simp only [List.cons_append, List.nil_append]) | fail)) | (refine yM ?_; intro _) | fail)) | refine yJ ?_ | ((with_reducible apply gJ_if); (first | (refine J_if xR ?_ ?_ <;> intro _ <;> (try (exfalso; first | contradiction | omega))) | (refine J_ifb xR ?_ ?_ <;> (intro hgb; subst hgb)) | (refine J_ifb xR ?_ ?_ <;> intro _) | fail)) | fail))
    all_goals (first | (exfalso; omega) | skip)
    exact J_retC2 (cs := [.int .i64 0, .slice none 0 0, .int .u32 0, .bool false, .int .u32 0, .bool false, .int .u32 0, .bool false, .bool false, .int .u32 0, .int .u32 0, .slice none 0 0, .slice none 0 0]) rfl (by rfl) (by rfl) (by rfl) xA (by rfl) fun w H => ⟨_, ⟨at0, at0_f, rfl, rfl, rfl⟩, (Ow.hasTrue (φ := fun w => AtV w at0) H at0_v).sel xZ⟩
  | some x =>
    (repeat' (first | ((with_reducible apply gL); (first | refine yL0 ?_ | refine yL ?_ | ((with_reducible apply gL_go); (first | (refine JL_goq (hC) (hφ := (by (try simp only [List.cons_append, List.nil_append]); exact fun w hr => (hK w hr.1).2)) (h := ?_); rintro _ _ ⟨rfl, rfl⟩; try simp only [List.cons_append, List.nil_append]) | (refine JL_goq (hP _) (hφ := (by (try simp only [List.cons_append, List.nil_append]); exact fun w hr => hK w hr.1)) (h := ?_); rintro _ _ ⟨d', hd', rfl, hx, rfl⟩; try simp only [List.cons_append, List.nil_append]) | (refine JL_goq (own_s d' hd') (hφ := (by (try simp only [List.cons_append, List.nil_append]); exact fun w hr => hr.has (φ := fun w => AtV w d → AtV w d') xA (hK w hr.1).1)) (h := ?_); rintro _ _ ⟨d2, hd2, hn2, rfl, rfl⟩; try simp only [List.cons_append, List.nil_append]) | fail)) | (refine yM ?_; intro _) | fail)) | refine yJ ?_ | ((with_reducible apply gJ_if); (first | (refine J_if xR ?_ ?_ <;> intro _ <;> (try (exfalso; first | contradiction | omega))) | (refine J_ifb xR ?_ ?_ <;> (intro hgb; subst hgb)) | (refine J_ifb xR ?_ ?_ <;> intro _) | fail)) | fail))
    all_goals (first | (exfalso; omega) | skip)
    exact J_retC2 (cs := atC d2) rfl (by rfl) (by rfl) (by rfl) xA (by rfl) fun w H => ⟨_, ⟨d2, hd2, by rw [hn2, hx x rfl]; rfl, rfl, rfl⟩, H.sel xZ⟩
end Go.Proofs.Ytmbgbhambgoejaa.C
namespace Go.Proofs.Ytmbgbhambgoejaa.C
set_option linter.unusedSimpArgs false
set_option linter.unusedVariables false
set_option maxRecDepth 20000
set_option maxHeartbeats 4000000
open Go.RowKit Go.Pm

structure Loo where
  q : List Rw
  ad : Option Addr
  cc : Nat
theorem acopyO_s (d : At) (hd : AtF d) (n m k : Nat) (hn : d.path.length = n) (hm : d.comms.length = m) (hk : d.others.length = k) : Pact Try.prog 15 #[.agg (atN d n m k).toArray] (fun w => AtV w d) [] (fun v L' => ∃ d', AtF d' ∧ d'.nf = d.nf ∧ v = .agg (atC d').toArray ∧ L' = [has (fun w => PathV w d'.pa d'.pc d'.path), Ar 25 1 u32C (.slice d'.ca d'.comms.length d'.cc) d'.comms, has (fun w => RawsV w d'.oa d'.oc d'.others)]) := by
  subst hn hm hk
  refine pact Try.func15 rfl Try.ntmps15 rfl ?_
  intro W K hK
  have hd1 := hd.path
  have hd2 := hd.comms
  have hd3 := hd.others
  have hcv : Kn K (fun w => Vw w (.slice d.ca d.comms.length d.cc) 1 d.comms.length (flat u32C d.comms)) := hK.imp fun _ h => h.comms
  have hov : Kn K (fun w => Vw w (.slice d.oa d.others.length d.oc) 2 d.others.length (flat rwC d.others)) := hK.imp fun _ h => h.others.vw
  (repeat' (first | ((with_reducible apply gL); (first | refine yL0 ?_ | ((with_reducible apply gL_c_append); (first | (refine JL_appL (fs := d.comms) u32C (tabE etab_ok (by rfl)) (by rfl) (by rfl) xA (Src.kn hcv) (by decide +kernel) (by intro _; rfl) (all_one _ (by intro _ _; rfl)) (by omega) (by rfl) (by rfl) ?_; intro ad2 c2 _ _) | fail)) | refine yL ?_ | ((with_reducible apply gL_go); (first | (refine JL_goq (pcopy_s d.pa d.pc d.path _ rfl (by omega) hd.num.path) (hφ := (by (try simp only [List.cons_append, List.nil_append]); exact fun w hr => (hK w hr.1).path)) (h := ?_); rintro _ _ ⟨q, a', c', rfl, hs, rfl⟩; try simp only [List.cons_append, List.nil_append]) | fail)) | (refine yM ?_; intro _) | (refine yA ?_; intro _ _ _ _) | fail)) | ((with_reducible apply gD); (first | (refine JD_nil ?_; try simp only [List.cons_append, List.nil_append]) | (refine JD_bar ?_; try simp only [List.cons_append, List.nil_append]) | ((with_reducible apply gD_c_append); (first | (refine JL_appL (fs := d.comms) u32C (tabE etab_ok (by rfl)) (by rfl) (by rfl) xA (Src.kn hcv) (by decide +kernel) (by intro _; rfl) (all_one _ (by intro _ _; rfl)) (by omega) (by rfl) (by rfl) ?_; intro ad2 c2 _ _) | fail)) | refine yD ?_ | (refine yE ?_; intro _) | (refine yB ?_; intro _ _ _ _) | fail)) | refine yJ ?_ | ((with_reducible apply gJ_if); (first | (refine J_if xR ?_ ?_ <;> intro _ <;> (try (exfalso; first | contradiction | omega))) | (refine J_ifb xR ?_ ?_ <;> (intro hgb; subst hgb)) | (refine J_ifb xR ?_ ?_ <;> intro _) | fail)) | refine J_draw (id := 8) [0, 1, 2, 3, 4, 5, 6, 7, 9, 10, 11, 12, 13, 14, 8, 15, 16, 17] [18, 19, 20] mixed xC xD xD ?_ | fail))
  rename_i b1 b2 b3 _ _ _ b4
  refine J_loop (α := Loo) ⟨[], some ⟨b4, 0, none⟩, 0⟩ (fun x => d.others.length - x.q.length) (fun x => x.q.length ≤ d.others.length ∧ oN x.q = oN (d.others.take x.q.length)) (fun x => [(1, .pointer (some ⟨b1, 0, none⟩)), (2, .pointer (some ⟨b2, 0, none⟩)), (3, .pointer (some ⟨b3, 0, none⟩)), (4, .int .i64 x.q.length)])
    (fun x => [pts b3 (cpC d q.length a' c' ad2 c2 x.ad x.q.length x.cc) 33, Ar 79 2 rwC (.slice x.ad x.q.length x.cc) x.q, has (fun w => ∀ s ∈ x.q, rawV w s), Ar 25 1 u32C (.slice ad2 d.comms.length c2) d.comms, has (fun w => PathV w a' c' q), pts b2 [.int .i64 0, .slice none 0 0, .int .u32 0, .bool false, .int .u32 0, .bool false, .int .u32 0, .bool false, .bool false, .int .u32 0, .int .u32 0, .slice none 0 0, .slice none 0 0] 33, pts b1 (atN d d.path.length d.comms.length d.others.length) 33]) ⟨Nat.zero_le _, rfl⟩ ⟨rfl, rfl, rfl, rfl, trivial⟩ (fun w H => (Ow.hasTrue (φ := fun w => ∀ s ∈ ([] : List Rw), rawV w s) (H.arLit0 xA) (by intro _ _ h; exact absurd h List.not_mem_nil)).sel xZ) ?_
  rintro ⟨o, oa, oc⟩ ⟨ho, hsame⟩
  dsimp only at ho hsame ⊢
  by_cases hlt : o.length < d.others.length
  · obtain ⟨s, hs⟩ : ∃ s, d.others[o.length]? = some s := ⟨_, List.getElem?_eq_getElem hlt⟩
    have hm := List.mem_of_getElem? hs
    have hsn := hd.num.others s hm
    have hsn1 := hsn.2.1
    have hu : Kn K (fun w => Vw w (.slice s.a s.data.length s.c) 1 s.data.length (flat byC s.data)) := hK.imp fun _ h => h.others.raws s hm
    (repeat' (first | ((with_reducible apply gL); (first | refine yL0 ?_ | ((with_reducible apply gL_c_append); (first | ((refine JD_appL byC (tabE etab_ok (by rfl)) (by rfl) (by rfl) xA (Src.kn hu) (by decide +kernel) (by intro _; rfl) (all_one _ (by intro _ _; rfl)) (by omega) (by rfl) ?_; intro ad3 c3 _ _)) | ((refine JD_ap1 (z := Rw.mk s.kind ad3 c3 s.data) (tabE etab_ok (by rfl)) (by rfl) (by rfl) xA xA (by decide +kernel) (by rfl) (by intro _; rfl) (by rfl) (by omega) (by rfl) ?_; intro ad4 c4 _ _)) | fail)) | refine yL ?_ | (refine yM ?_; intro _) | (refine yA ?_; intro _ _ _ _) | fail)) | ((with_reducible apply gD); (first | (refine JD_nil ?_; try simp only [List.cons_append, List.nil_append]) | (refine JD_bar ?_; try simp only [List.cons_append, List.nil_append]) | ((with_reducible apply gD_c_append); (first | ((refine JD_appL byC (tabE etab_ok (by rfl)) (by rfl) (by rfl) xA (Src.kn hu) (by decide +kernel) (by intro _; rfl) (all_one _ (by intro _ _; rfl)) (by omega) (by rfl) ?_; intro ad3 c3 _ _)) | ((refine JD_ap1 (z := Rw.mk s.kind ad3 c3 s.data) (tabE etab_ok (by rfl)) (by rfl) (by rfl) xA xA (by decide +kernel) (by rfl) (by intro _; rfl) (by rfl) (by omega) (by rfl) ?_; intro ad4 c4 _ _)) | fail)) | refine yD ?_ | (refine yE ?_; intro _) | (refine yB ?_; intro _ _ _ _) | fail)) | refine yJ ?_ | ((with_reducible apply gJ_if); (first | (refine J_if xR ?_ ?_ <;> intro _ <;> (try (exfalso; first | contradiction | omega))) | (refine J_ifb xR ?_ ?_ <;> (intro hgb; subst hgb)) | (refine J_ifb xR ?_ ?_ <;> intro _) | fail)) | refine J_draw (id := 8) [0, 1, 2, 3, 4, 5, 6, 7, 9, 10, 11, 12, 13, 14, 8, 15, 16, 17] [18, 19, 20] mixed xC xD xD ?_ | fail))
    refine J_again ⟨o ++ [Rw.mk s.kind ad3 c3 s.data], ad4, c4⟩ (by simp; omega) ⟨by simp; omega, ?_⟩ ⟨rfl, rfl, rfl, ?_, trivial⟩ (fun w H => ?_)
    · simp only [List.length_append, List.length_cons, List.length_nil]
      rw [take_snoc hs]
      unfold oN at hsame ⊢
      rw [List.map_append, List.map_append, hsame]
      rfl
    · show some _ = some _
      simp
    · simp only [List.length_append, List.length_cons, List.length_nil]
      refine (Ow.has (M := [Ar 5 1 byC (.slice ad3 s.data.length c3) s.data, has (fun w => ∀ s ∈ o, rawV w s)]) (φ := fun w => ∀ x ∈ o ++ [Rw.mk s.kind ad3 c3 s.data], rawV w x) H xZ ?_).sel xZ
      intro w hr x hx
      rcases List.mem_append.1 hx with hx | hx
      · exact hr.has (.there .here) x hx
      · obtain rfl := List.mem_singleton.1 hx
        exact Src.ar .here w hr
  · obtain hol : o.length = d.others.length := by omega
    rw [hol, List.take_length] at hsame
    (repeat' (first | ((with_reducible apply gL); (first | refine yL0 ?_ | refine yL ?_ | (refine yM ?_; intro _) | (refine yA ?_; intro _ _ _ _) | fail)) | ((with_reducible apply gD); (first | (refine JD_nil ?_; try simp only [List.cons_append, List.nil_append]) | (refine JD_bar ?_; try simp only [List.cons_append, List.nil_append]) | refine yD ?_ | (refine yE ?_; intro _) | (refine yB ?_; intro _ _ _ _) | fail)) | refine yJ ?_ | ((with_reducible apply gJ_if); (first | (refine J_if xR ?_ ?_ <;> intro _ <;> (try (exfalso; first | contradiction | omega))) | (refine J_ifb xR ?_ ?_ <;> (intro hgb; subst hgb)) | (refine J_ifb xR ?_ ?_ <;> intro _) | fail)) | refine J_draw (id := 8) [0, 1, 2, 3, 4, 5, 6, 7, 9, 10, 11, 12, 13, 14, 8, 15, 16, 17] [18, 19, 20] mixed xC xD xD ?_ | fail))
    refine J_retC (cs := cpC d q.length a' c' ad2 c2 oa o.length oc) rfl (by rfl) xA (by rfl) fun w H => ⟨_, ⟨d.at_ q a' c' d.comms ad2 c2 o oa oc, At.at_num hd _ _ _ _ _ _ _ _ _ hs rfl hsame, d.at_nf _ _ _ _ _ _ _ _ _ hs rfl hsame, rfl, rfl⟩, ?_⟩
    exact (Ow.has (M := [Ar 79 2 rwC (.slice oa o.length oc) o, has (fun w => ∀ s ∈ o, rawV w s)]) (φ := fun w => RawsV w oa oc o) H xZ (fun w hr => ⟨Src.ar .here w hr, fun s hs => hr.has (φ := fun w => ∀ s ∈ o, rawV w s) (.there .here) s hs⟩)).sel (M := [has (fun w => PathV w a' c' q), Ar 25 1 u32C (.slice ad2 d.comms.length c2) d.comms, has (fun w => RawsV w oa oc o)]) xZ
theorem qmarked_s (d : At) (hd : AtF d) (n : Int) : Pact Try.prog 46 #[.agg (atC d).toArray, .int .i64 n] (fun w => AtV w d) [] (ret0 (.bool (decide (n ∈ d.comms)))) := by
  refine pact Try.func46 rfl Try.ntmps46 rfl ?_
  intro W K hK
  have hcl := hd.comms
  have hcv : Kn K (fun w => Vw w (.slice d.ca d.comms.length d.cc) 1 d.comms.length (flat u32C d.comms)) := hK.imp fun _ h => h.comms
  (repeat' (first | ((with_reducible apply gL); (first | refine yL0 ?_ | refine yL ?_ | (refine yM ?_; intro _) | fail)) | refine yJ ?_ | ((with_reducible apply gJ_if); (first | (refine J_if xR ?_ ?_ <;> intro _ <;> (try (exfalso; first | contradiction | omega))) | (refine J_ifb xR ?_ ?_ <;> (intro hgb; subst hgb)) | (refine J_ifb xR ?_ ?_ <;> intro _) | fail)) | fail))
  rename_i b0
  refine J_loop (α := Nat) 0 (fun x => d.comms.length - x) (fun x => x ≤ d.comms.length ∧ n ∉ d.comms.take x) (fun x => [(1, .int .i64 n), (2, .pointer (some ⟨b0, 0, none⟩)), (5, .int .i64 x)]) (fun x => [pts b0 (atC d) 33]) ⟨Nat.zero_le _, by simp⟩ ⟨rfl, rfl, rfl, trivial⟩ (fun w H => H.sel xZ) ?_
  rintro k ⟨hk, hz⟩
  by_cases hlt : k < d.comms.length
  · obtain ⟨x, hx⟩ : ∃ x, d.comms[k]? = some x := ⟨_, List.getElem?_eq_getElem hlt⟩
    have hxu := hd.num.comms x (List.mem_of_getElem? hx)
    unfold U32 at hxu
    by_cases hxn : x = n
    · subst hxn
      (repeat' (first | ((with_reducible apply gL); (first | refine yL0 ?_ | refine yL ?_ | (refine yM ?_; intro _) | fail)) | refine yJ ?_ | ((with_reducible apply gJ_if); (first | (refine J_if xR ?_ ?_ <;> intro _ <;> (try (exfalso; first | contradiction | omega))) | (refine J_ifb xR ?_ ?_ <;> (intro hgb; subst hgb)) | (refine J_ifb xR ?_ ?_ <;> intro _) | fail)) | fail))
      all_goals (first | (exfalso; omega) | skip)
      exact J_ret1 rfl (by rfl) fun w H => ⟨_, ⟨by rw [decide_eq_true (List.mem_of_getElem? hx)], rfl⟩, H.sel .nil⟩
    · (repeat' (first | ((with_reducible apply gL); (first | refine yL0 ?_ | refine yL ?_ | (refine yM ?_; intro _) | fail)) | refine yJ ?_ | ((with_reducible apply gJ_if); (first | (refine J_if xR ?_ ?_ <;> intro _ <;> (try (exfalso; first | contradiction | omega))) | (refine J_ifb xR ?_ ?_ <;> (intro hgb; subst hgb)) | (refine J_ifb xR ?_ ?_ <;> intro _) | fail)) | fail))
      all_goals (first | (exfalso; omega) | skip)
      exact J_again (k + 1) (by omega) ⟨by omega, by rw [take_snoc hx]; simp only [List.mem_append, List.mem_singleton]; rintro (h | h); exact hz h; exact hxn h.symm⟩ ⟨rfl, rfl, rfl, trivial⟩ (fun w H => H.sel xZ)
  · have hke : k = d.comms.length := by omega
    rw [hke, List.take_length] at hz
    (repeat' (first | ((with_reducible apply gL); (first | refine yL0 ?_ | refine yL ?_ | (refine yM ?_; intro _) | fail)) | refine yJ ?_ | ((with_reducible apply gJ_if); (first | (refine J_if xR ?_ ?_ <;> intro _ <;> (try (exfalso; first | contradiction | omega))) | (refine J_ifb xR ?_ ?_ <;> (intro hgb; subst hgb)) | (refine J_ifb xR ?_ ?_ <;> intro _) | fail)) | fail))
    exact J_ret1 rfl (by rfl) fun w H => ⟨_, ⟨by rw [decide_eq_false hz], rfl⟩, H.sel .nil⟩
theorem rwithin_b (p q : Pf) (hp : PfN p) (hq : PfN q) (b : Bool) (hb : decide (Wi p q) = b) : Pact Try.prog 61 #[.agg (pfC p).toArray, .agg (pfC q).toArray] (fun _ => True) [] (ret0 (.bool b)) := hb ▸ rwithin_s p q hp hq
theorem qtest_s (op n : Int) (q p : Pf) (hq : PfN q) (hp : PfN p) (d : At) (hd : AtF d) (ho : 4 ≤ op ∧ op ≤ 12) (ht : TestOk op n q) : Pact Try.prog 44 #[.int .i64 op, .int .i64 n, .agg (pfC q).toArray, .agg (pfC p).toArray, .agg (atC d).toArray] (fun w => AtV w d) [] (ret0 (.bool (testN op n q p d.nf))) := by
  have hpl := hd.path
  have hcl := hd.comms
  have hmed := hd.num.med
  unfold U32 at hmed
  unfold TestOk at ht
  have h6 := rhas_s d.pa d.pc d.path n (by omega) hd.num.path
  have h9 := rlen_s d.pa d.pc d.path (by omega) hd.num.path
  have h7 := rfirst_s d.pa d.pc d.path (by omega) hd.num.path
  have h8 := rorigin_s d.pa d.pc d.path (by omega) hd.num.path
  have hfr : ∀ z, firstN (pN d.path) = some z → U32 z := fun z hz => by
    cases hp : d.path with
    | nil => rw [hp] at hz; cases hz
    | cons s r =>
      rw [hp] at hz
      have hsn := (hd.num.path s (by rw [hp]; simp)).2
      cases hs : s.set with
      | true => simp [firstN, pN, hs] at hz
      | false =>
        cases hl : s.as_ with
        | nil => simp [firstN, pN, hs, hl] at hz
        | cons x l =>
          simp only [firstN, pN, List.map_cons, hs, hl, Option.some.injEq] at hz
          subst hz
          exact hsn x (by rw [hl]; simp)
  have hor : ∀ z, originN (pN d.path) = some z → U32 z := fun z hz => by
    by_cases h0 : d.path = []
    · rw [h0] at hz; cases hz
    · obtain ⟨s, hs, hs2⟩ := last_get h0
      rw [originN_last hs2] at hz
      split at hz
      · cases hz
      · exact (hd.num.path s (List.mem_of_getElem? hs)).2 z (List.mem_of_getLast? hz)
  refine pact Try.func44 rfl Try.ntmps44 rfl ?_
  intro W K hK
  have hop : op = 4 ∨ op = 5 ∨ op = 6 ∨ op = 7 ∨ op = 8 ∨ op = 9 ∨ op = 10 ∨ op = 11 ∨ op = 12 := by omega
  rcases hop with rfl | rfl | rfl | rfl | rfl | rfl | rfl | rfl | rfl
  · have e : testN 4 n q p d.nf = (decide (Wi q p) && decide (p.2 ≤ n)) := rfl
    rw [e]
    rcases hb : decide (Wi q p) with _ | _
    all_goals (
      (repeat' (first | ((with_reducible apply gL); (first | refine yL0 ?_ | refine yL ?_ | ((with_reducible apply gL_go); (first | (refine JL_goq (rwithin_b q p hq hp _ hb) (hφ := xF) (h := ?_); rintro _ _ ⟨rfl, rfl⟩; try simp only [List.cons_append, List.nil_append]) | fail)) | (refine yM ?_; intro _) | ((with_reducible apply gL_gd); (first | (refine JL_guard xR xR ?_ ?_ <;> intro _ <;> (try (exfalso; first | contradiction | omega))) | (refine JL_guardb xR xR ?_ ?_ <;> (intro hgb; subst hgb)) | (refine JL_guardb xR xR ?_ ?_ <;> (intro hgb; fail_if_success (have : type_of% hgb := rfl))) | fail)) | fail)) | refine yJ ?_ | ((with_reducible apply gJ_if); (first | (refine J_if xR ?_ ?_ <;> intro _ <;> (try (exfalso; first | contradiction | omega))) | (refine J_ifb xR ?_ ?_ <;> (intro hgb; subst hgb)) | (refine J_ifb xR ?_ ?_ <;> intro _) | fail)) | fail))
      all_goals (first | (exfalso; omega) | skip)
      exact J_ret1 rfl (by rfl) fun w H => ⟨_, ⟨by simp, rfl⟩, H.sel .nil⟩)
  · have e : testN 5 n q p d.nf = decide (p = q) := rfl
    rw [e]
    (repeat' (first | ((with_reducible apply gL); (first | refine yL0 ?_ | refine yL ?_ | (refine yM ?_; intro _) | ((with_reducible apply gL_gd); (first | (refine JL_guard xR xR ?_ ?_ <;> intro _ <;> (try (exfalso; first | contradiction | omega))) | (refine JL_guardb xR xR ?_ ?_ <;> (intro hgb; subst hgb)) | (refine JL_guardb xR xR ?_ ?_ <;> (intro hgb; fail_if_success (have : type_of% hgb := rfl))) | fail)) | fail)) | refine yJ ?_ | ((with_reducible apply gJ_if); (first | (refine J_if xR ?_ ?_ <;> intro _ <;> (try (exfalso; first | contradiction | omega))) | (refine J_ifb xR ?_ ?_ <;> (intro hgb; subst hgb)) | (refine J_ifb xR ?_ ?_ <;> intro _) | fail)) | fail))
    refine J_ret1 rfl (by rfl) fun w H => ⟨_, ⟨?_, rfl⟩, H.sel .nil⟩
    simp [Prod.ext_iff]
  · (repeat' (first | ((with_reducible apply gL); (first | refine yL0 ?_ | refine yL ?_ | ((with_reducible apply gL_go); (first | (refine JL_goq (h6) (hφ := (by (try simp only [List.cons_append, List.nil_append]); exact fun w hr => (hK w hr.1).path)) (h := ?_); rintro _ _ ⟨rfl, rfl⟩; try simp only [List.cons_append, List.nil_append]) | fail)) | (refine yM ?_; intro _) | ((with_reducible apply gL_gd); (first | (refine JL_guard xR xR ?_ ?_ <;> intro _ <;> (try (exfalso; first | contradiction | omega))) | (refine JL_guardb xR xR ?_ ?_ <;> (intro hgb; subst hgb)) | (refine JL_guardb xR xR ?_ ?_ <;> (intro hgb; fail_if_success (have : type_of% hgb := rfl))) | fail)) | fail)) | refine yJ ?_ | ((with_reducible apply gJ_if); (first | (refine J_if xR ?_ ?_ <;> intro _ <;> (try (exfalso; first | contradiction | omega))) | (refine J_ifb xR ?_ ?_ <;> (intro hgb; subst hgb)) | (refine J_ifb xR ?_ ?_ <;> intro _) | fail)) | fail))
    exact J_ret1 rfl (by rfl) fun w H => ⟨_, ⟨rfl, rfl⟩, H.sel .nil⟩
  · have e : testN 7 n q p d.nf = decide (firstN (pN d.path) = some n) := rfl
    rw [e]
    rcases hf : firstN (pN d.path) with _ | z
    all_goals rw [hf] at h7
    · (repeat' (first | ((with_reducible apply gL); (first | refine yL0 ?_ | refine yL ?_ | ((with_reducible apply gL_go); (first | (refine JL_goq (h7) (hφ := (by (try simp only [List.cons_append, List.nil_append]); exact fun w hr => (hK w hr.1).path)) (h := ?_); rintro _ _ ⟨rfl, rfl⟩; try simp only [List.cons_append, List.nil_append]) | fail)) | (refine yM ?_; intro _) | ((with_reducible apply gL_gd); (first | (refine JL_guard xR xR ?_ ?_ <;> intro _ <;> (try (exfalso; first | contradiction | omega))) | (refine JL_guardb xR xR ?_ ?_ <;> (intro hgb; subst hgb)) | (refine JL_guardb xR xR ?_ ?_ <;> (intro hgb; fail_if_success (have : type_of% hgb := rfl))) | fail)) | fail)) | refine yJ ?_ | ((with_reducible apply gJ_if); (first | (refine J_if xR ?_ ?_ <;> intro _ <;> (try (exfalso; first | contradiction | omega))) | (refine J_ifb xR ?_ ?_ <;> (intro hgb; subst hgb)) | (refine J_ifb xR ?_ ?_ <;> intro _) | fail)) | fail))
      exact J_ret1 rfl (by rfl) fun w H => ⟨_, ⟨rfl, rfl⟩, H.sel .nil⟩
    · have hz := hfr z hf
      unfold U32 at hz
      simp only [Option.getD_some, Option.isSome_some] at h7
      (repeat' (first | ((with_reducible apply gL); (first | refine yL0 ?_ | refine yL ?_ | ((with_reducible apply gL_go); (first | (refine JL_goq (h7) (hφ := (by (try simp only [List.cons_append, List.nil_append]); exact fun w hr => (hK w hr.1).path)) (h := ?_); rintro _ _ ⟨rfl, rfl⟩; try simp only [List.cons_append, List.nil_append]) | fail)) | (refine yM ?_; intro _) | ((with_reducible apply gL_gd); (first | (refine JL_guard xR xR ?_ ?_ <;> intro _ <;> (try (exfalso; first | contradiction | omega))) | (refine JL_guardb xR xR ?_ ?_ <;> (intro hgb; subst hgb)) | (refine JL_guardb xR xR ?_ ?_ <;> (intro hgb; fail_if_success (have : type_of% hgb := rfl))) | fail)) | fail)) | refine yJ ?_ | ((with_reducible apply gJ_if); (first | (refine J_if xR ?_ ?_ <;> intro _ <;> (try (exfalso; first | contradiction | omega))) | (refine J_ifb xR ?_ ?_ <;> (intro hgb; subst hgb)) | (refine J_ifb xR ?_ ?_ <;> intro _) | fail)) | fail))
      exact J_ret1 rfl (by rfl) fun w H => ⟨_, ⟨by simp, rfl⟩, H.sel .nil⟩
  · have e : testN 8 n q p d.nf = decide (originN (pN d.path) = some n) := rfl
    rw [e]
    rcases hf : originN (pN d.path) with _ | z
    all_goals rw [hf] at h8
    · (repeat' (first | ((with_reducible apply gL); (first | refine yL0 ?_ | refine yL ?_ | ((with_reducible apply gL_go); (first | (refine JL_goq (h8) (hφ := (by (try simp only [List.cons_append, List.nil_append]); exact fun w hr => (hK w hr.1).path)) (h := ?_); rintro _ _ ⟨rfl, rfl⟩; try simp only [List.cons_append, List.nil_append]) | fail)) | (refine yM ?_; intro _) | ((with_reducible apply gL_gd); (first | (refine JL_guard xR xR ?_ ?_ <;> intro _ <;> (try (exfalso; first | contradiction | omega))) | (refine JL_guardb xR xR ?_ ?_ <;> (intro hgb; subst hgb)) | (refine JL_guardb xR xR ?_ ?_ <;> (intro hgb; fail_if_success (have : type_of% hgb := rfl))) | fail)) | fail)) | refine yJ ?_ | ((with_reducible apply gJ_if); (first | (refine J_if xR ?_ ?_ <;> intro _ <;> (try (exfalso; first | contradiction | omega))) | (refine J_ifb xR ?_ ?_ <;> (intro hgb; subst hgb)) | (refine J_ifb xR ?_ ?_ <;> intro _) | fail)) | fail))
      exact J_ret1 rfl (by rfl) fun w H => ⟨_, ⟨rfl, rfl⟩, H.sel .nil⟩
    · have hz := hor z hf
      unfold U32 at hz
      simp only [Option.getD_some, Option.isSome_some] at h8
      (repeat' (first | ((with_reducible apply gL); (first | refine yL0 ?_ | refine yL ?_ | ((with_reducible apply gL_go); (first | (refine JL_goq (h8) (hφ := (by (try simp only [List.cons_append, List.nil_append]); exact fun w hr => (hK w hr.1).path)) (h := ?_); rintro _ _ ⟨rfl, rfl⟩; try simp only [List.cons_append, List.nil_append]) | fail)) | (refine yM ?_; intro _) | ((with_reducible apply gL_gd); (first | (refine JL_guard xR xR ?_ ?_ <;> intro _ <;> (try (exfalso; first | contradiction | omega))) | (refine JL_guardb xR xR ?_ ?_ <;> (intro hgb; subst hgb)) | (refine JL_guardb xR xR ?_ ?_ <;> (intro hgb; fail_if_success (have : type_of% hgb := rfl))) | fail)) | fail)) | refine yJ ?_ | ((with_reducible apply gJ_if); (first | (refine J_if xR ?_ ?_ <;> intro _ <;> (try (exfalso; first | contradiction | omega))) | (refine J_ifb xR ?_ ?_ <;> (intro hgb; subst hgb)) | (refine J_ifb xR ?_ ?_ <;> intro _) | fail)) | fail))
      exact J_ret1 rfl (by rfl) fun w H => ⟨_, ⟨by simp, rfl⟩, H.sel .nil⟩
  · (repeat' (first | ((with_reducible apply gL); (first | refine yL0 ?_ | refine yL ?_ | ((with_reducible apply gL_go); (first | (refine JL_goq (h9) (hφ := (by (try simp only [List.cons_append, List.nil_append]); exact fun w hr => (hK w hr.1).path)) (h := ?_); rintro _ _ ⟨rfl, rfl⟩; try simp only [List.cons_append, List.nil_append]) | fail)) | (refine yM ?_; intro _) | ((with_reducible apply gL_gd); (first | (refine JL_guard xR xR ?_ ?_ <;> intro _ <;> (try (exfalso; first | contradiction | omega))) | (refine JL_guardb xR xR ?_ ?_ <;> (intro hgb; subst hgb)) | (refine JL_guardb xR xR ?_ ?_ <;> (intro hgb; fail_if_success (have : type_of% hgb := rfl))) | fail)) | fail)) | refine yJ ?_ | ((with_reducible apply gJ_if); (first | (refine J_if xR ?_ ?_ <;> intro _ <;> (try (exfalso; first | contradiction | omega))) | (refine J_ifb xR ?_ ?_ <;> (intro hgb; subst hgb)) | (refine J_ifb xR ?_ ?_ <;> intro _) | fail)) | fail))
    exact J_ret1 rfl (by rfl) fun w H => ⟨_, ⟨rfl, rfl⟩, H.sel .nil⟩
  · (repeat' (first | ((with_reducible apply gL); (first | refine yL0 ?_ | refine yL ?_ | ((with_reducible apply gL_go); (first | (refine JL_goq (qmarked_s d hd n) (hφ := (by (try simp only [List.cons_append, List.nil_append]); exact fun w hr => hK w hr.1)) (h := ?_); rintro _ _ ⟨rfl, rfl⟩; try simp only [List.cons_append, List.nil_append]) | fail)) | (refine yM ?_; intro _) | ((with_reducible apply gL_gd); (first | (refine JL_guard xR xR ?_ ?_ <;> intro _ <;> (try (exfalso; first | contradiction | omega))) | (refine JL_guardb xR xR ?_ ?_ <;> (intro hgb; subst hgb)) | (refine JL_guardb xR xR ?_ ?_ <;> (intro hgb; fail_if_success (have : type_of% hgb := rfl))) | fail)) | fail)) | refine yJ ?_ | ((with_reducible apply gJ_if); (first | (refine J_if xR ?_ ?_ <;> intro _ <;> (try (exfalso; first | contradiction | omega))) | (refine J_ifb xR ?_ ?_ <;> (intro hgb; subst hgb)) | (refine J_ifb xR ?_ ?_ <;> intro _) | fail)) | fail))
    exact J_ret1 rfl (by rfl) fun w H => ⟨_, ⟨rfl, rfl⟩, H.sel .nil⟩
  · (repeat' (first | ((with_reducible apply gL); (first | refine yL0 ?_ | refine yL ?_ | (refine yM ?_; intro _) | ((with_reducible apply gL_gd); (first | (refine JL_guard xR xR ?_ ?_ <;> intro _ <;> (try (exfalso; first | contradiction | omega))) | (refine JL_guardb xR xR ?_ ?_ <;> (intro hgb; subst hgb)) | (refine JL_guardb xR xR ?_ ?_ <;> (intro hgb; fail_if_success (have : type_of% hgb := rfl))) | fail)) | fail)) | refine yJ ?_ | ((with_reducible apply gJ_if); (first | (refine J_if xR ?_ ?_ <;> intro _ <;> (try (exfalso; first | contradiction | omega))) | (refine J_ifb xR ?_ ?_ <;> (intro hgb; subst hgb)) | (refine J_ifb xR ?_ ?_ <;> intro _) | fail)) | fail))
    exact J_ret1 rfl (by rfl) fun w H => ⟨_, ⟨rfl, rfl⟩, H.sel .nil⟩
  · have e : testN 12 n q p d.nf = (d.hasMed && decide (n < d.med)) := by
      unfold testN At.nf
      simp only [show ¬ (12 : Int) = 4 by decide, show ¬ (12 : Int) = 5 by decide, show ¬ (12 : Int) = 6 by decide, show ¬ (12 : Int) = 7 by decide, show ¬ (12 : Int) = 8 by decide, show ¬ (12 : Int) = 9 by decide, show ¬ (12 : Int) = 10 by decide, show ¬ (12 : Int) = 11 by decide, if_false, if_true]
      cases d.hasMed <;> simp
    rw [e]
    (repeat' (first | ((with_reducible apply gL); (first | refine yL0 ?_ | refine yL ?_ | (refine yM ?_; intro _) | ((with_reducible apply gL_gd); (first | (refine JL_guard xR xR ?_ ?_ <;> intro _ <;> (try (exfalso; first | contradiction | omega))) | (refine JL_guardb xR xR ?_ ?_ <;> (intro hgb; subst hgb)) | (refine JL_guardb xR xR ?_ ?_ <;> (intro hgb; fail_if_success (have : type_of% hgb := rfl))) | fail)) | fail)) | refine yJ ?_ | ((with_reducible apply gJ_if); (first | (refine J_if xR ?_ ?_ <;> intro _ <;> (try (exfalso; first | contradiction | omega))) | (refine J_ifb xR ?_ ?_ <;> (intro hgb; subst hgb)) | (refine J_ifb xR ?_ ?_ <;> intro _) | fail)) | fail))
    all_goals (refine J_ret1 rfl (by rfl) fun w H => ⟨_, ⟨?_, rfl⟩, H.sel .nil⟩; simp [*])
end Go.Proofs.Ytmbgbhambgoejaa.C
