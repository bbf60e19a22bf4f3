/-
  Cq18, Ru14, Ru15, Ru19, Ru20, Ru21, Cq19: merged.
-/
import Derived.Test.YtmbgbhambgoejaaZRunOrder18
namespace Go.Proofs.Ytmbgbhambgoejaa.C
set_option linter.unusedSimpArgs false
set_option linter.unusedVariables false
set_option maxRecDepth 20000
set_option maxHeartbeats 4000000
open Go.RowKit Go.Pm

section
variable {P : Program} {n : Nat} {W : World} {K : Hl} {F : Fp} {k : List It} {tm : TM} {L L' R S M M' : List HP} {T : TypeId} {pos : String} {af : Array Edge} {gd : Option (Nat × Bool)} {ops : Array Oper} {rest nx : List Oper} {d : Tmp} {t e : TypeId} {x y : Operand} {a : Option Addr} {m c sz j off : Nat} {v : Value} {α : Type} {enc : α → List Value} {es : List α} {z z' : α} {vs : List Value}
theorem JD_stEf (hx : evT tm x = some (.pointer (some (elA a j sz off)))) (hy : evT tm y = some v) (hm : Tk M (Ar e sz enc (.slice a m c) es) R) (hj : es[j]? = some z) (hv : cellsL v = vs) (hl : ∀ x, (enc x).length = sz) (hz : Nat.blt 0 sz = true) (ht : (P.info? t).map (·.size) = some vs.length) {cs : List Value} (hp : Put (enc z) off vs cs) (hq : enc z' = cs) (h1 : vs.all (·.oneCell') = true) (hg : wantF ops ⟨none, .store t x y, T, pos, af, gd⟩ (tget tm) = some true)
    (h : JD P n W K F ops k nx rest tm S (Ar e sz enc (.slice a m c) (es.set j z') :: R)) : JD P n W K F ops k nx (⟨none, .store t x y, T, pos, af, gd⟩ :: rest) tm S M :=
  JD_a0 rfl hg rfl (.cons hm .nil) (ae_stE hx hy hv hl hz hj ht (by rw [hq]; exact hp.eq.1) (by have := hp.eq.2; rw [hl] at this; exact this) h1) (by rintro _ _ ⟨rfl, rfl⟩; exact h)
end
structure M3 where
  f : FuncId
  first : Array Value
  caps : Array Value
abbrev m3C (m : M3) : List Value := [.func (.func m.f) m.first m.caps]
def Mk (m : M3) (A : HP) (wb N : Nat) (F : Int → List Sp → List Sp) : Prop := ownB Try.prog m.f = true ∧ (∀ z T, (F z T).length = T.length) ∧ ∀ (z : Int) (a : Option Addr) (c : Nat) (T T2 : List Sp), N ≤ T.length → T.length ≤ 500000000 → F z T = T2 → Pact Try.prog m.f ((m.first ++ #[Value.int .i64 z] ++ m.caps).toList).toArray (fun _ => True) [A, pts wb [.slice a T.length c] 60, Ar 63 7 spC (.slice a T.length c) T] (fun _ L' => L' = [A, pts wb [.slice a T2.length c] 60, Ar 63 7 spC (.slice a T2.length c) T2])
def setX (k : Nat) (z : Int) (T : List Sp) : List Sp := match T[k]? with | some s => T.set k { s with x := z } | none => T
def setY (k : Nat) (z : Int) (T : List Sp) : List Sp := match T[k]? with | some s => T.set k { s with y := z } | none => T
theorem setX_len (k : Nat) (z : Int) (T : List Sp) : (setX k z T).length = T.length := by unfold setX; split <;> simp
theorem setY_len (k : Nat) (z : Int) (T : List Sp) : (setY k z T).length = T.length := by unfold setY; split <;> simp
theorem setX_some {k : Nat} {z : Int} {T : List Sp} {s : Sp} (h : T[k]? = some s) : setX k z T = T.set k { s with x := z } := by unfold setX; rw [h]
theorem setY_some {k : Nat} {z : Int} {T : List Sp} {s : Sp} (h : T[k]? = some s) : setY k z T = T.set k { s with y := z } := by unfold setY; rw [h]
def leafA (wb kb b : Nat) (k : Nat) : HP := sats [pts b [.pointer (some ⟨wb, 0, none⟩)] 58, pts kb [.int .i64 k] 3]
theorem mark1_s (wb kb b : Nat) (k : Nat) : Mk ⟨70, #[], #[.pointer (some ⟨b, 0, none⟩), .pointer (some ⟨kb, 0, none⟩)]⟩ (leafA wb kb b k) wb (k + 1) (setX k) := by
  refine ⟨by show ownB Try.prog 70 = true; decide +kernel, fun z T => setX_len k z T, fun z a c T T2 hN hT h2 => ?_⟩
  refine pact Try.func70 rfl Try.ntmps70 rfl ?_
  intro W K _
  refine J_heap (L' := [pts b [.pointer (some ⟨wb, 0, none⟩)] 58, pts kb [.int .i64 k] 3, pts wb [.slice a T.length c] 60, Ar 63 7 spC (.slice a T.length c) T]) (fun w H => ?_) ?_
  · obtain ⟨_, H2⟩ := Ow.open (A := leafA wb kb b k) H .here (Bs := fun _ : Unit => [pts b [.pointer (some ⟨wb, 0, none⟩)] 58, pts kb [.int .i64 k] 3]) (fun k h => ⟨(), h⟩)
    exact H2.sel (by simp only [List.cons_append, List.nil_append]; (first | ((with_reducible (repeat (first | exact Sb.nil | apply Sb.cons | exact Tk.here | apply Tk.there))); done) | (repeat (first | exact Sb.nil | apply Sb.cons | exact Tk.here | apply Tk.there))))
  obtain ⟨s, hs⟩ : ∃ s, T[k]? = some s := ⟨_, List.getElem?_eq_getElem (by omega)⟩
  rw [setX_some hs] at h2
  have h2l : T2.length = T.length := by rw [← h2, List.length_set]
  rw [h2l, ← h2]
  (iterate 12 (first | ((with_reducible apply gL); (first | refine yL0 ?_ | refine yL ?_ | fail)) | ((with_reducible apply gD); (first | (refine JD_nil ?_; try simp only [List.cons_append, List.nil_append]) | (refine JD_bar ?_; try simp only [List.cons_append, List.nil_append]) | ((with_reducible apply gD_store); (first | (refine JD_stEf (z' := { s with x := z }) (by rfl) (by rfl) xA hs (by rfl) (by intro _; rfl) (by rfl) (by rfl) (by (first | ((repeat (first | exact Put.e | apply Put.t | apply Put.s)); done) | fail)) (by rfl) (by rfl) (by rfl) ?_) | fail)) | refine yD ?_ | fail)) | refine yJ ?_ | refine J_draw (id := 0) [0, 1, 2, 3, 4, 5, 6, 7] [8] mixed xC xD xD ?_ | fail))
  refine J_end0 rfl fun w H => ⟨_, rfl, ?_⟩
  exact (Ow.shut (A := leafA wb kb b k) (M := [pts b [.pointer (some ⟨wb, 0, none⟩)] 58, pts kb [.int .i64 k] 3]) H xZ (fun _ h => h)).sel xZ
theorem mark2_s (wb kb b : Nat) (k : Nat) : Mk ⟨71, #[], #[.pointer (some ⟨b, 0, none⟩), .pointer (some ⟨kb, 0, none⟩)]⟩ (leafA wb kb b k) wb (k + 1) (setY k) := by
  refine ⟨by show ownB Try.prog 71 = true; decide +kernel, fun z T => setY_len k z T, fun z a c T T2 hN hT h2 => ?_⟩
  refine pact Try.func71 rfl Try.ntmps71 rfl ?_
  intro W K _
  refine J_heap (L' := [pts b [.pointer (some ⟨wb, 0, none⟩)] 58, pts kb [.int .i64 k] 3, pts wb [.slice a T.length c] 60, Ar 63 7 spC (.slice a T.length c) T]) (fun w H => ?_) ?_
  · obtain ⟨_, H2⟩ := Ow.open (A := leafA wb kb b k) H .here (Bs := fun _ : Unit => [pts b [.pointer (some ⟨wb, 0, none⟩)] 58, pts kb [.int .i64 k] 3]) (fun k h => ⟨(), h⟩)
    exact H2.sel (by simp only [List.cons_append, List.nil_append]; (first | ((with_reducible (repeat (first | exact Sb.nil | apply Sb.cons | exact Tk.here | apply Tk.there))); done) | (repeat (first | exact Sb.nil | apply Sb.cons | exact Tk.here | apply Tk.there))))
  obtain ⟨s, hs⟩ : ∃ s, T[k]? = some s := ⟨_, List.getElem?_eq_getElem (by omega)⟩
  rw [setY_some hs] at h2
  have h2l : T2.length = T.length := by rw [← h2, List.length_set]
  rw [h2l, ← h2]
  (iterate 12 (first | ((with_reducible apply gL); (first | refine yL0 ?_ | refine yL ?_ | fail)) | ((with_reducible apply gD); (first | (refine JD_nil ?_; try simp only [List.cons_append, List.nil_append]) | (refine JD_bar ?_; try simp only [List.cons_append, List.nil_append]) | ((with_reducible apply gD_store); (first | (refine JD_stEf (z' := { s with y := z }) (by rfl) (by rfl) xA hs (by rfl) (by intro _; rfl) (by rfl) (by rfl) (by (first | ((repeat (first | exact Put.e | apply Put.t | apply Put.s)); done) | fail)) (by rfl) (by rfl) (by rfl) ?_) | fail)) | refine yD ?_ | fail)) | refine yJ ?_ | refine J_draw (id := 0) [0, 1, 2, 3, 4, 5, 6, 7] [8] mixed xC xD xD ?_ | fail))
  refine J_end0 rfl fun w H => ⟨_, rfl, ?_⟩
  exact (Ow.shut (A := leafA wb kb b k) (M := [pts b [.pointer (some ⟨wb, 0, none⟩)] 58, pts kb [.int .i64 k] 3]) H xZ (fun _ h => h)).sel xZ
end Go.Proofs.Ytmbgbhambgoejaa.C
namespace Go.Proofs.Ytmbgbhambgoejaa.C
set_option linter.unusedSimpArgs false
set_option linter.unusedVariables false
set_option maxRecDepth 20000
set_option maxHeartbeats 4000000
open Go.RowKit Go.Pm

theorem cloneG_s (a : Option Addr) (c : Nat) (l : List Sg) (hl : l.length ≤ 1000) : Pact Try.prog 41 #[.slice a l.length c] (fun w => Vw w (.slice a l.length c) 2 l.length (flat sgC l)) [] (fun u L' => ∃ a c, u = .slice a l.length c ∧ L' = [Ar 56 2 sgC (.slice a l.length c) l]) := by
  refine pact Try.func41 rfl Try.ntmps41 rfl ?_
  intro W K hK
  cases a with
  | none =>
    refine J_fact (φ := l = []) (fun w H => ?_) ?_
    · obtain ⟨a', c', he, _, _, _, h4, _⟩ := hK.of H
      cases he
      exact List.eq_nil_of_length_eq_zero (h4 rfl).1
    · rintro rfl
      (repeat' (first | ((with_reducible apply gL); (first | refine yL0 ?_ | refine yL ?_ | (refine yM ?_; intro _) | (refine yA ?_; intro _ _ _ _) | fail)) | refine yJ ?_ | ((with_reducible apply gJ_if); (first | (refine J_if xR ?_ ?_ <;> intro _ <;> (try (exfalso; first | contradiction | omega))) | (refine J_ifb xR ?_ ?_ <;> (intro hgb; subst hgb)) | (refine J_ifb xR ?_ ?_ <;> intro _) | fail)) | fail))
      exact J_ret1 rfl (by rfl) fun w H => ⟨_, ⟨none, 0, rfl, rfl⟩, (Ow.arNil (e := 56) (sz := 2) (enc := sgC) H).sel xZ⟩
  | some p =>
    (repeat' (first | ((with_reducible apply gL); (first | refine yL0 ?_ | ((with_reducible apply gL_c_append); (first | (refine JL_appL sgC (fs := l) (tabE etab_ok xR) xR xR xA (Src.kn hK) xC (by intro _; rfl) (all_one _ (by intro _ _; rfl)) (by omega) xR xR ?_; intro ad c2 _ _) | fail)) | refine yL ?_ | (refine yM ?_; intro _) | (refine yA ?_; intro _ _ _ _) | fail)) | refine yJ ?_ | ((with_reducible apply gJ_if); (first | (refine J_if xR ?_ ?_ <;> intro _ <;> (try (exfalso; first | contradiction | omega))) | (refine J_ifb xR ?_ ?_ <;> (intro hgb; subst hgb)) | (refine J_ifb xR ?_ ?_ <;> intro _) | fail)) | fail))
    exact J_ret1 rfl (by rfl) fun w H => ⟨_, ⟨ad, c2, rfl, rfl⟩, H.sel xZ⟩
theorem cloneR_s (a : Option Addr) (c : Nat) (l : List Rw) (hl : l.length ≤ 1000) : Pact Try.prog 42 #[.slice a l.length c] (fun w => Vw w (.slice a l.length c) 2 l.length (flat rwC l)) [] (fun u L' => ∃ a c, u = .slice a l.length c ∧ L' = [Ar 79 2 rwC (.slice a l.length c) l]) := by
  refine pact Try.func42 rfl Try.ntmps42 rfl ?_
  intro W K hK
  cases a with
  | none =>
    refine J_fact (φ := l = []) (fun w H => ?_) ?_
    · obtain ⟨a', c', he, _, _, _, h4, _⟩ := hK.of H
      cases he
      exact List.eq_nil_of_length_eq_zero (h4 rfl).1
    · rintro rfl
      (repeat' (first | ((with_reducible apply gL); (first | refine yL0 ?_ | refine yL ?_ | (refine yM ?_; intro _) | (refine yA ?_; intro _ _ _ _) | fail)) | refine yJ ?_ | ((with_reducible apply gJ_if); (first | (refine J_if xR ?_ ?_ <;> intro _ <;> (try (exfalso; first | contradiction | omega))) | (refine J_ifb xR ?_ ?_ <;> (intro hgb; subst hgb)) | (refine J_ifb xR ?_ ?_ <;> intro _) | fail)) | fail))
      exact J_ret1 rfl (by rfl) fun w H => ⟨_, ⟨none, 0, rfl, rfl⟩, (Ow.arNil (e := 79) (sz := 2) (enc := rwC) H).sel xZ⟩
  | some p =>
    (repeat' (first | ((with_reducible apply gL); (first | refine yL0 ?_ | ((with_reducible apply gL_c_append); (first | (refine JL_appL rwC (fs := l) (tabE etab_ok xR) xR xR xA (Src.kn hK) xC (by intro _; rfl) (all_one _ (by intro _ _; rfl)) (by omega) xR xR ?_; intro ad c2 _ _) | fail)) | refine yL ?_ | (refine yM ?_; intro _) | (refine yA ?_; intro _ _ _ _) | fail)) | refine yJ ?_ | ((with_reducible apply gJ_if); (first | (refine J_if xR ?_ ?_ <;> intro _ <;> (try (exfalso; first | contradiction | omega))) | (refine J_ifb xR ?_ ?_ <;> (intro hgb; subst hgb)) | (refine J_ifb xR ?_ ?_ <;> intro _) | fail)) | fail))
    exact J_ret1 rfl (by rfl) fun w H => ⟨_, ⟨ad, c2, rfl, rfl⟩, H.sel xZ⟩
abbrev ownC (d : At) (a1 : Option Addr) (c1 : Nat) (a2 : Option Addr) (c2 : Nat) (a3 : Option Addr) (c3 : Nat) : List Value := [.int .i64 d.origin, .slice a1 d.path.length c1, .int .u32 d.next, .bool d.hasMed, .int .u32 d.med, .bool d.hasLocal, .int .u32 d.loc, .bool d.atomic, .bool d.hasMaker, .int .u32 d.makerAS, .int .u32 d.maker, .slice a2 d.comms.length c2, .slice a3 d.others.length c3]
structure Lg where
  k : Nat
  xs : List Sg
structure Lr where
  k : Nat
  xs : List Rw
theorem pN_set {xs : List Sg} {k : Nat} {s z : Sg} (h : xs[k]? = some s) (h1 : z.set = s.set) (h2 : z.as_ = s.as_) : pN (xs.set k z) = pN xs := by
  obtain ⟨hk, he⟩ := List.getElem?_eq_some_iff.1 h
  unfold pN
  rw [List.map_set, h1, h2]
  apply List.ext_getElem?
  intro j
  by_cases hj : k = j
  · subst hj
    rw [List.getElem?_set_self (by simpa using hk), List.getElem?_map, h]
    rfl
  · rw [List.getElem?_set_ne hj]
theorem oN_set {xs : List Rw} {k : Nat} {s z : Rw} (h : xs[k]? = some s) (h1 : z.kind = s.kind) (h2 : z.data = s.data) : oN (xs.set k z) = oN xs := by
  obtain ⟨hk, he⟩ := List.getElem?_eq_some_iff.1 h
  unfold oN
  rw [List.map_set, h1, h2]
  apply List.ext_getElem?
  intro j
  by_cases hj : k = j
  · subst hj
    rw [List.getElem?_set_self (by simpa using hk), List.getElem?_map, h]
    rfl
  · rw [List.getElem?_set_ne hj]
theorem take_set {α : Type} {xs : List α} {k : Nat} {z : α} (h : k < xs.length) : (xs.set k z).take (k + 1) = xs.take k ++ [z] := by
  rw [List.take_add_one, List.getElem?_set_self h, List.take_set_of_le (Nat.le_refl _)]
  rfl
theorem own_s (d : At) (hd : AtF d) : Pact Try.prog 23 #[.agg (atC d).toArray] (fun w => AtV w d) [] (CopyR d) := by
  refine pact Try.func23 rfl Try.ntmps23 rfl ?_
  intro W K hK
  have hd1 := hd.path
  have hd2 := hd.comms
  have hd3 := hd.others
  (repeat' (first | ((with_reducible apply gL); (first | refine yL0 ?_ | refine yL ?_ | (refine yM ?_; intro _) | fail)) | ((with_reducible apply gD); (first | (refine JD_nil ?_; try simp only [List.cons_append, List.nil_append]) | (refine JD_bar ?_; try simp only [List.cons_append, List.nil_append]) | refine yD ?_ | ((with_reducible apply gD_go); (first | (refine JD_goq (cloneU_s d.ca d.cc d.comms (by omega)) (hφ := (by (try simp only [List.cons_append, List.nil_append]); exact fun w hr => (hK w hr.1).comms)) (h := ?_); rintro _ _ ⟨a2, c2, rfl, rfl⟩; try simp only [List.cons_append, List.nil_append]) | (refine JD_goq (cloneG_s d.pa d.pc d.path (by omega)) (hφ := (by (try simp only [List.cons_append, List.nil_append]); exact fun w hr => (hK w hr.1).path.vw)) (h := ?_); rintro _ _ ⟨a1, c1, rfl, rfl⟩; try simp only [List.cons_append, List.nil_append]) | (refine JD_goq (cloneR_s d.oa d.oc d.others (by omega)) (hφ := (by (try simp only [List.cons_append, List.nil_append]); exact fun w hr => (hK w hr.1).others.vw)) (h := ?_); rintro _ _ ⟨a3, c3, rfl, rfl⟩; try simp only [List.cons_append, List.nil_append]) | fail)) | fail)) | refine yJ ?_ | ((with_reducible apply gJ_if); (first | (refine J_if xR ?_ ?_ <;> intro _ <;> (try (exfalso; first | contradiction | omega))) | (refine J_ifb xR ?_ ?_ <;> (intro hgb; subst hgb)) | (refine J_ifb xR ?_ ?_ <;> intro _) | fail)) | refine J_draw (id := 1) [0, 1, 3, 4, 6, 7, 2, 9, 5, 8] [10, 11, 12, 13, 14] mixed xC xD xD ?_ | refine J_draw (id := 5) [0, 1, 2, 3, 4, 5] [6, 7, 8] mixed xC xD xD ?_ | refine J_draw (id := 10) [0, 1, 2, 3, 4, 5] [6, 7, 8] mixed xC xD xD ?_ | fail))
  rename_i b1 b2
  refine J_loop (α := Lg) ⟨0, d.path⟩ (fun x => d.path.length - x.k) (fun x => x.k ≤ d.path.length ∧ x.xs.length = d.path.length ∧ pN x.xs = pN d.path ∧ x.xs.drop x.k = d.path.drop x.k) (fun x => [(1, .pointer (some ⟨b1, 0, none⟩)), (2, .pointer (some ⟨b2, 0, none⟩)), (20, .slice a1 d.path.length c1), (21, .int .i64 d.path.length), (22, .int .i64 x.k)])
    (fun x => [pts b1 (ownC d a1 c1 a2 c2 a3 c3) 33, Ar 79 2 rwC (.slice a3 d.others.length c3) d.others, Ar 56 2 sgC (.slice a1 d.path.length c1) x.xs, has (fun w => ∀ s ∈ x.xs.take x.k, segV w s), Ar 25 1 u32C (.slice a2 d.comms.length c2) d.comms, pts b2 [.int .i64 0, .slice none 0 0, .int .u32 0, .bool false, .int .u32 0, .bool false, .int .u32 0, .bool false, .bool false, .int .u32 0, .int .u32 0, .slice none 0 0, .slice none 0 0] 33]) ⟨Nat.zero_le _, rfl, rfl, rfl⟩ ⟨rfl, rfl, rfl, rfl, rfl, trivial⟩ (fun w H => (Ow.hasTrue (φ := fun w => ∀ s ∈ d.path.take 0, segV w s) H (by intro _ _ h; exact absurd h (by simp))).sel xZ) ?_
  rintro ⟨k, xs⟩ ⟨hk, hxl, hxn, hxd⟩
  dsimp only at hk hxl hxn hxd ⊢
  by_cases hlt : k < d.path.length
  · obtain ⟨s, hs0⟩ : ∃ s, d.path[k]? = some s := ⟨_, List.getElem?_eq_getElem hlt⟩
    have hs : xs[k]? = some s := by have := congrArg (·[0]?) hxd; simpa [hs0] using this
    have hm := List.mem_of_getElem? hs0
    have hsn1 := (hd.num.path s hm).1
    (repeat' (first | ((with_reducible apply gL); (first | refine yL0 ?_ | ((with_reducible apply gL_store); (first | (refine JD_stEf (z' := (⟨s.set, ad5, c5, s.as_⟩ : Sg)) (by rfl) (by rfl) xA hs (by rfl) (by intro _; rfl) (by rfl) (by rfl) (by (first | ((repeat (first | exact Put.e | apply Put.t | apply Put.s)); done) | fail)) (by rfl) (by rfl) (by rfl) ?_) | fail)) | refine yL ?_ | (refine yM ?_; intro _) | fail)) | ((with_reducible apply gD); (first | (refine JD_nil ?_; try simp only [List.cons_append, List.nil_append]) | (refine JD_bar ?_; try simp only [List.cons_append, List.nil_append]) | ((with_reducible apply gD_store); (first | (refine JD_stEf (z' := (⟨s.set, ad5, c5, s.as_⟩ : Sg)) (by rfl) (by rfl) xA hs (by rfl) (by intro _; rfl) (by rfl) (by rfl) (by (first | ((repeat (first | exact Put.e | apply Put.t | apply Put.s)); done) | fail)) (by rfl) (by rfl) (by rfl) ?_) | fail)) | refine yD ?_ | ((with_reducible apply gD_go); (first | (refine JD_goq (cloneU_s s.a s.c s.as_ hsn1) (hφ := (by (try simp only [List.cons_append, List.nil_append]); exact fun w hr => (hK w hr.1).path.segs s hm)) (h := ?_); rintro _ _ ⟨ad5, c5, rfl, rfl⟩; try simp only [List.cons_append, List.nil_append]) | fail)) | fail)) | refine yJ ?_ | ((with_reducible apply gJ_if); (first | (refine J_if xR ?_ ?_ <;> intro _ <;> (try (exfalso; first | contradiction | omega))) | (refine J_ifb xR ?_ ?_ <;> (intro hgb; subst hgb)) | (refine J_ifb xR ?_ ?_ <;> intro _) | fail)) | refine J_draw (id := 5) [0, 1, 2, 3, 4, 5, 6, 7] [8] mixed xC xD xD ?_ | refine J_draw (id := 1) [0, 1, 3, 4, 6, 7, 2, 9, 5, 8] [10, 11, 12, 13, 14] mixed xC xD xD ?_ | refine J_draw (id := 10) [0, 1, 2, 3, 4, 5] [6, 7, 8] mixed xC xD xD ?_ | fail))
    refine J_again ⟨k + 1, xs.set k ⟨s.set, ad5, c5, s.as_⟩⟩ (by dsimp only; omega) ⟨by dsimp only; omega, by simp [hxl], (pN_set (z := ⟨s.set, ad5, c5, s.as_⟩) hs rfl rfl).trans hxn, ?_⟩ ⟨rfl, rfl, rfl, rfl, rfl, trivial⟩ (fun w H => ?_)
    · dsimp only
      rw [List.drop_set_of_lt (by omega), ← List.drop_drop, hxd, List.drop_drop]
    · refine (Ow.has (M := [Ar 25 1 u32C (.slice ad5 s.as_.length c5) s.as_, has (fun w => ∀ s ∈ xs.take k, segV w s)]) (φ := fun w => ∀ x ∈ (xs.set k ⟨s.set, ad5, c5, s.as_⟩).take (k + 1), segV w x) H xZ ?_).sel xZ
      intro w hr x hx
      rw [take_set (by omega)] at hx
      rcases List.mem_append.1 hx with hx | hx
      · exact hr.has (.there .here) x hx
      · obtain rfl := List.mem_singleton.1 hx
        exact Src.ar .here w hr
  · obtain rfl : k = d.path.length := by omega
    rw [← hxl, List.take_length, hxl]
    (repeat' (first | ((with_reducible apply gL); (first | refine yL0 ?_ | refine yL ?_ | (refine yM ?_; intro _) | fail)) | ((with_reducible apply gD); (first | (refine JD_nil ?_; try simp only [List.cons_append, List.nil_append]) | (refine JD_bar ?_; try simp only [List.cons_append, List.nil_append]) | refine yD ?_ | fail)) | refine yJ ?_ | ((with_reducible apply gJ_if); (first | (refine J_if xR ?_ ?_ <;> intro _ <;> (try (exfalso; first | contradiction | omega))) | (refine J_ifb xR ?_ ?_ <;> (intro hgb; subst hgb)) | (refine J_ifb xR ?_ ?_ <;> intro _) | fail)) | refine J_draw (id := 1) [0, 1, 3, 4, 6, 7, 2, 9, 5, 8] [10, 11, 12, 13, 14] mixed xC xD xD ?_ | refine J_draw (id := 5) [0, 1, 2, 3, 4, 5] [6, 7, 8] mixed xC xD xD ?_ | refine J_draw (id := 10) [0, 1, 2, 3, 4, 5] [6, 7, 8] mixed xC xD xD ?_ | fail))
    refine J_loop (α := Lr) ⟨0, d.others⟩ (fun x => d.others.length - x.k) (fun x => x.k ≤ d.others.length ∧ x.xs.length = d.others.length ∧ oN x.xs = oN d.others ∧ x.xs.drop x.k = d.others.drop x.k) (fun x => [(1, .pointer (some ⟨b1, 0, none⟩)), (2, .pointer (some ⟨b2, 0, none⟩)), (37, .slice a3 d.others.length c3), (38, .int .i64 d.others.length), (39, .int .i64 x.k)])
      (fun x => [pts b1 (ownC d a1 c1 a2 c2 a3 c3) 33, Ar 79 2 rwC (.slice a3 d.others.length c3) x.xs, has (fun w => ∀ s ∈ x.xs.take x.k, rawV w s), Ar 56 2 sgC (.slice a1 d.path.length c1) xs, has (fun w => ∀ s ∈ xs, segV w s), Ar 25 1 u32C (.slice a2 d.comms.length c2) d.comms, pts b2 [.int .i64 0, .slice none 0 0, .int .u32 0, .bool false, .int .u32 0, .bool false, .int .u32 0, .bool false, .bool false, .int .u32 0, .int .u32 0, .slice none 0 0, .slice none 0 0] 33]) ⟨Nat.zero_le _, rfl, rfl, rfl⟩ ⟨rfl, rfl, rfl, rfl, rfl, trivial⟩ (fun w H => (Ow.hasTrue (φ := fun w => ∀ s ∈ d.others.take 0, rawV w s) H (by intro _ _ h; exact absurd h (by simp))).sel xZ) ?_
    rintro ⟨j, ys⟩ ⟨hj, hyl, hyn, hyd⟩
    dsimp only at hj hyl hyn hyd ⊢
    by_cases hlt : j < d.others.length
    · obtain ⟨s, hs0⟩ : ∃ s, d.others[j]? = some s := ⟨_, List.getElem?_eq_getElem hlt⟩
      have hs : ys[j]? = some s := by have := congrArg (·[0]?) hyd; simpa [hs0] using this
      have hm := List.mem_of_getElem? hs0
      have hsn1 := (hd.num.others s hm).2.1
      (repeat' (first | ((with_reducible apply gL); (first | refine yL0 ?_ | ((with_reducible apply gL_store); (first | (refine JD_stEf (z' := (⟨s.kind, ad5, c5, s.data⟩ : Rw)) (by rfl) (by rfl) xA hs (by rfl) (by intro _; rfl) (by rfl) (by rfl) (by (first | ((repeat (first | exact Put.e | apply Put.t | apply Put.s)); done) | fail)) (by rfl) (by rfl) (by rfl) ?_) | fail)) | refine yL ?_ | (refine yM ?_; intro _) | fail)) | ((with_reducible apply gD); (first | (refine JD_nil ?_; try simp only [List.cons_append, List.nil_append]) | (refine JD_bar ?_; try simp only [List.cons_append, List.nil_append]) | ((with_reducible apply gD_store); (first | (refine JD_stEf (z' := (⟨s.kind, ad5, c5, s.data⟩ : Rw)) (by rfl) (by rfl) xA hs (by rfl) (by intro _; rfl) (by rfl) (by rfl) (by (first | ((repeat (first | exact Put.e | apply Put.t | apply Put.s)); done) | fail)) (by rfl) (by rfl) (by rfl) ?_) | fail)) | refine yD ?_ | ((with_reducible apply gD_go); (first | (refine JD_goq (cloneB_s s.a s.c s.data hsn1) (hφ := (by (try simp only [List.cons_append, List.nil_append]); exact fun w hr => (hK w hr.1).others.raws s hm)) (h := ?_); rintro _ _ ⟨ad5, c5, rfl, rfl⟩; try simp only [List.cons_append, List.nil_append]) | fail)) | fail)) | refine yJ ?_ | ((with_reducible apply gJ_if); (first | (refine J_if xR ?_ ?_ <;> intro _ <;> (try (exfalso; first | contradiction | omega))) | (refine J_ifb xR ?_ ?_ <;> (intro hgb; subst hgb)) | (refine J_ifb xR ?_ ?_ <;> intro _) | fail)) | refine J_draw (id := 10) [0, 1, 2, 3, 4, 5, 6, 7] [8] mixed xC xD xD ?_ | refine J_draw (id := 1) [0, 1, 3, 4, 6, 7, 2, 9, 5, 8] [10, 11, 12, 13, 14] mixed xC xD xD ?_ | refine J_draw (id := 5) [0, 1, 2, 3, 4, 5] [6, 7, 8] mixed xC xD xD ?_ | fail))
      refine J_again ⟨j + 1, ys.set j ⟨s.kind, ad5, c5, s.data⟩⟩ (by dsimp only; omega) ⟨by dsimp only; omega, by simp [hyl], (oN_set (z := ⟨s.kind, ad5, c5, s.data⟩) hs rfl rfl).trans hyn, ?_⟩ ⟨rfl, rfl, rfl, rfl, rfl, trivial⟩ (fun w H => ?_)
      · dsimp only
        rw [List.drop_set_of_lt (by omega), ← List.drop_drop, hyd, List.drop_drop]
      · refine (Ow.has (M := [Ar 5 1 byC (.slice ad5 s.data.length c5) s.data, has (fun w => ∀ s ∈ ys.take j, rawV w s)]) (φ := fun w => ∀ x ∈ (ys.set j ⟨s.kind, ad5, c5, s.data⟩).take (j + 1), rawV w x) H xZ ?_).sel xZ
        intro w hr x hx
        rw [take_set (by omega)] at hx
        rcases List.mem_append.1 hx with hx | hx
        · exact hr.has (.there .here) x hx
        · obtain rfl := List.mem_singleton.1 hx
          exact Src.ar .here w hr
    · obtain rfl : j = d.others.length := by omega
      rw [← hyl, List.take_length, hyl]
      (repeat' (first | ((with_reducible apply gL); (first | refine yL0 ?_ | refine yL ?_ | (refine yM ?_; intro _) | fail)) | ((with_reducible apply gD); (first | (refine JD_nil ?_; try simp only [List.cons_append, List.nil_append]) | (refine JD_bar ?_; try simp only [List.cons_append, List.nil_append]) | refine yD ?_ | fail)) | refine yJ ?_ | ((with_reducible apply gJ_if); (first | (refine J_if xR ?_ ?_ <;> intro _ <;> (try (exfalso; first | contradiction | omega))) | (refine J_ifb xR ?_ ?_ <;> (intro hgb; subst hgb)) | (refine J_ifb xR ?_ ?_ <;> intro _) | fail)) | refine J_draw (id := 1) [0, 1, 3, 4, 6, 7, 2, 9, 5, 8] [10, 11, 12, 13, 14] mixed xC xD xD ?_ | refine J_draw (id := 5) [0, 1, 2, 3, 4, 5] [6, 7, 8] mixed xC xD xD ?_ | refine J_draw (id := 10) [0, 1, 2, 3, 4, 5] [6, 7, 8] mixed xC xD xD ?_ | fail))
      refine J_retC (cs := ownC d a1 c1 a2 c2 a3 c3) rfl (by rfl) xA (by rfl) fun w H => ⟨_, ⟨d.at_ xs a1 c1 d.comms a2 c2 ys a3 c3, At.at_num hd _ _ _ _ _ _ _ _ _ hxn rfl hyn, d.at_nf _ _ _ _ _ _ _ _ _ hxn rfl hyn, by simp only [atC, atN, At.at_, hxl, hyl], rfl⟩, ?_⟩
      refine (Ow.has (M := [Ar 56 2 sgC (.slice a1 d.path.length c1) xs, has (fun w => ∀ s ∈ xs, segV w s), Ar 25 1 u32C (.slice a2 d.comms.length c2) d.comms, Ar 79 2 rwC (.slice a3 d.others.length c3) ys, has (fun w => ∀ s ∈ ys, rawV w s)]) (φ := fun w => AtV w (d.at_ xs a1 c1 d.comms a2 c2 ys a3 c3)) H xZ ?_).sel xZ
      intro w hr
      have h1 := Src.ar (enc := sgC) (es := xs) .here w hr
      have h2 := Src.ar (enc := rwC) (es := ys) (.there (.there (.there .here))) w hr
      rw [← hxl] at h1
      rw [← hyl] at h2
      exact ⟨⟨h1, fun s hs => hr.has (φ := fun w => ∀ s ∈ xs, segV w s) (.there .here) s hs⟩, Src.ar (.there (.there .here)) w hr, ⟨h2, fun s hs => hr.has (φ := fun w => ∀ s ∈ ys, rawV w s) (.there (.there (.there (.there .here)))) s hs⟩⟩
end Go.Proofs.Ytmbgbhambgoejaa.C
namespace Go.Proofs.Ytmbgbhambgoejaa.C
set_option linter.unusedSimpArgs false
set_option linter.unusedVariables false
set_option maxRecDepth 20000
set_option maxHeartbeats 4000000
open Go.RowKit Go.Pm

def at0 : At := ⟨0, none, 0, [], 0, false, 0, false, 0, false, false, 0, 0, none, 0, [], none, 0, []⟩
theorem at0_f : AtF at0 := ⟨⟨by show I64 0; unfold I64; decide, by show U32 0; unfold U32; decide, by show U32 0; unfold U32; decide, by show U32 0; unfold U32; decide, by show U32 0; unfold U32; decide, by show U32 0; unfold U32; decide, fun s h => (by cases h), fun s h => (by cases h), fun s h => (by cases h)⟩, by simp [at0], by simp [at0], by simp [at0]⟩
theorem at0_v (w : World) : AtV w at0 := ⟨⟨Vw.nil w 2, fun s h => (by cases h)⟩, Vw.nil w 1, ⟨Vw.nil w 2, fun s h => (by cases h)⟩⟩
def PlR (r : Option Nf) (u : Value) (L' : List HP) : Prop := ∃ d' : At, AtF d' ∧ d'.nf = r.getD at0.nf ∧ u = .tuple #[.agg (atC d').toArray, .bool r.isSome, .int .i64 0] ∧ L' = [has (fun w => AtV w d')]
theorem Play_s (a : Option Addr) (c : Nat) (T : List Sp) (p : Pf) (hp : PfN p) (d : At) (hd : AtF d) (hc : checkE T = 0) (hsn : ∀ s ∈ T, SpN s) (h0 : 0 < T.length) (hl : T.length ≤ 4096) : Pact Try.prog 10 #[.slice a T.length c, .agg (pfC p).toArray, .agg (atC d).toArray] (fun w => AtV w d ∧ Vw w (.slice a T.length c) 7 T.length (flat spC T)) [] (PlR (playW T p 0 d.nf).1) := by
  have hT := right_of_check hc
  refine pact Try.func10 rfl Try.ntmps10 rfl ?_
  intro W K hK
  obtain ⟨r0, hr0⟩ : ∃ r, playW T p 0 d.nf = r := ⟨_, rfl⟩
  rw [hr0]
  have hC := check_b a c T hsn (by omega) 0 hc
  have hP := fun rb => play_s rb p hp d hd a c T hT hsn h0 hl
  rw [hr0] at hP
  obtain ⟨r, N⟩ := r0
  cases r with
  | none =>
    (repeat' (first | ((with_reducible apply gL); (first | refine yL0 ?_ | refine yL ?_ | ((with_reducible apply gL_go); (first | (refine JL_goq (hC) (hφ := (by (try simp only [List.cons_append, List.nil_append]); exact fun w hr => (hK w hr.1).2)) (h := ?_); rintro _ _ ⟨rfl, rfl⟩; try simp only [List.cons_append, List.nil_append]) | (refine JL_goq (hP _) (hφ := (by (try simp only [List.cons_append, List.nil_append]); exact fun w hr => hK w hr.1)) (h := ?_); rintro _ _ ⟨d', hd', rfl, hx, rfl⟩; try simp only [List.cons_append, List.nil_append]) | fail)) | (refine yM ?_; intro _) | fail)) | refine yJ ?_ | ((with_reducible apply gJ_if); (first | (refine J_if xR ?_ ?_ <;> intro _ <;> (try (exfalso; first | contradiction | omega))) | (refine J_ifb xR ?_ ?_ <;> (intro hgb; subst hgb)) | (refine J_ifb xR ?_ ?_ <;> intro _) | fail)) | fail))
    all_goals (first | (exfalso; omega) | skip)
    exact J_retC2 (cs := [.int .i64 0, .slice none 0 0, .int .u32 0, .bool false, .int .u32 0, .bool false, .int .u32 0, .bool false, .bool false, .int .u32 0, .int .u32 0, .slice none 0 0, .slice none 0 0]) rfl (by rfl) (by rfl) (by rfl) xA (by rfl) fun w H => ⟨_, ⟨at0, at0_f, rfl, rfl, rfl⟩, (Ow.hasTrue (φ := fun w => AtV w at0) H at0_v).sel xZ⟩
  | some x =>
    (repeat' (first | ((with_reducible apply gL); (first | refine yL0 ?_ | refine yL ?_ | ((with_reducible apply gL_go); (first | (refine JL_goq (hC) (hφ := (by (try simp only [List.cons_append, List.nil_append]); exact fun w hr => (hK w hr.1).2)) (h := ?_); rintro _ _ ⟨rfl, rfl⟩; try simp only [List.cons_append, List.nil_append]) | (refine JL_goq (hP _) (hφ := (by (try simp only [List.cons_append, List.nil_append]); exact fun w hr => hK w hr.1)) (h := ?_); rintro _ _ ⟨d', hd', rfl, hx, rfl⟩; try simp only [List.cons_append, List.nil_append]) | (refine JL_goq (own_s d' hd') (hφ := (by (try simp only [List.cons_append, List.nil_append]); exact fun w hr => hr.has (φ := fun w => AtV w d → AtV w d') xA (hK w hr.1).1)) (h := ?_); rintro _ _ ⟨d2, hd2, hn2, rfl, rfl⟩; try simp only [List.cons_append, List.nil_append]) | fail)) | (refine yM ?_; intro _) | fail)) | refine yJ ?_ | ((with_reducible apply gJ_if); (first | (refine J_if xR ?_ ?_ <;> intro _ <;> (try (exfalso; first | contradiction | omega))) | (refine J_ifb xR ?_ ?_ <;> (intro hgb; subst hgb)) | (refine J_ifb xR ?_ ?_ <;> intro _) | fail)) | fail))
    all_goals (first | (exfalso; omega) | skip)
    exact J_retC2 (cs := atC d2) rfl (by rfl) (by rfl) (by rfl) xA (by rfl) fun w H => ⟨_, ⟨d2, hd2, by rw [hn2, hx x rfl]; rfl, rfl, rfl⟩, H.sel xZ⟩
theorem Steps_s (a : Option Addr) (c : Nat) (T : List Sp) (p : Pf) (hp : PfN p) (d : At) (hd : AtF d) (hc : checkE T = 0) (hsn : ∀ s ∈ T, SpN s) (h0 : 0 < T.length) (hl : T.length ≤ 4096) : Pact Try.prog 13 #[.slice a T.length c, .agg (pfC p).toArray, .agg (atC d).toArray] (fun w => AtV w d ∧ Vw w (.slice a T.length c) 7 T.length (flat spC T)) [] (ret0 (.int .i64 (playW T p 0 d.nf).2)) := by
  have hT := right_of_check hc
  refine pact Try.func13 rfl Try.ntmps13 rfl ?_
  intro W K hK
  have hC := check_b a c T hsn (by omega) 0 hc
  have hP := fun rb => play_s rb p hp d hd a c T hT hsn h0 hl
  (repeat' (first | ((with_reducible apply gL); (first | refine yL0 ?_ | refine yL ?_ | ((with_reducible apply gL_go); (first | (refine JL_goq (hC) (hφ := (by (try simp only [List.cons_append, List.nil_append]); exact fun w hr => (hK w hr.1).2)) (h := ?_); rintro _ _ ⟨rfl, rfl⟩; try simp only [List.cons_append, List.nil_append]) | (refine JL_goq (hP _) (hφ := (by (try simp only [List.cons_append, List.nil_append]); exact fun w hr => hK w hr.1)) (h := ?_); rintro _ _ ⟨d', hd', rfl, hx, rfl⟩; try simp only [List.cons_append, List.nil_append]) | fail)) | (refine yM ?_; intro _) | fail)) | refine yJ ?_ | ((with_reducible apply gJ_if); (first | (refine J_if xR ?_ ?_ <;> intro _ <;> (try (exfalso; first | contradiction | omega))) | (refine J_ifb xR ?_ ?_ <;> (intro hgb; subst hgb)) | (refine J_ifb xR ?_ ?_ <;> intro _) | fail)) | fail))
  all_goals (first | (exfalso; omega) | skip)
  exact J_ret1 rfl (by rfl) fun w H => ⟨_, ⟨rfl, rfl⟩, H.sel .nil⟩
end Go.Proofs.Ytmbgbhambgoejaa.C
namespace Go.Proofs.Ytmbgbhambgoejaa.C
set_option linter.unusedSimpArgs false
set_option linter.unusedVariables false
set_option maxRecDepth 20000
set_option maxHeartbeats 4000000
open Go.RowKit Go.Pm

structure Loo where
  q : List Rw
  ad : Option Addr
  cc : Nat
end Go.Proofs.Ytmbgbhambgoejaa.C
namespace Go.Proofs.Ytmbgbhambgoejaa.C
set_option linter.unusedSimpArgs false
set_option linter.unusedVariables false
set_option maxRecDepth 20000
set_option maxHeartbeats 4000000
open Go.RowKit Go.Pm

end Go.Proofs.Ytmbgbhambgoejaa.C
namespace Go.Proofs.Ytmbgbhambgoejaa.C
set_option linter.unusedSimpArgs false
set_option linter.unusedVariables false
set_option maxRecDepth 20000
set_option maxHeartbeats 4000000
open Go.RowKit Go.Pm

structure Lq9 where
  k : Nat
  a : Option Addr
  c : Nat
end Go.Proofs.Ytmbgbhambgoejaa.C
namespace Go.Proofs.Ytmbgbhambgoejaa.C
set_option linter.unusedSimpArgs false
set_option linter.unusedVariables false
set_option maxRecDepth 20000
set_option maxHeartbeats 4000000
open Go.RowKit Go.Pm

theorem Mk.mono {m : M3} {A : HP} {wb N N' : Nat} {F : Int → List Sp → List Sp} (h : Mk m A wb N F) (hN : N ≤ N') : Mk m A wb N' F := ⟨h.1, h.2.1, fun z a c T T2 h1 h2 h3 => h.2.2 z a c T T2 (by omega) h2 h3⟩
def two (A B : HP) : HP := sats [A, B]
theorem Mk.wideL {m : M3} {A B : HP} {wb N : Nat} {F : Int → List Sp → List Sp} (h : Mk m A wb N F) : Mk m (two A B) wb N F := ⟨h.1, h.2.1, fun z a c T T2 h1 h2 h3 => fun W K w hK H => by
  obtain ⟨_, H2⟩ := Ow.open (A := two A B) H .here (Bs := fun _ : Unit => [A, B]) (fun k h => ⟨(), h⟩)
  simp only [List.cons_append, List.nil_append] at H2
  refine (h.2.2 z a c T T2 h1 h2 h3).call H2 (L := [A, B, pts wb [.slice a T.length c] 60, Ar 63 7 spC (.slice a T.length c) T]) (R := [B]) xZ Kr.true ?_
  rintro v L' rfl w' H'
  exact ⟨v, _, rfl, rfl, (Ow.shut (A := two A B) (M := [A, B]) H' (by simp only [List.cons_append, List.nil_append]; (first | ((with_reducible (repeat (first | exact Sb.nil | apply Sb.cons | exact Tk.here | apply Tk.there))); done) | (repeat (first | exact Sb.nil | apply Sb.cons | exact Tk.here | apply Tk.there)))) (fun _ h => h)).sel xZ⟩⟩
theorem Mk.wideR {m : M3} {A B : HP} {wb N : Nat} {F : Int → List Sp → List Sp} (h : Mk m B wb N F) : Mk m (two A B) wb N F := ⟨h.1, h.2.1, fun z a c T T2 h1 h2 h3 => fun W K w hK H => by
  obtain ⟨_, H2⟩ := Ow.open (A := two A B) H .here (Bs := fun _ : Unit => [A, B]) (fun k h => ⟨(), h⟩)
  simp only [List.cons_append, List.nil_append] at H2
  refine (h.2.2 z a c T T2 h1 h2 h3).call H2 (L := [A, B, pts wb [.slice a T.length c] 60, Ar 63 7 spC (.slice a T.length c) T]) (R := [A]) xZ Kr.true ?_
  rintro v L' rfl w' H'
  exact ⟨v, _, rfl, rfl, (Ow.shut (A := two A B) (M := [A, B]) H' (by simp only [List.cons_append, List.nil_append]; (first | ((with_reducible (repeat (first | exact Sb.nil | apply Sb.cons | exact Tk.here | apply Tk.there))); done) | (repeat (first | exact Sb.nil | apply Sb.cons | exact Tk.here | apply Tk.there)))) (fun _ h => h)).sel xZ⟩⟩
def foldF (z : Int) : List (Int → List Sp → List Sp) → List Sp → List Sp
  | [], T => T
  | F :: r, T => foldF z r (F z T)
theorem foldF_append (z : Int) : ∀ (Fs Gs : List (Int → List Sp → List Sp)) (T : List Sp), foldF z (Fs ++ Gs) T = foldF z Gs (foldF z Fs T)
  | [], _, _ => rfl
  | F :: r, Gs, T => foldF_append z r Gs (F z T)
def Mks (A : HP) (wb N : Nat) (ms : List M3) (Fs : List (Int → List Sp → List Sp)) : Prop := ms.length = Fs.length ∧ ∀ (i : Nat) (m : M3) (F : Int → List Sp → List Sp), ms[i]? = some m → Fs[i]? = some F → Mk m A wb N F
theorem foldF_len (z : Int) : ∀ (Fs : List (Int → List Sp → List Sp)) (T : List Sp), (∀ F ∈ Fs, ∀ z T, (F z T).length = T.length) → (foldF z Fs T).length = T.length
  | [], _, _ => rfl
  | F :: r, T, h => by
    rw [foldF, foldF_len z r _ fun G hG => h G (List.mem_cons_of_mem _ hG), h F (by simp)]
def allA (A : HP) (lb : Nat) (oa : Option Addr) (oc : Nat) (ms : List M3) : HP := two A (two (pts lb [.slice oa ms.length oc] 120) (Ar 99 1 m3C (.slice oa ms.length oc) ms))
structure Lm where
  i : Nat
  T : List Sp
theorem allmark_s (A : HP) (wb N lb : Nat) (oa : Option Addr) (oc : Nat) (ms : List M3) (Fs : List (Int → List Sp → List Sp)) (hM : Mks A wb N ms Fs) (hl : ms.length ≤ 5) : Mk ⟨92, #[], #[.pointer (some ⟨lb, 0, none⟩)]⟩ (allA A lb oa oc ms) wb N (fun z => foldF z Fs) := by
  have hlen : ∀ F ∈ Fs, ∀ z T, (F z T).length = T.length := fun F hF => by
    obtain ⟨i, hi, rfl⟩ := List.mem_iff_getElem.1 hF
    exact (hM.2 i _ _ (List.getElem?_eq_getElem (by rw [hM.1]; exact hi)) (List.getElem?_eq_getElem hi)).2.1
  refine ⟨by show ownB Try.prog 92 = true; decide +kernel, fun z T => foldF_len z Fs T hlen, fun z a c T0 T9 hN hT h9 => ?_⟩
  have hT9 : T9.length = T0.length := by rw [← h9]; exact foldF_len z Fs T0 hlen
  refine pact Try.func92 rfl Try.ntmps92 rfl ?_
  intro W K _
  refine J_heap (L' := [A, pts lb [.slice oa ms.length oc] 120, Ar 99 1 m3C (.slice oa ms.length oc) ms, pts wb [.slice a T0.length c] 60, Ar 63 7 spC (.slice a T0.length c) T0]) (fun w H => ?_) ?_
  · obtain ⟨_, H2⟩ := Ow.open (A := allA A lb oa oc ms) H .here (Bs := fun _ : Unit => [A, two (pts lb [.slice oa ms.length oc] 120) (Ar 99 1 m3C (.slice oa ms.length oc) ms)]) (fun k h => ⟨(), h⟩)
    simp only [List.cons_append, List.nil_append] at H2
    obtain ⟨_, H3⟩ := Ow.open (A := two (pts lb [.slice oa ms.length oc] 120) (Ar 99 1 m3C (.slice oa ms.length oc) ms)) H2 xA (Bs := fun _ : Unit => [pts lb [.slice oa ms.length oc] 120, Ar 99 1 m3C (.slice oa ms.length oc) ms]) (fun k h => ⟨(), h⟩)
    exact H3.sel (by simp only [List.cons_append, List.nil_append]; (first | ((with_reducible (repeat (first | exact Sb.nil | apply Sb.cons | exact Tk.here | apply Tk.there))); done) | (repeat (first | exact Sb.nil | apply Sb.cons | exact Tk.here | apply Tk.there))))
  (repeat' (first | ((with_reducible apply gL); (first | refine yL0 ?_ | refine yL ?_ | fail)) | refine yJ ?_ | ((with_reducible apply gJ_if); (first | (refine J_if xR ?_ ?_ <;> intro _ <;> (try (exfalso; first | contradiction | omega))) | (refine J_ifb xR ?_ ?_ <;> (intro hgb; subst hgb)) | (refine J_ifb xR ?_ ?_ <;> intro _) | fail)) | fail))
  refine J_loop (α := Lm) ⟨0, T0⟩ (fun x => ms.length - x.i) (fun x => x.i ≤ ms.length ∧ x.T.length = T0.length ∧ foldF z (Fs.drop x.i) x.T = T9) (fun x => [(0, .int .i64 z), (5, .slice oa ms.length oc), (6, .int .i64 ms.length), (7, .int .i64 x.i)]) (fun x => [A, pts lb [.slice oa ms.length oc] 120, Ar 99 1 m3C (.slice oa ms.length oc) ms, pts wb [.slice a x.T.length c] 60, Ar 63 7 spC (.slice a x.T.length c) x.T]) ⟨Nat.zero_le _, rfl, h9⟩ ⟨rfl, rfl, rfl, rfl, trivial⟩ (fun w H => H.sel xZ) ?_
  rintro ⟨i, T⟩ ⟨hi, hTl, hf⟩
  dsimp only at hi hTl hf ⊢
  by_cases hlt : i < ms.length
  · obtain ⟨m, hs⟩ : ∃ m, ms[i]? = some m := ⟨_, List.getElem?_eq_getElem hlt⟩
    obtain ⟨F, hF⟩ : ∃ F, Fs[i]? = some F := ⟨_, List.getElem?_eq_getElem (by rw [← hM.1]; exact hlt)⟩
    have hMk := hM.2 i m F hs hF
    have ho := hMk.1
    obtain ⟨T2, h2⟩ : ∃ T2, F z T = T2 := ⟨_, rfl⟩
    have h2l : T2.length = T.length := by rw [← h2]; exact hMk.2.1 z T
    rw [drop_cons hF, foldF, h2] at hf
    (repeat' (first | ((with_reducible apply gL); (first | refine yL0 ?_ | refine yL ?_ | ((with_reducible apply gL_go); (first | (refine JL_goq (hMk.2.2 z a c T T2 (by omega) (by omega) h2) (hφ := xF) (h := ?_); rintro _ _ rfl; try simp only [List.cons_append, List.nil_append]) | fail)) | fail)) | refine yJ ?_ | ((with_reducible apply gJ_if); (first | (refine J_if xR ?_ ?_ <;> intro _ <;> (try (exfalso; first | contradiction | omega))) | (refine J_ifb xR ?_ ?_ <;> (intro hgb; subst hgb)) | (refine J_ifb xR ?_ ?_ <;> intro _) | fail)) | fail))
    exact J_again ⟨i + 1, T2⟩ (by dsimp only; omega) ⟨by dsimp only; omega, by dsimp only; omega, hf⟩ ⟨rfl, rfl, rfl, rfl, trivial⟩ (fun w H => H.sel xZ)
  · obtain rfl : i = ms.length := by omega
    rw [hM.1, List.drop_length, foldF] at hf
    subst hf
    (iterate 7 (first | ((with_reducible apply gL); (first | refine yL0 ?_ | refine yL ?_ | fail)) | refine yJ ?_ | ((with_reducible apply gJ_if); (first | (refine J_if xR ?_ ?_ <;> intro _ <;> (try (exfalso; first | contradiction | omega))) | (refine J_ifb xR ?_ ?_ <;> (intro hgb; subst hgb)) | (refine J_ifb xR ?_ ?_ <;> intro _) | fail)) | fail))
    refine J_end0 rfl fun w H => ⟨_, rfl, ?_⟩
    refine Ow.sel (Ow.shut (A := allA A lb oa oc ms) (M := [A, two (pts lb [.slice oa ms.length oc] 120) (Ar 99 1 m3C (.slice oa ms.length oc) ms)]) (Ow.shut (A := two (pts lb [.slice oa ms.length oc] 120) (Ar 99 1 m3C (.slice oa ms.length oc) ms)) (M := [pts lb [.slice oa ms.length oc] 120, Ar 99 1 m3C (.slice oa ms.length oc) ms]) H xZ (fun _ h => h)) xZ (fun _ h => h)) xZ
theorem all_s (oa : Option Addr) (n oc : Nat) : Pact Try.prog 85 #[.slice oa n oc] (fun _ => True) [] (fun u L' => ∃ lb, u = .func (.func 92) #[] #[.pointer (some ⟨lb, 0, none⟩)] ∧ L' = [pts lb [.slice oa n oc] 120]) := by
  refine pact Try.func85 rfl Try.ntmps85 rfl ?_
  intro W K _
  (repeat' (first | ((with_reducible apply gL); (first | refine yL0 ?_ | refine yL ?_ | (refine yM ?_; intro _) | fail)) | refine yJ ?_ | fail))
  exact J_ret1 rfl (by rfl) fun w H => ⟨_, ⟨_, rfl, rfl⟩, H.sel xZ⟩
end Go.Proofs.Ytmbgbhambgoejaa.C
