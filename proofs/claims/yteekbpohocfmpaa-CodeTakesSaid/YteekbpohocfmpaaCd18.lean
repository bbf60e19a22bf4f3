/-
  Marks: where a place is to be told.
-/
import Derived.Test.YteekbpohocfmpaaCd15
namespace Go.Proofs.Yteekbpohocfmpaa
set_option linter.unusedSimpArgs false
set_option linter.unusedVariables false
set_option maxRecDepth 20000
set_option maxHeartbeats 4000000
open Go.RowKit Go.Pm

section
variable {P : Program} {n : Nat} {W : World} {K : Hl} {F : Fp} {k : List It} {tm : TM} {L L' R S M M' : List HP} {T : TypeId} {pos : String} {af : Array Edge} {gd : Option (Nat × Bool)} {ops : Array Oper} {rest nx : List Oper} {d : Tmp} {t e : TypeId} {x y : Operand} {a : Option Addr} {m c sz j off : Nat} {v : Value} {α : Type} {enc : α → List Value} {es : List α} {z z' : α} {vs : List Value}
theorem JD_stEf (hx : evT tm x = some (.pointer (some (elA a j sz off)))) (hy : evT tm y = some v) (hm : Tk M (Ar e sz enc (.slice a m c) es) R) (hj : es[j]? = some z) (hv : cellsL v = vs) (hl : ∀ x, (enc x).length = sz) (hz : Nat.blt 0 sz = true) (ht : (P.info? t).map (·.size) = some vs.length) {cs : List Value} (hp : Put (enc z) off vs cs) (hq : enc z' = cs) (h1 : vs.all (·.oneCell') = true) (hg : wantF ops ⟨none, .store t x y, T, pos, af, gd⟩ (tget tm) = some true)
    (h : JD P n W K F ops k nx rest tm S (Ar e sz enc (.slice a m c) (es.set j z') :: R)) : JD P n W K F ops k nx (⟨none, .store t x y, T, pos, af, gd⟩ :: rest) tm S M :=
  JD_a0 rfl hg rfl (.cons hm .nil) (ae_stE hx hy hv hl hz hj ht (by rw [hq]; exact hp.eq.1) (by have := hp.eq.2; rw [hl] at this; exact this) h1) (by rintro _ _ ⟨rfl, rfl⟩; exact h)
end
/-- A function with what it was made with. -/
structure M3 where
  f : FuncId
  first : Array Value
  caps : Array Value
abbrev m3C (m : M3) : List Value := [.func (.func m.f) m.first m.caps]
/-- A mark: called with a place, it changes the table of the maker wb, if it has so many steps, by F; for that it wants A. -/
def Mk (m : M3) (A : HP) (wb N : Nat) (F : Int → List Sp → List Sp) : Prop := ownB Try.prog m.f = true ∧ (∀ z T, (F z T).length = T.length) ∧ ∀ (z : Int) (a : Option Addr) (c : Nat) (T T2 : List Sp), N ≤ T.length → T.length ≤ 500000000 → F z T = T2 → Pact Try.prog m.f ((m.first ++ #[Value.int .i64 z] ++ m.caps).toList).toArray (fun _ => True) [A, pts wb [.slice a T.length c] 52, Ar 38 7 spC (.slice a T.length c) T] (fun _ L' => L' = [A, pts wb [.slice a T2.length c] 52, Ar 38 7 spC (.slice a T2.length c) T2])
def setX (k : Nat) (z : Int) (T : List Sp) : List Sp := match T[k]? with | some s => T.set k { s with x := z } | none => T
def setY (k : Nat) (z : Int) (T : List Sp) : List Sp := match T[k]? with | some s => T.set k { s with y := z } | none => T
theorem setX_len (k : Nat) (z : Int) (T : List Sp) : (setX k z T).length = T.length := by unfold setX; split <;> simp
theorem setY_len (k : Nat) (z : Int) (T : List Sp) : (setY k z T).length = T.length := by unfold setY; split <;> simp
theorem setX_some {k : Nat} {z : Int} {T : List Sp} {s : Sp} (h : T[k]? = some s) : setX k z T = T.set k { s with x := z } := by unfold setX; rw [h]
theorem setY_some {k : Nat} {z : Int} {T : List Sp} {s : Sp} (h : T[k]? = some s) : setY k z T = T.set k { s with y := z } := by unfold setY; rw [h]
/-- What the marks of a test want. -/
def leafA (wb kb b : Nat) (k : Nat) : HP := sats [pts b [.pointer (some ⟨wb, 0, none⟩)] 50, pts kb [.int .i64 k] 3]
theorem mark1_s (wb kb b : Nat) (k : Nat) : Mk ⟨48, #[], #[.pointer (some ⟨b, 0, none⟩), .pointer (some ⟨kb, 0, none⟩)]⟩ (leafA wb kb b k) wb (k + 1) (setX k) := by
  refine ⟨by show ownB Try.prog 48 = true; decide +kernel, fun z T => setX_len k z T, fun z a c T T2 hN hT h2 => ?_⟩
  refine pact Try.func48 rfl Try.ntmps48 rfl ?_
  intro W K _
  refine J_heap (L' := [pts b [.pointer (some ⟨wb, 0, none⟩)] 50, pts kb [.int .i64 k] 3, pts wb [.slice a T.length c] 52, Ar 38 7 spC (.slice a T.length c) T]) (fun w H => ?_) ?_
  · obtain ⟨_, H2⟩ := Ow.open (A := leafA wb kb b k) H .here (Bs := fun _ : Unit => [pts b [.pointer (some ⟨wb, 0, none⟩)] 50, pts kb [.int .i64 k] 3]) (fun k h => ⟨(), h⟩)
    exact H2.sel (by simp only [List.cons_append, List.nil_append]; (first | ((with_reducible (repeat (first | exact Sb.nil | apply Sb.cons | exact Tk.here | apply Tk.there))); done) | (repeat (first | exact Sb.nil | apply Sb.cons | exact Tk.here | apply Tk.there))))
  obtain ⟨s, hs⟩ : ∃ s, T[k]? = some s := ⟨_, List.getElem?_eq_getElem (by omega)⟩
  rw [setX_some hs] at h2
  have h2l : T2.length = T.length := by rw [← h2, List.length_set]
  rw [h2l, ← h2]
  (iterate 12 (first | ((with_reducible apply gJ); (first | refine J_seq ?_ | refine J_reg ?_ | refine J_skip ?_ | refine J_block ?_ | refine J_blk ?_ | refine J_exit rfl ?_ | refine J_goto rfl ?_ | ((with_reducible apply gJ_if); (first | refine J_ift rfl ?_ | refine J_iff rfl ?_ | (refine J_if xR ?_ ?_ <;> intro _ <;> (try (exfalso; first | contradiction | omega))) | (refine J_ifb xR ?_ ?_ <;> (intro hgb; subst hgb)) | (refine J_ifb xR ?_ ?_ <;> intro _) | fail)) | refine J_label ?_ | refine J_draw (id := 0) [0, 1, 2, 3, 4, 5, 6, 7] [8] mixed xC xD xD ?_ | fail)) | ((with_reducible apply gL); (first | refine JL_nil ?_ | fail)) | ((with_reducible apply gD); (first | (refine JD_nil ?_; try simp only [List.cons_append, List.nil_append]) | (refine JD_bar ?_; try simp only [List.cons_append, List.nil_append]) | ((with_reducible apply gD_store); (first | (refine JD_stEf (z' := { s with x := z }) (by rfl) (by rfl) (by (first | ((with_reducible (repeat (first | exact Tk.here | apply Tk.there))); done) | ((simp only [List.cons_append, List.nil_append]); (with_reducible (repeat (first | exact Tk.here | apply Tk.there))); done) | fail)) hs (by rfl) (by intro _; rfl) (by rfl) (by rfl) (by (first | ((repeat (first | exact Put.e | apply Put.t | apply Put.s)); done) | fail)) (by rfl) (by rfl) (by rfl) ?_) | fail)) | refine D_move ?_ | refine D_fieldAddr ?_ | refine D_load ?_ | refine D_nilCheck ?_ | refine D_indexAddr ?_ | ((with_reducible apply gD_load); (first | refine JD_ldM xR xT xC xR xR ?_ | refine JD_ldWM xR xT xW xR ?_ | refine JD_ldSM xR xT (tabS stab_ok xR) xG xC xR ?_ | fail)) | ((with_reducible apply gD_indexAddr); (first | refine JD_ixM xR xR (tabE etab_ok xR) xT xI xO xR ?_ | refine JD_ixV xR xR (tabE etab_ok xR) xT xI xO xR ?_ | fail)) | ((with_reducible apply gD_store); (first | refine JD_st xR xR xT xC xR xE xR ?_ | refine JD_stW xR xR xT xW xR xR xR ?_ | refine JD_stS xR xR xT xW xP xR xR ?_ | refine JD_stEl xR xR xT xR xL xR (tabS stab_ok xR) xR xR xO ?_ | fail)) | fail)) | fail))
  refine J_end0 rfl fun w H => ⟨_, rfl, ?_⟩
  exact (Ow.shut (A := leafA wb kb b k) (M := [pts b [.pointer (some ⟨wb, 0, none⟩)] 50, pts kb [.int .i64 k] 3]) H (by (first | ((with_reducible (repeat (first | exact Sb.nil | apply Sb.cons | exact Tk.here | apply Tk.there))); done) | (repeat (first | exact Sb.nil | apply Sb.cons | exact Tk.here | apply Tk.there)))) (fun _ h => h)).sel (by (first | ((with_reducible (repeat (first | exact Sb.nil | apply Sb.cons | exact Tk.here | apply Tk.there))); done) | (repeat (first | exact Sb.nil | apply Sb.cons | exact Tk.here | apply Tk.there))))
theorem mark2_s (wb kb b : Nat) (k : Nat) : Mk ⟨49, #[], #[.pointer (some ⟨b, 0, none⟩), .pointer (some ⟨kb, 0, none⟩)]⟩ (leafA wb kb b k) wb (k + 1) (setY k) := by
  refine ⟨by show ownB Try.prog 49 = true; decide +kernel, fun z T => setY_len k z T, fun z a c T T2 hN hT h2 => ?_⟩
  refine pact Try.func49 rfl Try.ntmps49 rfl ?_
  intro W K _
  refine J_heap (L' := [pts b [.pointer (some ⟨wb, 0, none⟩)] 50, pts kb [.int .i64 k] 3, pts wb [.slice a T.length c] 52, Ar 38 7 spC (.slice a T.length c) T]) (fun w H => ?_) ?_
  · obtain ⟨_, H2⟩ := Ow.open (A := leafA wb kb b k) H .here (Bs := fun _ : Unit => [pts b [.pointer (some ⟨wb, 0, none⟩)] 50, pts kb [.int .i64 k] 3]) (fun k h => ⟨(), h⟩)
    exact H2.sel (by simp only [List.cons_append, List.nil_append]; (first | ((with_reducible (repeat (first | exact Sb.nil | apply Sb.cons | exact Tk.here | apply Tk.there))); done) | (repeat (first | exact Sb.nil | apply Sb.cons | exact Tk.here | apply Tk.there))))
  obtain ⟨s, hs⟩ : ∃ s, T[k]? = some s := ⟨_, List.getElem?_eq_getElem (by omega)⟩
  rw [setY_some hs] at h2
  have h2l : T2.length = T.length := by rw [← h2, List.length_set]
  rw [h2l, ← h2]
  (iterate 12 (first | ((with_reducible apply gJ); (first | refine J_seq ?_ | refine J_reg ?_ | refine J_skip ?_ | refine J_block ?_ | refine J_blk ?_ | refine J_exit rfl ?_ | refine J_goto rfl ?_ | ((with_reducible apply gJ_if); (first | refine J_ift rfl ?_ | refine J_iff rfl ?_ | (refine J_if xR ?_ ?_ <;> intro _ <;> (try (exfalso; first | contradiction | omega))) | (refine J_ifb xR ?_ ?_ <;> (intro hgb; subst hgb)) | (refine J_ifb xR ?_ ?_ <;> intro _) | fail)) | refine J_label ?_ | refine J_draw (id := 0) [0, 1, 2, 3, 4, 5, 6, 7] [8] mixed xC xD xD ?_ | fail)) | ((with_reducible apply gL); (first | refine JL_nil ?_ | fail)) | ((with_reducible apply gD); (first | (refine JD_nil ?_; try simp only [List.cons_append, List.nil_append]) | (refine JD_bar ?_; try simp only [List.cons_append, List.nil_append]) | ((with_reducible apply gD_store); (first | (refine JD_stEf (z' := { s with y := z }) (by rfl) (by rfl) (by (first | ((with_reducible (repeat (first | exact Tk.here | apply Tk.there))); done) | ((simp only [List.cons_append, List.nil_append]); (with_reducible (repeat (first | exact Tk.here | apply Tk.there))); done) | fail)) hs (by rfl) (by intro _; rfl) (by rfl) (by rfl) (by (first | ((repeat (first | exact Put.e | apply Put.t | apply Put.s)); done) | fail)) (by rfl) (by rfl) (by rfl) ?_) | fail)) | refine D_move ?_ | refine D_fieldAddr ?_ | refine D_load ?_ | refine D_nilCheck ?_ | refine D_indexAddr ?_ | ((with_reducible apply gD_load); (first | refine JD_ldM xR xT xC xR xR ?_ | refine JD_ldWM xR xT xW xR ?_ | refine JD_ldSM xR xT (tabS stab_ok xR) xG xC xR ?_ | fail)) | ((with_reducible apply gD_indexAddr); (first | refine JD_ixM xR xR (tabE etab_ok xR) xT xI xO xR ?_ | refine JD_ixV xR xR (tabE etab_ok xR) xT xI xO xR ?_ | fail)) | ((with_reducible apply gD_store); (first | refine JD_st xR xR xT xC xR xE xR ?_ | refine JD_stW xR xR xT xW xR xR xR ?_ | refine JD_stS xR xR xT xW xP xR xR ?_ | refine JD_stEl xR xR xT xR xL xR (tabS stab_ok xR) xR xR xO ?_ | fail)) | fail)) | fail))
  refine J_end0 rfl fun w H => ⟨_, rfl, ?_⟩
  exact (Ow.shut (A := leafA wb kb b k) (M := [pts b [.pointer (some ⟨wb, 0, none⟩)] 50, pts kb [.int .i64 k] 3]) H (by (first | ((with_reducible (repeat (first | exact Sb.nil | apply Sb.cons | exact Tk.here | apply Tk.there))); done) | (repeat (first | exact Sb.nil | apply Sb.cons | exact Tk.here | apply Tk.there)))) (fun _ h => h)).sel (by (first | ((with_reducible (repeat (first | exact Sb.nil | apply Sb.cons | exact Tk.here | apply Tk.there))); done) | (repeat (first | exact Sb.nil | apply Sb.cons | exact Tk.here | apply Tk.there))))
end Go.Proofs.Yteekbpohocfmpaa
