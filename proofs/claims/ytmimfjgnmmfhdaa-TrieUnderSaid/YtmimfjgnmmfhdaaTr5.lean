/-
  Trees in memory; is, New, Len; find.
-/
import Derived.Test.YtmimfjgnmmfhdaaTr4
namespace Go.Proofs.Ytmimfjgnmmfhdaa
set_option linter.unusedSimpArgs false
set_option linter.unusedVariables false
set_option maxRecDepth 20000
set_option maxHeartbeats 4000000
open Go.RowKit Go.Pm


def ptr : Tr → Option Addr
  | .nil => none
  | .node b .. => some ⟨b, 0, none⟩
abbrev ndC (p : Pf) (has : Bool) (v : Int) (a0 a1 : Option Addr) : List Value := [.int .u32 p.1, .int .i64 p.2, .bool has, .int .i64 v, .pointer a0, .pointer a1]
def trP : Tr → HP
  | .nil => sats []
  | .node b p has v k0 k1 => sats [pts b (ndC p has v (ptr k0) (ptr k1)) 66, trP k0, trP k1]
abbrev trC (a : Option Addr) (n : Int) (m : Bool) : List Value := [.pointer a, .int .i64 n, .bool m]
def frC (f : Fr) (h : Option Addr) : List Value := if f.side then ndC f.p f.has f.v (ptr f.o) h else ndC f.p f.has f.v h (ptr f.o)
/-- The tree but for what hangs at a place, where h stands. -/
def ctxP (tb : Nat) (n : Int) : List Fr → Option Addr → HP
  | [], h => sats [pts tb (trC h n true) 55]
  | f :: C, h => sats [pts f.b (frC f h) 66, trP f.o, ctxP tb n C (some ⟨f.b, 0, none⟩)]
def sideN (b : Bool) : Nat := if b then 1 else 0
def holeA (tb : Nat) : List Fr → Addr
  | [] => ⟨tb, 0, none⟩
  | f :: _ => ⟨f.b, 4 + sideN f.side, none⟩

section
variable {W : World} {K : Hl} {L R : List HP} {w : World} {tb : Nat} {n : Int} {C : List Fr} {h h' : Option Addr}
theorem owCtxTop (H : Ow W K L w) (t : Tk L (ctxP tb n [] h) R) : Ow W K (pts tb (trC h n true) 55 :: R) w := H.flat t
theorem owCtxFr {f : Fr} (H : Ow W K L w) (t : Tk L (ctxP tb n (f :: C) h) R) : Ow W K (pts f.b (frC f h) 66 :: trP f.o :: ctxP tb n C (some ⟨f.b, 0, none⟩) :: R) w := H.flat t
theorem owMkTop (H : Ow W K L w) (t : Tk L (pts tb (trC h n true) 55) R) : Ow W K (ctxP tb n [] h :: R) w := H.shut (M := [pts tb (trC h n true) 55]) (.cons t .nil) (fun _ h => h)
theorem owMkFr {f : Fr} (H : Ow W K (pts f.b (frC f h) 66 :: trP f.o :: ctxP tb n C (some ⟨f.b, 0, none⟩) :: R) w) : Ow W K (ctxP tb n (f :: C) h :: R) w := H.shut (M := [pts f.b (frC f h) 66, trP f.o, ctxP tb n C (some ⟨f.b, 0, none⟩)]) (R := R) (.cons .here (.cons .here (.cons .here .nil))) (fun _ h => h)
theorem owNodeO {b : Nat} {p : Pf} {has : Bool} {v : Int} {k0 k1 : Tr} (H : Ow W K L w) (t : Tk L (trP (.node b p has v k0 k1)) R) : Ow W K (pts b (ndC p has v (ptr k0) (ptr k1)) 66 :: trP k0 :: trP k1 :: R) w := H.flat t
theorem owMkNode {b : Nat} {p : Pf} {has : Bool} {v : Int} {k0 k1 : Tr} (H : Ow W K (pts b (ndC p has v (ptr k0) (ptr k1)) 66 :: trP k0 :: trP k1 :: R) w) : Ow W K (trP (.node b p has v k0 k1) :: R) w := H.shut (M := [pts b (ndC p has v (ptr k0) (ptr k1)) 66, trP k0, trP k1]) (R := R) (.cons .here (.cons .here (.cons .here .nil))) (fun _ h => h)
theorem owMkNil (H : Ow W K L w) : Ow W K (trP .nil :: L) w := H.satsNil
theorem owFill {f : Fr} {s : Tr} (H : Ow W K (pts f.b (frC f (ptr s)) 66 :: trP f.o :: trP s :: R) w) : Ow W K (trP (fill f s) :: R) w := by
  unfold frC at H
  unfold Proofs.Ytmimfjgnmmfhdaa.fill
  cases hs : f.side
  · simp only [hs, Bool.false_eq_true, if_false] at H ⊢
    exact owMkNode (H.perm (.cons _ (.swap ..)))
  · simp only [hs, if_true] at H ⊢
    exact owMkNode H
theorem ptr_fill (f : Fr) (s : Tr) : ptr (fill f s) = some ⟨f.b, 0, none⟩ := by
  unfold fill
  cases f.side <;> rfl
/-- The tree as one again. -/
theorem owPlug : ∀ {C : List Fr} {s : Tr} {R : List HP}, Ow W K (ctxP tb n C (ptr s) :: trP s :: R) w → Ow W K (pts tb (trC (ptr (plug C s)) n true) 55 :: trP (plug C s) :: R) w
  | [], _, _, H => owCtxTop H .here
  | f :: C, s, R, H => by
    have H1 := (owCtxFr H .here).perm (L := pts f.b (frC f (ptr s)) 66 :: trP f.o :: ctxP tb n C (some ⟨f.b, 0, none⟩) :: trP s :: R) (M := pts f.b (frC f (ptr s)) 66 :: trP f.o :: trP s :: ctxP tb n C (some ⟨f.b, 0, none⟩) :: R) (.cons _ (.cons _ (.swap ..)))
    have H2 := owFill H1
    have H3 : Ow W K (ctxP tb n C (ptr (Proofs.Ytmimfjgnmmfhdaa.fill f s)) :: trP (Proofs.Ytmimfjgnmmfhdaa.fill f s) :: R) w := by
      rw [ptr_fill]
      exact H2.perm (.swap ..)
    exact owPlug (C := C) (s := Proofs.Ytmimfjgnmmfhdaa.fill f s) (R := R) H3
/-- What stands at the place. -/
theorem hole_cell : ∀ {C : List Fr}, Ow W K (ctxP tb n C h :: R) w → w.cell? (holeA tb C) = some (.pointer h) ∧ w.frozen? (holeA tb C) = false ∧ ∀ h', Ow W K (ctxP tb n C h' :: R) (w.setCell (holeA tb C) (.pointer h'))
  | [], H => by
    have H1 := owCtxTop H .here
    have hb := H1.blk .here
    exact ⟨by rw [holeA, hb.cell]; rfl, hb.free 0, fun h' => owMkTop (h := h') (H1.set .here .z) .here⟩
  | f :: C, H => by
    have H1 := owCtxFr H .here
    have hb := H1.blk .here
    refine ⟨?_, hb.free _, fun h' => owMkFr ?_⟩
    · rw [holeA, hb.cell]
      unfold frC sideN
      cases f.side <;> rfl
    · have : SetAt (frC f h) (4 + sideN f.side) (.pointer h') (frC f h') := by
        unfold frC sideN ndC
        cases f.side
        · exact .s (.s (.s (.s .z)))
        · exact .s (.s (.s (.s (.s .z))))
      exact H1.set .here this
end

theorem is_s (tb : Nat) (a : Option Addr) (n : Int) (m : Bool) : Pact Try.prog 28 #[.pointer (some ⟨tb, 0, none⟩)] (fun _ => True) [pts tb (trC a n m) 55] (fun v L' => v = .bool m ∧ L' = [pts tb (trC a n m) 55]) := by
  refine pact Try.func28 rfl Try.ntmps28 rfl ?_
  intro W K _
  (repeat' (first | ((with_reducible apply gJ); (first | refine J_seq ?_ | refine J_reg ?_ | refine J_skip ?_ | refine J_block ?_ | refine J_blk ?_ | refine J_exit rfl ?_ | refine J_goto rfl ?_ | ((with_reducible apply gJ_if); (first | refine J_ift rfl ?_ | refine J_iff rfl ?_ | (refine J_if xR ?_ ?_ <;> intro _ <;> (try (exfalso; first | contradiction | omega))) | (refine J_ifb xR ?_ ?_ <;> (intro hgb; subst hgb)) | (refine J_ifb xR ?_ ?_ <;> intro _) | fail)) | refine J_label ?_ | fail)) | ((with_reducible apply gL); (first | refine JL_nil ?_ | ((with_reducible apply gL_gd); (first | refine JL_skip xR xR ?_ | fail)) | refine L_move ?_ | refine L_assign ?_ | refine L_fieldAddr ?_ | refine L_load ?_ | refine L_nilCheck ?_ | refine L_pick ?_ | refine L_bin_neq ?_ | ((with_reducible apply gL_gd); (first | (refine JL_guard xR xR ?_ ?_ <;> intro _ <;> (try (exfalso; first | contradiction | omega))) | (refine JL_guardb xR xR ?_ ?_ <;> (intro hgb; subst hgb)) | (refine JL_guardb xR xR ?_ ?_ <;> (intro hgb; fail_if_success (have : type_of% hgb := rfl))) | fail)) | fail)) | fail))
  exact J_ret1 rfl (by rfl) fun w H => ⟨_, ⟨rfl, rfl⟩, H.sel (by (first | ((with_reducible (repeat (first | exact Sb.nil | apply Sb.cons | exact Tk.here | apply Tk.there))); done) | (repeat (first | exact Sb.nil | apply Sb.cons | exact Tk.here | apply Tk.there))))⟩
theorem isnil_s : Pact Try.prog 28 #[.pointer none] (fun _ => True) [] (ret0 (.bool false)) := by
  refine pact Try.func28 rfl Try.ntmps28 rfl ?_
  intro W K _
  (repeat' (first | ((with_reducible apply gJ); (first | refine J_seq ?_ | refine J_reg ?_ | refine J_skip ?_ | refine J_block ?_ | refine J_blk ?_ | refine J_exit rfl ?_ | refine J_goto rfl ?_ | ((with_reducible apply gJ_if); (first | refine J_ift rfl ?_ | refine J_iff rfl ?_ | (refine J_if xR ?_ ?_ <;> intro _ <;> (try (exfalso; first | contradiction | omega))) | (refine J_ifb xR ?_ ?_ <;> (intro hgb; subst hgb)) | (refine J_ifb xR ?_ ?_ <;> intro _) | fail)) | refine J_label ?_ | fail)) | ((with_reducible apply gL); (first | refine JL_nil ?_ | ((with_reducible apply gL_gd); (first | refine JL_skip xR xR ?_ | fail)) | refine L_move ?_ | refine L_assign ?_ | refine L_fieldAddr ?_ | refine L_load ?_ | refine L_nilCheck ?_ | refine L_pick ?_ | refine L_bin_neq ?_ | ((with_reducible apply gL_gd); (first | (refine JL_guard xR xR ?_ ?_ <;> intro _ <;> (try (exfalso; first | contradiction | omega))) | (refine JL_guardb xR xR ?_ ?_ <;> (intro hgb; subst hgb)) | (refine JL_guardb xR xR ?_ ?_ <;> (intro hgb; fail_if_success (have : type_of% hgb := rfl))) | fail)) | fail)) | fail))
  exact J_ret1 rfl (by rfl) fun w H => ⟨_, ⟨rfl, rfl⟩, H.sel (by (first | ((with_reducible (repeat (first | exact Sb.nil | apply Sb.cons | exact Tk.here | apply Tk.there))); done) | (repeat (first | exact Sb.nil | apply Sb.cons | exact Tk.here | apply Tk.there))))⟩
theorem new_s : Pact Try.prog 10 #[] (fun _ => True) [] (fun v L' => ∃ tb, v = .pointer (some ⟨tb, 0, none⟩) ∧ L' = [pts tb (trC none 0 true) 55, trP .nil]) := by
  refine pact Try.func10 rfl Try.ntmps10 rfl ?_
  intro W K _
  (repeat' (first | ((with_reducible apply gJ); (first | refine J_seq ?_ | refine J_reg ?_ | refine J_skip ?_ | refine J_block ?_ | refine J_blk ?_ | refine J_exit rfl ?_ | refine J_goto rfl ?_ | ((with_reducible apply gJ_if); (first | refine J_ift rfl ?_ | refine J_iff rfl ?_ | (refine J_if xR ?_ ?_ <;> intro _ <;> (try (exfalso; first | contradiction | omega))) | (refine J_ifb xR ?_ ?_ <;> (intro hgb; subst hgb)) | (refine J_ifb xR ?_ ?_ <;> intro _) | fail)) | refine J_label ?_ | fail)) | ((with_reducible apply gL); (first | refine JL_nil ?_ | refine L_assign ?_ | refine L_build ?_ | ((with_reducible apply gL_box); (first | (refine JL_mc rfl xR xR (al_boxA xR) ?_; intro _) | (refine JL_mc rfl xR xR (al_boxC xR xR) ?_; intro _) | fail)) | fail)) | fail))
  exact J_ret1 rfl (by rfl) fun w H => ⟨_, ⟨_, rfl, rfl⟩, (owMkNil H).sel (by (first | ((with_reducible (repeat (first | exact Sb.nil | apply Sb.cons | exact Tk.here | apply Tk.there))); done) | (repeat (first | exact Sb.nil | apply Sb.cons | exact Tk.here | apply Tk.there))))⟩
theorem len_s (tb : Nat) (a : Option Addr) (n : Int) (m : Bool) : Pact Try.prog 13 #[.pointer (some ⟨tb, 0, none⟩)] (fun _ => True) [pts tb (trC a n m) 55] (fun v L' => v = .int .i64 (if m then n else 0) ∧ L' = [pts tb (trC a n m) 55]) := by
  refine pact Try.func13 rfl Try.ntmps13 rfl ?_
  intro W K _
  cases m
  · (repeat' (first | ((with_reducible apply gJ); (first | refine J_seq ?_ | refine J_reg ?_ | refine J_skip ?_ | refine J_block ?_ | refine J_blk ?_ | refine J_exit rfl ?_ | refine J_goto rfl ?_ | ((with_reducible apply gJ_if); (first | refine J_ift rfl ?_ | refine J_iff rfl ?_ | (refine J_if xR ?_ ?_ <;> intro _ <;> (try (exfalso; first | contradiction | omega))) | (refine J_ifb xR ?_ ?_ <;> (intro hgb; subst hgb)) | (refine J_ifb xR ?_ ?_ <;> intro _) | fail)) | refine J_label ?_ | fail)) | ((with_reducible apply gL); (first | refine JL_nil ?_ | refine L_move ?_ | refine L_assign ?_ | refine L_fieldAddr ?_ | refine L_load ?_ | refine L_nilCheck ?_ | refine L_un_not ?_ | ((with_reducible apply gL_go); (first | (refine JL_goq (is_s tb a n false) (hφ := xF) (h := ?_); rintro _ _ ⟨rfl, rfl⟩; try simp only [List.cons_append, List.nil_append]) | fail)) | fail)) | fail))
    exact J_ret1 rfl (by rfl) fun w H => ⟨_, ⟨rfl, rfl⟩, H.sel (by (first | ((with_reducible (repeat (first | exact Sb.nil | apply Sb.cons | exact Tk.here | apply Tk.there))); done) | (repeat (first | exact Sb.nil | apply Sb.cons | exact Tk.here | apply Tk.there))))⟩
  · (repeat' (first | ((with_reducible apply gJ); (first | refine J_seq ?_ | refine J_reg ?_ | refine J_skip ?_ | refine J_block ?_ | refine J_blk ?_ | refine J_exit rfl ?_ | refine J_goto rfl ?_ | ((with_reducible apply gJ_if); (first | refine J_ift rfl ?_ | refine J_iff rfl ?_ | (refine J_if xR ?_ ?_ <;> intro _ <;> (try (exfalso; first | contradiction | omega))) | (refine J_ifb xR ?_ ?_ <;> (intro hgb; subst hgb)) | (refine J_ifb xR ?_ ?_ <;> intro _) | fail)) | refine J_label ?_ | fail)) | ((with_reducible apply gL); (first | refine JL_nil ?_ | refine L_move ?_ | refine L_assign ?_ | refine L_fieldAddr ?_ | refine L_load ?_ | refine L_nilCheck ?_ | refine L_un_not ?_ | ((with_reducible apply gL_go); (first | (refine JL_goq (is_s tb a n true) (hφ := xF) (h := ?_); rintro _ _ ⟨rfl, rfl⟩; try simp only [List.cons_append, List.nil_append]) | fail)) | fail)) | fail))
    exact J_ret1 rfl (by rfl) fun w H => ⟨_, ⟨rfl, rfl⟩, H.sel (by (first | ((with_reducible (repeat (first | exact Sb.nil | apply Sb.cons | exact Tk.here | apply Tk.there))); done) | (repeat (first | exact Sb.nil | apply Sb.cons | exact Tk.here | apply Tk.there))))⟩
theorem lennil_s : Pact Try.prog 13 #[.pointer none] (fun _ => True) [] (ret0 (.int .i64 0)) := by
  refine pact Try.func13 rfl Try.ntmps13 rfl ?_
  intro W K _
  (repeat' (first | ((with_reducible apply gJ); (first | refine J_seq ?_ | refine J_reg ?_ | refine J_skip ?_ | refine J_block ?_ | refine J_blk ?_ | refine J_exit rfl ?_ | refine J_goto rfl ?_ | ((with_reducible apply gJ_if); (first | refine J_ift rfl ?_ | refine J_iff rfl ?_ | (refine J_if xR ?_ ?_ <;> intro _ <;> (try (exfalso; first | contradiction | omega))) | (refine J_ifb xR ?_ ?_ <;> (intro hgb; subst hgb)) | (refine J_ifb xR ?_ ?_ <;> intro _) | fail)) | refine J_label ?_ | fail)) | ((with_reducible apply gL); (first | refine JL_nil ?_ | refine L_move ?_ | refine L_assign ?_ | refine L_fieldAddr ?_ | refine L_load ?_ | refine L_nilCheck ?_ | refine L_un_not ?_ | ((with_reducible apply gL_go); (first | (refine JL_goq (isnil_s) (hφ := xF) (h := ?_); rintro _ _ ⟨rfl, rfl⟩; try simp only [List.cons_append, List.nil_append]) | fail)) | fail)) | fail))
  exact J_ret1 rfl (by rfl) fun w H => ⟨_, ⟨rfl, rfl⟩, H.sel (by (first | ((with_reducible (repeat (first | exact Sb.nil | apply Sb.cons | exact Tk.here | apply Tk.there))); done) | (repeat (first | exact Sb.nil | apply Sb.cons | exact Tk.here | apply Tk.there))))⟩
end Go.Proofs.Ytmimfjgnmmfhdaa
