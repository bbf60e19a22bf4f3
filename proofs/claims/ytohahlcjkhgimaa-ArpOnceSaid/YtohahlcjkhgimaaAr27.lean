/-
  Age.
-/
import Derived.Test.YtohahlcjkhgimaaAr14
namespace Go.Proofs.Ytohahlcjkhgimaa
set_option linter.unusedSimpArgs false
set_option linter.unusedVariables false
set_option maxRecDepth 20000
set_option maxHeartbeats 4000000
open Go.RowKit Go.Pm Go.Sort

/-- What the function that picks what waited too long reads. -/
def ageK (xb nb cb tb : Nat) (t : Int) (th : List (Int × Int)) (w : World) : Prop := w.cell? ⟨xb, 0, none⟩ = some (.pointer (some ⟨cb, 0, none⟩)) ∧ w.cell? ⟨nb, 0, none⟩ = some (.int .i64 t) ∧ ∃ h, mqA tb (tV th) h ∧ h.inn w
theorem age1_s (xb nb cb tb : Nat) (t : Int) (th : List (Int × Int)) (p : Pk) : Pact Try.prog 39 (.agg (pkC p).toArray :: [.pointer (some ⟨xb, 0, none⟩), .pointer (some ⟨nb, 0, none⟩)]).toArray (pkK (ageK xb nb cb tb t th) cb tb) [] (ret0 (.bool (decide (thenOf th p.n ≤ t)))) := by
  refine pact Try.func39 rfl Try.ntmps39 rfl ?_
  intro W K hK
  have h1 : Kn K (fun w => w.cell? ⟨xb, 0, none⟩ = some (.pointer (some ⟨cb, 0, none⟩))) := hK.imp fun w h => h.1.1
  have h2 : Kn K (fun w => w.cell? ⟨nb, 0, none⟩ = some (.int .i64 t)) := hK.imp fun w h => h.1.2.1
  have h3 : Kn K (fun w => ∃ h, mqA tb (tV th) h ∧ h.inn w) := hK.imp fun w h => h.1.2.2
  have h4 : Kn K (fun w => w.cell? ⟨cb, 0 + 5, none⟩ = some (.map (some tb))) := hK.imp fun w h => h.2
  (repeat' (first | ((with_reducible apply gJ); (first | refine J_seq ?_ | refine J_reg ?_ | refine J_skip ?_ | refine J_block ?_ | refine J_blk ?_ | refine J_exit rfl ?_ | refine J_goto rfl ?_ | ((with_reducible apply gJ_if); (first | refine J_ift rfl ?_ | refine J_iff rfl ?_ | (refine J_if xR ?_ ?_ <;> intro _ <;> (try (exfalso; first | contradiction | omega))) | (refine J_ifb xR ?_ ?_ <;> (intro hgb; subst hgb)) | (refine J_ifb xR ?_ ?_ <;> intro _) | fail)) | refine J_label ?_ | refine J_draw (id := 1) [0, 1, 2, 3, 4, 5, 6, 7] [8, 9] mixed xC xD xD ?_ | fail)) | ((with_reducible apply gL); (first | refine JL_nil ?_ | refine L_assign ?_ | ((with_reducible apply gL_box); (first | (refine JL_mc rfl xR xR (al_boxA xR) ?_; intro _) | (refine JL_mc rfl xR xR (al_boxC xR xR) ?_; intro _) | fail)) | fail)) | ((with_reducible apply gD); (first | (refine JD_nil ?_; try simp only [List.cons_append, List.nil_append]) | (refine JD_bar ?_; try simp only [List.cons_append, List.nil_append]) | ((with_reducible apply gD_lookup); (first | (refine JD_p rfl xR rfl (pe_lookGK mi_t xR xR h3 (look_t th p.n)) ?_) | fail)) | refine D_assign ?_ | refine D_fieldAddr ?_ | refine D_load ?_ | refine D_nilCheck ?_ | refine D_bin_leq ?_ | ((with_reducible apply gD_load); (first | refine JD_ldM xR xT xC xR xR ?_ | refine JD_ldWM xR xT xW xR ?_ | refine JD_ldSM xR xT (tabS stab_ok xR) xG xC xR ?_ | fail)) | ((with_reducible apply gD_lookup); (first | refine JD_p rfl xR rfl (pe_lookup xR xR (tabM mtab_ok xR) xT (by first | apply hlook | apply hlook2 | rfl)) ?_ | refine JD_p rfl xR rfl (pe_lookupK xR xR (tabM mtab_ok xR) xH (by first | apply hlook | apply hlook2 | rfl)) ?_ | refine JD_lookM xR xR (tabM mtab_ok xR) xT (by first | apply hlook | apply hlook2 | rfl) xR ?_ | fail)) | fail)) | fail))
  exact J_ret1 rfl (by rfl) fun w H => ⟨_, ⟨rfl, rfl⟩, H.sel .nil⟩
def ageC (C : Ca) (t : Int) : Ca := ⟨C.keep, C.ask, t, live C.l t, C.w.filter (fun p => !decide (thenOf C.th p.1 ≤ t)), C.th.filter (fun p => !decide (p.2 ≤ t))⟩
theorem age_ok {C : Ca} (h : CaOk C) {t : Int} (ht : C.now ≤ t ∧ t ≤ 1099511627776) : CaOk (ageC C t) := by
  have h1 := live_len C.l t
  have h3 := h.ll
  refine ⟨h.keep, h.ask, ⟨by have := h.now.1; show 0 ≤ t; omega, ht.2⟩, h.l.live t, h.th.sub List.filter_sublist, ?_, ?_⟩
  · show (live C.l t).length ≤ 32
    omega
  · have := List.length_filter_le (fun p : Int × List Int => !decide (thenOf C.th p.1 ≤ t)) C.w
    have := h.wl
    show (C.w.filter (fun p => !decide (thenOf C.th p.1 ≤ t))).length ≤ 8
    omega
/- age_s, under way (does not build yet):
theorem age_s (cb : Nat) (C : Ca) (t : Int) (hC : CaOk C) (ht : C.now ≤ t ∧ t ≤ 1099511627776) : Pact Try.prog 23 #[.pointer (some ⟨cb, 0, none⟩), .int .i64 t] (fun _ => True) [caA cb C] (fun u L' => u = .tuple #[.int .i64 (C.w.filter (fun p => decide (thenOf C.th p.1 ≤ t))).length, .int .i64 0] ∧ L' = [caA cb (ageC C t)])
open the cache as in learn_s (hms, hPl, hpk := pick_s cb lb tb C.keep C.ask t ad wc P (by omega) 39); the walk with hms and drop_s reaches the call of pick; then rename_i xb nb v0 and
hpk [ptr xb, ptr nb] (fun n => decide (thenOf C.th n ≤ t)) (ageK xb nb cb tb t C.th) (by decide +kernel) (fun p => age1_s xb nb cb tb t C.th p) | exact fun w hr => ⟨hr.cell (by (first | ((with_reducible (repeat (first | exact Tk.here | apply Tk.there))); done) | ((simp only [List.cons_append, List.nil_append]); (with_reducible (repeat (first | exact Tk.here | apply Tk.there))); done) | fail)) rfl, hr.cell (by (first | ((with_reducible (repeat (first | exact Tk.here | apply Tk.there))); done) | ((simp only [List.cons_append, List.nil_append]); (with_reducible (repeat (first | exact Tk.here | apply Tk.there))); done) | fail)) rfl, hr.mq (by (first | ((with_reducible (repeat (first | exact Tk.here | apply Tk.there))); done) | ((simp only [List.cons_append, List.nil_append]); (with_reducible (repeat (first | exact Tk.here | apply Tk.there))); done) | fail))⟩ | ⟨oa, oc, rfl, rfl⟩
then the range over the then-map as in all_s (a list d of indices; what is collected: those of d whose time is <= t), then the loop that deletes as in drop_s (part). -/
end Go.Proofs.Ytohahlcjkhgimaa
