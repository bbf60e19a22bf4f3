/-
  The cache: is, may; all its addresses, in order.
-/
import Derived.Test.YtohahlcjkhgimaaAr2
namespace Go.Proofs.Ytohahlcjkhgimaa
set_option linter.unusedSimpArgs false
set_option linter.unusedVariables false
set_option maxRecDepth 20000
set_option maxHeartbeats 4000000
open Go.RowKit Go.Pm Go.Sort

theorem nd_len : ∀ (n : Nat) (l : List Nat), l.Nodup → (∀ i ∈ l, i < n) → l.length ≤ n
  | 0, l, _, h => by
    rcases l with _ | ⟨x, l⟩
    · exact Nat.le_refl _
    · have := h x (List.mem_cons_self ..); omega
  | n + 1, l, hn, h => by
    have h1 := nd_len n (l.erase n) (hn.erase n) (fun i hi => by
      have h2 := (List.Nodup.mem_erase_iff hn).1 hi
      have := h i h2.2
      have := h2.1
      omega)
    have h3 : l.length ≤ (l.erase n).length + 1 := by
      by_cases hm : n ∈ l
      · rw [List.length_erase_of_mem hm]; omega
      · rw [List.erase_of_not_mem hm]; omega
    omega
theorem nd_perm : ∀ (n : Nat) (l : List Nat), l.Nodup → (∀ i ∈ l, i < n) → (∀ i, i < n → i ∈ l) → l.Perm (List.range n)
  | 0, l, _, h, _ => by
    rcases l with _ | ⟨x, l⟩
    · exact .refl _
    · have := h x (List.mem_cons_self ..); omega
  | n + 1, l, hn, h, ha => by
    have h1 := nd_perm n (l.erase n) (hn.erase n) (fun i hi => by
      have h2 := (List.Nodup.mem_erase_iff hn).1 hi
      have := h i h2.2
      have := h2.1
      omega) (fun i hi => (List.Nodup.mem_erase_iff hn).2 ⟨by omega, ha i (by omega)⟩)
    rw [List.range_succ]
    exact (List.perm_cons_erase (ha n (by omega))).trans ((h1.cons n).trans (List.perm_append_comm (l₁ := [n]) (l₂ := List.range n)))
theorem nd_lt {n i : Nat} {l : List Nat} (hn : l.Nodup) (h : ∀ i ∈ l, i < n) (hi : i < n) (hm : i ∉ l) : l.length < n := by
  have := nd_len n (i :: l) (List.nodup_cons.2 ⟨hm, hn⟩) (fun j hj => by
    rcases List.mem_cons.1 hj with rfl | hj
    · exact hi
    · exact h j hj)
  rw [List.length_cons] at this
  omega
theorem nd_snoc {l : List Nat} {i : Nat} (hn : l.Nodup) (hm : i ∉ l) : (l ++ [i]).Nodup := List.nodup_append.2 ⟨hn, by simp, fun a ha b hb => by
  obtain rfl := List.mem_singleton.1 hb
  rintro rfl
  exact hm ha⟩
def keyAt {β : Type} (es : List (Int × β)) (i : Nat) : Int := ((es[i]?).map (·.1)).getD 0
theorem keyAt_perm {β : Type} {es : List (Int × β)} {l : List Nat} (hn : l.Nodup) (h : ∀ i ∈ l, i < es.length) (ha : ∀ i, i < es.length → i ∈ l) : (l.map (keyAt es)).Perm (es.map (·.1)) := by
  have h1 := (nd_perm es.length l hn h ha).map (keyAt es)
  have h2 : (List.range es.length).map (keyAt es) = es.map (·.1) := by
    apply List.ext_getElem (by simp)
    intro i h3 h4
    simp only [List.getElem_map, List.getElem_range, keyAt]
    rw [List.getElem?_eq_getElem (by simpa using h4)]
    rfl
  rwa [h2] at h1
/-- A cache's cells. -/
abbrev caC (keep ask now : Int) (lb tb : Nat) (ad : Option Addr) (n c : Nat) : List Value := [.int .i64 keep, .int .i64 ask, .int .i64 now, .map (some lb), .slice ad n c, .map (some tb)]
theorem is_s (cb lb tb : Nat) (keep ask now : Int) (ad : Option Addr) (n c : Nat) : Pact Try.prog 32 #[.pointer (some ⟨cb, 0, none⟩)] (fun _ => True) [pts cb (caC keep ask now lb tb ad n c) 69] (fun u L' => u = .bool true ∧ L' = [pts cb (caC keep ask now lb tb ad n c) 69]) := by
  refine pact Try.func32 rfl Try.ntmps32 rfl ?_
  intro W K _
  (repeat' (first | ((with_reducible apply gJ); (first | refine J_seq ?_ | refine J_reg ?_ | refine J_skip ?_ | refine J_block ?_ | refine J_blk ?_ | refine J_exit rfl ?_ | refine J_goto rfl ?_ | ((with_reducible apply gJ_if); (first | refine J_ift rfl ?_ | refine J_iff rfl ?_ | (refine J_if xR ?_ ?_ <;> intro _ <;> (try (exfalso; first | contradiction | omega))) | (refine J_ifb xR ?_ ?_ <;> (intro hgb; subst hgb)) | (refine J_ifb xR ?_ ?_ <;> intro _) | fail)) | refine J_label ?_ | fail)) | ((with_reducible apply gL); (first | refine JL_nil ?_ | ((with_reducible apply gL_gd); (first | refine JL_skip xR xR ?_ | fail)) | ((with_reducible apply gL_bin_neq); (first | (refine JL_p rfl xR xR (pe_neM xR xR xC) ?_) | fail)) | refine L_move ?_ | refine L_assign ?_ | refine L_fieldAddr ?_ | refine L_load ?_ | refine L_nilCheck ?_ | refine L_pick ?_ | refine L_bin_neq ?_ | ((with_reducible apply gL_gd); (first | (refine JL_guard xR xR ?_ ?_ <;> intro _ <;> (try (exfalso; first | contradiction | omega))) | (refine JL_guardb xR xR ?_ ?_ <;> (intro hgb; subst hgb)) | (refine JL_guardb xR xR ?_ ?_ <;> (intro hgb; fail_if_success (have : type_of% hgb := rfl))) | fail)) | fail)) | fail))
  exact J_ret1 rfl (by rfl) fun w H => ⟨_, ⟨rfl, rfl⟩, H.sel (by (first | ((with_reducible (repeat (first | exact Sb.nil | apply Sb.cons | exact Tk.here | apply Tk.there))); done) | (repeat (first | exact Sb.nil | apply Sb.cons | exact Tk.here | apply Tk.there))))⟩
abbrev vdC : List Value := [.int .i64 0, .int .i64 0, .int .i64 0, .map none, .slice none 0 0, .map none]
theorem isvoid_s (cb : Nat) : Pact Try.prog 32 #[.pointer (some ⟨cb, 0, none⟩)] (fun _ => True) [pts cb vdC 69] (fun u L' => u = .bool false ∧ L' = [pts cb vdC 69]) := by
  refine pact Try.func32 rfl Try.ntmps32 rfl ?_
  intro W K _
  (repeat' (first | ((with_reducible apply gJ); (first | refine J_seq ?_ | refine J_reg ?_ | refine J_skip ?_ | refine J_block ?_ | refine J_blk ?_ | refine J_exit rfl ?_ | refine J_goto rfl ?_ | ((with_reducible apply gJ_if); (first | refine J_ift rfl ?_ | refine J_iff rfl ?_ | (refine J_if xR ?_ ?_ <;> intro _ <;> (try (exfalso; first | contradiction | omega))) | (refine J_ifb xR ?_ ?_ <;> (intro hgb; subst hgb)) | (refine J_ifb xR ?_ ?_ <;> intro _) | fail)) | refine J_label ?_ | fail)) | ((with_reducible apply gL); (first | refine JL_nil ?_ | ((with_reducible apply gL_gd); (first | refine JL_skip xR xR ?_ | fail)) | ((with_reducible apply gL_bin_neq); (first | (refine JL_p rfl xR xR (pe_neM xR xR xC) ?_) | fail)) | refine L_move ?_ | refine L_assign ?_ | refine L_fieldAddr ?_ | refine L_load ?_ | refine L_nilCheck ?_ | refine L_pick ?_ | refine L_bin_neq ?_ | ((with_reducible apply gL_gd); (first | (refine JL_guard xR xR ?_ ?_ <;> intro _ <;> (try (exfalso; first | contradiction | omega))) | (refine JL_guardb xR xR ?_ ?_ <;> (intro hgb; subst hgb)) | (refine JL_guardb xR xR ?_ ?_ <;> (intro hgb; fail_if_success (have : type_of% hgb := rfl))) | fail)) | fail)) | fail))
  exact J_ret1 rfl (by rfl) fun w H => ⟨_, ⟨rfl, rfl⟩, H.sel (by (first | ((with_reducible (repeat (first | exact Sb.nil | apply Sb.cons | exact Tk.here | apply Tk.there))); done) | (repeat (first | exact Sb.nil | apply Sb.cons | exact Tk.here | apply Tk.there))))⟩
theorem isnil_s : Pact Try.prog 32 #[.pointer none] (fun _ => True) [] (ret0 (.bool false)) := by
  refine pact Try.func32 rfl Try.ntmps32 rfl ?_
  intro W K _
  (repeat' (first | ((with_reducible apply gJ); (first | refine J_seq ?_ | refine J_reg ?_ | refine J_skip ?_ | refine J_block ?_ | refine J_blk ?_ | refine J_exit rfl ?_ | refine J_goto rfl ?_ | ((with_reducible apply gJ_if); (first | refine J_ift rfl ?_ | refine J_iff rfl ?_ | (refine J_if xR ?_ ?_ <;> intro _ <;> (try (exfalso; first | contradiction | omega))) | (refine J_ifb xR ?_ ?_ <;> (intro hgb; subst hgb)) | (refine J_ifb xR ?_ ?_ <;> intro _) | fail)) | refine J_label ?_ | fail)) | ((with_reducible apply gL); (first | refine JL_nil ?_ | ((with_reducible apply gL_gd); (first | refine JL_skip xR xR ?_ | fail)) | refine L_move ?_ | refine L_assign ?_ | refine L_fieldAddr ?_ | refine L_load ?_ | refine L_nilCheck ?_ | refine L_pick ?_ | refine L_bin_neq ?_ | ((with_reducible apply gL_gd); (first | (refine JL_guard xR xR ?_ ?_ <;> intro _ <;> (try (exfalso; first | contradiction | omega))) | (refine JL_guardb xR xR ?_ ?_ <;> (intro hgb; subst hgb)) | (refine JL_guardb xR xR ?_ ?_ <;> (intro hgb; fail_if_success (have : type_of% hgb := rfl))) | fail)) | fail)) | fail))
  exact J_ret1 rfl (by rfl) fun w H => ⟨_, ⟨rfl, rfl⟩, H.sel .nil⟩
def mayE (now t : Int) : Int := if t < now ∨ 1099511627776 < t then 2 else 0
theorem may_s (cb lb tb : Nat) (keep ask now t : Int) (ad : Option Addr) (n c : Nat) : Pact Try.prog 27 #[.pointer (some ⟨cb, 0, none⟩), .int .i64 t] (fun _ => True) [pts cb (caC keep ask now lb tb ad n c) 69] (fun u L' => u = .int .i64 (mayE now t) ∧ L' = [pts cb (caC keep ask now lb tb ad n c) 69]) := by
  refine pact Try.func27 rfl Try.ntmps27 rfl ?_
  intro W K _
  (repeat' (first | ((with_reducible apply gJ); (first | refine J_seq ?_ | refine J_reg ?_ | refine J_skip ?_ | refine J_block ?_ | refine J_blk ?_ | refine J_exit rfl ?_ | refine J_goto rfl ?_ | ((with_reducible apply gJ_if); (first | refine J_ift rfl ?_ | refine J_iff rfl ?_ | (refine J_if xR ?_ ?_ <;> intro _ <;> (try (exfalso; first | contradiction | omega))) | (refine J_ifb xR ?_ ?_ <;> (intro hgb; subst hgb)) | (refine J_ifb xR ?_ ?_ <;> intro _) | fail)) | refine J_label ?_ | fail)) | ((with_reducible apply gL); (first | refine JL_nil ?_ | ((with_reducible apply gL_gd); (first | refine JL_skip xR xR ?_ | fail)) | refine L_move ?_ | refine L_assign ?_ | refine L_fieldAddr ?_ | refine L_load ?_ | refine L_nilCheck ?_ | refine L_pick ?_ | refine L_un_not ?_ | refine L_bin_lss ?_ | refine L_bin_gtr ?_ | ((with_reducible apply gL_go); (first | (refine JL_goq (is_s cb lb tb keep ask now ad n c) (hφ := xF) (h := ?_); rintro _ _ ⟨rfl, rfl⟩; try simp only [List.cons_append, List.nil_append]) | fail)) | ((with_reducible apply gL_gd); (first | (refine JL_guard xR xR ?_ ?_ <;> intro _ <;> (try (exfalso; first | contradiction | omega))) | (refine JL_guardb xR xR ?_ ?_ <;> (intro hgb; subst hgb)) | (refine JL_guardb xR xR ?_ ?_ <;> (intro hgb; fail_if_success (have : type_of% hgb := rfl))) | fail)) | fail)) | fail))
  all_goals (refine J_ret1 rfl (by rfl) fun w H => ⟨_, ⟨congrArg (Value.int .i64) ?_, rfl⟩, H.sel (by (first | ((with_reducible (repeat (first | exact Sb.nil | apply Sb.cons | exact Tk.here | apply Tk.there))); done) | (repeat (first | exact Sb.nil | apply Sb.cons | exact Tk.here | apply Tk.there))))⟩; unfold mayE; (repeat' split) <;> omega)
theorem mayvoid_s (cb : Nat) (t : Int) : Pact Try.prog 27 #[.pointer (some ⟨cb, 0, none⟩), .int .i64 t] (fun _ => True) [pts cb vdC 69] (fun u L' => u = .int .i64 1 ∧ L' = [pts cb vdC 69]) := by
  refine pact Try.func27 rfl Try.ntmps27 rfl ?_
  intro W K _
  (repeat' (first | ((with_reducible apply gJ); (first | refine J_seq ?_ | refine J_reg ?_ | refine J_skip ?_ | refine J_block ?_ | refine J_blk ?_ | refine J_exit rfl ?_ | refine J_goto rfl ?_ | ((with_reducible apply gJ_if); (first | refine J_ift rfl ?_ | refine J_iff rfl ?_ | (refine J_if xR ?_ ?_ <;> intro _ <;> (try (exfalso; first | contradiction | omega))) | (refine J_ifb xR ?_ ?_ <;> (intro hgb; subst hgb)) | (refine J_ifb xR ?_ ?_ <;> intro _) | fail)) | refine J_label ?_ | fail)) | ((with_reducible apply gL); (first | refine JL_nil ?_ | ((with_reducible apply gL_gd); (first | refine JL_skip xR xR ?_ | fail)) | refine L_move ?_ | refine L_assign ?_ | refine L_fieldAddr ?_ | refine L_load ?_ | refine L_nilCheck ?_ | refine L_pick ?_ | refine L_un_not ?_ | refine L_bin_lss ?_ | refine L_bin_gtr ?_ | ((with_reducible apply gL_go); (first | (refine JL_goq (isvoid_s cb) (hφ := xF) (h := ?_); rintro _ _ ⟨rfl, rfl⟩; try simp only [List.cons_append, List.nil_append]) | fail)) | ((with_reducible apply gL_gd); (first | (refine JL_guard xR xR ?_ ?_ <;> intro _ <;> (try (exfalso; first | contradiction | omega))) | (refine JL_guardb xR xR ?_ ?_ <;> (intro hgb; subst hgb)) | (refine JL_guardb xR xR ?_ ?_ <;> (intro hgb; fail_if_success (have : type_of% hgb := rfl))) | fail)) | fail)) | fail))
  exact J_ret1 rfl (by rfl) fun w H => ⟨_, ⟨rfl, rfl⟩, H.sel (by (first | ((with_reducible (repeat (first | exact Sb.nil | apply Sb.cons | exact Tk.here | apply Tk.there))); done) | (repeat (first | exact Sb.nil | apply Sb.cons | exact Tk.here | apply Tk.there))))⟩
theorem maynil_s (t : Int) : Pact Try.prog 27 #[.pointer none, .int .i64 t] (fun _ => True) [] (ret0 (.int .i64 1)) := by
  refine pact Try.func27 rfl Try.ntmps27 rfl ?_
  intro W K _
  (repeat' (first | ((with_reducible apply gJ); (first | refine J_seq ?_ | refine J_reg ?_ | refine J_skip ?_ | refine J_block ?_ | refine J_blk ?_ | refine J_exit rfl ?_ | refine J_goto rfl ?_ | ((with_reducible apply gJ_if); (first | refine J_ift rfl ?_ | refine J_iff rfl ?_ | (refine J_if xR ?_ ?_ <;> intro _ <;> (try (exfalso; first | contradiction | omega))) | (refine J_ifb xR ?_ ?_ <;> (intro hgb; subst hgb)) | (refine J_ifb xR ?_ ?_ <;> intro _) | fail)) | refine J_label ?_ | fail)) | ((with_reducible apply gL); (first | refine JL_nil ?_ | ((with_reducible apply gL_gd); (first | refine JL_skip xR xR ?_ | fail)) | refine L_move ?_ | refine L_assign ?_ | refine L_fieldAddr ?_ | refine L_load ?_ | refine L_nilCheck ?_ | refine L_pick ?_ | refine L_un_not ?_ | refine L_bin_lss ?_ | refine L_bin_gtr ?_ | ((with_reducible apply gL_go); (first | (refine JL_goq (isnil_s) (hφ := xF) (h := ?_); rintro _ _ ⟨rfl, rfl⟩; try simp only [List.cons_append, List.nil_append]) | fail)) | ((with_reducible apply gL_gd); (first | (refine JL_guard xR xR ?_ ?_ <;> intro _ <;> (try (exfalso; first | contradiction | omega))) | (refine JL_guardb xR xR ?_ ?_ <;> (intro hgb; subst hgb)) | (refine JL_guardb xR xR ?_ ?_ <;> (intro hgb; fail_if_success (have : type_of% hgb := rfl))) | fail)) | fail)) | fail))
  exact J_ret1 rfl (by rfl) fun w H => ⟨_, ⟨rfl, rfl⟩, H.sel .nil⟩
structure Ld where
  d : List Nat
  ad : Option Addr
  c : Nat
theorem all_s (cb lb : Nat) (es : Kl) (hes : es.length ≤ 1000000) : Pact Try.prog 29 #[.pointer (some ⟨cb, 0, none⟩)] (fun w => w.cell? ⟨cb, 3, none⟩ = some (.map (some lb))) [mqA lb (lV es)] (fun u L' => ∃ a2 c2, u = .slice a2 es.length c2 ∧ L' = [mqA lb (lV es), Ar 24 1 adC (.slice a2 es.length c2) (srt es (es.map (·.1)))]) := by
  refine pact Try.func29 rfl Try.ntmps29 rfl ?_
  intro W K hK
  have h1 : Kn K (fun w => w.cell? ⟨cb, 3, none⟩ = some (.map (some lb))) := hK
  have hlen : (lV es).length = es.length := by simp [lV]
  (repeat' (first | ((with_reducible apply gJ); (first | refine J_seq ?_ | refine J_reg ?_ | refine J_skip ?_ | refine J_block ?_ | refine J_blk ?_ | refine J_exit rfl ?_ | refine J_goto rfl ?_ | ((with_reducible apply gJ_if); (first | refine J_ift rfl ?_ | refine J_iff rfl ?_ | (refine J_if xR ?_ ?_ <;> intro _ <;> (try (exfalso; first | contradiction | omega))) | (refine J_ifb xR ?_ ?_ <;> (intro hgb; subst hgb)) | (refine J_ifb xR ?_ ?_ <;> intro _) | fail)) | refine J_label ?_ | fail)) | ((with_reducible apply gL); (first | refine JL_nil ?_ | ((with_reducible apply gL_range); (first | (refine JL_range (Value.int .u32) Try.underlying65 xR xA xR xR ?_; intro r) | fail)) | refine L_move ?_ | refine L_assign ?_ | refine L_fieldAddr ?_ | refine L_load ?_ | refine L_nilCheck ?_ | refine L_extract ?_ | refine L_makeFunc ?_ | ((with_reducible apply gL_box); (first | (refine JL_mc rfl xR xR (al_boxA xR) ?_; intro _) | (refine JL_mc rfl xR xR (al_boxC xR xR) ?_; intro _) | fail)) | ((with_reducible apply gL_buildSlice); (first | (refine JL_mc rfl xR xR (al_bs1 xR (tabE etab_ok xR) xK) ?_; intro _) | (refine JL_mc rfl xR xR (al_bs xR (tabE etab_ok xR) xN xK) ?_; intro _) | fail)) | ((with_reducible apply gL_c_append); (first | (refine JL_ap1 (tabE etab_ok xR) xR xR xT xT xC xR xL xR xO xR xR ?_; intro _ _ _ _) | (refine JL_app (tabE etab_ok xR) xR xR xT xV xC xL xU xO xR xR ?_; intro _ _ _ _) | fail)) | fail)) | fail))
  rename_i xb
  refine J_loop (α := Ld) ⟨[], none, 0⟩ (fun x => es.length - x.d.length) (fun x => x.d.Nodup ∧ ∀ i ∈ x.d, i < es.length) (fun x => [(1, .pointer (some ⟨xb, 0, none⟩)), (3, .slice x.ad x.d.length x.c), (9, .pointer (some ⟨r, 0, none⟩))]) (fun x => [rg (Value.int .u32) lb r (lV es) x.d, Ar 24 1 adC (.slice x.ad x.d.length x.c) (x.d.map (keyAt es)), pts xb [.pointer (some ⟨cb, 0, none⟩)] 28]) ⟨.nil, by simp⟩ ⟨rfl, rfl, rfl, trivial⟩ (fun w H => (Ow.arNil (e := 24) (sz := 1) (enc := adC) H).sel (by (first | ((with_reducible (repeat (first | exact Sb.nil | apply Sb.cons | exact Tk.here | apply Tk.there))); done) | (repeat (first | exact Sb.nil | apply Sb.cons | exact Tk.here | apply Tk.there))))) ?_
  rintro ⟨d, a2, c2⟩ ⟨hnd, hd⟩
  dsimp only at hnd hd ⊢
  have hdl := nd_len _ _ hnd hd
  (repeat' (first | ((with_reducible apply gJ); (first | refine J_seq ?_ | refine J_reg ?_ | refine J_skip ?_ | refine J_block ?_ | refine J_blk ?_ | refine J_exit rfl ?_ | refine J_goto rfl ?_ | ((with_reducible apply gJ_if); (first | refine J_ift rfl ?_ | refine J_iff rfl ?_ | (refine J_if xR ?_ ?_ <;> intro _ <;> (try (exfalso; first | contradiction | omega))) | (refine J_ifb xR ?_ ?_ <;> (intro hgb; subst hgb)) | (refine J_ifb xR ?_ ?_ <;> intro _) | fail)) | refine J_label ?_ | fail)) | ((with_reducible apply gL); (first | refine JL_nil ?_ | ((with_reducible apply gL_next); (first | (refine JL_next (Value.int .u32) xR xA xR xR ?_ ?_) | fail)) | refine L_move ?_ | refine L_assign ?_ | refine L_fieldAddr ?_ | refine L_load ?_ | refine L_nilCheck ?_ | refine L_extract ?_ | refine L_makeFunc ?_ | ((with_reducible apply gL_box); (first | (refine JL_mc rfl xR xR (al_boxA xR) ?_; intro _) | (refine JL_mc rfl xR xR (al_boxC xR xR) ?_; intro _) | fail)) | ((with_reducible apply gL_buildSlice); (first | (refine JL_mc rfl xR xR (al_bs1 xR (tabE etab_ok xR) xK) ?_; intro _) | (refine JL_mc rfl xR xR (al_bs xR (tabE etab_ok xR) xN xK) ?_; intro _) | fail)) | ((with_reducible apply gL_c_append); (first | (refine JL_ap1 (tabE etab_ok xR) xR xR xT xT xC xR xL xR xO xR xR ?_; intro _ _ _ _) | (refine JL_app (tabE etab_ok xR) xR xR xT xV xC xL xU xO xR xR ?_; intro _ _ _ _) | fail)) | fail)) | fail))
  · intro hall
    rw [hlen] at hall
    have hdn : d.length = es.length := by
      have h1 := (nd_perm es.length d hnd hd hall).length_eq
      simpa using h1
    refine JL_heap (fun w H => Ow.rgOver H .here) ?_
    (repeat' (first | ((with_reducible apply gJ); (first | refine J_seq ?_ | refine J_reg ?_ | refine J_skip ?_ | refine J_block ?_ | refine J_blk ?_ | refine J_exit rfl ?_ | refine J_goto rfl ?_ | ((with_reducible apply gJ_if); (first | refine J_ift rfl ?_ | refine J_iff rfl ?_ | (refine J_if xR ?_ ?_ <;> intro _ <;> (try (exfalso; first | contradiction | omega))) | (refine J_ifb xR ?_ ?_ <;> (intro hgb; subst hgb)) | (refine J_ifb xR ?_ ?_ <;> intro _) | fail)) | refine J_label ?_ | fail)) | ((with_reducible apply gL); (first | refine JL_nil ?_ | refine L_move ?_ | refine L_assign ?_ | refine L_fieldAddr ?_ | refine L_load ?_ | refine L_nilCheck ?_ | refine L_extract ?_ | refine L_makeFunc ?_ | ((with_reducible apply gL_box); (first | (refine JL_mc rfl xR xR (al_boxA xR) ?_; intro _) | (refine JL_mc rfl xR xR (al_boxC xR xR) ?_; intro _) | fail)) | ((with_reducible apply gL_buildSlice); (first | (refine JL_mc rfl xR xR (al_bs1 xR (tabE etab_ok xR) xK) ?_; intro _) | (refine JL_mc rfl xR xR (al_bs xR (tabE etab_ok xR) xN xK) ?_; intro _) | fail)) | ((with_reducible apply gL_c_append); (first | (refine JL_ap1 (tabE etab_ok xR) xR xR xT xT xC xR xL xR xO xR xR ?_; intro _ _ _ _) | (refine JL_app (tabE etab_ok xR) xR xR xT xV xC xL xU xO xR xR ?_; intro _ _ _ _) | fail)) | ((with_reducible apply gL_go); (first | (refine JL_goq (sort_e xb cb lb es a2 c2 d.length (d.map (keyAt es)) (by simp) (by omega)) (hφ := (by (try simp only [List.cons_append, List.nil_append]); exact fun w hr => ⟨hr.cell (by (first | ((with_reducible (repeat (first | exact Tk.here | apply Tk.there))); done) | ((simp only [List.cons_append, List.nil_append]); (with_reducible (repeat (first | exact Tk.here | apply Tk.there))); done) | fail)) rfl, hK w hr.1, hr.mq (by (first | ((with_reducible (repeat (first | exact Tk.here | apply Tk.there))); done) | ((simp only [List.cons_append, List.nil_append]); (with_reducible (repeat (first | exact Tk.here | apply Tk.there))); done) | fail))⟩)) (h := ?_); rintro _ _ ⟨rfl, rfl⟩; try simp only [List.cons_append, List.nil_append]) | fail)) | fail)) | fail))
    rw [hdn, srt_perm (keyAt_perm hnd hd hall)]
    exact J_ret1 rfl (by rfl) fun w H => ⟨_, ⟨a2, c2, rfl, rfl⟩, H.sel (by (first | ((with_reducible (repeat (first | exact Sb.nil | apply Sb.cons | exact Tk.here | apply Tk.there))); done) | (repeat (first | exact Sb.nil | apply Sb.cons | exact Tk.here | apply Tk.there))))⟩
  · intro i p hp hi
    obtain ⟨q, hq⟩ : ∃ q, es[i]? = some q := by
      rcases h : es[i]? with _ | q
      · unfold lV at hp; rw [List.getElem?_map, h] at hp; cases hp
      · exact ⟨q, rfl⟩
    have hpq : p.1 = q.1 := by unfold lV at hp; rw [List.getElem?_map, hq] at hp; cases hp; rfl
    have hil : i < es.length := (List.getElem?_eq_some_iff.1 hq).1
    have hlt := nd_lt hnd hd hil hi
    (repeat' (first | ((with_reducible apply gJ); (first | refine J_seq ?_ | refine J_reg ?_ | refine J_skip ?_ | refine J_block ?_ | refine J_blk ?_ | refine J_exit rfl ?_ | refine J_goto rfl ?_ | ((with_reducible apply gJ_if); (first | refine J_ift rfl ?_ | refine J_iff rfl ?_ | (refine J_if xR ?_ ?_ <;> intro _ <;> (try (exfalso; first | contradiction | omega))) | (refine J_ifb xR ?_ ?_ <;> (intro hgb; subst hgb)) | (refine J_ifb xR ?_ ?_ <;> intro _) | fail)) | refine J_label ?_ | fail)) | ((with_reducible apply gL); (first | refine JL_nil ?_ | ((with_reducible apply gL_entry); (first | (refine JL_p rfl xR xR (pe_entry xR xA hp) ?_) | fail)) | ((with_reducible apply gL_c_append); (first | (refine JL_ap1 (z := p.1) (tabE etab_ok xR) xR xR xA xA xC xR xL xR (by simp; omega) xR xR ?_; intro a3 c3 _ _) | fail)) | refine L_move ?_ | refine L_assign ?_ | refine L_fieldAddr ?_ | refine L_load ?_ | refine L_nilCheck ?_ | refine L_extract ?_ | refine L_makeFunc ?_ | ((with_reducible apply gL_box); (first | (refine JL_mc rfl xR xR (al_boxA xR) ?_; intro _) | (refine JL_mc rfl xR xR (al_boxC xR xR) ?_; intro _) | fail)) | ((with_reducible apply gL_buildSlice); (first | (refine JL_mc rfl xR xR (al_bs1 xR (tabE etab_ok xR) xK) ?_; intro _) | (refine JL_mc rfl xR xR (al_bs xR (tabE etab_ok xR) xN xK) ?_; intro _) | fail)) | ((with_reducible apply gL_c_append); (first | (refine JL_ap1 (tabE etab_ok xR) xR xR xT xT xC xR xL xR xO xR xR ?_; intro _ _ _ _) | (refine JL_app (tabE etab_ok xR) xR xR xT xV xC xL xU xO xR xR ?_; intro _ _ _ _) | fail)) | fail)) | fail))
    refine J_again ⟨d ++ [i], a3, c3⟩ (by simp; omega) ⟨nd_snoc hnd hi, fun j hj => ?_⟩ ⟨rfl, ?_, rfl, trivial⟩ (fun w H => ?_)
    · rcases List.mem_append.1 hj with hj | hj
      · exact hd j hj
      · obtain rfl := List.mem_singleton.1 hj; exact hil
    · show some _ = some _
      simp
    · dsimp only
      have e : (d ++ [i]).map (keyAt es) = d.map (keyAt es) ++ [p.1] := by
        rw [List.map_append, hpq]
        simp [keyAt, hq]
      rw [e]
      simp only [List.length_append, List.length_cons, List.length_nil, List.length_map] at H ⊢
      exact H.sel (by (first | ((with_reducible (repeat (first | exact Sb.nil | apply Sb.cons | exact Tk.here | apply Tk.there))); done) | (repeat (first | exact Sb.nil | apply Sb.cons | exact Tk.here | apply Tk.there))))
end Go.Proofs.Ytohahlcjkhgimaa
