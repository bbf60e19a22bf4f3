/-
  What the library does with bytes: Grow of nil, Clone, Concat of two.
-/
import Derived.Test.YtfkmcjiajfaemaaDoorWProg
import Derived.Test.YtfkmcjiajfaemaaDoorJp
import Derived.WalkSpells
import Derived.WalkLawsBesides
import Derived.BigRegion
namespace Go.Proofs.YtfkmcjiajfaemaaDoor
set_option linter.unusedSimpArgs false
set_option linter.unusedVariables false
set_option maxRecDepth 20000
set_option maxHeartbeats 4000000
open Go.RowKit Go.Pm

theorem bytesEl : El Tryd.prog 22 5 1 1 := El.mk' (z := .int .u8 0) Tryd.underlying22 (by kernel_rfl) rfl (by omega) (by omega)

theorem OwnB.empty {e : TypeId} {w : World} {base g cap : Nat} {cur : Array Value} (h : Blk w g cur e) (hb : base ≤ g) (hs : cur.size = cap) (hm : cap ≤ maxLen) : OwnB e w base (.slice (some ⟨g, 0, none⟩) 0 cap) [] :=
  ⟨rfl, .inr ⟨g, cap, cur, rfl, hb, h, Nat.zero_le _, hm, by omega, rfl⟩⟩

theorem Lib.run_eql_slice_nil {P : Program} (w : World) (t e : TypeId) (a : Option Addr) (l c : Nat) (h : P.underlying t = some (.slice e)) : (binOp .eql t (.slice a l c) (.slice none 0 0)).run P w = .ok (.bool a.isNone) w := by
  simp [binOp, Sem.run_bind, run_equal_slice_nil w t e a l c h]

theorem grow_nil (n : Nat) (w : World) (hn : n ≤ 140737488355328) :
    Calls Tryd.prog 25 #[.slice none 0 0, .int .i64 n] w (FreshB 5 w []) := by
  obtain ⟨i, z, hi, hz, hsz, hby, hzs⟩ := bytesEl.inf
  have hm : n ≤ 9223372036854775807 := by omega
  by_cases h0 : n = 0
  · subst h0
    go_enter Tryd.func25, Tryd.ntmps25
    go_wp2
    go_ret
    exact ⟨_, rfl, OwnB.nil _ _ _, Only.refl _ _⟩
  · have hpos : 0 < n := by omega
    have HR := Lib.hid (Lib.run_append_nil_zeros (P := Tryd.prog) w 22 3 22 5 i z .i64 .i64 Tryd.underlying22 Tryd.underlying3 hi hz n hpos (by omega) (by omega) (by rw [hby]; omega))
    have HC1 := Lib.hid (grownCap_ge w n 0 5)
    have HC2 := Lib.hid (grownCap_le_maxLen w n 0 5 (by unfold maxLen; omega))
    generalize z.cells = zc at *
    have HZ := Lib.hid hzs
    generalize grownCap w n 0 5 = c at *
    have hc : n ≤ c := HC1.out
    have hc2 : c ≤ 9223372036854775807 := by have := HC2.out; unfold maxLen at this; omega
    go_enter Tryd.func25, Tryd.ntmps25
    go_wp2_with (at_builtin; refine Lib.wpList_append_run _ rfl _ _ _ _ rfl _ _ rfl rfl _ _ HR.out ?_)
    go_ret
    refine ⟨_, rfl, OwnB.empty (Blk.new w.drew _ _) (Nat.le_refl _) ?_ HC2.out, ((Only.refl _ _).drew).alloc _⟩
    rw [Array.size_append, size_zeroCells, size_zeroCells, HZ.out]; omega


def SlR (l : List Int) (u : Value) (L' : List HP) : Prop := ∃ a c, u = .slice a l.length c ∧ L' = [Ar 5 1 byC (.slice a l.length c) l]
theorem ar_bytes (v : Value) (l : List Int) : SlB 5 v l = Ar 5 1 byC v l := by
  unfold SlB Ar
  rw [flat_byC]
theorem grow_s (n : Nat) (hn : n ≤ 140737488355328) : Pact Tryd.prog 25 #[.slice none 0 0, .int .i64 n] (fun _ => True) [] (SlR []) := fun W K w hK H =>
  (grow_nil n w hn).mono fun e w' h => by
    obtain ⟨v, rfl, ho, hO⟩ := h
    obtain ⟨a, c, rfl, h1, h2⟩ := ho.vw.shape
    have H2 := H.freshB hO ho
    rw [ar_bytes] at H2
    exact ⟨_, _, ⟨a, c, rfl, rfl⟩, rfl, H2⟩
theorem clone_s (a : Option Addr) (c : Nat) (l : List Int) (hl : l.length ≤ 140737488355328) : Pact Tryd.prog 22 #[.slice a l.length c] (fun w => Vw w (.slice a l.length c) 1 l.length (flat byC l)) [] (SlR l) := by
  refine pact Tryd.func22 rfl Tryd.ntmps22 rfl ?_
  intro W K hK
  cases a with
  | none =>
    refine J_fact (φ := l = []) (fun w H => ?_) ?_
    · obtain ⟨a', c', he, _, _, _, h4, _⟩ := hK.of H
      cases he
      exact List.eq_nil_of_length_eq_zero (h4 rfl).1
    · rintro rfl
      (repeat' (first | ((with_reducible apply gJ); (first | refine J_seq ?_ | refine J_reg ?_ | refine J_skip ?_ | refine J_block ?_ | refine J_blk ?_ | refine J_exit rfl ?_ | refine J_goto rfl ?_ | ((with_reducible apply gJ_if); (first | refine J_ift rfl ?_ | refine J_iff rfl ?_ | (refine J_if xR ?_ ?_ <;> intro _ <;> (try (exfalso; first | contradiction | omega))) | (refine J_ifb xR ?_ ?_ <;> (intro hgb; subst hgb)) | (refine J_ifb xR ?_ ?_ <;> intro _) | fail)) | refine J_label ?_ | fail)) | ((with_reducible apply gL); (first | refine JL_nil ?_ | refine L_move ?_ | refine L_assign ?_ | refine L_bin_eql ?_ | ((with_reducible apply gL_buildSlice); (first | (refine JL_mc rfl xR xR (al_bs1 xR (tabE etab_ok xR) xK) ?_; intro _) | (refine JL_mc rfl xR xR (al_bs xR (tabE etab_ok xR) xN xK) ?_; intro _) | fail)) | ((with_reducible apply gL_c_append); (first | (refine JL_ap1 (tabE etab_ok xR) xR xR xT xT xC xR xL xR xO xR xR ?_; intro _ _ _ _) | (refine JL_app (tabE etab_ok xR) xR xR xT xV xC xL xU xO xR xR ?_; intro _ _ _ _) | fail)) | fail)) | fail))
      exact J_ret1 rfl (by rfl) fun w H => ⟨_, ⟨none, 0, rfl, rfl⟩, (Ow.arNil (e := 5) (sz := 1) (enc := byC) H).sel (by (first | ((with_reducible (repeat (first | exact Sb.nil | apply Sb.cons | exact Tk.here | apply Tk.there))); done) | (repeat (first | exact Sb.nil | apply Sb.cons | exact Tk.here | apply Tk.there))))⟩
  | some p =>
    (repeat' (first | ((with_reducible apply gJ); (first | refine J_seq ?_ | refine J_reg ?_ | refine J_skip ?_ | refine J_block ?_ | refine J_blk ?_ | refine J_exit rfl ?_ | refine J_goto rfl ?_ | ((with_reducible apply gJ_if); (first | refine J_ift rfl ?_ | refine J_iff rfl ?_ | (refine J_if xR ?_ ?_ <;> intro _ <;> (try (exfalso; first | contradiction | omega))) | (refine J_ifb xR ?_ ?_ <;> (intro hgb; subst hgb)) | (refine J_ifb xR ?_ ?_ <;> intro _) | fail)) | refine J_label ?_ | fail)) | ((with_reducible apply gL); (first | refine JL_nil ?_ | ((with_reducible apply gL_c_append); (first | (refine JL_appL byC (fs := l) (tabE etab_ok xR) xR xR xA (Src.kn hK) xC xL xU (by omega) xR xR ?_; intro ad c2 _ _) | fail)) | refine L_move ?_ | refine L_assign ?_ | refine L_bin_eql ?_ | ((with_reducible apply gL_buildSlice); (first | (refine JL_mc rfl xR xR (al_bs1 xR (tabE etab_ok xR) xK) ?_; intro _) | (refine JL_mc rfl xR xR (al_bs xR (tabE etab_ok xR) xN xK) ?_; intro _) | fail)) | ((with_reducible apply gL_c_append); (first | (refine JL_ap1 (tabE etab_ok xR) xR xR xT xT xC xR xL xR xO xR xR ?_; intro _ _ _ _) | (refine JL_app (tabE etab_ok xR) xR xR xT xV xC xL xU xO xR xR ?_; intro _ _ _ _) | fail)) | fail)) | fail))
    exact J_ret1 rfl (by rfl) fun w H => ⟨_, ⟨ad, c2, rfl, rfl⟩, H.sel (by (first | ((with_reducible (repeat (first | exact Sb.nil | apply Sb.cons | exact Tk.here | apply Tk.there))); done) | (repeat (first | exact Sb.nil | apply Sb.cons | exact Tk.here | apply Tk.there))))⟩
def slC (v : Value) : List Value := [v]
structure Cc where
  i : Nat
  xs : List Int
  ad : Option Addr
  c : Nat
theorem kn_cell {K : Hl} {g n c : Nat} {xs : List Value} (h : Kn K (fun w => Vw w (.slice (some ⟨g, 0, none⟩) n c) 1 n xs)) (j k : Nat) (v : Value) (hj : xs[j]? = some v) (hk : k = j) : Kn K (fun w => w.cell? ⟨g, k, none⟩ = some v) := h.imp fun w h => by
  subst hk
  obtain ⟨a', cap, he, _, _, _, _, h5⟩ := h
  have hne : xs ≠ [] := by rintro rfl; simp at hj
  obtain ⟨b, off, he2, hc⟩ := h5 hne
  cases he
  cases he2
  simpa using hc k v hj
theorem concat_s (g : Nat) (a b : Option Addr) (c d : Nat) (l m : List Int) (hl : l.length + m.length ≤ 1000000) : Pact Tryd.prog 21 #[.slice (some ⟨g, 0, none⟩) 2 2] (fun w => Vw w (.slice (some ⟨g, 0, none⟩) 2 2) 1 2 (flat slC [.slice a l.length c, .slice b m.length d]) ∧ Vw w (.slice a l.length c) 1 l.length (flat byC l) ∧ Vw w (.slice b m.length d) 1 m.length (flat byC m)) [] (SlR (l ++ m)) := by
  refine pact Tryd.func21 rfl Tryd.ntmps21 rfl ?_
  intro W K hK
  have hO := hK.left
  have hA := hK.right.left
  have hB := hK.right.right
  have c0 := kn_cell hO 0 (0 + 0 * 1) _ rfl (by omega)
  have c1 := kn_cell hO 1 (0 + 1 * 1) _ rfl (by omega)
  (repeat' (first | ((with_reducible apply gJ); (first | refine J_seq ?_ | refine J_reg ?_ | refine J_skip ?_ | refine J_block ?_ | refine J_blk ?_ | refine J_exit rfl ?_ | refine J_goto rfl ?_ | ((with_reducible apply gJ_if); (first | refine J_ift rfl ?_ | refine J_iff rfl ?_ | (refine J_if xR ?_ ?_ <;> intro _ <;> (try (exfalso; first | contradiction | omega))) | (refine J_ifb xR ?_ ?_ <;> (intro hgb; subst hgb)) | (refine J_ifb xR ?_ ?_ <;> intro _) | fail)) | refine J_label ?_ | fail)) | ((with_reducible apply gL); (first | refine JL_nil ?_ | refine L_move ?_ | refine L_assign ?_ | refine L_load ?_ | refine L_indexAddr ?_ | refine L_c_len ?_ | refine L_bin_lss ?_ | refine L_bin_add_i64 ?_ | refine L_bin_add_r ?_ | ((with_reducible apply gL_c_append); (first | (refine JL_ap1 (tabE etab_ok xR) xR xR xT xT xC xR xL xR xO xR xR ?_; intro _ _ _ _) | (refine JL_app (tabE etab_ok xR) xR xR xT xV xC xL xU xO xR xR ?_; intro _ _ _ _) | fail)) | fail)) | fail))
  refine J_loop (α := Nat × Nat) (0, 0) (fun x => 2 - x.1) (fun x => (x.1 = 0 ∧ x.2 = 0) ∨ (x.1 = 1 ∧ x.2 = l.length) ∨ (x.1 = 2 ∧ x.2 = l.length + m.length)) (fun x => [(0, .slice (some ⟨g, 0, none⟩) 2 2), (9, .slice (some ⟨g, 0, none⟩) 2 2), (10, .int .i64 2), (11, .int .i64 x.1), (3, .int .i64 x.2)]) (fun _ => []) (.inl ⟨rfl, rfl⟩) ⟨rfl, rfl, rfl, rfl, rfl, trivial⟩ (fun w H => H.sel .nil) ?_
  rintro ⟨i, s⟩ hi
  dsimp only at hi ⊢
  rcases hi with ⟨rfl, rfl⟩ | ⟨rfl, rfl⟩ | ⟨rfl, rfl⟩
  · (repeat' (first | ((with_reducible apply gJ); (first | refine J_seq ?_ | refine J_reg ?_ | refine J_skip ?_ | refine J_block ?_ | refine J_blk ?_ | refine J_exit rfl ?_ | refine J_goto rfl ?_ | ((with_reducible apply gJ_if); (first | refine J_ift rfl ?_ | refine J_iff rfl ?_ | (refine J_if xR ?_ ?_ <;> intro _ <;> (try (exfalso; first | contradiction | omega))) | (refine J_ifb xR ?_ ?_ <;> (intro hgb; subst hgb)) | (refine J_ifb xR ?_ ?_ <;> intro _) | fail)) | refine J_label ?_ | fail)) | ((with_reducible apply gL); (first | refine JL_nil ?_ | ((with_reducible apply gL_load); (first | refine JL_p rfl xR xR (pe_ldK xR c0 xC) ?_ | fail)) | refine L_move ?_ | refine L_assign ?_ | refine L_load ?_ | refine L_indexAddr ?_ | refine L_c_len ?_ | refine L_bin_lss ?_ | refine L_bin_add_i64 ?_ | refine L_bin_add_r ?_ | ((with_reducible apply gL_c_append); (first | (refine JL_ap1 (tabE etab_ok xR) xR xR xT xT xC xR xL xR xO xR xR ?_; intro _ _ _ _) | (refine JL_app (tabE etab_ok xR) xR xR xT xV xC xL xU xO xR xR ?_; intro _ _ _ _) | fail)) | fail)) | fail))
    exact J_again (1, l.length) (by dsimp only; omega) (.inr (.inl ⟨rfl, rfl⟩)) ⟨rfl, rfl, rfl, rfl, by simp; rfl, trivial⟩ (fun w H => H.sel .nil)
  · (repeat' (first | ((with_reducible apply gJ); (first | refine J_seq ?_ | refine J_reg ?_ | refine J_skip ?_ | refine J_block ?_ | refine J_blk ?_ | refine J_exit rfl ?_ | refine J_goto rfl ?_ | ((with_reducible apply gJ_if); (first | refine J_ift rfl ?_ | refine J_iff rfl ?_ | (refine J_if xR ?_ ?_ <;> intro _ <;> (try (exfalso; first | contradiction | omega))) | (refine J_ifb xR ?_ ?_ <;> (intro hgb; subst hgb)) | (refine J_ifb xR ?_ ?_ <;> intro _) | fail)) | refine J_label ?_ | fail)) | ((with_reducible apply gL); (first | refine JL_nil ?_ | ((with_reducible apply gL_load); (first | refine JL_p rfl xR xR (pe_ldK xR c1 xC) ?_ | fail)) | refine L_move ?_ | refine L_assign ?_ | refine L_load ?_ | refine L_indexAddr ?_ | refine L_c_len ?_ | refine L_bin_lss ?_ | refine L_bin_add_i64 ?_ | refine L_bin_add_r ?_ | ((with_reducible apply gL_c_append); (first | (refine JL_ap1 (tabE etab_ok xR) xR xR xT xT xC xR xL xR xO xR xR ?_; intro _ _ _ _) | (refine JL_app (tabE etab_ok xR) xR xR xT xV xC xL xU xO xR xR ?_; intro _ _ _ _) | fail)) | fail)) | fail))
    exact J_again (2, l.length + m.length) (by dsimp only; omega) (.inr (.inr ⟨rfl, rfl⟩)) ⟨rfl, rfl, rfl, rfl, by simp; rfl, trivial⟩ (fun w H => H.sel .nil)
  · (repeat' (first | ((with_reducible apply gJ); (first | refine J_seq ?_ | refine J_reg ?_ | refine J_skip ?_ | refine J_block ?_ | refine J_blk ?_ | refine J_exit rfl ?_ | refine J_goto rfl ?_ | ((with_reducible apply gJ_if); (first | refine J_ift rfl ?_ | refine J_iff rfl ?_ | (refine J_if xR ?_ ?_ <;> intro _ <;> (try (exfalso; first | contradiction | omega))) | (refine J_ifb xR ?_ ?_ <;> (intro hgb; subst hgb)) | (refine J_ifb xR ?_ ?_ <;> intro _) | fail)) | refine J_label ?_ | fail)) | ((with_reducible apply gL); (first | refine JL_nil ?_ | refine L_move ?_ | refine L_assign ?_ | refine L_load ?_ | refine L_indexAddr ?_ | refine L_c_len ?_ | refine L_bin_lss ?_ | refine L_bin_add_i64 ?_ | refine L_bin_add_r ?_ | ((with_reducible apply gL_c_append); (first | (refine JL_ap1 (tabE etab_ok xR) xR xR xT xT xC xR xL xR xO xR xR ?_; intro _ _ _ _) | (refine JL_app (tabE etab_ok xR) xR xR xT xV xC xL xU xO xR xR ?_; intro _ _ _ _) | fail)) | ((with_reducible apply gL_go); (first | (refine JL_goq (grow_s (l.length + m.length) (by omega)) (hφ := xF) (h := ?_); rintro _ _ ⟨ga, gc, rfl, rfl⟩; try simp only [List.cons_append, List.nil_append]) | fail)) | fail)) | fail))
    refine J_loop (α := Cc) ⟨0, [], ga, gc⟩ (fun x => 2 - x.i) (fun x => (x.i = 0 ∧ x.xs = []) ∨ (x.i = 1 ∧ x.xs = l) ∨ (x.i = 2 ∧ x.xs = l ++ m)) (fun x => [(25, .slice (some ⟨g, 0, none⟩) 2 2), (26, .int .i64 2), (27, .int .i64 x.i), (6, .slice x.ad x.xs.length x.c)]) (fun x => [Ar 5 1 byC (.slice x.ad x.xs.length x.c) x.xs]) (.inl ⟨rfl, rfl⟩) ⟨rfl, rfl, rfl, rfl, trivial⟩ (fun w H => H.sel (by (first | ((with_reducible (repeat (first | exact Sb.nil | apply Sb.cons | exact Tk.here | apply Tk.there))); done) | (repeat (first | exact Sb.nil | apply Sb.cons | exact Tk.here | apply Tk.there))))) ?_
    rintro ⟨i, xs, ad, cc⟩ hi
    dsimp only at hi ⊢
    rcases hi with ⟨rfl, rfl⟩ | ⟨rfl, rfl⟩ | ⟨rfl, rfl⟩
    · (repeat' (first | ((with_reducible apply gJ); (first | refine J_seq ?_ | refine J_reg ?_ | refine J_skip ?_ | refine J_block ?_ | refine J_blk ?_ | refine J_exit rfl ?_ | refine J_goto rfl ?_ | ((with_reducible apply gJ_if); (first | refine J_ift rfl ?_ | refine J_iff rfl ?_ | (refine J_if xR ?_ ?_ <;> intro _ <;> (try (exfalso; first | contradiction | omega))) | (refine J_ifb xR ?_ ?_ <;> (intro hgb; subst hgb)) | (refine J_ifb xR ?_ ?_ <;> intro _) | fail)) | refine J_label ?_ | fail)) | ((with_reducible apply gL); (first | refine JL_nil ?_ | ((with_reducible apply gL_load); (first | refine JL_p rfl xR xR (pe_ldK xR c0 xC) ?_ | fail)) | ((with_reducible apply gL_c_append); (first | (refine JL_app (fs := l) (tabE etab_ok xR) xR xR xA (Src.kn hA) xC xL xU (by simp; omega) xR xR ?_; intro ad2 cc2 _ _) | fail)) | refine L_move ?_ | refine L_assign ?_ | refine L_load ?_ | refine L_indexAddr ?_ | refine L_c_len ?_ | refine L_bin_lss ?_ | refine L_bin_add_i64 ?_ | refine L_bin_add_r ?_ | ((with_reducible apply gL_c_append); (first | (refine JL_ap1 (tabE etab_ok xR) xR xR xT xT xC xR xL xR xO xR xR ?_; intro _ _ _ _) | (refine JL_app (tabE etab_ok xR) xR xR xT xV xC xL xU xO xR xR ?_; intro _ _ _ _) | fail)) | fail)) | fail))
      exact J_again ⟨1, l, ad2, cc2⟩ (by dsimp only; omega) (.inr (.inl ⟨rfl, rfl⟩)) ⟨rfl, rfl, rfl, by simp; rfl, trivial⟩ (fun w H => by simp only [List.length_nil, Nat.zero_add, List.nil_append] at H; exact H.sel (by (first | ((with_reducible (repeat (first | exact Sb.nil | apply Sb.cons | exact Tk.here | apply Tk.there))); done) | (repeat (first | exact Sb.nil | apply Sb.cons | exact Tk.here | apply Tk.there)))))
    · (repeat' (first | ((with_reducible apply gJ); (first | refine J_seq ?_ | refine J_reg ?_ | refine J_skip ?_ | refine J_block ?_ | refine J_blk ?_ | refine J_exit rfl ?_ | refine J_goto rfl ?_ | ((with_reducible apply gJ_if); (first | refine J_ift rfl ?_ | refine J_iff rfl ?_ | (refine J_if xR ?_ ?_ <;> intro _ <;> (try (exfalso; first | contradiction | omega))) | (refine J_ifb xR ?_ ?_ <;> (intro hgb; subst hgb)) | (refine J_ifb xR ?_ ?_ <;> intro _) | fail)) | refine J_label ?_ | fail)) | ((with_reducible apply gL); (first | refine JL_nil ?_ | ((with_reducible apply gL_load); (first | refine JL_p rfl xR xR (pe_ldK xR c1 xC) ?_ | fail)) | ((with_reducible apply gL_c_append); (first | (refine JL_app (fs := m) (tabE etab_ok xR) xR xR xA (Src.kn hB) xC xL xU (by omega) xR xR ?_; intro ad2 cc2 _ _) | fail)) | refine L_move ?_ | refine L_assign ?_ | refine L_load ?_ | refine L_indexAddr ?_ | refine L_c_len ?_ | refine L_bin_lss ?_ | refine L_bin_add_i64 ?_ | refine L_bin_add_r ?_ | ((with_reducible apply gL_c_append); (first | (refine JL_ap1 (tabE etab_ok xR) xR xR xT xT xC xR xL xR xO xR xR ?_; intro _ _ _ _) | (refine JL_app (tabE etab_ok xR) xR xR xT xV xC xL xU xO xR xR ?_; intro _ _ _ _) | fail)) | fail)) | fail))
      exact J_again ⟨2, xs ++ m, ad2, cc2⟩ (by dsimp only; omega) (.inr (.inr ⟨rfl, rfl⟩)) ⟨rfl, rfl, rfl, by simp; rfl, trivial⟩ (fun w H => by dsimp only; rw [List.length_append]; exact H.sel (by (first | ((with_reducible (repeat (first | exact Sb.nil | apply Sb.cons | exact Tk.here | apply Tk.there))); done) | (repeat (first | exact Sb.nil | apply Sb.cons | exact Tk.here | apply Tk.there)))))
    · (repeat' (first | ((with_reducible apply gJ); (first | refine J_seq ?_ | refine J_reg ?_ | refine J_skip ?_ | refine J_block ?_ | refine J_blk ?_ | refine J_exit rfl ?_ | refine J_goto rfl ?_ | ((with_reducible apply gJ_if); (first | refine J_ift rfl ?_ | refine J_iff rfl ?_ | (refine J_if xR ?_ ?_ <;> intro _ <;> (try (exfalso; first | contradiction | omega))) | (refine J_ifb xR ?_ ?_ <;> (intro hgb; subst hgb)) | (refine J_ifb xR ?_ ?_ <;> intro _) | fail)) | refine J_label ?_ | fail)) | ((with_reducible apply gL); (first | refine JL_nil ?_ | refine L_move ?_ | refine L_assign ?_ | refine L_load ?_ | refine L_indexAddr ?_ | refine L_c_len ?_ | refine L_bin_lss ?_ | refine L_bin_add_i64 ?_ | refine L_bin_add_r ?_ | ((with_reducible apply gL_c_append); (first | (refine JL_ap1 (tabE etab_ok xR) xR xR xT xT xC xR xL xR xO xR xR ?_; intro _ _ _ _) | (refine JL_app (tabE etab_ok xR) xR xR xT xV xC xL xU xO xR xR ?_; intro _ _ _ _) | fail)) | fail)) | fail))
      exact J_ret1 rfl (by rfl) fun w H => ⟨_, ⟨ad, cc, rfl, rfl⟩, H.sel (by (first | ((with_reducible (repeat (first | exact Sb.nil | apply Sb.cons | exact Tk.here | apply Tk.there))); done) | (repeat (first | exact Sb.nil | apply Sb.cons | exact Tk.here | apply Tk.there))))⟩
def ret0 (v : Value) (u : Value) (L' : List HP) : Prop := u = v ∧ L' = []
theorem sameB_s (a b : Option Addr) (c d : Nat) (l m : List Int) (h : l = m) : Pact Tryd.prog 13 #[.slice a l.length c, .slice b m.length d] (fun w => Vw w (.slice a l.length c) 1 l.length (flat byC l) ∧ Vw w (.slice b m.length d) 1 m.length (flat byC m)) [] (ret0 (.bool true)) := by
  refine pact Tryd.func13 rfl Tryd.ntmps13 rfl ?_
  intro W K hK
  have hA := hK.left
  have hB := hK.right
  subst h
  (repeat' (first | ((with_reducible apply gJ); (first | refine J_seq ?_ | refine J_reg ?_ | refine J_skip ?_ | refine J_block ?_ | refine J_blk ?_ | refine J_exit rfl ?_ | refine J_goto rfl ?_ | ((with_reducible apply gJ_if); (first | refine J_ift rfl ?_ | refine J_iff rfl ?_ | (refine J_if xR ?_ ?_ <;> intro _ <;> (try (exfalso; first | contradiction | omega))) | (refine J_ifb xR ?_ ?_ <;> (intro hgb; subst hgb)) | (refine J_ifb xR ?_ ?_ <;> intro _) | fail)) | refine J_label ?_ | fail)) | ((with_reducible apply gL); (first | refine JL_nil ?_ | ((with_reducible apply gL_convert); (first | (first | refine JL_p rfl xR xR (pe_str xR xC xC (Src.kn hA)) ?_ | refine JL_p rfl xR xR (pe_str xR xC xC (Src.kn hB)) ?_) | fail)) | ((with_reducible apply gL_bin_eql); (first | refine JL_p rfl xR xR (pe_eqStr (c := true) xR xR xC (decide_eq_true rfl)) ?_ | fail)) | refine L_move ?_ | refine L_assign ?_ | refine L_bin_eql ?_ | refine L_convert_r ?_ | fail)) | fail))
  exact J_ret1 rfl (by rfl) fun w H => ⟨_, ⟨rfl, rfl⟩, H.sel .nil⟩
end Go.Proofs.YtfkmcjiajfaemaaDoor
