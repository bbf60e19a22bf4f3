/-
  Bytes: made anew, copied, cut.
-/
import Derived.Test.YtfkmcjiajfaemaaDoorNt2
import Derived.Laws.MakeOwn
namespace Go.Proofs.YtfkmcjiajfaemaaDoor
set_option linter.unusedSimpArgs false
set_option linter.unusedVariables false
set_option maxRecDepth 20000
set_option maxHeartbeats 4000000
open Go.RowKit Go.Pm

theorem made_zero (v : Value) (n : Nat) : madeCells #[v] n = (List.replicate n v).toArray := by
  apply Array.ext
  · simp [madeCells]
  · intro i h1 h2
    simp [madeCells, Nat.mod_one]
theorem al_mkB {od : Option Tmp} {tm : TM} {T : TypeId} {pos : String} {af : Array Edge} {gd : Option (Nat × Bool)} {x y : Operand} {n : Nat} (hx : evT tm x = some (.int .i64 n)) (hy : evT tm y = some (.int .i64 n)) (hn : n ≤ 1000000) : AL Tryd.prog ⟨od, .makeSlice 22 x y, T, pos, af, gd⟩ (tget tm) (.cells (flat byC (List.replicate n 0)).toArray 5 (0, 0)) (fun b => .slice (some ⟨b, 0, none⟩) n n) := fun ρ w ha => by
  have e1 := ha x (by simp [Op.operands]) _ hx
  have e2 := ha y (by simp [Op.operands]) _ hy
  obtain ⟨i, hi, hz, hsz, hb⟩ : ∃ i, Tryd.prog.info? 5 = some i ∧ i.zero = some (.int .u8 0) ∧ i.size = 1 ∧ i.bytes = 1 := ⟨_, rfl, rfl, rfl, rfl⟩
  have h := run_makeSlice (P := Tryd.prog) w 22 5 i (.int .u8 0) Tryd.underlying22 hi hz .i64 .i64 n n (by omega) (Int.le_refl _) (by rw [hsz]; simp; omega) (by rw [hb]; omega) (by omega)
  have h3 : (Value.int .u8 0).cells = #[.int .u8 0] := rfl
  rw [h3, hsz, Nat.mul_one, Int.toNat_natCast, made_zero] at h
  have h4 : (List.replicate n (Value.int .u8 0)) = flat byC (List.replicate n 0) := by
    unfold flat
    rw [List.flatMap_replicate]
    simp [byC]
  rw [h4] at h
  unfold execOp
  simp only [e1, e2]
  simp [Sem.run_bind, h]
theorem clone_o (a : Option Addr) (c n : Nat) (l : List Int) (hn : l.length = n) (hl : n ≤ 140737488355328) : Pact Tryd.prog 22 #[.slice a n c] (fun w => Vw w (.slice a n c) 1 n (flat byC l)) [] (fun u L' => ∃ a c, u = .slice a n c ∧ L' = [Ar 5 1 byC (.slice a n c) l]) := by
  subst hn
  exact clone_s a c l hl
theorem concat_o (g : Nat) (a b : Option Addr) (c d n1 n2 : Nat) (l m : List Int) (h1 : l.length = n1) (h2 : m.length = n2) (hl : n1 + n2 ≤ 1000000) : Pact Tryd.prog 21 #[.slice (some ⟨g, 0, none⟩) 2 2] (fun w => Vw w (.slice (some ⟨g, 0, none⟩) 2 2) 1 2 [.slice a n1 c, .slice b n2 d] ∧ Vw w (.slice a n1 c) 1 n1 (flat byC l) ∧ Vw w (.slice b n2 d) 1 n2 (flat byC m)) [] (fun u L' => ∃ a c, u = .slice a (n1 + n2) c ∧ L' = [Ar 5 1 byC (.slice a (n1 + n2) c) (l ++ m)]) := by
  subst h1 h2
  have h := concat_s g a b c d l m hl
  intro W K w hK H
  refine (h W K w hK H).mono fun e w' h3 => ?_
  obtain ⟨u, L', ⟨a', c', h4, h5⟩, h6⟩ := h3
  rw [List.length_append] at h4 h5
  exact ⟨u, L', ⟨a', c', h4, h5⟩, h6⟩
theorem bytes_s (a : Option Addr) (c n : Nat) (l : List Int) (hn : l.length = n) (hl : n ≤ 1000000) : Pact Tryd.prog 11 #[.slice a n c] (fun w => Vw w (.slice a n c) 1 n (flat byC l)) [] (fun u L' => ∃ a' c', u = .slice a' l.length c' ∧ L' = [Ar 5 1 byC (.slice a' l.length c') l]) := by
  subst hn
  refine pact Tryd.func11 rfl Tryd.ntmps11 rfl ?_
  intro W K hK
  (repeat' (first | ((with_reducible apply gJ); (first | refine J_seq ?_ | refine J_reg ?_ | refine J_skip ?_ | refine J_block ?_ | refine J_blk ?_ | refine J_exit rfl ?_ | refine J_goto rfl ?_ | ((with_reducible apply gJ_if); (first | refine J_ift rfl ?_ | refine J_iff rfl ?_ | (refine J_if xR ?_ ?_ <;> intro _ <;> (try (exfalso; first | contradiction | omega))) | (refine J_ifb xR ?_ ?_ <;> (intro hgb; subst hgb)) | (refine J_ifb xR ?_ ?_ <;> intro _) | fail)) | refine J_label ?_ | fail)) | ((with_reducible apply gL); (first | refine JL_nil ?_ | ((with_reducible apply gL_c_append); (first | (refine JL_appL byC (fs := l) (tabE etab_ok xR) xR xR xA (Src.kn hK) xC xL xU (by omega) xR xR ?_; intro ad1 c1 _ _) | fail)) | refine L_move ?_ | refine L_assign ?_ | ((with_reducible apply gL_buildSlice); (first | (refine JL_mc rfl xR xR (al_bs1 xR (tabE etab_ok xR) xK) ?_; intro _) | (refine JL_mc rfl xR xR (al_bs xR (tabE etab_ok xR) xN xK) ?_; intro _) | fail)) | ((with_reducible apply gL_c_append); (first | (refine JL_ap1 (tabE etab_ok xR) xR xR xT xT xC xR xL xR xO xR xR ?_; intro _ _ _ _) | (refine JL_app (tabE etab_ok xR) xR xR xT xV xC xL xU xO xR xR ?_; intro _ _ _ _) | fail)) | fail)) | fail))
  exact J_ret1 rfl (by rfl) fun w H => ⟨_, ⟨ad1, c1, rfl, rfl⟩, H.sel (by (first | ((with_reducible (repeat (first | exact Sb.nil | apply Sb.cons | exact Tk.here | apply Tk.there))); done) | (repeat (first | exact Sb.nil | apply Sb.cons | exact Tk.here | apply Tk.there))))⟩
theorem data_s (a : Option Addr) (c : Nat) (l : List Int) (hl : l.length ≤ c ∧ c ≤ 140737488355328) : Pact Tryd.prog 6 #[.slice a l.length c] (fun w => Vw w (.slice a l.length c) 1 l.length (flat byC l)) [] (fun u L' => ∃ (a' : Option Addr) (c' : Nat) (m : List Int), m.length ≤ 4076 ∧ u = .slice a' m.length c' ∧ L' = [Ar 5 1 byC (.slice a' m.length c') m]) := by
  refine pact Tryd.func6 rfl Tryd.ntmps6 rfl ?_
  intro W K hK
  by_cases hb : 4075 < l.length
  · obtain ⟨Z, hZ, hZl⟩ : ∃ Z, List.replicate 4076 (0 : Int) = Z ∧ Z.length = 4076 := ⟨_, rfl, List.length_replicate⟩
    (repeat' (first | ((with_reducible apply gJ); (first | refine J_seq ?_ | refine J_reg ?_ | refine J_skip ?_ | refine J_block ?_ | refine J_blk ?_ | refine J_exit rfl ?_ | refine J_goto rfl ?_ | ((with_reducible apply gJ_if); (first | refine J_ift rfl ?_ | refine J_iff rfl ?_ | (refine J_if xR ?_ ?_ <;> intro _ <;> (try (exfalso; first | contradiction | omega))) | (refine J_ifb xR ?_ ?_ <;> (intro hgb; subst hgb)) | (refine J_ifb xR ?_ ?_ <;> intro _) | fail)) | refine J_label ?_ | fail)) | ((with_reducible apply gL); (first | refine JL_nil ?_ | refine L_move ?_ | refine L_assign ?_ | refine L_c_len ?_ | refine L_bin_gtr ?_ | refine L_slice ?_ | refine L_c_min ?_ | fail)) | fail))
    refine JL_m rfl xR xR (al_mkB (n := 4076) xR xR (by decide)) (fun b => ?_)
    refine JL_heap (L' := [Ar 5 1 byC (.slice (some ⟨b, 0, none⟩) 4076 4076) Z]) (fun w H => ?_) ?_
    · have H2 : Ow W K [pts b (flat byC (List.replicate 4076 0)) 5] w := H
      rw [hZ] at H2
      have H3 := Ow.litB H2 .here (n := 4076) (flat_byC Z) hZl.symm (by decide)
      rw [ar_bytes] at H3
      exact H3
    (repeat' (first | ((with_reducible apply gJ); (first | refine J_seq ?_ | refine J_reg ?_ | refine J_skip ?_ | refine J_block ?_ | refine J_blk ?_ | refine J_exit rfl ?_ | refine J_goto rfl ?_ | ((with_reducible apply gJ_if); (first | refine J_ift rfl ?_ | refine J_iff rfl ?_ | (refine J_if xR ?_ ?_ <;> intro _ <;> (try (exfalso; first | contradiction | omega))) | (refine J_ifb xR ?_ ?_ <;> (intro hgb; subst hgb)) | (refine J_ifb xR ?_ ?_ <;> intro _) | fail)) | refine J_label ?_ | fail)) | ((with_reducible apply gL); (first | refine JL_nil ?_ | refine L_move ?_ | refine L_assign ?_ | refine L_c_len ?_ | refine L_bin_gtr ?_ | refine L_slice ?_ | refine L_c_min ?_ | fail)) | fail))
    exact J_ret1 rfl (by rfl) fun w H => ⟨_, ⟨some ⟨b, 0, none⟩, 4076, Z, by omega, by rw [hZl], rfl⟩, by rw [hZl]; exact H.sel (by (first | ((with_reducible (repeat (first | exact Sb.nil | apply Sb.cons | exact Tk.here | apply Tk.there))); done) | (repeat (first | exact Sb.nil | apply Sb.cons | exact Tk.here | apply Tk.there))))⟩
  · obtain ⟨N, hN⟩ : ∃ N : Nat, min (l.length : Int) 200 = N := ⟨min l.length 200, by omega⟩
    have hN2 : N ≤ l.length ∧ N ≤ 200 := by omega
    have hlt : (l.take N).length = N := by rw [List.length_take]; omega
    (repeat' (first | ((with_reducible apply gJ); (first | refine J_seq ?_ | refine J_reg ?_ | refine J_skip ?_ | refine J_block ?_ | refine J_blk ?_ | refine J_exit rfl ?_ | refine J_goto rfl ?_ | ((with_reducible apply gJ_if); (first | refine J_ift rfl ?_ | refine J_iff rfl ?_ | (refine J_if xR ?_ ?_ <;> intro _ <;> (try (exfalso; first | contradiction | omega))) | (refine J_ifb xR ?_ ?_ <;> (intro hgb; subst hgb)) | (refine J_ifb xR ?_ ?_ <;> intro _) | fail)) | refine J_label ?_ | fail)) | ((with_reducible apply gL); (first | refine JL_nil ?_ | refine L_move ?_ | refine L_assign ?_ | refine L_c_len ?_ | refine L_bin_gtr ?_ | refine L_slice ?_ | refine L_c_min ?_ | fail)) | fail))
    rw [hN]
    (repeat' (first | ((with_reducible apply gJ); (first | refine J_seq ?_ | refine J_reg ?_ | refine J_skip ?_ | refine J_block ?_ | refine J_blk ?_ | refine J_exit rfl ?_ | refine J_goto rfl ?_ | ((with_reducible apply gJ_if); (first | refine J_ift rfl ?_ | refine J_iff rfl ?_ | (refine J_if xR ?_ ?_ <;> intro _ <;> (try (exfalso; first | contradiction | omega))) | (refine J_ifb xR ?_ ?_ <;> (intro hgb; subst hgb)) | (refine J_ifb xR ?_ ?_ <;> intro _) | fail)) | refine J_label ?_ | fail)) | ((with_reducible apply gL); (first | refine JL_nil ?_ | refine L_move ?_ | refine L_assign ?_ | refine L_c_len ?_ | refine L_bin_gtr ?_ | refine L_slice ?_ | refine L_c_min ?_ | ((with_reducible apply gL_go); (first | (refine JL_goq (bytes_s a c N (l.take N) hlt (by omega)) (hφ := (by (try simp only [List.cons_append, List.nil_append]); exact fun w hr => Src.take (a := a) (c := c) (enc := byC) (es := l) (Src.kn (K := _) hK) (fun _ => rfl) rfl N (by omega) w hr)) (h := ?_); rintro _ _ ⟨a', c', rfl, rfl⟩; try simp only [List.cons_append, List.nil_append]) | fail)) | fail)) | fail))
    exact J_ret1 rfl (by rfl) fun w H => ⟨_, ⟨a', c', l.take N, by omega, rfl, rfl⟩, H.sel (by (first | ((with_reducible (repeat (first | exact Sb.nil | apply Sb.cons | exact Tk.here | apply Tk.there))); done) | (repeat (first | exact Sb.nil | apply Sb.cons | exact Tk.here | apply Tk.there))))⟩
end Go.Proofs.YtfkmcjiajfaemaaDoor
