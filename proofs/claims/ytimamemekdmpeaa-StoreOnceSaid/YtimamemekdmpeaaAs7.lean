/-
  What the library does with bytes: Grow of nil, Concat of parts.
-/
import Derived.Test.YtimamemekdmpeaaAs6
import Derived.WalkSpells
import Derived.WalkLawsBesides
import Derived.BigRegion
namespace Go.Proofs.Ytimamemekdmpeaa
set_option linter.unusedSimpArgs false
set_option linter.unusedVariables false
set_option maxRecDepth 20000
set_option maxHeartbeats 4000000
open Go.RowKit Go.Pm

theorem bytesEl : El Try.prog 67 5 1 1 := El.mk' (z := .int .u8 0) Try.underlying67 (by kernel_rfl) rfl (by omega) (by omega)

theorem OwnB.empty {e : TypeId} {w : World} {base g cap : Nat} {cur : Array Value} (h : Blk w g cur e) (hb : base ≤ g) (hs : cur.size = cap) (hm : cap ≤ maxLen) : OwnB e w base (.slice (some ⟨g, 0, none⟩) 0 cap) [] :=
  ⟨rfl, .inr ⟨g, cap, cur, rfl, hb, h, Nat.zero_le _, hm, by omega, rfl⟩⟩

theorem Lib.run_eql_slice_nil {P : Program} (w : World) (t e : TypeId) (a : Option Addr) (l c : Nat) (h : P.underlying t = some (.slice e)) : (binOp .eql t (.slice a l c) (.slice none 0 0)).run P w = .ok (.bool a.isNone) w := by
  simp [binOp, Sem.run_bind, run_equal_slice_nil w t e a l c h]

theorem grow_nil (n : Nat) (w : World) (hn : n ≤ 140737488355328) :
    Calls Try.prog 58 #[.slice none 0 0, .int .i64 n] w (FreshB 5 w []) := by
  obtain ⟨i, z, hi, hz, hsz, hby, hzs⟩ := bytesEl.inf
  have hm : n ≤ 9223372036854775807 := by omega
  by_cases h0 : n = 0
  · subst h0
    go_enter Try.func58, Try.ntmps58
    go_wp2
    go_ret
    exact ⟨_, rfl, OwnB.nil _ _ _, Only.refl _ _⟩
  · have hpos : 0 < n := by omega
    have HR := Lib.hid (Lib.run_append_nil_zeros (P := Try.prog) w 67 3 67 5 i z .i64 .i64 Try.underlying67 Try.underlying3 hi hz n hpos (by omega) (by omega) (by rw [hby]; omega))
    have HC1 := Lib.hid (grownCap_ge w n 0 5)
    have HC2 := Lib.hid (grownCap_le_maxLen w n 0 5 (by unfold maxLen; omega))
    generalize z.cells = zc at *
    have HZ := Lib.hid hzs
    generalize grownCap w n 0 5 = c at *
    have hc : n ≤ c := HC1.out
    have hc2 : c ≤ 9223372036854775807 := by have := HC2.out; unfold maxLen at this; omega
    go_enter Try.func58, Try.ntmps58
    go_wp2_with (at_builtin; refine Lib.wpList_append_run _ rfl _ _ _ _ rfl _ _ rfl rfl _ _ HR.out ?_)
    go_ret
    refine ⟨_, rfl, OwnB.empty (Blk.new w.drew _ _) (Nat.le_refl _) ?_ HC2.out, ((Only.refl _ _).drew).alloc _⟩
    rw [Array.size_append, size_zeroCells, size_zeroCells, HZ.out]; omega

def SlR (l : List Int) (u : Value) (L' : List HP) : Prop := ∃ a c, u = .slice a l.length c ∧ L' = [Ar 5 1 byC (.slice a l.length c) l]
theorem ar_bytes (v : Value) (l : List Int) : SlB 5 v l = Ar 5 1 byC v l := by
  unfold SlB Ar
  rw [flat_byC]
theorem grow_s (n : Nat) (hn : n ≤ 140737488355328) : Pact Try.prog 58 #[.slice none 0 0, .int .i64 n] (fun _ => True) [] (SlR []) := fun W K w hK H =>
  (grow_nil n w hn).mono fun e w' h => by
    obtain ⟨v, rfl, ho, hO⟩ := h
    obtain ⟨a, c, rfl, h1, h2⟩ := ho.vw.shape
    have H2 := H.freshB hO ho
    rw [ar_bytes] at H2
    exact ⟨_, _, ⟨a, c, rfl, rfl⟩, rfl, H2⟩
/-- Bytes somewhere. -/
structure Bs where
  a : Option Addr
  c : Nat
  l : List Int
def bsC (s : Bs) : List Value := [.slice s.a s.l.length s.c]
def bsV (w : World) (s : Bs) : Prop := Vw w (.slice s.a s.l.length s.c) 1 s.l.length (flat byC s.l)
structure PartsV (w : World) (a : Option Addr) (c : Nat) (p : List Bs) : Prop where
  vw : Vw w (.slice a p.length c) 1 p.length (flat bsC p)
  parts : ∀ s ∈ p, bsV w s
def catB (p : List Bs) : List Int := p.flatMap (·.l)
theorem catB_snoc (p : List Bs) (s : Bs) : catB (p ++ [s]) = catB p ++ s.l := by simp [catB]
theorem catB_take {p : List Bs} {k : Nat} {s : Bs} (h : p[k]? = some s) : catB (p.take (k + 1)) = catB (p.take k) ++ s.l := by rw [take_snoc h, catB_snoc]
theorem catB_le (p : List Bs) (k : Nat) : (catB (p.take k)).length ≤ (catB p).length := by
  have : catB p = catB (p.take k) ++ catB (p.drop k) := by
    unfold catB
    rw [← List.flatMap_append, List.take_append_drop]
  rw [this, List.length_append]
  omega
structure Cc where
  i : Nat
  ad : Option Addr
  c : Nat
theorem concat_s (a : Option Addr) (c : Nat) (p : List Bs) (hp : p.length ≤ 1000) (hl : (catB p).length ≤ 1000000) : Pact Try.prog 53 #[.slice a p.length c] (fun w => PartsV w a c p) [] (SlR (catB p)) := by
  refine pact Try.func53 rfl Try.ntmps53 rfl ?_
  intro W K hK
  have hO : Kn K (fun w => Vw w (.slice a p.length c) 1 p.length (flat bsC p)) := hK.imp fun _ h => h.vw
  (repeat' (first | ((with_reducible apply gJ); (first | refine J_seq ?_ | refine J_reg ?_ | refine J_skip ?_ | refine J_block ?_ | refine J_blk ?_ | refine J_exit rfl ?_ | refine J_goto rfl ?_ | ((with_reducible apply gJ_if); (first | refine J_ift rfl ?_ | refine J_iff rfl ?_ | (refine J_if xR ?_ ?_ <;> intro _ <;> (try (exfalso; first | contradiction | omega))) | (refine J_ifb xR ?_ ?_ <;> (intro hgb; subst hgb)) | (refine J_ifb xR ?_ ?_ <;> intro _) | fail)) | refine J_label ?_ | fail)) | ((with_reducible apply gL); (first | refine JL_nil ?_ | refine L_move ?_ | refine L_assign ?_ | refine L_load ?_ | refine L_indexAddr ?_ | refine L_c_len ?_ | refine L_bin_lss ?_ | refine L_bin_add_i64 ?_ | refine L_bin_add_r ?_ | ((with_reducible apply gL_c_append); (first | (refine JL_ap1 (tabE etab_ok xR) xR xR xT xT xC xR xL xR xO xR xR ?_; intro _ _ _ _) | (refine JL_app (tabE etab_ok xR) xR xR xT xV xC xL xU xO xR xR ?_; intro _ _ _ _) | fail)) | fail)) | fail))
  refine J_loop (α := Nat) 0 (fun x => p.length - x) (fun x => x ≤ p.length) (fun x => [(0, .slice a p.length c), (9, .slice a p.length c), (10, .int .i64 p.length), (11, .int .i64 x), (3, .int .i64 (catB (p.take x)).length)]) (fun _ => []) (Nat.zero_le _) ⟨rfl, rfl, rfl, rfl, rfl, trivial⟩ (fun w H => H.sel .nil) ?_
  intro k hk
  have hkl := catB_le p k
  obtain ⟨N, hN⟩ : ∃ N, (catB (p.take k)).length = N := ⟨_, rfl⟩
  rw [hN] at hkl ⊢
  by_cases hlt : k < p.length
  · obtain ⟨s, hs⟩ : ∃ s, p[k]? = some s := ⟨_, List.getElem?_eq_getElem hlt⟩
    have h1 := catB_le p (k + 1)
    rw [catB_take hs, List.length_append, hN] at h1
    (repeat' (first | ((with_reducible apply gJ); (first | refine J_seq ?_ | refine J_reg ?_ | refine J_skip ?_ | refine J_block ?_ | refine J_blk ?_ | refine J_exit rfl ?_ | refine J_goto rfl ?_ | ((with_reducible apply gJ_if); (first | refine J_ift rfl ?_ | refine J_iff rfl ?_ | (refine J_if xR ?_ ?_ <;> intro _ <;> (try (exfalso; first | contradiction | omega))) | (refine J_ifb xR ?_ ?_ <;> (intro hgb; subst hgb)) | (refine J_ifb xR ?_ ?_ <;> intro _) | fail)) | refine J_label ?_ | fail)) | ((with_reducible apply gL); (first | refine JL_nil ?_ | refine L_move ?_ | refine L_assign ?_ | refine L_load ?_ | refine L_indexAddr ?_ | refine L_c_len ?_ | refine L_bin_lss ?_ | refine L_bin_add_i64 ?_ | refine L_bin_add_r ?_ | ((with_reducible apply gL_c_append); (first | (refine JL_ap1 (tabE etab_ok xR) xR xR xT xT xC xR xL xR xO xR xR ?_; intro _ _ _ _) | (refine JL_app (tabE etab_ok xR) xR xR xT xV xC xL xU xO xR xR ?_; intro _ _ _ _) | fail)) | fail)) | fail))
    refine J_again (k + 1) (by omega) (by omega) ⟨rfl, rfl, rfl, rfl, ?_, trivial⟩ (fun w H => H.sel .nil)
    rw [catB_take hs, List.length_append, hN]
    show some _ = some _
    simp
  · have hke : k = p.length := by omega
    subst hke
    rw [List.take_length] at hN
    (repeat' (first | ((with_reducible apply gJ); (first | refine J_seq ?_ | refine J_reg ?_ | refine J_skip ?_ | refine J_block ?_ | refine J_blk ?_ | refine J_exit rfl ?_ | refine J_goto rfl ?_ | ((with_reducible apply gJ_if); (first | refine J_ift rfl ?_ | refine J_iff rfl ?_ | (refine J_if xR ?_ ?_ <;> intro _ <;> (try (exfalso; first | contradiction | omega))) | (refine J_ifb xR ?_ ?_ <;> (intro hgb; subst hgb)) | (refine J_ifb xR ?_ ?_ <;> intro _) | fail)) | refine J_label ?_ | fail)) | ((with_reducible apply gL); (first | refine JL_nil ?_ | refine L_move ?_ | refine L_assign ?_ | refine L_load ?_ | refine L_indexAddr ?_ | refine L_c_len ?_ | refine L_bin_lss ?_ | refine L_bin_add_i64 ?_ | refine L_bin_add_r ?_ | ((with_reducible apply gL_c_append); (first | (refine JL_ap1 (tabE etab_ok xR) xR xR xT xT xC xR xL xR xO xR xR ?_; intro _ _ _ _) | (refine JL_app (tabE etab_ok xR) xR xR xT xV xC xL xU xO xR xR ?_; intro _ _ _ _) | fail)) | ((with_reducible apply gL_go); (first | (refine JL_goq (grow_s N (by omega)) (hφ := xF) (h := ?_); rintro _ _ ⟨ga, gc, rfl, rfl⟩; try simp only [List.cons_append, List.nil_append]) | fail)) | fail)) | fail))
    refine J_loop (α := Cc) ⟨0, ga, gc⟩ (fun x => p.length - x.i) (fun x => x.i ≤ p.length) (fun x => [(25, .slice a p.length c), (26, .int .i64 p.length), (27, .int .i64 x.i), (6, .slice x.ad (catB (p.take x.i)).length x.c)]) (fun x => [Ar 5 1 byC (.slice x.ad (catB (p.take x.i)).length x.c) (catB (p.take x.i))]) (Nat.zero_le _) ⟨rfl, rfl, rfl, rfl, trivial⟩ (fun w H => H.sel (by (first | ((with_reducible (repeat (first | exact Sb.nil | apply Sb.cons | exact Tk.here | apply Tk.there))); done) | (repeat (first | exact Sb.nil | apply Sb.cons | exact Tk.here | apply Tk.there))))) ?_
    rintro ⟨k, ad, cc⟩ hk
    dsimp only at hk ⊢
    have hkl := catB_le p k
    by_cases hlt : k < p.length
    · obtain ⟨s, hs⟩ : ∃ s, p[k]? = some s := ⟨_, List.getElem?_eq_getElem hlt⟩
      have h1 := catB_le p (k + 1)
      have h2 := catB_take hs
      rw [h2, List.length_append] at h1
      have hu : Kn K (fun w => Vw w (.slice s.a s.l.length s.c) 1 s.l.length (flat byC s.l)) := hK.imp fun _ h => h.parts s (List.mem_of_getElem? hs)
      (repeat' (first | ((with_reducible apply gJ); (first | refine J_seq ?_ | refine J_reg ?_ | refine J_skip ?_ | refine J_block ?_ | refine J_blk ?_ | refine J_exit rfl ?_ | refine J_goto rfl ?_ | ((with_reducible apply gJ_if); (first | refine J_ift rfl ?_ | refine J_iff rfl ?_ | (refine J_if xR ?_ ?_ <;> intro _ <;> (try (exfalso; first | contradiction | omega))) | (refine J_ifb xR ?_ ?_ <;> (intro hgb; subst hgb)) | (refine J_ifb xR ?_ ?_ <;> intro _) | fail)) | refine J_label ?_ | fail)) | ((with_reducible apply gL); (first | refine JL_nil ?_ | ((with_reducible apply gL_c_append); (first | (refine JL_app (fs := s.l) (tabE etab_ok xR) xR xR xA (Src.kn hu) xC xL xU (by omega) xR xR ?_; intro ad2 cc2 _ _) | fail)) | refine L_move ?_ | refine L_assign ?_ | refine L_load ?_ | refine L_indexAddr ?_ | refine L_c_len ?_ | refine L_bin_lss ?_ | refine L_bin_add_i64 ?_ | refine L_bin_add_r ?_ | ((with_reducible apply gL_c_append); (first | (refine JL_ap1 (tabE etab_ok xR) xR xR xT xT xC xR xL xR xO xR xR ?_; intro _ _ _ _) | (refine JL_app (tabE etab_ok xR) xR xR xT xV xC xL xU xO xR xR ?_; intro _ _ _ _) | fail)) | fail)) | fail))
      refine J_again ⟨k + 1, ad2, cc2⟩ (by dsimp only; omega) (by dsimp only; omega) ⟨rfl, rfl, rfl, ?_, trivial⟩ (fun w H => ?_)
      · dsimp only
        rw [h2, List.length_append]
        rfl
      · dsimp only
        rw [h2, List.length_append]
        exact H.sel (by (first | ((with_reducible (repeat (first | exact Sb.nil | apply Sb.cons | exact Tk.here | apply Tk.there))); done) | (repeat (first | exact Sb.nil | apply Sb.cons | exact Tk.here | apply Tk.there))))
    · have hke : k = p.length := by omega
      subst hke
      rw [List.take_length]
      (repeat' (first | ((with_reducible apply gJ); (first | refine J_seq ?_ | refine J_reg ?_ | refine J_skip ?_ | refine J_block ?_ | refine J_blk ?_ | refine J_exit rfl ?_ | refine J_goto rfl ?_ | ((with_reducible apply gJ_if); (first | refine J_ift rfl ?_ | refine J_iff rfl ?_ | (refine J_if xR ?_ ?_ <;> intro _ <;> (try (exfalso; first | contradiction | omega))) | (refine J_ifb xR ?_ ?_ <;> (intro hgb; subst hgb)) | (refine J_ifb xR ?_ ?_ <;> intro _) | fail)) | refine J_label ?_ | fail)) | ((with_reducible apply gL); (first | refine JL_nil ?_ | refine L_move ?_ | refine L_assign ?_ | refine L_load ?_ | refine L_indexAddr ?_ | refine L_c_len ?_ | refine L_bin_lss ?_ | refine L_bin_add_i64 ?_ | refine L_bin_add_r ?_ | ((with_reducible apply gL_c_append); (first | (refine JL_ap1 (tabE etab_ok xR) xR xR xT xT xC xR xL xR xO xR xR ?_; intro _ _ _ _) | (refine JL_app (tabE etab_ok xR) xR xR xT xV xC xL xU xO xR xR ?_; intro _ _ _ _) | fail)) | fail)) | fail))
      exact J_ret1 rfl (by rfl) fun w H => ⟨_, ⟨ad, cc, rfl, rfl⟩, H.sel (by (first | ((with_reducible (repeat (first | exact Sb.nil | apply Sb.cons | exact Tk.here | apply Tk.there))); done) | (repeat (first | exact Sb.nil | apply Sb.cons | exact Tk.here | apply Tk.there))))⟩
end Go.Proofs.Ytimamemekdmpeaa
