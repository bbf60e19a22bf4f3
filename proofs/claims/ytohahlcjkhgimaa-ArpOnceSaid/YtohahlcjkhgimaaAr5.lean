/-
  Packets that wait: one goes; those of which something is so are picked.
-/
import Derived.Test.YtohahlcjkhgimaaAr4
import Derived.Test.YtohahlcjkhgimaaJ2
namespace Go.Proofs.Ytohahlcjkhgimaa
set_option linter.unusedSimpArgs false
set_option linter.unusedVariables false
set_option maxRecDepth 20000
set_option maxHeartbeats 4000000
open Go.RowKit Go.Pm Go.Sort

/-- A packet: its address, its bytes. -/
structure Pk where
  n : Int
  a : Option Addr
  c : Nat
  l : List Int
def pkC (p : Pk) : List Value := [.int .u32 p.n, .slice p.a p.l.length p.c]
def pkV (w : World) (p : Pk) : Prop := Vw w (.slice p.a p.l.length p.c) 1 p.l.length (flat byC p.l)
def pkZ : Pk := ⟨0, none, 0, []⟩
/-- Bytes somewhere. -/
structure Bs where
  a : Option Addr
  c : Nat
  l : List Int
def bsC (s : Bs) : List Value := [.slice s.a s.l.length s.c]
def Pk.bs (p : Pk) : Bs := ⟨p.a, p.c, p.l⟩
theorem delete_s (a : Option Addr) (c : Nat) (l : List Pk) (k : Nat) (hk : k < l.length) (hl : l.length ≤ 1000) : Pact Try.prog 46 #[.slice a l.length c, .int .i64 k, .int .i64 ((k : Int) + 1)] (fun _ => True) [Ar 81 2 pkC (.slice a l.length c) l] (fun u L' => u = .slice a (k + (l.length - (k + 1))) c ∧ L' = [Ar 81 2 pkC (.slice a (k + (l.length - (k + 1))) c) (l.eraseIdx k)]) := by
  refine pact Try.func46 rfl Try.ntmps46 rfl ?_
  intro W K _
  refine J_fact (φ := l.length ≤ c ∧ c ≤ maxLen) (fun w H => (H.arShape (by (first | ((with_reducible (repeat (first | exact Tk.here | apply Tk.there))); done) | ((simp only [List.cons_append, List.nil_append]); (with_reducible (repeat (first | exact Tk.here | apply Tk.there))); done) | fail))).2) ?_
  rintro ⟨hnc, hcm⟩
  unfold maxLen at hcm
  have hone : ∀ x, ∀ v ∈ pkC x, v.oneCell' = true := fun x v hv => by
    unfold pkC at hv
    simp only [List.mem_cons, List.not_mem_nil, or_false] at hv
    rcases hv with rfl | rfl <;> rfl
  have hlen : (l.take k ++ l.drop (k + 1) ++ l.drop (k + (l.length - (k + 1)))).length = l.length := by simp; omega
  (repeat' (first | ((with_reducible apply gJ); (first | refine J_seq ?_ | refine J_reg ?_ | refine J_skip ?_ | refine J_block ?_ | refine J_blk ?_ | refine J_exit rfl ?_ | refine J_goto rfl ?_ | ((with_reducible apply gJ_if); (first | refine J_ift rfl ?_ | refine J_iff rfl ?_ | (refine J_if xR ?_ ?_ <;> intro _ <;> (try (exfalso; first | contradiction | omega))) | (refine J_ifb xR ?_ ?_ <;> (intro hgb; subst hgb)) | (refine J_ifb xR ?_ ?_ <;> intro _) | fail)) | refine J_label ?_ | refine J_draw (id := 5) [0, 1, 2, 3, 4, 5] [6, 7] mixed xC xD xD ?_ | fail)) | ((with_reducible apply gL); (first | refine JL_nil ?_ | ((with_reducible apply gL_slice); (first | (refine JL_p rfl xR xR (pe_sl3 xR (tabE etab_ok xR) xR xR xR xI xI xI xO xO xO) ?_) | fail)) | ((with_reducible apply gL_c_clear); (first | (refine JL_clear pkZ (tabE etab_ok (by rfl)) (by rfl) (by with_reducible exact Tk.here) (by rfl) (by decide +kernel) (by decide +kernel) (by intro _; rfl) (by rw [hlen]; omega) (by rfl) ?_) | fail)) | refine L_move ?_ | refine L_assign ?_ | refine L_c_len ?_ | refine L_bin_eql ?_ | refine L_slice ?_ | fail)) | ((with_reducible apply gD); (first | (refine JD_nil ?_; try simp only [List.cons_append, List.nil_append]) | (refine JD_bar ?_; try simp only [List.cons_append, List.nil_append]) | ((with_reducible apply gD_slice); (first | (refine JL_p rfl xR xR (pe_sl3 xR (tabE etab_ok xR) xR xR xR xI xI xI xO xO xO) ?_) | fail)) | ((with_reducible apply gD_c_append); (first | (refine JD_appTail (i := k) (j := k + 1) (m := l.length) (tabE etab_ok xR) xC xR xR xA (by intro _; rfl) hone (by omega) (by omega) (by omega) xR ?_) | fail)) | refine D_move ?_ | refine D_assign ?_ | refine D_slice ?_ | ((with_reducible apply gD_c_append); (first | (refine JD_ap1 (tabE etab_ok xR) xR xR xT xT xC xR xL xR xO xR ?_; intro _ _ _ _) | (refine JD_app (tabE etab_ok xR) xR xR xT xV xC xL xU xO xR ?_; intro _ _ _ _) | fail)) | fail)) | fail))
  refine J_ret1 rfl (by rfl) fun w H => ⟨_, ⟨rfl, rfl⟩, ?_⟩
  obtain ⟨q, hq⟩ : ∃ q, k + (l.length - (k + 1)) = q := ⟨_, rfl⟩
  have hql : (l.take k ++ l.drop (k + 1)).length = q := by rw [List.length_append, List.length_take, List.length_drop]; omega
  have e : ((l.take k ++ l.drop (k + 1) ++ l.drop q).take q ++ List.replicate (l.length - q) pkZ).take q = l.eraseIdx k := by
    rw [List.take_left' hql, List.take_left' hql, List.eraseIdx_eq_take_drop_succ]
  rw [hq] at H ⊢
  have H := H.arTake .here (by intro _; rfl) q (by rw [List.length_append, List.length_take, List.length_append]; omega)
  rw [e] at H
  exact H.sel (by (first | ((with_reducible (repeat (first | exact Sb.nil | apply Sb.cons | exact Tk.here | apply Tk.there))); done) | (repeat (first | exact Sb.nil | apply Sb.cons | exact Tk.here | apply Tk.there))))
theorem delete_e (a : Option Addr) (c m : Nat) (l : List Pk) (k : Nat) (hm : l.length = m) (hk : k < m) (hl : m ≤ 1000) : Pact Try.prog 46 #[.slice a m c, .int .i64 k, .int .i64 ((k : Int) + 1)] (fun _ => True) [Ar 81 2 pkC (.slice a m c) l] (fun u L' => u = .slice a (m - 1) c ∧ L' = [Ar 81 2 pkC (.slice a (m - 1) c) (l.eraseIdx k)]) := by
  subst hm
  have := delete_s a c l k hk hl
  rw [show k + (l.length - (k + 1)) = l.length - 1 by omega] at this
  exact this
end Go.Proofs.Ytohahlcjkhgimaa
