/-
  An address is found once it is learned, and till its time.
-/
import Derived.Test.YtohahlcjkhgimaaAr14
namespace Go.Proofs.Ytohahlcjkhgimaa
set_option linter.unusedSimpArgs false
set_option linter.unusedVariables false
set_option maxRecDepth 20000
set_option maxHeartbeats 4000000
open Go.RowKit Go.Pm Go.Sort

def amongF (x : Int) (n : Nat) : Nat := (x % 18446744073709551616 % (n : Int)).toNat
theorem amongF_lt (x : Int) {n : Nat} (h : 1 ≤ n) : amongF x n < n := by
  unfold amongF
  have h3 : 0 ≤ x % 18446744073709551616 % (n : Int) := Int.emod_nonneg _ (by omega)
  have h4 : x % 18446744073709551616 % (n : Int) < n := Int.emod_lt_of_pos _ (by omega)
  omega
theorem among_d (x : Int) (n : Nat) (h1 : 1 ≤ n) (h2 : n ≤ 140737488355328) (hx : I64 x) : Pact Try.prog 12 #[.int .i64 x, .int .i64 n] (fun _ => True) [] (ret0 (.int .i64 (amongF x n))) := by
  refine pact Try.func12 rfl Try.ntmps12 rfl ?_
  intro W K _
  unfold I64 at hx
  (repeat' (first | ((with_reducible apply gJ); (first | refine J_seq ?_ | refine J_reg ?_ | refine J_skip ?_ | refine J_block ?_ | refine J_blk ?_ | refine J_exit rfl ?_ | refine J_goto rfl ?_ | ((with_reducible apply gJ_if); (first | refine J_ift rfl ?_ | refine J_iff rfl ?_ | (refine J_if xR ?_ ?_ <;> intro _ <;> (try (exfalso; first | contradiction | omega))) | (refine J_ifb xR ?_ ?_ <;> (intro hgb; subst hgb)) | (refine J_ifb xR ?_ ?_ <;> intro _) | fail)) | refine J_label ?_ | fail)) | ((with_reducible apply gL); (first | refine JL_nil ?_ | refine L_move ?_ | refine L_assign ?_ | refine L_bin_lss ?_ | refine L_bin_rem ?_ | refine L_convert_i64 ?_ | refine L_convert_u64 ?_ | refine L_convert_r ?_ | fail)) | fail))
  have h3 : 0 ≤ x % 18446744073709551616 % (n : Int) := Int.emod_nonneg _ (by omega)
  have h4 : x % 18446744073709551616 % (n : Int) < n := Int.emod_lt_of_pos _ (by omega)
  refine J_ret1 rfl (by rfl) fun w H => ⟨_, ⟨?_, rfl⟩, H.sel .nil⟩
  unfold amongF
  rw [w_i64 (by omega) (by omega), Int.toNat_of_nonneg h3]
structure Ac where
  d : Int
  t : Int
  a : Int
  m : Mc
  ba : Option Addr
  bl : Nat
  bc : Nat
def acC (x : Ac) : List Value := [.int .i64 x.d, .int .i64 x.t, .int .u32 x.a, .int .u8 x.m.a, .int .u8 x.m.b, .int .u8 x.m.c, .int .u8 x.m.d, .int .u8 x.m.e, .int .u8 x.m.f, .slice x.ba x.bl x.bc]
theorem learn_keys {C : Ca} {a b t : Int} {m : Mc} (h : a ∉ C.l.map (·.1)) (hab : a ≠ b) : a ∉ (learnC C t b m).l.map (·.1) := by
  intro hm
  obtain ⟨p, hp, e⟩ := List.mem_map.1 hm
  have hp' : p ∈ fit (del (live C.l t) b) ++ [(b, (m, t + C.keep))] := hp
  rcases List.mem_append.1 hp' with h1 | h1
  · refine h (List.mem_map.2 ⟨p, ?_, e⟩)
    have h2 : p ∈ del (live C.l t) b := by
      unfold fit at h1
      split at h1
      · exact (List.mem_filter.1 h1).1
      · exact h1
    exact (List.mem_filter.1 (List.mem_filter.1 h2).1).1
  · obtain rfl := List.mem_singleton.1 h1
    exact hab e.symm
theorem find_no {C : Ca} {a : Int} (h : a ∉ C.l.map (·.1)) (t : Int) : findR C t a = (mc0, false) := by
  unfold findR
  rw [getO_none h]
theorem find_yes {C : Ca} (hC : CaOk C) (a t s : Int) (m : Mc) (ht : C.now ≤ t ∧ t ≤ 1099511627776) (hs : t ≤ s) : findR (learnC C t a m) s a = if s ≤ t + C.keep then (m, true) else (mc0, false) := by
  have h1 := (learn_ok (a := a) (m := m) hC ht).l
  have h2 : getO (learnC C t a m).l a = some (m, t + C.keep) := h1.get (List.mem_append_right _ (List.mem_singleton.2 rfl))
  unfold findR
  rw [h2]
  show (if max s t ≤ t + C.keep then _ else _) = _
  rw [Int.max_eq_left hs]
theorem find_n (cb : Nat) (C : Ca) (t a : Int) (h : a ∉ C.l.map (·.1)) : Pact Try.prog 14 #[.pointer (some ⟨cb, 0, none⟩), .int .i64 t, .int .u32 a] (fun _ => True) [caA cb C] (fun u L' => u = .tuple #[.agg (mcC mc0).toArray, .bool false] ∧ L' = [caA cb C]) := by
  have h1 := find_s cb C t a
  rw [find_no h] at h1
  exact h1
/-- The state behind some acts. -/
structure FsOk (a : Int) (i : Nat) (now : Int) (C : Ca) : Prop where
  ok : CaOk C
  keep : C.keep = 50
  le : C.now ≤ now
  lo : 0 ≤ now
  hi : now ≤ 20 * (i : Int)
  no : a ∉ C.l.map (·.1)
theorem FsOk.learn {a b : Int} {i : Nat} {now : Int} {C : Ca} {m : Mc} (h : FsOk a i now C) (hi : i ≤ 1000) (hab : a ≠ b) : FsOk a i now (learnC C now b m) where
  ok := learn_ok h.ok ⟨h.le, by have := h.hi; omega⟩
  keep := h.keep
  le := Int.le_refl _
  lo := h.lo
  hi := h.hi
  no := learn_keys h.no hab
theorem FsOk.later {a : Int} {i : Nat} {now : Int} {C : Ca} (h : FsOk a i now C) (g : Nat) (hg : g < 20) : FsOk a (i + 1) (now + g) C where
  ok := h.ok
  keep := h.keep
  le := by have := h.le; omega
  lo := by have := h.lo; omega
  hi := by have := h.hi; omega
  no := h.no
structure Fs where
  i : Nat
  now : Int
  C : Ca
end Go.Proofs.Ytohahlcjkhgimaa
