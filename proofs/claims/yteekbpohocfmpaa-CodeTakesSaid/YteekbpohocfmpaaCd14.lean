/-
  The document's put.
-/
import Derived.Test.YteekbpohocfmpaaCd13
namespace Go.Proofs.Yteekbpohocfmpaa
set_option linter.unusedSimpArgs false
set_option linter.unusedVariables false
set_option maxRecDepth 20000
set_option maxHeartbeats 4000000
open Go.RowKit Go.Pm

def leafS (x : Cd) (X Y : Int) : Sp := ⟨x.op, x.n, 0, x.pa, x.pl, X, Y⟩
/-- The steps of members, one behind the other. -/
def seqP (f : Nat → Cd → Int → Int → List Sp) (t : Cd → Nat) (sw : Bool) (X Y : Int) : Nat → List Cd → List Sp
  | _, [] => []
  | k, y :: r =>
    let nx : Int := if r = [] then (if sw then Y else X) else (k : Int) + t y
    let p := if sw then f k y X nx else f k y nx Y
    p ++ seqP f t sw X Y (k + p.length) r
def putG (f : Nat → Cd → Int → Int → List Sp) (t : Cd → Nat) (k : Nat) (x : Cd) (X Y : Int) : List Sp :=
  if x.op = 1 then seqP f t false X Y k x.l else if x.op = 2 then seqP f t true X Y k x.l else if x.op = 3 then (x.l.head?.elim [] fun y => f k y Y X) else [leafS x X Y]
/-- The steps of a condition. -/
def putL : Nat → Nat → Cd → Int → Int → List Sp
  | 0, k, x, X, Y => putG (fun _ _ _ _ => []) (fun _ => 0) k x X Y
  | d + 1, k, x, X, Y => putG (putL d) (tests d) k x X Y
theorem seqP_last {f : Nat → Cd → Int → Int → List Sp} {t : Cd → Nat} {X Y : Int} {T T2 : List Sp} {y : Cd} (sw : Bool) (h : T ++ (if sw then f T.length y X Y else f T.length y X Y) = T2) : T ++ seqP f t sw X Y T.length [y] = T2 := by
  cases sw <;> (simp only [seqP, Bool.false_eq_true, if_false, if_true, List.append_nil] at h ⊢; exact h)
theorem seqP_more {f : Nat → Cd → Int → Int → List Sp} {t : Cd → Nat} {X Y : Int} {T T2 : List Sp} {y : Cd} {r : List Cd} (sw : Bool) (hr : r ≠ []) (h : T ++ (if sw then f T.length y X ((T.length : Int) + t y) else f T.length y ((T.length : Int) + t y) Y) = T2) : T ++ seqP f t sw X Y T.length (y :: r) = T2 ++ seqP f t sw X Y T2.length r := by
  subst h
  rw [List.length_append, List.append_assoc]
  cases sw <;> simp only [seqP, Bool.false_eq_true, if_false, if_true, if_neg hr]
theorem drop_cons {α : Type} {l : List α} {k : Nat} {y : α} (h : l[k]? = some y) : l.drop k = y :: l.drop (k + 1) := by
  rw [← (List.getElem?_eq_some_iff.1 h).2, List.getElem_cons_drop]
structure Lp where
  i : Nat
  T : List Sp
  a : Option Addr
  c : Nat
def PutOk (F : FuncId) (y : Cd) (φ : World → Prop) (f : Nat → Int → Int → List Sp) (m : Nat) : Prop := ∀ (a : Option Addr) (c : Nat) (T : List Sp) (X Y : Int) (T2 : List Sp), T.length + m ≤ 500000000 → T ++ f T.length X Y = T2 → Pact Try.prog F #[.slice a T.length c, .agg (cdC y).toArray, .int .i64 X, .int .i64 Y] φ [Ar 38 7 spC (.slice a T.length c) T] (fun u L' => ∃ a' c', u = .slice a' T2.length c' ∧ L' = [Ar 38 7 spC (.slice a' T2.length c') T2])
theorem rput_core (x : Cd) (φ : Cd → World → Prop) (f : Nat → Cd → Int → Int → List Sp) (t : Cd → Nat) (m : Nat) (hx : CdN x) (hl : x.l.length ≤ 5) (h3 : x.op = 3 → x.l ≠ [])
    (hf : ∀ y ∈ x.l, ∀ k X Y, (f k y X Y).length ≤ m) (ht : ∀ y ∈ x.l, t y ≤ 3125)
    (hT : ∀ y ∈ x.l, Pact Try.prog 25 #[.agg (cdC y).toArray] (φ y) [] (ret0 (.int .i64 (t y))))
    (hP : ∀ y ∈ x.l, PutOk 34 y (φ y) (fun k X Y => f k y X Y) m) : PutOk 34 x (Kids φ x) (fun k X Y => putG f t k x X Y) (x.l.length * m + 1) := by
  intro a c T0 X Y T9 hb h9
  refine pact Try.func34 rfl Try.ntmps34 rfl ?_
  intro W K hK
  dsimp only at h9
  unfold putG at h9
  by_cases o1 : x.op = 1
  · rw [if_pos o1] at h9
    (repeat' (first | ((with_reducible apply gJ); (first | refine J_seq ?_ | refine J_reg ?_ | refine J_skip ?_ | refine J_block ?_ | refine J_blk ?_ | refine J_exit rfl ?_ | refine J_goto rfl ?_ | ((with_reducible apply gJ_if); (first | refine J_ift rfl ?_ | refine J_iff rfl ?_ | (refine J_if xR ?_ ?_ <;> intro _ <;> (try (exfalso; first | contradiction | omega))) | (refine J_ifb xR ?_ ?_ <;> (intro hgb; subst hgb)) | (refine J_ifb xR ?_ ?_ <;> intro _) | fail)) | refine J_label ?_ | fail)) | ((with_reducible apply gL); (first | refine JL_nil ?_ | refine L_move ?_ | refine L_assign ?_ | refine L_fieldAddr ?_ | refine L_load ?_ | refine L_indexAddr ?_ | refine L_build ?_ | refine L_c_len ?_ | refine L_bin_eql ?_ | refine L_bin_lss ?_ | refine L_bin_add_i64 ?_ | refine L_bin_add_r ?_ | refine L_bin_sub_i64 ?_ | refine L_bin_sub_r ?_ | ((with_reducible apply gL_box); (first | (refine JL_mc rfl xR xR (al_boxA xR) ?_; intro _) | (refine JL_mc rfl xR xR (al_boxC xR xR) ?_; intro _) | fail)) | ((with_reducible apply gL_buildSlice); (first | (refine JL_mc rfl xR xR (al_bs1 xR (tabE etab_ok xR) xK) ?_; intro _) | (refine JL_mc rfl xR xR (al_bs xR (tabE etab_ok xR) xN xK) ?_; intro _) | fail)) | ((with_reducible apply gL_c_append); (first | (refine JL_ap1 (tabE etab_ok xR) xR xR xT xT xC xR xL xR xO xR xR ?_; intro _ _ _ _) | (refine JL_app (tabE etab_ok xR) xR xR xT xV xC xL xU xO xR xR ?_; intro _ _ _ _) | fail)) | fail)) | fail))
    rename Nat => b1
    refine J_loop (α := Lp) ⟨0, T0, a, c⟩ (fun z => x.l.length - z.i) (fun z => z.i ≤ x.l.length ∧ z.T.length + ((x.l.length - z.i) * m + 1) ≤ 500000000 ∧ z.T ++ seqP f t false X Y z.T.length (x.l.drop z.i) = T9) (fun z => [(0, .slice z.a z.T.length z.c), (2, .int .i64 X), (3, .int .i64 Y), (5, .pointer (some ⟨b1, 0, none⟩)), (9, .int .i64 z.i)]) (fun z => [pts b1 (cdC x) 45, Ar 38 7 spC (.slice z.a z.T.length z.c) z.T]) ⟨Nat.zero_le _, hb, h9⟩ ⟨rfl, rfl, rfl, rfl, rfl, trivial⟩ (fun w H => H.sel (by (first | ((with_reducible (repeat (first | exact Sb.nil | apply Sb.cons | exact Tk.here | apply Tk.there))); done) | (repeat (first | exact Sb.nil | apply Sb.cons | exact Tk.here | apply Tk.there))))) ?_
    rintro ⟨i, T, a1, c1⟩ ⟨hi, hbi, hT9⟩
    dsimp only at hi hbi hT9 ⊢
    by_cases hlt : i < x.l.length
    · obtain ⟨y, hs⟩ : ∃ y, x.l[i]? = some y := ⟨_, List.getElem?_eq_getElem hlt⟩
      have hm := List.mem_of_getElem? hs
      have hkv : Kn K (fun w => Vw w (.slice x.a x.l.length x.c) 5 x.l.length (flat cdC x.l)) := hK.imp fun w h => h.1 (List.ne_nil_of_mem hm)
      have hty := ht y hm
      have hmul : (x.l.length - i) * m = (x.l.length - (i + 1)) * m + m := by
        rw [show x.l.length - i = (x.l.length - (i + 1)) + 1 by omega, Nat.succ_mul]
      rw [drop_cons hs] at hT9
      by_cases hlast : i + 1 = x.l.length
      · obtain ⟨T2, h2⟩ : ∃ T2, T ++ f T.length y X Y = T2 := ⟨_, rfl⟩
        have h2l : T2.length ≤ T.length + m := by
          rw [← h2, List.length_append]
          have := hf y hm T.length X Y
          omega
        (repeat' (first | ((with_reducible apply gJ); (first | refine J_seq ?_ | refine J_reg ?_ | refine J_skip ?_ | refine J_block ?_ | refine J_blk ?_ | refine J_exit rfl ?_ | refine J_goto rfl ?_ | ((with_reducible apply gJ_if); (first | refine J_ift rfl ?_ | refine J_iff rfl ?_ | (refine J_if xR ?_ ?_ <;> intro _ <;> (try (exfalso; first | contradiction | omega))) | (refine J_ifb xR ?_ ?_ <;> (intro hgb; subst hgb)) | (refine J_ifb xR ?_ ?_ <;> intro _) | fail)) | refine J_label ?_ | fail)) | ((with_reducible apply gL); (first | refine JL_nil ?_ | refine L_move ?_ | refine L_assign ?_ | refine L_fieldAddr ?_ | refine L_load ?_ | refine L_indexAddr ?_ | refine L_build ?_ | refine L_c_len ?_ | refine L_bin_eql ?_ | refine L_bin_lss ?_ | refine L_bin_add_i64 ?_ | refine L_bin_add_r ?_ | refine L_bin_sub_i64 ?_ | refine L_bin_sub_r ?_ | ((with_reducible apply gL_box); (first | (refine JL_mc rfl xR xR (al_boxA xR) ?_; intro _) | (refine JL_mc rfl xR xR (al_boxC xR xR) ?_; intro _) | fail)) | ((with_reducible apply gL_buildSlice); (first | (refine JL_mc rfl xR xR (al_bs1 xR (tabE etab_ok xR) xK) ?_; intro _) | (refine JL_mc rfl xR xR (al_bs xR (tabE etab_ok xR) xN xK) ?_; intro _) | fail)) | ((with_reducible apply gL_c_append); (first | (refine JL_ap1 (tabE etab_ok xR) xR xR xT xT xC xR xL xR xO xR xR ?_; intro _ _ _ _) | (refine JL_app (tabE etab_ok xR) xR xR xT xV xC xL xU xO xR xR ?_; intro _ _ _ _) | fail)) | ((with_reducible apply gL_go); (first | (refine JL_goq (hT y hm) (hφ := (by (try simp only [List.cons_append, List.nil_append]); exact fun w hr => (hK w hr.1).2 y hm)) (h := ?_); rintro _ _ ⟨rfl, rfl⟩; try simp only [List.cons_append, List.nil_append]) | (refine JL_goq (hP y hm a1 c1 T X Y T2 (by omega) h2) (hφ := (by (try simp only [List.cons_append, List.nil_append]); exact fun w hr => (hK w hr.1).2 y hm)) (h := ?_); rintro _ _ ⟨a2, c2, rfl, rfl⟩; try simp only [List.cons_append, List.nil_append]) | fail)) | fail)) | fail))
        all_goals (first | (exfalso; omega) | skip)
        all_goals (
          refine J_again ⟨i + 1, T2, a2, c2⟩ (by dsimp only; omega) ⟨by dsimp only; omega, by dsimp only; omega, ?_⟩ ⟨rfl, rfl, rfl, rfl, rfl, trivial⟩ (fun w H => H.sel (by (first | ((with_reducible (repeat (first | exact Sb.nil | apply Sb.cons | exact Tk.here | apply Tk.there))); done) | (repeat (first | exact Sb.nil | apply Sb.cons | exact Tk.here | apply Tk.there)))))
          have hnil : x.l.drop (i + 1) = [] := List.drop_eq_nil_of_le (by omega)
          dsimp only
          rw [hnil] at hT9 ⊢
          rw [seqP_last (f := f) (t := t) (X := X) (Y := Y) (T2 := T2) false (by exact h2)] at hT9
          rw [show seqP f t false X Y T2.length [] = [] from rfl, List.append_nil]
          exact hT9)
      · obtain ⟨T2, h2⟩ : ∃ T2, T ++ f T.length y ((T.length : Int) + t y) Y = T2 := ⟨_, rfl⟩
        have h2l : T2.length ≤ T.length + m := by
          rw [← h2, List.length_append]
          have := hf y hm T.length ((T.length : Int) + t y) Y
          omega
        have hne : x.l.drop (i + 1) ≠ [] := fun h => by
          have := congrArg List.length h
          simp only [List.length_drop, List.length_nil] at this
          omega
        (repeat' (first | ((with_reducible apply gJ); (first | refine J_seq ?_ | refine J_reg ?_ | refine J_skip ?_ | refine J_block ?_ | refine J_blk ?_ | refine J_exit rfl ?_ | refine J_goto rfl ?_ | ((with_reducible apply gJ_if); (first | refine J_ift rfl ?_ | refine J_iff rfl ?_ | (refine J_if xR ?_ ?_ <;> intro _ <;> (try (exfalso; first | contradiction | omega))) | (refine J_ifb xR ?_ ?_ <;> (intro hgb; subst hgb)) | (refine J_ifb xR ?_ ?_ <;> intro _) | fail)) | refine J_label ?_ | fail)) | ((with_reducible apply gL); (first | refine JL_nil ?_ | refine L_move ?_ | refine L_assign ?_ | refine L_fieldAddr ?_ | refine L_load ?_ | refine L_indexAddr ?_ | refine L_build ?_ | refine L_c_len ?_ | refine L_bin_eql ?_ | refine L_bin_lss ?_ | refine L_bin_add_i64 ?_ | refine L_bin_add_r ?_ | refine L_bin_sub_i64 ?_ | refine L_bin_sub_r ?_ | ((with_reducible apply gL_box); (first | (refine JL_mc rfl xR xR (al_boxA xR) ?_; intro _) | (refine JL_mc rfl xR xR (al_boxC xR xR) ?_; intro _) | fail)) | ((with_reducible apply gL_buildSlice); (first | (refine JL_mc rfl xR xR (al_bs1 xR (tabE etab_ok xR) xK) ?_; intro _) | (refine JL_mc rfl xR xR (al_bs xR (tabE etab_ok xR) xN xK) ?_; intro _) | fail)) | ((with_reducible apply gL_c_append); (first | (refine JL_ap1 (tabE etab_ok xR) xR xR xT xT xC xR xL xR xO xR xR ?_; intro _ _ _ _) | (refine JL_app (tabE etab_ok xR) xR xR xT xV xC xL xU xO xR xR ?_; intro _ _ _ _) | fail)) | ((with_reducible apply gL_go); (first | (refine JL_goq (hT y hm) (hφ := (by (try simp only [List.cons_append, List.nil_append]); exact fun w hr => (hK w hr.1).2 y hm)) (h := ?_); rintro _ _ ⟨rfl, rfl⟩; try simp only [List.cons_append, List.nil_append]) | (refine JL_goq (hP y hm a1 c1 T ((T.length : Int) + t y) Y T2 (by omega) h2) (hφ := (by (try simp only [List.cons_append, List.nil_append]); exact fun w hr => (hK w hr.1).2 y hm)) (h := ?_); rintro _ _ ⟨a2, c2, rfl, rfl⟩; try simp only [List.cons_append, List.nil_append]) | fail)) | fail)) | fail))
        all_goals (first | (exfalso; omega) | skip)
        all_goals (
          refine J_again ⟨i + 1, T2, a2, c2⟩ (by dsimp only; omega) ⟨by dsimp only; omega, by dsimp only; omega, ?_⟩ ⟨rfl, rfl, rfl, rfl, rfl, trivial⟩ (fun w H => H.sel (by (first | ((with_reducible (repeat (first | exact Sb.nil | apply Sb.cons | exact Tk.here | apply Tk.there))); done) | (repeat (first | exact Sb.nil | apply Sb.cons | exact Tk.here | apply Tk.there)))))
          dsimp only
          rw [seqP_more (f := f) (t := t) (X := X) (Y := Y) (T2 := T2) false hne (by exact h2)] at hT9
          exact hT9)
    · obtain rfl : i = x.l.length := by omega
      rw [List.drop_length, show seqP f t false X Y T.length [] = [] from rfl, List.append_nil] at hT9
      subst hT9
      (repeat' (first | ((with_reducible apply gJ); (first | refine J_seq ?_ | refine J_reg ?_ | refine J_skip ?_ | refine J_block ?_ | refine J_blk ?_ | refine J_exit rfl ?_ | refine J_goto rfl ?_ | ((with_reducible apply gJ_if); (first | refine J_ift rfl ?_ | refine J_iff rfl ?_ | (refine J_if xR ?_ ?_ <;> intro _ <;> (try (exfalso; first | contradiction | omega))) | (refine J_ifb xR ?_ ?_ <;> (intro hgb; subst hgb)) | (refine J_ifb xR ?_ ?_ <;> intro _) | fail)) | refine J_label ?_ | fail)) | ((with_reducible apply gL); (first | refine JL_nil ?_ | refine L_move ?_ | refine L_assign ?_ | refine L_fieldAddr ?_ | refine L_load ?_ | refine L_indexAddr ?_ | refine L_build ?_ | refine L_c_len ?_ | refine L_bin_eql ?_ | refine L_bin_lss ?_ | refine L_bin_add_i64 ?_ | refine L_bin_add_r ?_ | refine L_bin_sub_i64 ?_ | refine L_bin_sub_r ?_ | ((with_reducible apply gL_box); (first | (refine JL_mc rfl xR xR (al_boxA xR) ?_; intro _) | (refine JL_mc rfl xR xR (al_boxC xR xR) ?_; intro _) | fail)) | ((with_reducible apply gL_buildSlice); (first | (refine JL_mc rfl xR xR (al_bs1 xR (tabE etab_ok xR) xK) ?_; intro _) | (refine JL_mc rfl xR xR (al_bs xR (tabE etab_ok xR) xN xK) ?_; intro _) | fail)) | ((with_reducible apply gL_c_append); (first | (refine JL_ap1 (tabE etab_ok xR) xR xR xT xT xC xR xL xR xO xR xR ?_; intro _ _ _ _) | (refine JL_app (tabE etab_ok xR) xR xR xT xV xC xL xU xO xR xR ?_; intro _ _ _ _) | fail)) | fail)) | fail))
      all_goals exact J_ret1 rfl (by rfl) fun w H => ⟨_, ⟨a1, c1, rfl, rfl⟩, H.sel (by (first | ((with_reducible (repeat (first | exact Sb.nil | apply Sb.cons | exact Tk.here | apply Tk.there))); done) | (repeat (first | exact Sb.nil | apply Sb.cons | exact Tk.here | apply Tk.there))))⟩
  by_cases o2 : x.op = 2
  · rw [if_neg o1, if_pos o2] at h9
    (repeat' (first | ((with_reducible apply gJ); (first | refine J_seq ?_ | refine J_reg ?_ | refine J_skip ?_ | refine J_block ?_ | refine J_blk ?_ | refine J_exit rfl ?_ | refine J_goto rfl ?_ | ((with_reducible apply gJ_if); (first | refine J_ift rfl ?_ | refine J_iff rfl ?_ | (refine J_if xR ?_ ?_ <;> intro _ <;> (try (exfalso; first | contradiction | omega))) | (refine J_ifb xR ?_ ?_ <;> (intro hgb; subst hgb)) | (refine J_ifb xR ?_ ?_ <;> intro _) | fail)) | refine J_label ?_ | fail)) | ((with_reducible apply gL); (first | refine JL_nil ?_ | refine L_move ?_ | refine L_assign ?_ | refine L_fieldAddr ?_ | refine L_load ?_ | refine L_indexAddr ?_ | refine L_build ?_ | refine L_c_len ?_ | refine L_bin_eql ?_ | refine L_bin_lss ?_ | refine L_bin_add_i64 ?_ | refine L_bin_add_r ?_ | refine L_bin_sub_i64 ?_ | refine L_bin_sub_r ?_ | ((with_reducible apply gL_box); (first | (refine JL_mc rfl xR xR (al_boxA xR) ?_; intro _) | (refine JL_mc rfl xR xR (al_boxC xR xR) ?_; intro _) | fail)) | ((with_reducible apply gL_buildSlice); (first | (refine JL_mc rfl xR xR (al_bs1 xR (tabE etab_ok xR) xK) ?_; intro _) | (refine JL_mc rfl xR xR (al_bs xR (tabE etab_ok xR) xN xK) ?_; intro _) | fail)) | ((with_reducible apply gL_c_append); (first | (refine JL_ap1 (tabE etab_ok xR) xR xR xT xT xC xR xL xR xO xR xR ?_; intro _ _ _ _) | (refine JL_app (tabE etab_ok xR) xR xR xT xV xC xL xU xO xR xR ?_; intro _ _ _ _) | fail)) | fail)) | fail))
    rename Nat => b1
    refine J_loop (α := Lp) ⟨0, T0, a, c⟩ (fun z => x.l.length - z.i) (fun z => z.i ≤ x.l.length ∧ z.T.length + ((x.l.length - z.i) * m + 1) ≤ 500000000 ∧ z.T ++ seqP f t true X Y z.T.length (x.l.drop z.i) = T9) (fun z => [(0, .slice z.a z.T.length z.c), (2, .int .i64 X), (3, .int .i64 Y), (5, .pointer (some ⟨b1, 0, none⟩)), (11, .int .i64 z.i)]) (fun z => [pts b1 (cdC x) 45, Ar 38 7 spC (.slice z.a z.T.length z.c) z.T]) ⟨Nat.zero_le _, hb, h9⟩ ⟨rfl, rfl, rfl, rfl, rfl, trivial⟩ (fun w H => H.sel (by (first | ((with_reducible (repeat (first | exact Sb.nil | apply Sb.cons | exact Tk.here | apply Tk.there))); done) | (repeat (first | exact Sb.nil | apply Sb.cons | exact Tk.here | apply Tk.there))))) ?_
    rintro ⟨i, T, a1, c1⟩ ⟨hi, hbi, hT9⟩
    dsimp only at hi hbi hT9 ⊢
    by_cases hlt : i < x.l.length
    · obtain ⟨y, hs⟩ : ∃ y, x.l[i]? = some y := ⟨_, List.getElem?_eq_getElem hlt⟩
      have hm := List.mem_of_getElem? hs
      have hkv : Kn K (fun w => Vw w (.slice x.a x.l.length x.c) 5 x.l.length (flat cdC x.l)) := hK.imp fun w h => h.1 (List.ne_nil_of_mem hm)
      have hty := ht y hm
      have hmul : (x.l.length - i) * m = (x.l.length - (i + 1)) * m + m := by
        rw [show x.l.length - i = (x.l.length - (i + 1)) + 1 by omega, Nat.succ_mul]
      rw [drop_cons hs] at hT9
      by_cases hlast : i + 1 = x.l.length
      · obtain ⟨T2, h2⟩ : ∃ T2, T ++ f T.length y X Y = T2 := ⟨_, rfl⟩
        have h2l : T2.length ≤ T.length + m := by
          rw [← h2, List.length_append]
          have := hf y hm T.length X Y
          omega
        (repeat' (first | ((with_reducible apply gJ); (first | refine J_seq ?_ | refine J_reg ?_ | refine J_skip ?_ | refine J_block ?_ | refine J_blk ?_ | refine J_exit rfl ?_ | refine J_goto rfl ?_ | ((with_reducible apply gJ_if); (first | refine J_ift rfl ?_ | refine J_iff rfl ?_ | (refine J_if xR ?_ ?_ <;> intro _ <;> (try (exfalso; first | contradiction | omega))) | (refine J_ifb xR ?_ ?_ <;> (intro hgb; subst hgb)) | (refine J_ifb xR ?_ ?_ <;> intro _) | fail)) | refine J_label ?_ | fail)) | ((with_reducible apply gL); (first | refine JL_nil ?_ | refine L_move ?_ | refine L_assign ?_ | refine L_fieldAddr ?_ | refine L_load ?_ | refine L_indexAddr ?_ | refine L_build ?_ | refine L_c_len ?_ | refine L_bin_eql ?_ | refine L_bin_lss ?_ | refine L_bin_add_i64 ?_ | refine L_bin_add_r ?_ | refine L_bin_sub_i64 ?_ | refine L_bin_sub_r ?_ | ((with_reducible apply gL_box); (first | (refine JL_mc rfl xR xR (al_boxA xR) ?_; intro _) | (refine JL_mc rfl xR xR (al_boxC xR xR) ?_; intro _) | fail)) | ((with_reducible apply gL_buildSlice); (first | (refine JL_mc rfl xR xR (al_bs1 xR (tabE etab_ok xR) xK) ?_; intro _) | (refine JL_mc rfl xR xR (al_bs xR (tabE etab_ok xR) xN xK) ?_; intro _) | fail)) | ((with_reducible apply gL_c_append); (first | (refine JL_ap1 (tabE etab_ok xR) xR xR xT xT xC xR xL xR xO xR xR ?_; intro _ _ _ _) | (refine JL_app (tabE etab_ok xR) xR xR xT xV xC xL xU xO xR xR ?_; intro _ _ _ _) | fail)) | ((with_reducible apply gL_go); (first | (refine JL_goq (hT y hm) (hφ := (by (try simp only [List.cons_append, List.nil_append]); exact fun w hr => (hK w hr.1).2 y hm)) (h := ?_); rintro _ _ ⟨rfl, rfl⟩; try simp only [List.cons_append, List.nil_append]) | (refine JL_goq (hP y hm a1 c1 T X Y T2 (by omega) h2) (hφ := (by (try simp only [List.cons_append, List.nil_append]); exact fun w hr => (hK w hr.1).2 y hm)) (h := ?_); rintro _ _ ⟨a2, c2, rfl, rfl⟩; try simp only [List.cons_append, List.nil_append]) | fail)) | fail)) | fail))
        all_goals (first | (exfalso; omega) | skip)
        all_goals (
          refine J_again ⟨i + 1, T2, a2, c2⟩ (by dsimp only; omega) ⟨by dsimp only; omega, by dsimp only; omega, ?_⟩ ⟨rfl, rfl, rfl, rfl, rfl, trivial⟩ (fun w H => H.sel (by (first | ((with_reducible (repeat (first | exact Sb.nil | apply Sb.cons | exact Tk.here | apply Tk.there))); done) | (repeat (first | exact Sb.nil | apply Sb.cons | exact Tk.here | apply Tk.there)))))
          have hnil : x.l.drop (i + 1) = [] := List.drop_eq_nil_of_le (by omega)
          dsimp only
          rw [hnil] at hT9 ⊢
          rw [seqP_last (f := f) (t := t) (X := X) (Y := Y) (T2 := T2) true (by exact h2)] at hT9
          rw [show seqP f t true X Y T2.length [] = [] from rfl, List.append_nil]
          exact hT9)
      · obtain ⟨T2, h2⟩ : ∃ T2, T ++ f T.length y X ((T.length : Int) + t y) = T2 := ⟨_, rfl⟩
        have h2l : T2.length ≤ T.length + m := by
          rw [← h2, List.length_append]
          have := hf y hm T.length X ((T.length : Int) + t y)
          omega
        have hne : x.l.drop (i + 1) ≠ [] := fun h => by
          have := congrArg List.length h
          simp only [List.length_drop, List.length_nil] at this
          omega
        (repeat' (first | ((with_reducible apply gJ); (first | refine J_seq ?_ | refine J_reg ?_ | refine J_skip ?_ | refine J_block ?_ | refine J_blk ?_ | refine J_exit rfl ?_ | refine J_goto rfl ?_ | ((with_reducible apply gJ_if); (first | refine J_ift rfl ?_ | refine J_iff rfl ?_ | (refine J_if xR ?_ ?_ <;> intro _ <;> (try (exfalso; first | contradiction | omega))) | (refine J_ifb xR ?_ ?_ <;> (intro hgb; subst hgb)) | (refine J_ifb xR ?_ ?_ <;> intro _) | fail)) | refine J_label ?_ | fail)) | ((with_reducible apply gL); (first | refine JL_nil ?_ | refine L_move ?_ | refine L_assign ?_ | refine L_fieldAddr ?_ | refine L_load ?_ | refine L_indexAddr ?_ | refine L_build ?_ | refine L_c_len ?_ | refine L_bin_eql ?_ | refine L_bin_lss ?_ | refine L_bin_add_i64 ?_ | refine L_bin_add_r ?_ | refine L_bin_sub_i64 ?_ | refine L_bin_sub_r ?_ | ((with_reducible apply gL_box); (first | (refine JL_mc rfl xR xR (al_boxA xR) ?_; intro _) | (refine JL_mc rfl xR xR (al_boxC xR xR) ?_; intro _) | fail)) | ((with_reducible apply gL_buildSlice); (first | (refine JL_mc rfl xR xR (al_bs1 xR (tabE etab_ok xR) xK) ?_; intro _) | (refine JL_mc rfl xR xR (al_bs xR (tabE etab_ok xR) xN xK) ?_; intro _) | fail)) | ((with_reducible apply gL_c_append); (first | (refine JL_ap1 (tabE etab_ok xR) xR xR xT xT xC xR xL xR xO xR xR ?_; intro _ _ _ _) | (refine JL_app (tabE etab_ok xR) xR xR xT xV xC xL xU xO xR xR ?_; intro _ _ _ _) | fail)) | ((with_reducible apply gL_go); (first | (refine JL_goq (hT y hm) (hφ := (by (try simp only [List.cons_append, List.nil_append]); exact fun w hr => (hK w hr.1).2 y hm)) (h := ?_); rintro _ _ ⟨rfl, rfl⟩; try simp only [List.cons_append, List.nil_append]) | (refine JL_goq (hP y hm a1 c1 T X ((T.length : Int) + t y) T2 (by omega) h2) (hφ := (by (try simp only [List.cons_append, List.nil_append]); exact fun w hr => (hK w hr.1).2 y hm)) (h := ?_); rintro _ _ ⟨a2, c2, rfl, rfl⟩; try simp only [List.cons_append, List.nil_append]) | fail)) | fail)) | fail))
        all_goals (first | (exfalso; omega) | skip)
        all_goals (
          refine J_again ⟨i + 1, T2, a2, c2⟩ (by dsimp only; omega) ⟨by dsimp only; omega, by dsimp only; omega, ?_⟩ ⟨rfl, rfl, rfl, rfl, rfl, trivial⟩ (fun w H => H.sel (by (first | ((with_reducible (repeat (first | exact Sb.nil | apply Sb.cons | exact Tk.here | apply Tk.there))); done) | (repeat (first | exact Sb.nil | apply Sb.cons | exact Tk.here | apply Tk.there)))))
          dsimp only
          rw [seqP_more (f := f) (t := t) (X := X) (Y := Y) (T2 := T2) true hne (by exact h2)] at hT9
          exact hT9)
    · obtain rfl : i = x.l.length := by omega
      rw [List.drop_length, show seqP f t true X Y T.length [] = [] from rfl, List.append_nil] at hT9
      subst hT9
      (repeat' (first | ((with_reducible apply gJ); (first | refine J_seq ?_ | refine J_reg ?_ | refine J_skip ?_ | refine J_block ?_ | refine J_blk ?_ | refine J_exit rfl ?_ | refine J_goto rfl ?_ | ((with_reducible apply gJ_if); (first | refine J_ift rfl ?_ | refine J_iff rfl ?_ | (refine J_if xR ?_ ?_ <;> intro _ <;> (try (exfalso; first | contradiction | omega))) | (refine J_ifb xR ?_ ?_ <;> (intro hgb; subst hgb)) | (refine J_ifb xR ?_ ?_ <;> intro _) | fail)) | refine J_label ?_ | fail)) | ((with_reducible apply gL); (first | refine JL_nil ?_ | refine L_move ?_ | refine L_assign ?_ | refine L_fieldAddr ?_ | refine L_load ?_ | refine L_indexAddr ?_ | refine L_build ?_ | refine L_c_len ?_ | refine L_bin_eql ?_ | refine L_bin_lss ?_ | refine L_bin_add_i64 ?_ | refine L_bin_add_r ?_ | refine L_bin_sub_i64 ?_ | refine L_bin_sub_r ?_ | ((with_reducible apply gL_box); (first | (refine JL_mc rfl xR xR (al_boxA xR) ?_; intro _) | (refine JL_mc rfl xR xR (al_boxC xR xR) ?_; intro _) | fail)) | ((with_reducible apply gL_buildSlice); (first | (refine JL_mc rfl xR xR (al_bs1 xR (tabE etab_ok xR) xK) ?_; intro _) | (refine JL_mc rfl xR xR (al_bs xR (tabE etab_ok xR) xN xK) ?_; intro _) | fail)) | ((with_reducible apply gL_c_append); (first | (refine JL_ap1 (tabE etab_ok xR) xR xR xT xT xC xR xL xR xO xR xR ?_; intro _ _ _ _) | (refine JL_app (tabE etab_ok xR) xR xR xT xV xC xL xU xO xR xR ?_; intro _ _ _ _) | fail)) | fail)) | fail))
      all_goals exact J_ret1 rfl (by rfl) fun w H => ⟨_, ⟨a1, c1, rfl, rfl⟩, H.sel (by (first | ((with_reducible (repeat (first | exact Sb.nil | apply Sb.cons | exact Tk.here | apply Tk.there))); done) | (repeat (first | exact Sb.nil | apply Sb.cons | exact Tk.here | apply Tk.there))))⟩
  rw [if_neg o1, if_neg o2] at h9
  by_cases o3 : x.op = 3
  · rw [if_pos o3] at h9
    obtain ⟨y, r, hyr⟩ := List.exists_cons_of_ne_nil (h3 o3)
    have hs : x.l[0]? = some y := by rw [hyr]; rfl
    have hm := List.mem_of_getElem? hs
    have hll : 0 < x.l.length := by rw [hyr]; simp
    have hmm : m ≤ x.l.length * m := Nat.le_mul_of_pos_left _ hll
    have hkv : Kn K (fun w => Vw w (.slice x.a x.l.length x.c) 5 x.l.length (flat cdC x.l)) := hK.imp fun w h => h.1 (List.ne_nil_of_mem hm)
    rw [hyr] at h9
    (repeat' (first | ((with_reducible apply gJ); (first | refine J_seq ?_ | refine J_reg ?_ | refine J_skip ?_ | refine J_block ?_ | refine J_blk ?_ | refine J_exit rfl ?_ | refine J_goto rfl ?_ | ((with_reducible apply gJ_if); (first | refine J_ift rfl ?_ | refine J_iff rfl ?_ | (refine J_if xR ?_ ?_ <;> intro _ <;> (try (exfalso; first | contradiction | omega))) | (refine J_ifb xR ?_ ?_ <;> (intro hgb; subst hgb)) | (refine J_ifb xR ?_ ?_ <;> intro _) | fail)) | refine J_label ?_ | fail)) | ((with_reducible apply gL); (first | refine JL_nil ?_ | refine L_move ?_ | refine L_assign ?_ | refine L_fieldAddr ?_ | refine L_load ?_ | refine L_indexAddr ?_ | refine L_build ?_ | refine L_c_len ?_ | refine L_bin_eql ?_ | refine L_bin_lss ?_ | refine L_bin_add_i64 ?_ | refine L_bin_add_r ?_ | refine L_bin_sub_i64 ?_ | refine L_bin_sub_r ?_ | ((with_reducible apply gL_box); (first | (refine JL_mc rfl xR xR (al_boxA xR) ?_; intro _) | (refine JL_mc rfl xR xR (al_boxC xR xR) ?_; intro _) | fail)) | ((with_reducible apply gL_buildSlice); (first | (refine JL_mc rfl xR xR (al_bs1 xR (tabE etab_ok xR) xK) ?_; intro _) | (refine JL_mc rfl xR xR (al_bs xR (tabE etab_ok xR) xN xK) ?_; intro _) | fail)) | ((with_reducible apply gL_c_append); (first | (refine JL_ap1 (tabE etab_ok xR) xR xR xT xT xC xR xL xR xO xR xR ?_; intro _ _ _ _) | (refine JL_app (tabE etab_ok xR) xR xR xT xV xC xL xU xO xR xR ?_; intro _ _ _ _) | fail)) | ((with_reducible apply gL_go); (first | (refine JL_goq (hP y hm a c T0 Y X T9 (by omega) h9) (hφ := (by (try simp only [List.cons_append, List.nil_append]); exact fun w hr => (hK w hr.1).2 y hm)) (h := ?_); rintro _ _ ⟨a2, c2, rfl, rfl⟩; try simp only [List.cons_append, List.nil_append]) | fail)) | fail)) | fail))
    all_goals exact J_ret1 rfl (by rfl) fun w H => ⟨_, ⟨a2, c2, rfl, rfl⟩, H.sel (by (first | ((with_reducible (repeat (first | exact Sb.nil | apply Sb.cons | exact Tk.here | apply Tk.there))); done) | (repeat (first | exact Sb.nil | apply Sb.cons | exact Tk.here | apply Tk.there))))⟩
  rw [if_neg o3] at h9
  have h9l : T9.length = T0.length + 1 := by rw [← h9]; simp
  (repeat' (first | ((with_reducible apply gJ); (first | refine J_seq ?_ | refine J_reg ?_ | refine J_skip ?_ | refine J_block ?_ | refine J_blk ?_ | refine J_exit rfl ?_ | refine J_goto rfl ?_ | ((with_reducible apply gJ_if); (first | refine J_ift rfl ?_ | refine J_iff rfl ?_ | (refine J_if xR ?_ ?_ <;> intro _ <;> (try (exfalso; first | contradiction | omega))) | (refine J_ifb xR ?_ ?_ <;> (intro hgb; subst hgb)) | (refine J_ifb xR ?_ ?_ <;> intro _) | fail)) | refine J_label ?_ | fail)) | ((with_reducible apply gL); (first | refine JL_nil ?_ | ((with_reducible apply gL_c_append); (first | (refine JL_ap1 (z := leafS x X Y) (tabE etab_ok xR) xR xR xA xA xC xR xL xR (by omega) xR xR ?_; intro ad2 c2 _ _) | fail)) | refine L_move ?_ | refine L_assign ?_ | refine L_fieldAddr ?_ | refine L_load ?_ | refine L_indexAddr ?_ | refine L_build ?_ | refine L_c_len ?_ | refine L_bin_eql ?_ | refine L_bin_lss ?_ | refine L_bin_add_i64 ?_ | refine L_bin_add_r ?_ | refine L_bin_sub_i64 ?_ | refine L_bin_sub_r ?_ | ((with_reducible apply gL_box); (first | (refine JL_mc rfl xR xR (al_boxA xR) ?_; intro _) | (refine JL_mc rfl xR xR (al_boxC xR xR) ?_; intro _) | fail)) | ((with_reducible apply gL_buildSlice); (first | (refine JL_mc rfl xR xR (al_bs1 xR (tabE etab_ok xR) xK) ?_; intro _) | (refine JL_mc rfl xR xR (al_bs xR (tabE etab_ok xR) xN xK) ?_; intro _) | fail)) | ((with_reducible apply gL_c_append); (first | (refine JL_ap1 (tabE etab_ok xR) xR xR xT xT xC xR xL xR xO xR xR ?_; intro _ _ _ _) | (refine JL_app (tabE etab_ok xR) xR xR xT xV xC xL xU xO xR xR ?_; intro _ _ _ _) | fail)) | fail)) | fail))
  all_goals (
    subst h9
    exact J_ret1 rfl (by rfl) fun w H => ⟨_, ⟨ad2, c2, by rw [List.length_append]; rfl, rfl⟩, by rw [List.length_append]; exact H.sel (by (first | ((with_reducible (repeat (first | exact Sb.nil | apply Sb.cons | exact Tk.here | apply Tk.there))); done) | (repeat (first | exact Sb.nil | apply Sb.cons | exact Tk.here | apply Tk.there))))⟩)
end Go.Proofs.Yteekbpohocfmpaa
