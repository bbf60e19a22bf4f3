/-
  The document's answer: size, Tests.
-/
import Derived.Test.YteekbpohocfmpaaCd11
namespace Go.Proofs.Yteekbpohocfmpaa
set_option linter.unusedSimpArgs false
set_option linter.unusedVariables false
set_option maxRecDepth 20000
set_option maxHeartbeats 4000000
open Go.RowKit Go.Pm

def sizeG (g : List St → Nat) (s : St) : Nat := if s.op = 1 then tests 5 s.cd + g s.th + g s.el + (if 0 < s.el.length then 1 else 0) else 1
def sizeL : Nat → List St → Nat
  | 0, _ => 0
  | d + 1, l => (l.map (sizeG (sizeL d))).sum
def testG (g : List St → Nat) (s : St) : Nat := if s.op = 1 then tests 5 s.cd + g s.th + g s.el else 0
def testL : Nat → List St → Nat
  | 0, _ => 0
  | d + 1, l => (l.map (testG (testL d))).sum
def bnd : Nat → Nat
  | 0 => 0
  | d + 1 => 5 * (3126 + 2 * bnd d)
theorem sizeL_eq {d : Nat} {l : List St} (h : LsF d l) : sizeL d l = (l.map (sizeG (sizeL (d - 1)))).sum := by
  cases d with
  | zero => rw [show l = [] from h]; rfl
  | succ d => rfl
theorem testL_eq {d : Nat} {l : List St} (h : LsF d l) : testL d l = (l.map (testG (testL (d - 1)))).sum := by
  cases d with
  | zero => rw [show l = [] from h]; rfl
  | succ d => rfl
theorem sizeL_le : ∀ {d : Nat} {l : List St}, LsF d l → sizeL d l ≤ bnd d
  | 0, _, _ => Nat.le_refl _
  | d + 1, l, h => by
    have h1 := sum_le (l := l) (f := sizeG (sizeL d)) (b := 3126 + 2 * bnd d) fun s hs => by
      obtain ⟨_, h2, h3, h4⟩ := h.2 s hs
      have a1 := tests_le h2
      have a2 := sizeL_le h3
      have a3 := sizeL_le h4
      have e : (5 : Nat) ^ 5 = 3125 := rfl
      unfold sizeG
      split <;> (try split) <;> omega
    have h2 : l.length * (3126 + 2 * bnd d) ≤ 5 * (3126 + 2 * bnd d) := Nat.mul_le_mul_right _ h.1
    show (l.map (sizeG (sizeL d))).sum ≤ 5 * (3126 + 2 * bnd d)
    omega
theorem testL_le : ∀ {d : Nat} {l : List St}, LsF d l → testL d l ≤ bnd d
  | 0, _, _ => Nat.le_refl _
  | d + 1, l, h => by
    have h1 := sum_le (l := l) (f := testG (testL d)) (b := 3126 + 2 * bnd d) fun s hs => by
      obtain ⟨_, h2, h3, h4⟩ := h.2 s hs
      have a1 := tests_le h2
      have a2 := testL_le h3
      have a3 := testL_le h4
      have e : (5 : Nat) ^ 5 = 3125 := rfl
      unfold testG
      split <;> omega
    have h2 : l.length * (3126 + 2 * bnd d) ≤ 5 * (3126 + 2 * bnd d) := Nat.mul_le_mul_right _ h.1
    show (l.map (testG (testL d))).sum ≤ 5 * (3126 + 2 * bnd d)
    omega
theorem bnd_le {d : Nat} (h : d ≤ 5) : bnd d ≤ 200000000 := by
  have : ∀ d, d ≤ 5 → bnd d ≤ 200000000 := by decide
  exact this d h
theorem rsize_core (a : Option Addr) (c : Nat) (l : List St) (φ : St → World → Prop) (g : List St → Nat) (hl : l.length ≤ 5) (hL : ∀ s ∈ l, s.th.length ≤ 5 ∧ s.el.length ≤ 5) (hg : ∀ s ∈ l, sizeG g s ≤ 800000000 ∧ g s.th ≤ 200000000 ∧ g s.el ≤ 200000000 ∧ tests 5 s.cd ≤ 3125)
    (hC : ∀ s ∈ l, Pact Try.prog 25 #[.agg (cdC s.cd).toArray] (φ s) [] (ret0 (.int .i64 (tests 5 s.cd))))
    (hT : ∀ s ∈ l, Pact Try.prog 19 #[.slice s.ta s.th.length s.tc] (φ s) [] (ret0 (.int .i64 (g s.th))))
    (hE : ∀ s ∈ l, Pact Try.prog 19 #[.slice s.ea s.el.length s.ec] (φ s) [] (ret0 (.int .i64 (g s.el)))) :
    Pact Try.prog 19 #[.slice a l.length c] (KidS φ a c l) [] (ret0 (.int .i64 ((l.map (sizeG g)).sum : Nat))) := by
  refine pact Try.func19 rfl Try.ntmps19 rfl ?_
  intro W K hK
  have hsum := sum_le (l := l) (f := sizeG g) (b := 800000000) fun s hs => (hg s hs).1
  (repeat' (first | ((with_reducible apply gJ); (first | refine J_seq ?_ | refine J_reg ?_ | refine J_skip ?_ | refine J_block ?_ | refine J_blk ?_ | refine J_exit rfl ?_ | refine J_goto rfl ?_ | ((with_reducible apply gJ_if); (first | refine J_ift rfl ?_ | refine J_iff rfl ?_ | (refine J_if xR ?_ ?_ <;> intro _ <;> (try (exfalso; first | contradiction | omega))) | (refine J_ifb xR ?_ ?_ <;> (intro hgb; subst hgb)) | (refine J_ifb xR ?_ ?_ <;> intro _) | fail)) | refine J_label ?_ | refine J_draw (id := 7) [0, 1, 2, 3, 4, 5, 7, 8, 9, 10, 11, 14, 15, 16, 17, 18, 6, 12, 13, 19, 20] [21, 22] mixed xC xD xD ?_ | fail)) | ((with_reducible apply gL); (first | refine JL_nil ?_ | refine L_move ?_ | refine L_assign ?_ | refine L_fieldAddr ?_ | refine L_load ?_ | refine L_indexAddr ?_ | refine L_c_len ?_ | refine L_bin_neq ?_ | refine L_bin_lss ?_ | refine L_bin_gtr ?_ | refine L_bin_add_i64 ?_ | refine L_bin_add_r ?_ | fail)) | ((with_reducible apply gD); (first | (refine JD_nil ?_; try simp only [List.cons_append, List.nil_append]) | (refine JD_bar ?_; try simp only [List.cons_append, List.nil_append]) | refine D_move ?_ | refine D_assign ?_ | refine D_fieldAddr ?_ | refine D_load ?_ | refine D_indexAddr ?_ | refine D_bin_add_i64 ?_ | refine D_bin_add_r ?_ | ((with_reducible apply gD_load); (first | refine JD_ldM xR xT xC xR xR ?_ | refine JD_ldWM xR xT xW xR ?_ | refine JD_ldSM xR xT (tabS stab_ok xR) xG xC xR ?_ | fail)) | ((with_reducible apply gD_indexAddr); (first | refine JD_ixM xR xR (tabE etab_ok xR) xT xI xO xR ?_ | refine JD_ixV xR xR (tabE etab_ok xR) xT xI xO xR ?_ | fail)) | fail)) | fail))
  refine J_loop (α := Nat) 0 (fun k => l.length - k) (fun k => k ≤ l.length) (fun k => [(0, .slice a l.length c), (3, .int .i64 (((l.take k).map (sizeG g)).sum : Nat)), (4, .int .i64 k)]) (fun _ => []) (Nat.zero_le _) ⟨rfl, rfl, rfl, trivial⟩ (fun w H => H.sel .nil) ?_
  intro k hk
  by_cases hlt : k < l.length
  · obtain ⟨s, hs⟩ : ∃ s, l[k]? = some s := ⟨_, List.getElem?_eq_getElem hlt⟩
    have hm := List.mem_of_getElem? hs
    have hkv : Kn K (fun w => Vw w (.slice a l.length c) 10 l.length (flat stC l)) := hK.imp fun w h => h.1 (List.ne_nil_of_mem hm)
    have hkl : Kn K (φ s) := hK.imp fun w h => h.2 s hm
    obtain ⟨hl1, hl2⟩ := hL s hm
    have ht := sum_take (f := sizeG g) hs
    have hp := sum_part (f := sizeG g) l (k + 1)
    obtain ⟨b1, b2, b3, b4⟩ := hg s hm
    by_cases ho : s.op = 1
    · by_cases he : 0 < s.el.length
      · have e : sizeG g s = tests 5 s.cd + g s.th + g s.el + 1 := by unfold sizeG; rw [if_pos ho, if_pos he]
        rw [e] at ht b1
        (repeat' (first | ((with_reducible apply gJ); (first | refine J_seq ?_ | refine J_reg ?_ | refine J_skip ?_ | refine J_block ?_ | refine J_blk ?_ | refine J_exit rfl ?_ | refine J_goto rfl ?_ | ((with_reducible apply gJ_if); (first | refine J_ift rfl ?_ | refine J_iff rfl ?_ | (refine J_if xR ?_ ?_ <;> intro _ <;> (try (exfalso; first | contradiction | omega))) | (refine J_ifb xR ?_ ?_ <;> (intro hgb; subst hgb)) | (refine J_ifb xR ?_ ?_ <;> intro _) | fail)) | refine J_label ?_ | refine J_draw (id := 7) [0, 1, 2, 3, 4, 5, 7, 8, 9, 10, 11, 14, 15, 16, 17, 18, 6, 12, 13, 19, 20] [21, 22] mixed xC xD xD ?_ | fail)) | ((with_reducible apply gL); (first | refine JL_nil ?_ | refine L_move ?_ | refine L_assign ?_ | refine L_fieldAddr ?_ | refine L_load ?_ | refine L_indexAddr ?_ | refine L_c_len ?_ | refine L_bin_neq ?_ | refine L_bin_lss ?_ | refine L_bin_gtr ?_ | refine L_bin_add_i64 ?_ | refine L_bin_add_r ?_ | fail)) | ((with_reducible apply gD); (first | (refine JD_nil ?_; try simp only [List.cons_append, List.nil_append]) | (refine JD_bar ?_; try simp only [List.cons_append, List.nil_append]) | refine D_move ?_ | refine D_assign ?_ | refine D_fieldAddr ?_ | refine D_load ?_ | refine D_indexAddr ?_ | refine D_bin_add_i64 ?_ | refine D_bin_add_r ?_ | ((with_reducible apply gD_load); (first | refine JD_ldM xR xT xC xR xR ?_ | refine JD_ldWM xR xT xW xR ?_ | refine JD_ldSM xR xT (tabS stab_ok xR) xG xC xR ?_ | fail)) | ((with_reducible apply gD_indexAddr); (first | refine JD_ixM xR xR (tabE etab_ok xR) xT xI xO xR ?_ | refine JD_ixV xR xR (tabE etab_ok xR) xT xI xO xR ?_ | fail)) | ((with_reducible apply gD_go); (first | (refine JD_goq (hC s hm) (hφ := (by (try simp only [List.cons_append, List.nil_append]); exact fun w hr => hkl w hr.1)) (h := ?_); rintro _ _ ⟨rfl, rfl⟩; try simp only [List.cons_append, List.nil_append]) | (refine JD_goq (hT s hm) (hφ := (by (try simp only [List.cons_append, List.nil_append]); exact fun w hr => hkl w hr.1)) (h := ?_); rintro _ _ ⟨rfl, rfl⟩; try simp only [List.cons_append, List.nil_append]) | (refine JD_goq (hE s hm) (hφ := (by (try simp only [List.cons_append, List.nil_append]); exact fun w hr => hkl w hr.1)) (h := ?_); rintro _ _ ⟨rfl, rfl⟩; try simp only [List.cons_append, List.nil_append]) | fail)) | fail)) | fail))
        refine J_again (k + 1) (by omega) (by omega) ⟨rfl, ?_, rfl, trivial⟩ (fun w H => H.sel .nil)
        rw [ht]; show some _ = some _; congr 2 <;> omega
      · have e : sizeG g s = tests 5 s.cd + g s.th + g s.el := by unfold sizeG; rw [if_pos ho, if_neg he]; rfl
        rw [e] at ht b1
        (repeat' (first | ((with_reducible apply gJ); (first | refine J_seq ?_ | refine J_reg ?_ | refine J_skip ?_ | refine J_block ?_ | refine J_blk ?_ | refine J_exit rfl ?_ | refine J_goto rfl ?_ | ((with_reducible apply gJ_if); (first | refine J_ift rfl ?_ | refine J_iff rfl ?_ | (refine J_if xR ?_ ?_ <;> intro _ <;> (try (exfalso; first | contradiction | omega))) | (refine J_ifb xR ?_ ?_ <;> (intro hgb; subst hgb)) | (refine J_ifb xR ?_ ?_ <;> intro _) | fail)) | refine J_label ?_ | refine J_draw (id := 7) [0, 1, 2, 3, 4, 5, 7, 8, 9, 10, 11, 14, 15, 16, 17, 18, 6, 12, 13, 19, 20] [21, 22] mixed xC xD xD ?_ | fail)) | ((with_reducible apply gL); (first | refine JL_nil ?_ | refine L_move ?_ | refine L_assign ?_ | refine L_fieldAddr ?_ | refine L_load ?_ | refine L_indexAddr ?_ | refine L_c_len ?_ | refine L_bin_neq ?_ | refine L_bin_lss ?_ | refine L_bin_gtr ?_ | refine L_bin_add_i64 ?_ | refine L_bin_add_r ?_ | fail)) | ((with_reducible apply gD); (first | (refine JD_nil ?_; try simp only [List.cons_append, List.nil_append]) | (refine JD_bar ?_; try simp only [List.cons_append, List.nil_append]) | refine D_move ?_ | refine D_assign ?_ | refine D_fieldAddr ?_ | refine D_load ?_ | refine D_indexAddr ?_ | refine D_bin_add_i64 ?_ | refine D_bin_add_r ?_ | ((with_reducible apply gD_load); (first | refine JD_ldM xR xT xC xR xR ?_ | refine JD_ldWM xR xT xW xR ?_ | refine JD_ldSM xR xT (tabS stab_ok xR) xG xC xR ?_ | fail)) | ((with_reducible apply gD_indexAddr); (first | refine JD_ixM xR xR (tabE etab_ok xR) xT xI xO xR ?_ | refine JD_ixV xR xR (tabE etab_ok xR) xT xI xO xR ?_ | fail)) | ((with_reducible apply gD_go); (first | (refine JD_goq (hC s hm) (hφ := (by (try simp only [List.cons_append, List.nil_append]); exact fun w hr => hkl w hr.1)) (h := ?_); rintro _ _ ⟨rfl, rfl⟩; try simp only [List.cons_append, List.nil_append]) | (refine JD_goq (hT s hm) (hφ := (by (try simp only [List.cons_append, List.nil_append]); exact fun w hr => hkl w hr.1)) (h := ?_); rintro _ _ ⟨rfl, rfl⟩; try simp only [List.cons_append, List.nil_append]) | (refine JD_goq (hE s hm) (hφ := (by (try simp only [List.cons_append, List.nil_append]); exact fun w hr => hkl w hr.1)) (h := ?_); rintro _ _ ⟨rfl, rfl⟩; try simp only [List.cons_append, List.nil_append]) | fail)) | fail)) | fail))
        refine J_again (k + 1) (by omega) (by omega) ⟨rfl, ?_, rfl, trivial⟩ (fun w H => H.sel .nil)
        rw [ht]; show some _ = some _; congr 2 <;> omega
    · have e : sizeG g s = 1 := by unfold sizeG; rw [if_neg ho]
      rw [e] at ht b1
      (repeat' (first | ((with_reducible apply gJ); (first | refine J_seq ?_ | refine J_reg ?_ | refine J_skip ?_ | refine J_block ?_ | refine J_blk ?_ | refine J_exit rfl ?_ | refine J_goto rfl ?_ | ((with_reducible apply gJ_if); (first | refine J_ift rfl ?_ | refine J_iff rfl ?_ | (refine J_if xR ?_ ?_ <;> intro _ <;> (try (exfalso; first | contradiction | omega))) | (refine J_ifb xR ?_ ?_ <;> (intro hgb; subst hgb)) | (refine J_ifb xR ?_ ?_ <;> intro _) | fail)) | refine J_label ?_ | refine J_draw (id := 7) [0, 1, 2, 3, 4, 5, 7, 8, 9, 10, 11, 14, 15, 16, 17, 18, 6, 12, 13, 19, 20] [21, 22] mixed xC xD xD ?_ | fail)) | ((with_reducible apply gL); (first | refine JL_nil ?_ | refine L_move ?_ | refine L_assign ?_ | refine L_fieldAddr ?_ | refine L_load ?_ | refine L_indexAddr ?_ | refine L_c_len ?_ | refine L_bin_neq ?_ | refine L_bin_lss ?_ | refine L_bin_gtr ?_ | refine L_bin_add_i64 ?_ | refine L_bin_add_r ?_ | fail)) | ((with_reducible apply gD); (first | (refine JD_nil ?_; try simp only [List.cons_append, List.nil_append]) | (refine JD_bar ?_; try simp only [List.cons_append, List.nil_append]) | refine D_move ?_ | refine D_assign ?_ | refine D_fieldAddr ?_ | refine D_load ?_ | refine D_indexAddr ?_ | refine D_bin_add_i64 ?_ | refine D_bin_add_r ?_ | ((with_reducible apply gD_load); (first | refine JD_ldM xR xT xC xR xR ?_ | refine JD_ldWM xR xT xW xR ?_ | refine JD_ldSM xR xT (tabS stab_ok xR) xG xC xR ?_ | fail)) | ((with_reducible apply gD_indexAddr); (first | refine JD_ixM xR xR (tabE etab_ok xR) xT xI xO xR ?_ | refine JD_ixV xR xR (tabE etab_ok xR) xT xI xO xR ?_ | fail)) | fail)) | fail))
      exact J_again (k + 1) (by omega) (by omega) ⟨rfl, by rw [ht]; rfl, rfl, trivial⟩ (fun w H => H.sel .nil)
  · obtain rfl : k = l.length := by omega
    rw [List.take_length]
    (repeat' (first | ((with_reducible apply gJ); (first | refine J_seq ?_ | refine J_reg ?_ | refine J_skip ?_ | refine J_block ?_ | refine J_blk ?_ | refine J_exit rfl ?_ | refine J_goto rfl ?_ | ((with_reducible apply gJ_if); (first | refine J_ift rfl ?_ | refine J_iff rfl ?_ | (refine J_if xR ?_ ?_ <;> intro _ <;> (try (exfalso; first | contradiction | omega))) | (refine J_ifb xR ?_ ?_ <;> (intro hgb; subst hgb)) | (refine J_ifb xR ?_ ?_ <;> intro _) | fail)) | refine J_label ?_ | refine J_draw (id := 7) [0, 1, 2, 3, 4, 5, 7, 8, 9, 10, 11, 14, 15, 16, 17, 18, 6, 12, 13, 19, 20] [21, 22] mixed xC xD xD ?_ | fail)) | ((with_reducible apply gL); (first | refine JL_nil ?_ | refine L_move ?_ | refine L_assign ?_ | refine L_fieldAddr ?_ | refine L_load ?_ | refine L_indexAddr ?_ | refine L_c_len ?_ | refine L_bin_neq ?_ | refine L_bin_lss ?_ | refine L_bin_gtr ?_ | refine L_bin_add_i64 ?_ | refine L_bin_add_r ?_ | fail)) | ((with_reducible apply gD); (first | (refine JD_nil ?_; try simp only [List.cons_append, List.nil_append]) | (refine JD_bar ?_; try simp only [List.cons_append, List.nil_append]) | refine D_move ?_ | refine D_assign ?_ | refine D_fieldAddr ?_ | refine D_load ?_ | refine D_indexAddr ?_ | refine D_bin_add_i64 ?_ | refine D_bin_add_r ?_ | ((with_reducible apply gD_load); (first | refine JD_ldM xR xT xC xR xR ?_ | refine JD_ldWM xR xT xW xR ?_ | refine JD_ldSM xR xT (tabS stab_ok xR) xG xC xR ?_ | fail)) | ((with_reducible apply gD_indexAddr); (first | refine JD_ixM xR xR (tabE etab_ok xR) xT xI xO xR ?_ | refine JD_ixV xR xR (tabE etab_ok xR) xT xI xO xR ?_ | fail)) | fail)) | fail))
    exact J_ret1 rfl (by rfl) fun w H => ⟨_, ⟨rfl, rfl⟩, H.sel .nil⟩
theorem rsize_s : ∀ (d : Nat) (a : Option Addr) (c : Nat) (l : List St), LsF d l → d ≤ 5 → Pact Try.prog 19 #[.slice a l.length c] (fun w => LsV w d a c l) [] (ret0 (.int .i64 (sizeL d l))) := by
  intro d
  induction d with
  | zero =>
    intro a c l hl hd
    rw [sizeL_eq hl]
    have hno : ∀ s ∈ l, False := fun s hs => by rw [show l = [] from hl] at hs; cases hs
    exact preP (rsize_core a c l (fun s w => SeenS (0 - 1) s w) _ hl.len (fun s hs => (hno s hs).elim) (fun s hs => (hno s hs).elim) (fun s hs => (hno s hs).elim) (fun s hs => (hno s hs).elim) (fun s hs => (hno s hs).elim)) fun w h => hl.kids h
  | succ d ih =>
    intro a c l hl hd
    rw [sizeL_eq hl]
    refine preP (rsize_core a c l (fun s w => SeenS (d + 1 - 1) s w) _ hl.len (fun s hs => ⟨(hl.sub hs).2.2.1.len, (hl.sub hs).2.2.2.len⟩) (fun s hs => ?_) (fun s hs => preP (rtests_s 5 s.cd (hl.sub hs).2.1 (by omega)) fun w h => h.1) (fun s hs => preP (ih s.ta s.tc s.th (hl.sub hs).2.2.1 (by omega)) fun w h => h.2.1) (fun s hs => preP (ih s.ea s.ec s.el (hl.sub hs).2.2.2 (by omega)) fun w h => h.2.2)) fun w h => hl.kids h
    obtain ⟨_, h2, h3, h4⟩ := hl.sub hs
    have a1 := tests_le h2
    have a2 := sizeL_le h3
    have a3 := sizeL_le h4
    have a4 := bnd_le (d := d) (by omega)
    have e : (5 : Nat) ^ 5 = 3125 := rfl
    simp only [Nat.add_sub_cancel] at a2 a3 ⊢
    refine ⟨?_, by omega, by omega, by omega⟩
    unfold sizeG
    split <;> (try split) <;> omega
theorem rTests_core (a : Option Addr) (c : Nat) (l : List St) (φ : St → World → Prop) (g : List St → Nat) (hl : l.length ≤ 5) (hL : ∀ s ∈ l, s.th.length ≤ 5 ∧ s.el.length ≤ 5) (hg : ∀ s ∈ l, testG g s ≤ 800000000 ∧ g s.th ≤ 200000000 ∧ g s.el ≤ 200000000 ∧ tests 5 s.cd ≤ 3125)
    (hC : ∀ s ∈ l, Pact Try.prog 25 #[.agg (cdC s.cd).toArray] (φ s) [] (ret0 (.int .i64 (tests 5 s.cd))))
    (hT : ∀ s ∈ l, Pact Try.prog 14 #[.slice s.ta s.th.length s.tc] (φ s) [] (ret0 (.int .i64 (g s.th))))
    (hE : ∀ s ∈ l, Pact Try.prog 14 #[.slice s.ea s.el.length s.ec] (φ s) [] (ret0 (.int .i64 (g s.el)))) :
    Pact Try.prog 14 #[.slice a l.length c] (KidS φ a c l) [] (ret0 (.int .i64 ((l.map (testG g)).sum : Nat))) := by
  refine pact Try.func14 rfl Try.ntmps14 rfl ?_
  intro W K hK
  have hsum := sum_le (l := l) (f := testG g) (b := 800000000) fun s hs => (hg s hs).1
  (repeat' (first | ((with_reducible apply gJ); (first | refine J_seq ?_ | refine J_reg ?_ | refine J_skip ?_ | refine J_block ?_ | refine J_blk ?_ | refine J_exit rfl ?_ | refine J_goto rfl ?_ | ((with_reducible apply gJ_if); (first | refine J_ift rfl ?_ | refine J_iff rfl ?_ | (refine J_if xR ?_ ?_ <;> intro _ <;> (try (exfalso; first | contradiction | omega))) | (refine J_ifb xR ?_ ?_ <;> (intro hgb; subst hgb)) | (refine J_ifb xR ?_ ?_ <;> intro _) | fail)) | refine J_label ?_ | refine J_draw (id := 6) [0, 1, 2, 3, 4, 5, 7, 8, 9, 10, 11, 14, 15, 16, 17, 18, 6, 12, 13, 19, 20] [21, 22] mixed xC xD xD ?_ | fail)) | ((with_reducible apply gL); (first | refine JL_nil ?_ | refine L_move ?_ | refine L_assign ?_ | refine L_fieldAddr ?_ | refine L_load ?_ | refine L_indexAddr ?_ | refine L_c_len ?_ | refine L_bin_eql ?_ | refine L_bin_lss ?_ | refine L_bin_add_i64 ?_ | refine L_bin_add_r ?_ | fail)) | ((with_reducible apply gD); (first | (refine JD_nil ?_; try simp only [List.cons_append, List.nil_append]) | (refine JD_bar ?_; try simp only [List.cons_append, List.nil_append]) | refine D_move ?_ | refine D_assign ?_ | refine D_fieldAddr ?_ | refine D_load ?_ | refine D_indexAddr ?_ | refine D_bin_add_i64 ?_ | refine D_bin_add_r ?_ | ((with_reducible apply gD_load); (first | refine JD_ldM xR xT xC xR xR ?_ | refine JD_ldWM xR xT xW xR ?_ | refine JD_ldSM xR xT (tabS stab_ok xR) xG xC xR ?_ | fail)) | ((with_reducible apply gD_indexAddr); (first | refine JD_ixM xR xR (tabE etab_ok xR) xT xI xO xR ?_ | refine JD_ixV xR xR (tabE etab_ok xR) xT xI xO xR ?_ | fail)) | fail)) | fail))
  refine J_loop (α := Nat) 0 (fun k => l.length - k) (fun k => k ≤ l.length) (fun k => [(0, .slice a l.length c), (3, .int .i64 (((l.take k).map (testG g)).sum : Nat)), (4, .int .i64 k)]) (fun _ => []) (Nat.zero_le _) ⟨rfl, rfl, rfl, trivial⟩ (fun w H => H.sel .nil) ?_
  intro k hk
  by_cases hlt : k < l.length
  · obtain ⟨s, hs⟩ : ∃ s, l[k]? = some s := ⟨_, List.getElem?_eq_getElem hlt⟩
    have hm := List.mem_of_getElem? hs
    have hkv : Kn K (fun w => Vw w (.slice a l.length c) 10 l.length (flat stC l)) := hK.imp fun w h => h.1 (List.ne_nil_of_mem hm)
    have hkl : Kn K (φ s) := hK.imp fun w h => h.2 s hm
    obtain ⟨hl1, hl2⟩ := hL s hm
    have ht := sum_take (f := testG g) hs
    have hp := sum_part (f := testG g) l (k + 1)
    obtain ⟨b1, b2, b3, b4⟩ := hg s hm
    by_cases ho : s.op = 1
    · have e : testG g s = tests 5 s.cd + g s.th + g s.el := by unfold testG; rw [if_pos ho]
      rw [e] at ht b1
      (repeat' (first | ((with_reducible apply gJ); (first | refine J_seq ?_ | refine J_reg ?_ | refine J_skip ?_ | refine J_block ?_ | refine J_blk ?_ | refine J_exit rfl ?_ | refine J_goto rfl ?_ | ((with_reducible apply gJ_if); (first | refine J_ift rfl ?_ | refine J_iff rfl ?_ | (refine J_if xR ?_ ?_ <;> intro _ <;> (try (exfalso; first | contradiction | omega))) | (refine J_ifb xR ?_ ?_ <;> (intro hgb; subst hgb)) | (refine J_ifb xR ?_ ?_ <;> intro _) | fail)) | refine J_label ?_ | refine J_draw (id := 6) [0, 1, 2, 3, 4, 5, 7, 8, 9, 10, 11, 14, 15, 16, 17, 18, 6, 12, 13, 19, 20] [21, 22] mixed xC xD xD ?_ | fail)) | ((with_reducible apply gL); (first | refine JL_nil ?_ | refine L_move ?_ | refine L_assign ?_ | refine L_fieldAddr ?_ | refine L_load ?_ | refine L_indexAddr ?_ | refine L_c_len ?_ | refine L_bin_eql ?_ | refine L_bin_lss ?_ | refine L_bin_add_i64 ?_ | refine L_bin_add_r ?_ | fail)) | ((with_reducible apply gD); (first | (refine JD_nil ?_; try simp only [List.cons_append, List.nil_append]) | (refine JD_bar ?_; try simp only [List.cons_append, List.nil_append]) | refine D_move ?_ | refine D_assign ?_ | refine D_fieldAddr ?_ | refine D_load ?_ | refine D_indexAddr ?_ | refine D_bin_add_i64 ?_ | refine D_bin_add_r ?_ | ((with_reducible apply gD_load); (first | refine JD_ldM xR xT xC xR xR ?_ | refine JD_ldWM xR xT xW xR ?_ | refine JD_ldSM xR xT (tabS stab_ok xR) xG xC xR ?_ | fail)) | ((with_reducible apply gD_indexAddr); (first | refine JD_ixM xR xR (tabE etab_ok xR) xT xI xO xR ?_ | refine JD_ixV xR xR (tabE etab_ok xR) xT xI xO xR ?_ | fail)) | ((with_reducible apply gD_go); (first | (refine JD_goq (hC s hm) (hφ := (by (try simp only [List.cons_append, List.nil_append]); exact fun w hr => hkl w hr.1)) (h := ?_); rintro _ _ ⟨rfl, rfl⟩; try simp only [List.cons_append, List.nil_append]) | (refine JD_goq (hT s hm) (hφ := (by (try simp only [List.cons_append, List.nil_append]); exact fun w hr => hkl w hr.1)) (h := ?_); rintro _ _ ⟨rfl, rfl⟩; try simp only [List.cons_append, List.nil_append]) | (refine JD_goq (hE s hm) (hφ := (by (try simp only [List.cons_append, List.nil_append]); exact fun w hr => hkl w hr.1)) (h := ?_); rintro _ _ ⟨rfl, rfl⟩; try simp only [List.cons_append, List.nil_append]) | fail)) | fail)) | fail))
      refine J_again (k + 1) (by omega) (by omega) ⟨rfl, ?_, rfl, trivial⟩ (fun w H => H.sel .nil)
      rw [ht]; show some _ = some _; congr 2 <;> omega
    · have e : testG g s = 0 := by unfold testG; rw [if_neg ho]
      rw [e] at ht b1
      (repeat' (first | ((with_reducible apply gJ); (first | refine J_seq ?_ | refine J_reg ?_ | refine J_skip ?_ | refine J_block ?_ | refine J_blk ?_ | refine J_exit rfl ?_ | refine J_goto rfl ?_ | ((with_reducible apply gJ_if); (first | refine J_ift rfl ?_ | refine J_iff rfl ?_ | (refine J_if xR ?_ ?_ <;> intro _ <;> (try (exfalso; first | contradiction | omega))) | (refine J_ifb xR ?_ ?_ <;> (intro hgb; subst hgb)) | (refine J_ifb xR ?_ ?_ <;> intro _) | fail)) | refine J_label ?_ | refine J_draw (id := 6) [0, 1, 2, 3, 4, 5, 7, 8, 9, 10, 11, 14, 15, 16, 17, 18, 6, 12, 13, 19, 20] [21, 22] mixed xC xD xD ?_ | fail)) | ((with_reducible apply gL); (first | refine JL_nil ?_ | refine L_move ?_ | refine L_assign ?_ | refine L_fieldAddr ?_ | refine L_load ?_ | refine L_indexAddr ?_ | refine L_c_len ?_ | refine L_bin_eql ?_ | refine L_bin_lss ?_ | refine L_bin_add_i64 ?_ | refine L_bin_add_r ?_ | fail)) | ((with_reducible apply gD); (first | (refine JD_nil ?_; try simp only [List.cons_append, List.nil_append]) | (refine JD_bar ?_; try simp only [List.cons_append, List.nil_append]) | refine D_move ?_ | refine D_assign ?_ | refine D_fieldAddr ?_ | refine D_load ?_ | refine D_indexAddr ?_ | refine D_bin_add_i64 ?_ | refine D_bin_add_r ?_ | ((with_reducible apply gD_load); (first | refine JD_ldM xR xT xC xR xR ?_ | refine JD_ldWM xR xT xW xR ?_ | refine JD_ldSM xR xT (tabS stab_ok xR) xG xC xR ?_ | fail)) | ((with_reducible apply gD_indexAddr); (first | refine JD_ixM xR xR (tabE etab_ok xR) xT xI xO xR ?_ | refine JD_ixV xR xR (tabE etab_ok xR) xT xI xO xR ?_ | fail)) | fail)) | fail))
      exact J_again (k + 1) (by omega) (by omega) ⟨rfl, by rw [ht]; rfl, rfl, trivial⟩ (fun w H => H.sel .nil)
  · obtain rfl : k = l.length := by omega
    rw [List.take_length]
    (repeat' (first | ((with_reducible apply gJ); (first | refine J_seq ?_ | refine J_reg ?_ | refine J_skip ?_ | refine J_block ?_ | refine J_blk ?_ | refine J_exit rfl ?_ | refine J_goto rfl ?_ | ((with_reducible apply gJ_if); (first | refine J_ift rfl ?_ | refine J_iff rfl ?_ | (refine J_if xR ?_ ?_ <;> intro _ <;> (try (exfalso; first | contradiction | omega))) | (refine J_ifb xR ?_ ?_ <;> (intro hgb; subst hgb)) | (refine J_ifb xR ?_ ?_ <;> intro _) | fail)) | refine J_label ?_ | refine J_draw (id := 6) [0, 1, 2, 3, 4, 5, 7, 8, 9, 10, 11, 14, 15, 16, 17, 18, 6, 12, 13, 19, 20] [21, 22] mixed xC xD xD ?_ | fail)) | ((with_reducible apply gL); (first | refine JL_nil ?_ | refine L_move ?_ | refine L_assign ?_ | refine L_fieldAddr ?_ | refine L_load ?_ | refine L_indexAddr ?_ | refine L_c_len ?_ | refine L_bin_eql ?_ | refine L_bin_lss ?_ | refine L_bin_add_i64 ?_ | refine L_bin_add_r ?_ | fail)) | ((with_reducible apply gD); (first | (refine JD_nil ?_; try simp only [List.cons_append, List.nil_append]) | (refine JD_bar ?_; try simp only [List.cons_append, List.nil_append]) | refine D_move ?_ | refine D_assign ?_ | refine D_fieldAddr ?_ | refine D_load ?_ | refine D_indexAddr ?_ | refine D_bin_add_i64 ?_ | refine D_bin_add_r ?_ | ((with_reducible apply gD_load); (first | refine JD_ldM xR xT xC xR xR ?_ | refine JD_ldWM xR xT xW xR ?_ | refine JD_ldSM xR xT (tabS stab_ok xR) xG xC xR ?_ | fail)) | ((with_reducible apply gD_indexAddr); (first | refine JD_ixM xR xR (tabE etab_ok xR) xT xI xO xR ?_ | refine JD_ixV xR xR (tabE etab_ok xR) xT xI xO xR ?_ | fail)) | fail)) | fail))
    exact J_ret1 rfl (by rfl) fun w H => ⟨_, ⟨rfl, rfl⟩, H.sel .nil⟩
theorem rTests_s : ∀ (d : Nat) (a : Option Addr) (c : Nat) (l : List St), LsF d l → d ≤ 5 → Pact Try.prog 14 #[.slice a l.length c] (fun w => LsV w d a c l) [] (ret0 (.int .i64 (testL d l))) := by
  intro d
  induction d with
  | zero =>
    intro a c l hl hd
    rw [testL_eq hl]
    have hno : ∀ s ∈ l, False := fun s hs => by rw [show l = [] from hl] at hs; cases hs
    exact preP (rTests_core a c l (fun s w => SeenS (0 - 1) s w) _ hl.len (fun s hs => (hno s hs).elim) (fun s hs => (hno s hs).elim) (fun s hs => (hno s hs).elim) (fun s hs => (hno s hs).elim) (fun s hs => (hno s hs).elim)) fun w h => hl.kids h
  | succ d ih =>
    intro a c l hl hd
    rw [testL_eq hl]
    refine preP (rTests_core a c l (fun s w => SeenS (d + 1 - 1) s w) _ hl.len (fun s hs => ⟨(hl.sub hs).2.2.1.len, (hl.sub hs).2.2.2.len⟩) (fun s hs => ?_) (fun s hs => preP (rtests_s 5 s.cd (hl.sub hs).2.1 (by omega)) fun w h => h.1) (fun s hs => preP (ih s.ta s.tc s.th (hl.sub hs).2.2.1 (by omega)) fun w h => h.2.1) (fun s hs => preP (ih s.ea s.ec s.el (hl.sub hs).2.2.2 (by omega)) fun w h => h.2.2)) fun w h => hl.kids h
    obtain ⟨_, h2, h3, h4⟩ := hl.sub hs
    have a1 := tests_le h2
    have a2 := testL_le h3
    have a3 := testL_le h4
    have a4 := bnd_le (d := d) (by omega)
    have e : (5 : Nat) ^ 5 = 3125 := rfl
    simp only [Nat.add_sub_cancel] at a2 a3 ⊢
    refine ⟨?_, by omega, by omega, by omega⟩
    unfold testG
    split <;> (try split) <;> omega
end Go.Proofs.Yteekbpohocfmpaa
