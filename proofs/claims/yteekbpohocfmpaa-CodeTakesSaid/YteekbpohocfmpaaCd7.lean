/-
  Policies as trees; the law's few and cond.
-/
import Derived.Test.YteekbpohocfmpaaCd3
namespace Go.Proofs.Yteekbpohocfmpaa
set_option linter.unusedSimpArgs false
set_option linter.unusedVariables false
set_option maxRecDepth 20000
set_option maxHeartbeats 4000000
open Go.RowKit Go.Pm

/-- A condition, with where its members lie. -/
structure Cd where
  op : Int
  n : Int
  pa : Int
  pl : Int
  a : Option Addr
  c : Nat
  l : List Cd
/-- A statement. -/
structure St where
  op : Int
  n : Int
  m : Int
  cd : Cd
  ta : Option Addr
  tc : Nat
  th : List St
  ea : Option Addr
  ec : Nat
  el : List St
abbrev cdC (x : Cd) : List Value := [.int .i64 x.op, .slice x.a x.l.length x.c, .int .u32 x.pa, .int .i64 x.pl, .int .i64 x.n]
abbrev stC (s : St) : List Value := [.int .i64 s.op, .int .i64 s.cd.op, .slice s.cd.a s.cd.l.length s.cd.c, .int .u32 s.cd.pa, .int .i64 s.cd.pl, .int .i64 s.cd.n, .slice s.ta s.th.length s.tc, .slice s.ea s.el.length s.ec, .int .i64 s.n, .int .i64 s.m]
structure CdN (x : Cd) : Prop where
  op : I64 x.op
  n : I64 x.n
  pa : U32 x.pa
  pl : I64 x.pl
structure StN (s : St) : Prop where
  op : I64 s.op
  n : I64 s.n
  m : I64 s.m
  cd : CdN s.cd
/-- Ranges of a condition, so deep. -/
def CdR : Nat → Cd → Prop
  | 0, x => CdN x ∧ x.l.length ≤ 140737488355328
  | d + 1, x => CdN x ∧ x.l.length ≤ 140737488355328 ∧ ∀ y ∈ x.l, CdR d y
/-- How a condition lies in memory, so deep. -/
def CdV (w : World) : Nat → Cd → Prop
  | 0, _ => True
  | d + 1, x => Vw w (.slice x.a x.l.length x.c) 5 x.l.length (flat cdC x.l) ∧ ∀ y ∈ x.l, CdV w d y
/-- A condition that is not too great. -/
def CdF : Nat → Cd → Prop
  | 0, x => CdN x ∧ x.l = []
  | d + 1, x => CdN x ∧ x.l.length ≤ 5 ∧ ∀ y ∈ x.l, CdF d y
def LsR : Nat → List St → Prop
  | 0, l => l.length ≤ 140737488355328
  | d + 1, l => l.length ≤ 140737488355328 ∧ ∀ s ∈ l, StN s ∧ CdR 5 s.cd ∧ LsR d s.th ∧ LsR d s.el
def LsV (w : World) : Nat → Option Addr → Nat → List St → Prop
  | 0, _, _, _ => True
  | d + 1, a, c, l => Vw w (.slice a l.length c) 10 l.length (flat stC l) ∧ ∀ s ∈ l, CdV w 5 s.cd ∧ LsV w d s.ta s.tc s.th ∧ LsV w d s.ea s.ec s.el
def LsF : Nat → List St → Prop
  | 0, l => l = []
  | d + 1, l => l.length ≤ 5 ∧ ∀ s ∈ l, StN s ∧ CdF 5 s.cd ∧ LsF d s.th ∧ LsF d s.el
theorem CdR.nn {d : Nat} {x : Cd} (h : CdR d x) : CdN x := by
  cases d with
  | zero => exact h.1
  | succ d => exact h.1
theorem CdR.len {d : Nat} {x : Cd} (h : CdR d x) : x.l.length ≤ 140737488355328 := by
  cases d with
  | zero => exact h.2
  | succ d => exact h.2.1
theorem CdF.nn {d : Nat} {x : Cd} (h : CdF d x) : CdN x := by
  cases d with
  | zero => exact h.1
  | succ d => exact h.1
structure Lc where
  k : Nat
  ys : List Cd
  a : Option Addr
  c : Nat
theorem cond_s : ∀ (d : Nat) (x : Cd), CdR d x → d ≤ 64 → Pact Try.prog 15 #[.agg (cdC x).toArray, .int .i64 d] (fun w => CdV w d x) [] (fun u L' => ∃ y, CdF d y ∧ u = .agg (cdC y).toArray ∧ L' = [has (fun w => CdV w d y)]) := by
  intro d
  induction d with
  | zero =>
    intro x hx _
    have hxl := hx.len
    refine pact Try.func15 rfl Try.ntmps15 rfl ?_
    intro W K hK
    (repeat' (first | ((with_reducible apply gJ); (first | refine J_seq ?_ | refine J_reg ?_ | refine J_skip ?_ | refine J_block ?_ | refine J_blk ?_ | refine J_exit rfl ?_ | refine J_goto rfl ?_ | ((with_reducible apply gJ_if); (first | refine J_ift rfl ?_ | refine J_iff rfl ?_ | (refine J_if xR ?_ ?_ <;> intro _ <;> (try (exfalso; first | contradiction | omega))) | (refine J_ifb xR ?_ ?_ <;> (intro hgb; subst hgb)) | (refine J_ifb xR ?_ ?_ <;> intro _) | fail)) | refine J_label ?_ | fail)) | ((with_reducible apply gL); (first | refine JL_nil ?_ | ((with_reducible apply gL_gd); (first | refine JL_skip xR xR ?_ | fail)) | refine L_move ?_ | refine L_assign ?_ | refine L_fieldAddr ?_ | refine L_load ?_ | refine L_pick ?_ | refine L_indexAddr ?_ | refine L_c_len ?_ | refine L_bin_lss ?_ | refine L_bin_gtr ?_ | refine L_bin_add_i64 ?_ | refine L_bin_add_r ?_ | refine L_bin_sub_i64 ?_ | refine L_bin_sub_r ?_ | ((with_reducible apply gL_box); (first | (refine JL_mc rfl xR xR (al_boxA xR) ?_; intro _) | (refine JL_mc rfl xR xR (al_boxC xR xR) ?_; intro _) | fail)) | ((with_reducible apply gL_alloc); (first | (refine JL_mc rfl xR xR (al_alloc xN xK) ?_; intro _) | fail)) | ((with_reducible apply gL_buildSlice); (first | (refine JL_mc rfl xR xR (al_bs1 xR (tabE etab_ok xR) xK) ?_; intro _) | (refine JL_mc rfl xR xR (al_bs xR (tabE etab_ok xR) xN xK) ?_; intro _) | fail)) | ((with_reducible apply gL_store); (first | refine JL_st xR xR xT xC xR xE xR ?_ | refine JL_stW xR xR xT xW xR xR xR ?_ | refine JL_stS xR xR xT xW xP xR xR ?_ | refine JL_stEl xR xR xT xR xL xR (tabS stab_ok xR) xR xR xO ?_ | fail)) | ((with_reducible apply gL_c_append); (first | (refine JL_ap1 (tabE etab_ok xR) xR xR xT xT xC xR xL xR xO xR xR ?_; intro _ _ _ _) | (refine JL_app (tabE etab_ok xR) xR xR xT xV xC xL xU xO xR xR ?_; intro _ _ _ _) | fail)) | ((with_reducible apply gL_gd); (first | (refine JL_guard xR xR ?_ ?_ <;> intro _ <;> (try (exfalso; first | contradiction | omega))) | (refine JL_guardb xR xR ?_ ?_ <;> (intro hgb; subst hgb)) | (refine JL_guardb xR xR ?_ ?_ <;> (intro hgb; fail_if_success (have : type_of% hgb := rfl))) | fail)) | fail)) | fail))
    rename_i b1 b2 b3
    refine J_loop (α := Unit) () (fun _ => 0) (fun _ => True) (fun _ => [(1, .int .i64 ((0 : Nat) : Int)), (2, .pointer (some ⟨b1, 0, none⟩)), (4, .pointer (some ⟨b2, 0, none⟩)), (5, .slice (some ⟨b3, 0, none⟩) 0 0), (6, .int .i64 0)])
      (fun _ => [pts b1 (cdC x) 45, pts b2 [.int .i64 0, .slice none 0 0, .int .u32 0, .int .i64 0, .int .i64 0] 45]) trivial ⟨rfl, rfl, rfl, rfl, rfl, trivial⟩ (fun w H => H.sel (by (first | ((with_reducible (repeat (first | exact Sb.nil | apply Sb.cons | exact Tk.here | apply Tk.there))); done) | (repeat (first | exact Sb.nil | apply Sb.cons | exact Tk.here | apply Tk.there))))) ?_
    rintro ⟨⟩ _
    (repeat' (first | ((with_reducible apply gJ); (first | refine J_seq ?_ | refine J_reg ?_ | refine J_skip ?_ | refine J_block ?_ | refine J_blk ?_ | refine J_exit rfl ?_ | refine J_goto rfl ?_ | ((with_reducible apply gJ_if); (first | refine J_ift rfl ?_ | refine J_iff rfl ?_ | (refine J_if xR ?_ ?_ <;> intro _ <;> (try (exfalso; first | contradiction | omega))) | (refine J_ifb xR ?_ ?_ <;> (intro hgb; subst hgb)) | (refine J_ifb xR ?_ ?_ <;> intro _) | fail)) | refine J_label ?_ | fail)) | ((with_reducible apply gL); (first | refine JL_nil ?_ | ((with_reducible apply gL_gd); (first | refine JL_skip xR xR ?_ | fail)) | refine L_move ?_ | refine L_assign ?_ | refine L_fieldAddr ?_ | refine L_load ?_ | refine L_pick ?_ | refine L_indexAddr ?_ | refine L_c_len ?_ | refine L_bin_lss ?_ | refine L_bin_gtr ?_ | refine L_bin_add_i64 ?_ | refine L_bin_add_r ?_ | refine L_bin_sub_i64 ?_ | refine L_bin_sub_r ?_ | ((with_reducible apply gL_box); (first | (refine JL_mc rfl xR xR (al_boxA xR) ?_; intro _) | (refine JL_mc rfl xR xR (al_boxC xR xR) ?_; intro _) | fail)) | ((with_reducible apply gL_alloc); (first | (refine JL_mc rfl xR xR (al_alloc xN xK) ?_; intro _) | fail)) | ((with_reducible apply gL_buildSlice); (first | (refine JL_mc rfl xR xR (al_bs1 xR (tabE etab_ok xR) xK) ?_; intro _) | (refine JL_mc rfl xR xR (al_bs xR (tabE etab_ok xR) xN xK) ?_; intro _) | fail)) | ((with_reducible apply gL_store); (first | refine JL_st xR xR xT xC xR xE xR ?_ | refine JL_stW xR xR xT xW xR xR xR ?_ | refine JL_stS xR xR xT xW xP xR xR ?_ | refine JL_stEl xR xR xT xR xL xR (tabS stab_ok xR) xR xR xO ?_ | fail)) | ((with_reducible apply gL_c_append); (first | (refine JL_ap1 (tabE etab_ok xR) xR xR xT xT xC xR xL xR xO xR xR ?_; intro _ _ _ _) | (refine JL_app (tabE etab_ok xR) xR xR xT xV xC xL xU xO xR xR ?_; intro _ _ _ _) | fail)) | ((with_reducible apply gL_gd); (first | (refine JL_guard xR xR ?_ ?_ <;> intro _ <;> (try (exfalso; first | contradiction | omega))) | (refine JL_guardb xR xR ?_ ?_ <;> (intro hgb; subst hgb)) | (refine JL_guardb xR xR ?_ ?_ <;> (intro hgb; fail_if_success (have : type_of% hgb := rfl))) | fail)) | fail)) | fail))
    all_goals exact J_retC (cs := [.int .i64 x.op, .slice (some ⟨b3, 0, none⟩) 0 0, .int .u32 x.pa, .int .i64 x.pl, .int .i64 x.n]) rfl (by rfl) (by (first | ((with_reducible (repeat (first | exact Tk.here | apply Tk.there))); done) | ((simp only [List.cons_append, List.nil_append]); (with_reducible (repeat (first | exact Tk.here | apply Tk.there))); done) | fail)) (by rfl) fun w H => ⟨_, ⟨⟨x.op, x.n, x.pa, x.pl, some ⟨b3, 0, none⟩, 0, []⟩, ⟨⟨hx.1.op, hx.1.n, hx.1.pa, hx.1.pl⟩, rfl⟩, rfl, rfl⟩, (Ow.hasTrue (φ := fun w => CdV w 0 _) H (fun _ => trivial)).sel (by (first | ((with_reducible (repeat (first | exact Sb.nil | apply Sb.cons | exact Tk.here | apply Tk.there))); done) | (repeat (first | exact Sb.nil | apply Sb.cons | exact Tk.here | apply Tk.there))))⟩
  | succ d ih =>
    intro x hx hd
    have hxl := hx.len
    refine pact Try.func15 rfl Try.ntmps15 rfl ?_
    intro W K hK
    have hkv : Kn K (fun w => Vw w (.slice x.a x.l.length x.c) 5 x.l.length (flat cdC x.l)) := hK.imp fun w h => h.1
    have hkl : ∀ y ∈ x.l, Kn K (fun w => CdV w d y) := fun y hy => hK.imp fun w h => h.2 y hy
    have hd1 : (d : Int) + 1 - 1 = d := by omega
    (repeat' (first | ((with_reducible apply gJ); (first | refine J_seq ?_ | refine J_reg ?_ | refine J_skip ?_ | refine J_block ?_ | refine J_blk ?_ | refine J_exit rfl ?_ | refine J_goto rfl ?_ | ((with_reducible apply gJ_if); (first | refine J_ift rfl ?_ | refine J_iff rfl ?_ | (refine J_if xR ?_ ?_ <;> intro _ <;> (try (exfalso; first | contradiction | omega))) | (refine J_ifb xR ?_ ?_ <;> (intro hgb; subst hgb)) | (refine J_ifb xR ?_ ?_ <;> intro _) | fail)) | refine J_label ?_ | fail)) | ((with_reducible apply gL); (first | refine JL_nil ?_ | ((with_reducible apply gL_gd); (first | refine JL_skip xR xR ?_ | fail)) | refine L_move ?_ | refine L_assign ?_ | refine L_fieldAddr ?_ | refine L_load ?_ | refine L_pick ?_ | refine L_indexAddr ?_ | refine L_c_len ?_ | refine L_bin_lss ?_ | refine L_bin_gtr ?_ | refine L_bin_add_i64 ?_ | refine L_bin_add_r ?_ | refine L_bin_sub_i64 ?_ | refine L_bin_sub_r ?_ | ((with_reducible apply gL_box); (first | (refine JL_mc rfl xR xR (al_boxA xR) ?_; intro _) | (refine JL_mc rfl xR xR (al_boxC xR xR) ?_; intro _) | fail)) | ((with_reducible apply gL_alloc); (first | (refine JL_mc rfl xR xR (al_alloc xN xK) ?_; intro _) | fail)) | ((with_reducible apply gL_buildSlice); (first | (refine JL_mc rfl xR xR (al_bs1 xR (tabE etab_ok xR) xK) ?_; intro _) | (refine JL_mc rfl xR xR (al_bs xR (tabE etab_ok xR) xN xK) ?_; intro _) | fail)) | ((with_reducible apply gL_store); (first | refine JL_st xR xR xT xC xR xE xR ?_ | refine JL_stW xR xR xT xW xR xR xR ?_ | refine JL_stS xR xR xT xW xP xR xR ?_ | refine JL_stEl xR xR xT xR xL xR (tabS stab_ok xR) xR xR xO ?_ | fail)) | ((with_reducible apply gL_c_append); (first | (refine JL_ap1 (tabE etab_ok xR) xR xR xT xT xC xR xL xR xO xR xR ?_; intro _ _ _ _) | (refine JL_app (tabE etab_ok xR) xR xR xT xV xC xL xU xO xR xR ?_; intro _ _ _ _) | fail)) | ((with_reducible apply gL_gd); (first | (refine JL_guard xR xR ?_ ?_ <;> intro _ <;> (try (exfalso; first | contradiction | omega))) | (refine JL_guardb xR xR ?_ ?_ <;> (intro hgb; subst hgb)) | (refine JL_guardb xR xR ?_ ?_ <;> (intro hgb; fail_if_success (have : type_of% hgb := rfl))) | fail)) | fail)) | fail))
    rename_i b1 b2 b3
    refine J_loop (α := Lc) ⟨0, [], some ⟨b3, 0, none⟩, 0⟩ (fun z => 5 - z.k) (fun z => z.k ≤ x.l.length ∧ z.k ≤ 5 ∧ z.k = z.ys.length ∧ ∀ y ∈ z.ys, CdF d y) (fun z => [(1, .int .i64 ((d : Int) + 1)), (2, .pointer (some ⟨b1, 0, none⟩)), (4, .pointer (some ⟨b2, 0, none⟩)), (5, .slice z.a z.ys.length z.c), (6, .int .i64 z.k)])
      (fun z => [pts b1 (cdC x) 45, pts b2 [.int .i64 0, .slice none 0 0, .int .u32 0, .int .i64 0, .int .i64 0] 45, Ar 45 5 cdC (.slice z.a z.ys.length z.c) z.ys, has (fun w => ∀ y ∈ z.ys, CdV w d y)]) ⟨Nat.zero_le _, Nat.zero_le _, rfl, by simp⟩ ⟨rfl, rfl, rfl, rfl, rfl, trivial⟩ (fun w H => (Ow.hasTrue (φ := fun w => ∀ y ∈ ([] : List Cd), CdV w d y) (Ow.arLit0 (sz := 5) (enc := cdC) H (by (first | ((with_reducible (repeat (first | exact Tk.here | apply Tk.there))); done) | ((simp only [List.cons_append, List.nil_append]); (with_reducible (repeat (first | exact Tk.here | apply Tk.there))); done) | fail))) (by intro _ _ h; exact absurd h List.not_mem_nil)).sel (by (first | ((with_reducible (repeat (first | exact Sb.nil | apply Sb.cons | exact Tk.here | apply Tk.there))); done) | (repeat (first | exact Sb.nil | apply Sb.cons | exact Tk.here | apply Tk.there))))) ?_
    rintro ⟨k, ys, a, c⟩ ⟨hk, hk5, hky, hys⟩
    dsimp only at hk hk5 hky hys ⊢
    by_cases hlt : k < x.l.length ∧ k < 5
    · obtain ⟨hlt, hlt5⟩ := hlt
      obtain ⟨y, hs⟩ : ∃ y, x.l[k]? = some y := ⟨_, List.getElem?_eq_getElem hlt⟩
      have hm := List.mem_of_getElem? hs
      have hyr := hx.2.2 y hm
      (repeat' (first | ((with_reducible apply gJ); (first | refine J_seq ?_ | refine J_reg ?_ | refine J_skip ?_ | refine J_block ?_ | refine J_blk ?_ | refine J_exit rfl ?_ | refine J_goto rfl ?_ | ((with_reducible apply gJ_if); (first | refine J_ift rfl ?_ | refine J_iff rfl ?_ | (refine J_if xR ?_ ?_ <;> intro _ <;> (try (exfalso; first | contradiction | omega))) | (refine J_ifb xR ?_ ?_ <;> (intro hgb; subst hgb)) | (refine J_ifb xR ?_ ?_ <;> intro _) | fail)) | refine J_label ?_ | fail)) | ((with_reducible apply gL); (first | refine JL_nil ?_ | ((with_reducible apply gL_gd); (first | refine JL_skip xR xR ?_ | fail)) | refine L_move ?_ | refine L_assign ?_ | refine L_fieldAddr ?_ | refine L_load ?_ | refine L_pick ?_ | refine L_indexAddr ?_ | refine L_c_len ?_ | refine L_bin_lss ?_ | refine L_bin_gtr ?_ | refine L_bin_add_i64 ?_ | refine L_bin_add_r ?_ | refine L_bin_sub_i64 ?_ | refine L_bin_sub_r ?_ | ((with_reducible apply gL_box); (first | (refine JL_mc rfl xR xR (al_boxA xR) ?_; intro _) | (refine JL_mc rfl xR xR (al_boxC xR xR) ?_; intro _) | fail)) | ((with_reducible apply gL_alloc); (first | (refine JL_mc rfl xR xR (al_alloc xN xK) ?_; intro _) | fail)) | ((with_reducible apply gL_buildSlice); (first | (refine JL_mc rfl xR xR (al_bs1 xR (tabE etab_ok xR) xK) ?_; intro _) | (refine JL_mc rfl xR xR (al_bs xR (tabE etab_ok xR) xN xK) ?_; intro _) | fail)) | ((with_reducible apply gL_store); (first | refine JL_st xR xR xT xC xR xE xR ?_ | refine JL_stW xR xR xT xW xR xR xR ?_ | refine JL_stS xR xR xT xW xP xR xR ?_ | refine JL_stEl xR xR xT xR xL xR (tabS stab_ok xR) xR xR xO ?_ | fail)) | ((with_reducible apply gL_c_append); (first | (refine JL_ap1 (tabE etab_ok xR) xR xR xT xT xC xR xL xR xO xR xR ?_; intro _ _ _ _) | (refine JL_app (tabE etab_ok xR) xR xR xT xV xC xL xU xO xR xR ?_; intro _ _ _ _) | fail)) | ((with_reducible apply gL_gd); (first | (refine JL_guard xR xR ?_ ?_ <;> intro _ <;> (try (exfalso; first | contradiction | omega))) | (refine JL_guardb xR xR ?_ ?_ <;> (intro hgb; subst hgb)) | (refine JL_guardb xR xR ?_ ?_ <;> (intro hgb; fail_if_success (have : type_of% hgb := rfl))) | fail)) | fail)) | fail))
      rw [hd1]
      (repeat' (first | ((with_reducible apply gJ); (first | refine J_seq ?_ | refine J_reg ?_ | refine J_skip ?_ | refine J_block ?_ | refine J_blk ?_ | refine J_exit rfl ?_ | refine J_goto rfl ?_ | ((with_reducible apply gJ_if); (first | refine J_ift rfl ?_ | refine J_iff rfl ?_ | (refine J_if xR ?_ ?_ <;> intro _ <;> (try (exfalso; first | contradiction | omega))) | (refine J_ifb xR ?_ ?_ <;> (intro hgb; subst hgb)) | (refine J_ifb xR ?_ ?_ <;> intro _) | fail)) | refine J_label ?_ | fail)) | ((with_reducible apply gL); (first | refine JL_nil ?_ | ((with_reducible apply gL_gd); (first | refine JL_skip xR xR ?_ | fail)) | ((with_reducible apply gL_c_append); (first | (refine JL_ap1 (z := z) (tabE etab_ok xR) xR xR xA xA xC xR xL xR (by omega) xR xR ?_; intro ad2 c2 _ _) | fail)) | refine L_move ?_ | refine L_assign ?_ | refine L_fieldAddr ?_ | refine L_load ?_ | refine L_pick ?_ | refine L_indexAddr ?_ | refine L_c_len ?_ | refine L_bin_lss ?_ | refine L_bin_gtr ?_ | refine L_bin_add_i64 ?_ | refine L_bin_add_r ?_ | refine L_bin_sub_i64 ?_ | refine L_bin_sub_r ?_ | ((with_reducible apply gL_box); (first | (refine JL_mc rfl xR xR (al_boxA xR) ?_; intro _) | (refine JL_mc rfl xR xR (al_boxC xR xR) ?_; intro _) | fail)) | ((with_reducible apply gL_alloc); (first | (refine JL_mc rfl xR xR (al_alloc xN xK) ?_; intro _) | fail)) | ((with_reducible apply gL_buildSlice); (first | (refine JL_mc rfl xR xR (al_bs1 xR (tabE etab_ok xR) xK) ?_; intro _) | (refine JL_mc rfl xR xR (al_bs xR (tabE etab_ok xR) xN xK) ?_; intro _) | fail)) | ((with_reducible apply gL_store); (first | refine JL_st xR xR xT xC xR xE xR ?_ | refine JL_stW xR xR xT xW xR xR xR ?_ | refine JL_stS xR xR xT xW xP xR xR ?_ | refine JL_stEl xR xR xT xR xL xR (tabS stab_ok xR) xR xR xO ?_ | fail)) | ((with_reducible apply gL_c_append); (first | (refine JL_ap1 (tabE etab_ok xR) xR xR xT xT xC xR xL xR xO xR xR ?_; intro _ _ _ _) | (refine JL_app (tabE etab_ok xR) xR xR xT xV xC xL xU xO xR xR ?_; intro _ _ _ _) | fail)) | ((with_reducible apply gL_go); (first | (refine JL_goq (ih y hyr (by omega)) (hφ := (by (try simp only [List.cons_append, List.nil_append]); exact fun w hr => hkl y hm w hr.1)) (h := ?_); rintro _ _ ⟨z, hz, rfl, rfl⟩; try simp only [List.cons_append, List.nil_append]) | fail)) | ((with_reducible apply gL_gd); (first | (refine JL_guard xR xR ?_ ?_ <;> intro _ <;> (try (exfalso; first | contradiction | omega))) | (refine JL_guardb xR xR ?_ ?_ <;> (intro hgb; subst hgb)) | (refine JL_guardb xR xR ?_ ?_ <;> (intro hgb; fail_if_success (have : type_of% hgb := rfl))) | fail)) | fail)) | fail))
      refine J_again ⟨k + 1, ys ++ [z], ad2, c2⟩ (by dsimp only; omega) ⟨hlt, by dsimp only; omega, by simp [hky], ?_⟩ ⟨rfl, rfl, rfl, ?_, rfl, trivial⟩ (fun w H => ?_)
      · intro y' hy'
        rcases List.mem_append.1 hy' with h | h
        · exact hys y' h
        · obtain rfl := List.mem_singleton.1 h
          exact hz
      · show some _ = some _
        simp
      · simp only [List.length_append, List.length_cons, List.length_nil]
        refine (Ow.has (M := [has (fun w => CdV w d z), has (fun w => ∀ y ∈ ys, CdV w d y)]) (φ := fun w => ∀ y ∈ ys ++ [z], CdV w d y) H (by (first | ((with_reducible (repeat (first | exact Sb.nil | apply Sb.cons | exact Tk.here | apply Tk.there))); done) | (repeat (first | exact Sb.nil | apply Sb.cons | exact Tk.here | apply Tk.there)))) ?_).sel (by (first | ((with_reducible (repeat (first | exact Sb.nil | apply Sb.cons | exact Tk.here | apply Tk.there))); done) | (repeat (first | exact Sb.nil | apply Sb.cons | exact Tk.here | apply Tk.there))))
        intro w hr y' hy'
        rcases List.mem_append.1 hy' with h | h
        · exact hr.has (.there .here) y' h
        · obtain rfl := List.mem_singleton.1 h
          exact hr.has .here
    · (repeat' (first | ((with_reducible apply gJ); (first | refine J_seq ?_ | refine J_reg ?_ | refine J_skip ?_ | refine J_block ?_ | refine J_blk ?_ | refine J_exit rfl ?_ | refine J_goto rfl ?_ | ((with_reducible apply gJ_if); (first | refine J_ift rfl ?_ | refine J_iff rfl ?_ | (refine J_if xR ?_ ?_ <;> intro _ <;> (try (exfalso; first | contradiction | omega))) | (refine J_ifb xR ?_ ?_ <;> (intro hgb; subst hgb)) | (refine J_ifb xR ?_ ?_ <;> intro _) | fail)) | refine J_label ?_ | fail)) | ((with_reducible apply gL); (first | refine JL_nil ?_ | ((with_reducible apply gL_gd); (first | refine JL_skip xR xR ?_ | fail)) | refine L_move ?_ | refine L_assign ?_ | refine L_fieldAddr ?_ | refine L_load ?_ | refine L_pick ?_ | refine L_indexAddr ?_ | refine L_c_len ?_ | refine L_bin_lss ?_ | refine L_bin_gtr ?_ | refine L_bin_add_i64 ?_ | refine L_bin_add_r ?_ | refine L_bin_sub_i64 ?_ | refine L_bin_sub_r ?_ | ((with_reducible apply gL_box); (first | (refine JL_mc rfl xR xR (al_boxA xR) ?_; intro _) | (refine JL_mc rfl xR xR (al_boxC xR xR) ?_; intro _) | fail)) | ((with_reducible apply gL_alloc); (first | (refine JL_mc rfl xR xR (al_alloc xN xK) ?_; intro _) | fail)) | ((with_reducible apply gL_buildSlice); (first | (refine JL_mc rfl xR xR (al_bs1 xR (tabE etab_ok xR) xK) ?_; intro _) | (refine JL_mc rfl xR xR (al_bs xR (tabE etab_ok xR) xN xK) ?_; intro _) | fail)) | ((with_reducible apply gL_store); (first | refine JL_st xR xR xT xC xR xE xR ?_ | refine JL_stW xR xR xT xW xR xR xR ?_ | refine JL_stS xR xR xT xW xP xR xR ?_ | refine JL_stEl xR xR xT xR xL xR (tabS stab_ok xR) xR xR xO ?_ | fail)) | ((with_reducible apply gL_c_append); (first | (refine JL_ap1 (tabE etab_ok xR) xR xR xT xT xC xR xL xR xO xR xR ?_; intro _ _ _ _) | (refine JL_app (tabE etab_ok xR) xR xR xT xV xC xL xU xO xR xR ?_; intro _ _ _ _) | fail)) | ((with_reducible apply gL_gd); (first | (refine JL_guard xR xR ?_ ?_ <;> intro _ <;> (try (exfalso; first | contradiction | omega))) | (refine JL_guardb xR xR ?_ ?_ <;> (intro hgb; subst hgb)) | (refine JL_guardb xR xR ?_ ?_ <;> (intro hgb; fail_if_success (have : type_of% hgb := rfl))) | fail)) | fail)) | fail))
      all_goals (first | (exfalso; omega) | skip)
      all_goals exact J_retC (cs := [.int .i64 x.op, .slice a ys.length c, .int .u32 x.pa, .int .i64 x.pl, .int .i64 x.n]) rfl (by rfl) (by (first | ((with_reducible (repeat (first | exact Tk.here | apply Tk.there))); done) | ((simp only [List.cons_append, List.nil_append]); (with_reducible (repeat (first | exact Tk.here | apply Tk.there))); done) | fail)) (by rfl) fun w H => ⟨_, ⟨⟨x.op, x.n, x.pa, x.pl, a, c, ys⟩, ⟨⟨hx.1.op, hx.1.n, hx.1.pa, hx.1.pl⟩, by show ys.length ≤ 5; omega, hys⟩, rfl, rfl⟩, (Ow.has (M := [Ar 45 5 cdC (.slice a ys.length c) ys, has (fun w => ∀ y ∈ ys, CdV w d y)]) (φ := fun w => CdV w (d + 1) ⟨x.op, x.n, x.pa, x.pl, a, c, ys⟩) H (by (first | ((with_reducible (repeat (first | exact Sb.nil | apply Sb.cons | exact Tk.here | apply Tk.there))); done) | (repeat (first | exact Sb.nil | apply Sb.cons | exact Tk.here | apply Tk.there)))) (fun w hr => ⟨Src.ar .here w hr, hr.has (.there .here)⟩)).sel (by (first | ((with_reducible (repeat (first | exact Sb.nil | apply Sb.cons | exact Tk.here | apply Tk.there))); done) | (repeat (first | exact Sb.nil | apply Sb.cons | exact Tk.here | apply Tk.there))))⟩
end Go.Proofs.Yteekbpohocfmpaa
