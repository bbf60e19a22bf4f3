/-
  The cache in memory; how two of its addresses are held against each other.
-/
import Derived.Test.YtohahlcjkhgimaaWProg
import Derived.Test.YtohahlcjkhgimaaJw
import Derived.Test.YtohahlcjkhgimaaJv
import Derived.Test.YtohahlcjkhgimaaJz
import Derived.Test.YtohahlcjkhgimaaLaw
namespace Go.Proofs.Ytohahlcjkhgimaa
set_option linter.unusedSimpArgs false
set_option linter.unusedVariables false
set_option maxRecDepth 20000
set_option maxHeartbeats 4000000
open Go.RowKit Go.Pm Go.Sort

def I64 (n : Int) : Prop := -9223372036854775808 ≤ n ∧ n ≤ 9223372036854775807
def U32 (n : Int) : Prop := 0 ≤ n ∧ n ≤ 4294967295
def U8 (n : Int) : Prop := 0 ≤ n ∧ n ≤ 255
def adC (z : Int) : List Value := [.int .u32 z]
def inC (z : Int) : List Value := [.int .i64 z]
abbrev ret0 (v : Value) : Value → List HP → Prop := fun u L' => u = v ∧ L' = []
/-- A hardware address. -/
structure Mc where
  a : Int
  b : Int
  c : Int
  d : Int
  e : Int
  f : Int
deriving DecidableEq
abbrev mcC (m : Mc) : List Value := [.int .u8 m.a, .int .u8 m.b, .int .u8 m.c, .int .u8 m.d, .int .u8 m.e, .int .u8 m.f]
def mc0 : Mc := ⟨0, 0, 0, 0, 0, 0⟩
abbrev Kw := Mc × Int
abbrev kwC (q : Kw) : List Value := [.int .u8 q.1.a, .int .u8 q.1.b, .int .u8 q.1.c, .int .u8 q.1.d, .int .u8 q.1.e, .int .u8 q.1.f, .int .i64 q.2]
abbrev kwV (q : Kw) : Value := .agg (kwC q).toArray
/-- What is known, by address. -/
abbrev Kl := List (Int × Kw)
def lV (es : Kl) : List (Int × Value) := es.map fun p => (p.1, kwV p.2)
def tV (es : List (Int × Int)) : List (Int × Value) := es.map fun p => (p.1, Value.int .i64 p.2)
abbrev mqA := mq (Value.int .u32)
def getO {β : Type} (es : List (Int × β)) (x : Int) : Option β := (es.find? fun p => decide (p.1 = x)).map (·.2)
theorem aG_map {β : Type} (f : β → Value) (es : List (Int × β)) (x : Int) : aG (es.map fun p => (p.1, f p.2)) x = (getO es x).map f := by
  induction es with
  | nil => rfl
  | cons p es ih =>
    obtain ⟨y, q⟩ := p
    show (if y = x then some (f q) else aG (es.map fun p => (p.1, f p.2)) x) = _
    unfold getO at ih ⊢
    by_cases h : y = x
    · simp [h]
    · rw [if_neg h, ih]
      simp [h]
def unt (es : Kl) (x : Int) : Int := match getO es x with | none => 0 | some q => q.2
def kwOf (es : Kl) (x : Int) : Kw := (getO es x).getD (mc0, 0)
def thenOf (es : List (Int × Int)) (x : Int) : Int := (getO es x).getD 0
theorem unt_kw (es : Kl) (x : Int) : (kwOf es x).2 = unt es x := by unfold unt kwOf; cases getO es x <;> rfl
theorem mi_l : MI Try.prog 65 (Value.int .u32) (kwV (mc0, 0)) := mi_of Try.underlying65 (keyOkI Try.underlying24) (by kernel_rfl)
theorem mi_t : MI Try.prog 67 (Value.int .u32) (.int .i64 0) := mi_of Try.underlying67 (keyOkI Try.underlying24) (by kernel_rfl)
theorem look_l (es : Kl) (x : Int) : lookV (aG (lV es) x) (kwV (mc0, 0)) false = kwV (kwOf es x) := by
  unfold lV kwOf
  rw [aG_map]
  cases getO es x <;> rfl
theorem look_t (es : List (Int × Int)) (x : Int) : lookV (aG (tV es) x) (.int .i64 0) false = .int .i64 (thenOf es x) := by
  unfold tV thenOf
  rw [aG_map (fun n => Value.int .i64 n)]
  cases getO es x <;> rfl
def cmpZ (x y : Int) : Int := if x < y then -1 else if y < x then 1 else 0
theorem nanI_s (x : Int) : Pact Try.prog 49 #[.int .i64 x] (fun _ => True) [] (ret0 (.bool false)) := by
  refine pact Try.func49 rfl Try.ntmps49 rfl ?_
  intro W K _
  (repeat' (first | ((with_reducible apply gJ); (first | refine J_seq ?_ | refine J_reg ?_ | refine J_skip ?_ | refine J_block ?_ | refine J_blk ?_ | refine J_exit rfl ?_ | refine J_goto rfl ?_ | ((with_reducible apply gJ_if); (first | refine J_ift rfl ?_ | refine J_iff rfl ?_ | (refine J_if xR ?_ ?_ <;> intro _ <;> (try (exfalso; first | contradiction | omega))) | (refine J_ifb xR ?_ ?_ <;> (intro hgb; subst hgb)) | (refine J_ifb xR ?_ ?_ <;> intro _) | fail)) | refine J_label ?_ | fail)) | ((with_reducible apply gL); (first | refine JL_nil ?_ | refine L_move ?_ | refine L_assign ?_ | refine L_bin_neq ?_ | fail)) | fail))
  exact J_ret1 rfl (by rfl) fun w H => ⟨_, ⟨by simp, rfl⟩, H.sel .nil⟩
theorem nanA_s (x : Int) : Pact Try.prog 50 #[.int .u32 x] (fun _ => True) [] (ret0 (.bool false)) := by
  refine pact Try.func50 rfl Try.ntmps50 rfl ?_
  intro W K _
  (repeat' (first | ((with_reducible apply gJ); (first | refine J_seq ?_ | refine J_reg ?_ | refine J_skip ?_ | refine J_block ?_ | refine J_blk ?_ | refine J_exit rfl ?_ | refine J_goto rfl ?_ | ((with_reducible apply gJ_if); (first | refine J_ift rfl ?_ | refine J_iff rfl ?_ | (refine J_if xR ?_ ?_ <;> intro _ <;> (try (exfalso; first | contradiction | omega))) | (refine J_ifb xR ?_ ?_ <;> (intro hgb; subst hgb)) | (refine J_ifb xR ?_ ?_ <;> intro _) | fail)) | refine J_label ?_ | fail)) | ((with_reducible apply gL); (first | refine JL_nil ?_ | refine L_move ?_ | refine L_assign ?_ | refine L_bin_neq ?_ | fail)) | fail))
  exact J_ret1 rfl (by rfl) fun w H => ⟨_, ⟨by simp, rfl⟩, H.sel .nil⟩
theorem cmpI_s (x y : Int) : Pact Try.prog 44 #[.int .i64 x, .int .i64 y] (fun _ => True) [] (ret0 (.int .i64 (cmpZ x y))) := by
  refine pact Try.func44 rfl Try.ntmps44 rfl ?_
  intro W K _
  (repeat' (first | ((with_reducible apply gJ); (first | refine J_seq ?_ | refine J_reg ?_ | refine J_skip ?_ | refine J_block ?_ | refine J_blk ?_ | refine J_exit rfl ?_ | refine J_goto rfl ?_ | ((with_reducible apply gJ_if); (first | refine J_ift rfl ?_ | refine J_iff rfl ?_ | (refine J_if xR ?_ ?_ <;> intro _ <;> (try (exfalso; first | contradiction | omega))) | (refine J_ifb xR ?_ ?_ <;> (intro hgb; subst hgb)) | (refine J_ifb xR ?_ ?_ <;> intro _) | fail)) | refine J_label ?_ | fail)) | ((with_reducible apply gL); (first | refine JL_nil ?_ | refine L_move ?_ | refine L_assign ?_ | refine L_bin_lss ?_ | refine L_bin_gtr ?_ | ((with_reducible apply gL_go); (first | (refine JL_goq (nanI_s x) (hφ := xF) (h := ?_); rintro _ _ ⟨rfl, rfl⟩; try simp only [List.cons_append, List.nil_append]) | (refine JL_goq (nanI_s y) (hφ := xF) (h := ?_); rintro _ _ ⟨rfl, rfl⟩; try simp only [List.cons_append, List.nil_append]) | fail)) | fail)) | fail))
  all_goals (refine J_ret1 rfl (by rfl) fun w H => ⟨_, ⟨?_, rfl⟩, H.sel .nil⟩; refine congrArg (Value.int .i64) ?_; unfold cmpZ; (repeat' split) <;> omega)
theorem cmpA_s (x y : Int) : Pact Try.prog 45 #[.int .u32 x, .int .u32 y] (fun _ => True) [] (ret0 (.int .i64 (cmpZ x y))) := by
  refine pact Try.func45 rfl Try.ntmps45 rfl ?_
  intro W K _
  (repeat' (first | ((with_reducible apply gJ); (first | refine J_seq ?_ | refine J_reg ?_ | refine J_skip ?_ | refine J_block ?_ | refine J_blk ?_ | refine J_exit rfl ?_ | refine J_goto rfl ?_ | ((with_reducible apply gJ_if); (first | refine J_ift rfl ?_ | refine J_iff rfl ?_ | (refine J_if xR ?_ ?_ <;> intro _ <;> (try (exfalso; first | contradiction | omega))) | (refine J_ifb xR ?_ ?_ <;> (intro hgb; subst hgb)) | (refine J_ifb xR ?_ ?_ <;> intro _) | fail)) | refine J_label ?_ | fail)) | ((with_reducible apply gL); (first | refine JL_nil ?_ | refine L_move ?_ | refine L_assign ?_ | refine L_bin_lss ?_ | refine L_bin_gtr ?_ | ((with_reducible apply gL_go); (first | (refine JL_goq (nanA_s x) (hφ := xF) (h := ?_); rintro _ _ ⟨rfl, rfl⟩; try simp only [List.cons_append, List.nil_append]) | (refine JL_goq (nanA_s y) (hφ := xF) (h := ?_); rintro _ _ ⟨rfl, rfl⟩; try simp only [List.cons_append, List.nil_append]) | fail)) | fail)) | fail))
  all_goals (refine J_ret1 rfl (by rfl) fun w H => ⟨_, ⟨?_, rfl⟩, H.sel .nil⟩; refine congrArg (Value.int .i64) ?_; unfold cmpZ; (repeat' split) <;> omega)
def orZ (x y : Int) : Int := if x ≠ 0 then x else y
theorem or_s (a : Option Addr) (c : Nat) (x y : Int) : Pact Try.prog 43 #[.slice a 2 c] (fun w => Vw w (.slice a 2 c) 1 2 (flat inC [x, y])) [] (ret0 (.int .i64 (orZ x y))) := by
  refine pact Try.func43 rfl Try.ntmps43 rfl ?_
  intro W K hK
  have h0 : [x, y][0]? = some x := rfl
  have h1 : [x, y][1]? = some y := rfl
  (repeat' (first | ((with_reducible apply gJ); (first | refine J_seq ?_ | refine J_reg ?_ | refine J_skip ?_ | refine J_block ?_ | refine J_blk ?_ | refine J_exit rfl ?_ | refine J_goto rfl ?_ | ((with_reducible apply gJ_if); (first | refine J_ift rfl ?_ | refine J_iff rfl ?_ | (refine J_if xR ?_ ?_ <;> intro _ <;> (try (exfalso; first | contradiction | omega))) | (refine J_ifb xR ?_ ?_ <;> (intro hgb; subst hgb)) | (refine J_ifb xR ?_ ?_ <;> intro _) | fail)) | refine J_label ?_ | fail)) | ((with_reducible apply gL); (first | refine JL_nil ?_ | refine L_move ?_ | refine L_assign ?_ | refine L_load ?_ | refine L_indexAddr ?_ | refine L_c_len ?_ | refine L_bin_neq ?_ | refine L_bin_lss ?_ | refine L_bin_add_i64 ?_ | refine L_bin_add_r ?_ | fail)) | fail))
  refine J_loop (α := Nat) 0 (fun k => 2 - k) (fun k => k = 0 ∨ (k = 1 ∧ x = 0) ∨ (k = 2 ∧ x = 0 ∧ y = 0)) (fun k => [(3, .int .i64 0), (6, .slice a 2 c), (7, .int .i64 2), (8, .int .i64 k)]) (fun _ => []) (.inl rfl) ⟨rfl, rfl, rfl, rfl, trivial⟩ (fun w H => H.sel .nil) ?_
  rintro k (rfl | ⟨rfl, hx⟩ | ⟨rfl, hx, hy⟩)
  · (repeat' (first | ((with_reducible apply gJ); (first | refine J_seq ?_ | refine J_reg ?_ | refine J_skip ?_ | refine J_block ?_ | refine J_blk ?_ | refine J_exit rfl ?_ | refine J_goto rfl ?_ | ((with_reducible apply gJ_if); (first | refine J_ift rfl ?_ | refine J_iff rfl ?_ | (refine J_if xR ?_ ?_ <;> intro _ <;> (try (exfalso; first | contradiction | omega))) | (refine J_ifb xR ?_ ?_ <;> (intro hgb; subst hgb)) | (refine J_ifb xR ?_ ?_ <;> intro _) | fail)) | refine J_label ?_ | fail)) | ((with_reducible apply gL); (first | refine JL_nil ?_ | refine L_move ?_ | refine L_assign ?_ | refine L_load ?_ | refine L_indexAddr ?_ | refine L_c_len ?_ | refine L_bin_neq ?_ | refine L_bin_lss ?_ | refine L_bin_add_i64 ?_ | refine L_bin_add_r ?_ | fail)) | fail))
    · exact J_ret1 rfl (by rfl) fun w H => ⟨_, ⟨by unfold orZ; rw [if_pos (by assumption)], rfl⟩, H.sel .nil⟩
    · exact J_again 1 (by omega) (.inr (.inl ⟨rfl, by omega⟩)) ⟨rfl, rfl, rfl, rfl, trivial⟩ (fun w H => H.sel .nil)
  · (repeat' (first | ((with_reducible apply gJ); (first | refine J_seq ?_ | refine J_reg ?_ | refine J_skip ?_ | refine J_block ?_ | refine J_blk ?_ | refine J_exit rfl ?_ | refine J_goto rfl ?_ | ((with_reducible apply gJ_if); (first | refine J_ift rfl ?_ | refine J_iff rfl ?_ | (refine J_if xR ?_ ?_ <;> intro _ <;> (try (exfalso; first | contradiction | omega))) | (refine J_ifb xR ?_ ?_ <;> (intro hgb; subst hgb)) | (refine J_ifb xR ?_ ?_ <;> intro _) | fail)) | refine J_label ?_ | fail)) | ((with_reducible apply gL); (first | refine JL_nil ?_ | refine L_move ?_ | refine L_assign ?_ | refine L_load ?_ | refine L_indexAddr ?_ | refine L_c_len ?_ | refine L_bin_neq ?_ | refine L_bin_lss ?_ | refine L_bin_add_i64 ?_ | refine L_bin_add_r ?_ | fail)) | fail))
    · exact J_ret1 rfl (by rfl) fun w H => ⟨_, ⟨by unfold orZ; rw [if_neg (by omega)], rfl⟩, H.sel .nil⟩
    · exact J_again 2 (by omega) (.inr (.inr ⟨rfl, hx, by omega⟩)) ⟨rfl, rfl, rfl, rfl, trivial⟩ (fun w H => H.sel .nil)
  · (repeat' (first | ((with_reducible apply gJ); (first | refine J_seq ?_ | refine J_reg ?_ | refine J_skip ?_ | refine J_block ?_ | refine J_blk ?_ | refine J_exit rfl ?_ | refine J_goto rfl ?_ | ((with_reducible apply gJ_if); (first | refine J_ift rfl ?_ | refine J_iff rfl ?_ | (refine J_if xR ?_ ?_ <;> intro _ <;> (try (exfalso; first | contradiction | omega))) | (refine J_ifb xR ?_ ?_ <;> (intro hgb; subst hgb)) | (refine J_ifb xR ?_ ?_ <;> intro _) | fail)) | refine J_label ?_ | fail)) | ((with_reducible apply gL); (first | refine JL_nil ?_ | refine L_move ?_ | refine L_assign ?_ | refine L_load ?_ | refine L_indexAddr ?_ | refine L_c_len ?_ | refine L_bin_neq ?_ | refine L_bin_lss ?_ | refine L_bin_add_i64 ?_ | refine L_bin_add_r ?_ | fail)) | fail))
    exact J_ret1 rfl (by rfl) fun w H => ⟨_, ⟨by unfold orZ; rw [if_neg (by omega), hy], rfl⟩, H.sel .nil⟩
/-- By what it is known for, then by number. -/
def cmpF (es : Kl) (x y : Int) : Int := orZ (cmpZ (unt es x) (unt es y)) (cmpZ x y)
/-- What the comparison reads. -/
def allK (xb cb lb : Nat) (es : Kl) (w : World) : Prop := w.cell? ⟨xb, 0, none⟩ = some (.pointer (some ⟨cb, 0, none⟩)) ∧ w.cell? ⟨cb, 3, none⟩ = some (.map (some lb)) ∧ ∃ h, mqA lb (lV es) h ∧ h.inn w
theorem all1_s (xb cb lb : Nat) (es : Kl) (x y : Int) : Pact Try.prog 42 #[.int .u32 x, .int .u32 y, .pointer (some ⟨xb, 0, none⟩)] (allK xb cb lb es) [] (ret0 (.int .i64 (cmpF es x y))) := by
  refine pact Try.func42 rfl Try.ntmps42 rfl ?_
  intro W K hK
  have h1 : Kn K (fun w => w.cell? ⟨xb, 0, none⟩ = some (.pointer (some ⟨cb, 0, none⟩))) := hK.imp fun _ h => h.1
  have h2 : Kn K (fun w => w.cell? ⟨cb, 0 + 3, none⟩ = some (.map (some lb))) := hK.imp fun _ h => h.2.1
  have h3 : Kn K (fun w => ∃ h, mqA lb (lV es) h ∧ h.inn w) := hK.imp fun _ h => h.2.2
  (repeat' (first | ((with_reducible apply gJ); (first | refine J_seq ?_ | refine J_reg ?_ | refine J_skip ?_ | refine J_block ?_ | refine J_blk ?_ | refine J_exit rfl ?_ | refine J_goto rfl ?_ | ((with_reducible apply gJ_if); (first | refine J_ift rfl ?_ | refine J_iff rfl ?_ | (refine J_if xR ?_ ?_ <;> intro _ <;> (try (exfalso; first | contradiction | omega))) | (refine J_ifb xR ?_ ?_ <;> (intro hgb; subst hgb)) | (refine J_ifb xR ?_ ?_ <;> intro _) | fail)) | refine J_label ?_ | refine J_draw (id := 1) [0, 1, 2, 3, 4, 5, 6, 7, 8, 9, 10, 11, 12, 13, 15, 16, 14] [17, 18, 19, 20] mixed xC xD xD ?_ | fail)) | ((with_reducible apply gL); (first | refine JL_nil ?_ | refine L_assign ?_ | fail)) | ((with_reducible apply gD); (first | (refine JD_nil ?_; try simp only [List.cons_append, List.nil_append]) | (refine JD_bar ?_; try simp only [List.cons_append, List.nil_append]) | ((with_reducible apply gD_lookup); (first | (first | (refine JD_p rfl xR rfl (pe_lookGK mi_l xR xR h3 (look_l es x)) ?_) | (refine JD_p rfl xR rfl (pe_lookGK mi_l xR xR h3 (look_l es y)) ?_)) | fail)) | refine D_move ?_ | refine D_assign ?_ | refine D_fieldAddr ?_ | refine D_load ?_ | refine D_nilCheck ?_ | refine D_field ?_ | ((with_reducible apply gD_load); (first | refine JD_ldM xR xT xC xR xR ?_ | refine JD_ldWM xR xT xW xR ?_ | refine JD_ldSM xR xT (tabS stab_ok xR) xG xC xR ?_ | fail)) | ((with_reducible apply gD_buildSlice); (first | (refine JD_mc rfl xR rfl (al_bs1 xR (tabE etab_ok xR) xK) ?_; intro _) | (refine JD_mc rfl xR rfl (al_bs xR (tabE etab_ok xR) xN xK) ?_; intro _) | fail)) | ((with_reducible apply gD_go); (first | (refine JD_goq (cmpI_s (kwOf es x).2 (kwOf es y).2) (hφ := xF) (h := ?_); rintro _ _ ⟨rfl, rfl⟩; try simp only [List.cons_append, List.nil_append]) | (refine JD_goq (cmpA_s x y) (hφ := xF) (h := ?_); rintro _ _ ⟨rfl, rfl⟩; try simp only [List.cons_append, List.nil_append]) | (refine JD_goq (or_s _ 2 (cmpZ (kwOf es x).2 (kwOf es y).2) (cmpZ x y)) (hφ := (by (try simp only [List.cons_append, List.nil_append]); exact fun w hr => Src.lit (sz := 1) (m := 2) (cs := [.int .i64 (cmpZ (kwOf es x).2 (kwOf es y).2), .int .i64 (cmpZ x y)]) (by (first | ((with_reducible (repeat (first | exact Tk.here | apply Tk.there))); done) | ((simp only [List.cons_append, List.nil_append]); (with_reducible (repeat (first | exact Tk.here | apply Tk.there))); done) | fail)) rfl (by decide) w hr)) (h := ?_); rintro _ _ ⟨rfl, rfl⟩; try simp only [List.cons_append, List.nil_append]) | fail)) | ((with_reducible apply gD_lookup); (first | refine JD_p rfl xR rfl (pe_lookup xR xR (tabM mtab_ok xR) xT (by first | apply hlook | apply hlook2 | rfl)) ?_ | refine JD_p rfl xR rfl (pe_lookupK xR xR (tabM mtab_ok xR) xH (by first | apply hlook | apply hlook2 | rfl)) ?_ | refine JD_lookM xR xR (tabM mtab_ok xR) xT (by first | apply hlook | apply hlook2 | rfl) xR ?_ | fail)) | fail)) | fail))
  refine J_ret1 rfl (by rfl) fun w H => ⟨_, ⟨?_, rfl⟩, H.sel .nil⟩
  rw [unt_kw, unt_kw]
  rfl
end Go.Proofs.Ytohahlcjkhgimaa
