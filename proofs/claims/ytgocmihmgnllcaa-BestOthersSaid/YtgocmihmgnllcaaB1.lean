/-
  Package best: what candidates look like in memory; local, med, Len, First, neighbour.
-/
import Derived.Test.YtgocmihmgnllcaaWProg
namespace Go.Proofs.Ytgocmihmgnllcaa
set_option linter.unusedSimpArgs false
set_option linter.unusedVariables false
set_option maxRecDepth 20000
set_option maxHeartbeats 4000000
open Go.RowKit Go.Pm




def I64 (n : Int) : Prop := -9223372036854775808 ≤ n ∧ n ≤ 9223372036854775807
def U32 (n : Int) : Prop := 0 ≤ n ∧ n ≤ 4294967295
def u32C (n : Int) : List Value := [.int .u32 n]
def i64C (n : Int) : List Value := [.int .i64 n]
/-- A segment. -/
structure Sg where
  set : Bool
  a : Option Addr
  c : Nat
  as_ : List Int
def sgC (s : Sg) : List Value := [.bool s.set, .slice s.a s.as_.length s.c]
/-- A candidate. -/
structure Cd where
  peer : Int
  as_ : Int
  id : Int
  addr : Int
  origin : Int
  pa : Option Addr
  pc : Nat
  path : List Sg
  next : Int
  hasMed : Bool
  med : Int
  hasLocal : Bool
  loc : Int
  atomic : Bool
  hasMaker : Bool
  makerAS : Int
  maker : Int
  ca : Option Addr
  cn : Nat
  cc : Nat
  oa : Option Addr
  on : Nat
  oc : Nat
def cdC (c : Cd) : List Value := [.int .i64 c.peer, .int .u32 c.as_, .int .u32 c.id, .int .u32 c.addr, .int .i64 c.origin, .slice c.pa c.path.length c.pc, .int .u32 c.next, .bool c.hasMed, .int .u32 c.med, .bool c.hasLocal, .int .u32 c.loc, .bool c.atomic, .bool c.hasMaker, .int .u32 c.makerAS, .int .u32 c.maker, .slice c.ca c.cn c.cc, .slice c.oa c.on c.oc]
/-- Its path can be read. -/
structure PathV (w : World) (a : Option Addr) (c : Nat) (p : List Sg) : Prop where
  vw : Vw w (.slice a p.length c) 2 p.length (flat sgC p)
  segs : ∀ s ∈ p, Vw w (.slice s.a s.as_.length s.c) 1 s.as_.length (flat u32C s.as_) ∧ s.as_.length ≤ 35184372088832 ∧ ∀ z ∈ s.as_, U32 z
  few : p.length ≤ 6
structure CdN (c : Cd) : Prop where
  peer : I64 c.peer
  as_ : U32 c.as_
  id : U32 c.id
  addr : U32 c.addr
  origin : I64 c.origin
  med : U32 c.med
  loc : U32 c.loc
def cLocal (c : Cd) : Int := if c.hasLocal then c.loc else 100
def cMed (c : Cd) : Int := if c.hasMed then c.med else 0
def pLen : List Sg → Int
  | [] => 0
  | s :: p => (if s.set then 1 else s.as_.length) + pLen p
theorem pLen_append (p q : List Sg) : pLen (p ++ q) = pLen p + pLen q := by
  induction p with
  | nil => simp [pLen]
  | cons s p ih => simp [pLen, ih]; omega
def pFirst : List Sg → Option Int
  | [] => none
  | s :: _ => if s.set then none else s.as_.head?
def cNb (c : Cd) : Int := (pFirst c.path).getD c.as_
theorem pLen_bound (p : List Sg) (h : ∀ s ∈ p, s.as_.length ≤ 35184372088832) : 0 ≤ pLen p ∧ pLen p ≤ p.length * 35184372088832 := by
  induction p with
  | nil => simp [pLen]
  | cons s p ih =>
    have h1 := ih (fun x hx => h x (List.mem_cons_of_mem _ hx))
    have h2 := h s (List.mem_cons_self ..)
    simp only [pLen, List.length_cons]
    split <;> omega
theorem take_snoc {α : Type} {l : List α} {k : Nat} {x : α} (h : l[k]? = some x) : l.take (k + 1) = l.take k ++ [x] := by
  rw [List.take_add_one, h]; rfl

abbrev ret0 (v : Value) : Value → List HP → Prop := fun u L' => u = v ∧ L' = []

theorem local_s (c : Cd) (h : CdN c) : Pact Try.prog 18 #[.agg (cdC c).toArray] (fun _ => True) [] (ret0 (.int .i64 (cLocal c))) := by
  obtain ⟨h0, h1⟩ := h.loc
  refine pact Try.func18 rfl Try.ntmps18 rfl ?_
  intro W K _
  (repeat' (first | ((with_reducible apply gJ); (first | refine J_seq ?_ | refine J_reg ?_ | refine J_skip ?_ | refine J_block ?_ | refine J_blk ?_ | refine J_exit rfl ?_ | ((with_reducible apply gJ_if); (first | refine J_ift rfl ?_ | refine J_iff rfl ?_ | (refine J_if xR ?_ ?_ <;> intro _ <;> (try (exfalso; first | contradiction | omega))) | (refine J_ifb xR ?_ ?_ <;> (intro hgb; subst hgb)) | (refine J_ifb xR ?_ ?_ <;> intro _) | fail)) | refine J_label ?_ | fail)) | ((with_reducible apply gL); (first | refine JL_nil ?_ | ((with_reducible apply gL_assign); (first | refine JL_p rfl xR xR (pe_assign xR) ?_ | fail)) | ((with_reducible apply gL_fieldAddr); (first | refine JL_p rfl xR xR (pe_fa xR (tabF ftab_ok xR)) ?_ | refine JL_p rfl xR xR (pe_faE xR (tabF ftab_ok xR)) ?_ | fail)) | ((with_reducible apply gL_convert); (first | refine JL_p rfl xR xR (pe_conv xR xR xR (w_i64 xO xO)) ?_ | refine JL_p rfl xR xR (pe_conv xR xR xR rfl) ?_ | fail)) | ((with_reducible apply gL_load); (first | refine JL_p rfl xR xR (pe_ld xR xT xC xR) ?_ | refine JL_p rfl xR xR (pe_ldW xR xT xW) ?_ | refine JL_p rfl xR xR (pe_ldS xR xT (tabS stab_ok xR) xG xC) ?_ | refine JL_p rfl xR xR (pe_ldK xR xH xC) ?_ | refine JL_p rfl xR xR (pe_el xR xV xL xR xC xH) ?_ | refine JL_p rfl xR xR (pe_elC xR xV xL xR xC xH xR) ?_ | refine JL_p rfl xR xR (pe_elF xR xV xL xR xC xH xR) ?_ | refine JL_p rfl xR xR (pe_elS xR xV xL xR (tabS stab_ok xR) xH xG xC) ?_ | (refine JL_el xR xV xL xR xC xR xR xO ?_; intro _ _) | (refine JL_elC xR xV xL xR xC xL xR xR xO ?_; intro _ _) | (refine JL_elF xR xV xL xR xC xL xR xR xO ?_; intro _ _) | fail)) | ((with_reducible apply gL_box); (first | (refine JL_mc rfl xR xR (al_boxA xR) ?_; intro _) | (refine JL_mc rfl xR xR (al_boxC xR xR) ?_; intro _) | fail)) | fail)) | fail))
  all_goals (refine J_ret1 rfl (by rfl) fun w H => ⟨[], ⟨?_, rfl⟩, H.sel .nil⟩)
  · simp [cLocal, *]
  · simp [cLocal, *]
theorem med_s (c : Cd) (h : CdN c) : Pact Try.prog 31 #[.agg (cdC c).toArray] (fun _ => True) [] (ret0 (.int .i64 (cMed c))) := by
  obtain ⟨h0, h1⟩ := h.med
  refine pact Try.func31 rfl Try.ntmps31 rfl ?_
  intro W K _
  (repeat' (first | ((with_reducible apply gJ); (first | refine J_seq ?_ | refine J_reg ?_ | refine J_skip ?_ | refine J_block ?_ | refine J_blk ?_ | refine J_exit rfl ?_ | ((with_reducible apply gJ_if); (first | refine J_ift rfl ?_ | refine J_iff rfl ?_ | (refine J_if xR ?_ ?_ <;> intro _ <;> (try (exfalso; first | contradiction | omega))) | (refine J_ifb xR ?_ ?_ <;> (intro hgb; subst hgb)) | (refine J_ifb xR ?_ ?_ <;> intro _) | fail)) | refine J_label ?_ | fail)) | ((with_reducible apply gL); (first | refine JL_nil ?_ | ((with_reducible apply gL_assign); (first | refine JL_p rfl xR xR (pe_assign xR) ?_ | fail)) | ((with_reducible apply gL_fieldAddr); (first | refine JL_p rfl xR xR (pe_fa xR (tabF ftab_ok xR)) ?_ | refine JL_p rfl xR xR (pe_faE xR (tabF ftab_ok xR)) ?_ | fail)) | ((with_reducible apply gL_convert); (first | refine JL_p rfl xR xR (pe_conv xR xR xR (w_i64 xO xO)) ?_ | refine JL_p rfl xR xR (pe_conv xR xR xR rfl) ?_ | fail)) | ((with_reducible apply gL_load); (first | refine JL_p rfl xR xR (pe_ld xR xT xC xR) ?_ | refine JL_p rfl xR xR (pe_ldW xR xT xW) ?_ | refine JL_p rfl xR xR (pe_ldS xR xT (tabS stab_ok xR) xG xC) ?_ | refine JL_p rfl xR xR (pe_ldK xR xH xC) ?_ | refine JL_p rfl xR xR (pe_el xR xV xL xR xC xH) ?_ | refine JL_p rfl xR xR (pe_elC xR xV xL xR xC xH xR) ?_ | refine JL_p rfl xR xR (pe_elF xR xV xL xR xC xH xR) ?_ | refine JL_p rfl xR xR (pe_elS xR xV xL xR (tabS stab_ok xR) xH xG xC) ?_ | (refine JL_el xR xV xL xR xC xR xR xO ?_; intro _ _) | (refine JL_elC xR xV xL xR xC xL xR xR xO ?_; intro _ _) | (refine JL_elF xR xV xL xR xC xL xR xR xO ?_; intro _ _) | fail)) | ((with_reducible apply gL_box); (first | (refine JL_mc rfl xR xR (al_boxA xR) ?_; intro _) | (refine JL_mc rfl xR xR (al_boxC xR xR) ?_; intro _) | fail)) | fail)) | fail))
  all_goals (refine J_ret1 rfl (by rfl) fun w H => ⟨[], ⟨?_, rfl⟩, H.sel .nil⟩)
  · simp [cMed, *]
  · simp [cMed, *]
end Go.Proofs.Ytgocmihmgnllcaa
