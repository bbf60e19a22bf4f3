/-
  Ju, Jp, Aq1, Cq1, Cq2, Cq3, Cq4, Cq7: merged.
-/
import Derived.Test.YtmbgbhambgoejaaZRunOrder9
import Derived.Lib.AppendZeros
namespace Go.Pm
set_option linter.unusedSimpArgs false
set_option linter.unusedVariables false
open Go.RowKit

section
variable {κ : Type} [DecidableEq κ]
structure Born (ents : List MapEntry) (clock : Nat) : Prop where
  lt : ∀ e ∈ ents, e.born < clock
  ne : ents.Pairwise (fun a b => a.born ≠ b.born)
end
section
variable {κ : Type} [DecidableEq κ] {kv : κ → Value}
variable {P : Program} {n : Nat} {W : World} {K : Hl} {F : Fp} {k : List It} {tm : TM} {L L' R S M M' : List HP} {T : TypeId} {pos : String} {af : Array Edge} {gd : Option (Nat × Bool)} {ops : Array Oper} {rest nx : List Oper} {d : Tmp}
end
end Go.Pm
namespace Go.Pm
set_option linter.unusedSimpArgs false
set_option linter.unusedVariables false
open Go.RowKit

section
variable {P : Program} {n : Nat} {W : World} {K : Hl} {F : Fp} {k : List It} {tm : TM} {L L' R S M C : List HP} {T : TypeId} {pos : String} {af : Array Edge} {gd : Option (Nat × Bool)} {ops : Array Oper} {rest nx : List Oper} {d : Option Tmp}

def byC (z : Int) : List Value := [.int .u8 z]
theorem flat_byC (l : List Int) : flat byC l = bys l := by
  unfold flat bys
  induction l with
  | nil => rfl
  | cons x r ih => rw [List.flatMap_cons, ih]; rfl
def isStrD : TypeDesc → Bool
  | .string => true
  | _ => false
def isBytes (P : Program) (t : TypeId) : Bool := match P.underlying t with
  | some (.slice e) => match P.underlying e with
    | some (.int .u8) => true
    | _ => false
  | _ => false
theorem isBytes_spec {t : TypeId} (h : isBytes P t = true) : ∃ e, P.underlying t = some (.slice e) ∧ P.underlying e = some (.int .u8) := by
  unfold isBytes at h
  split at h
  · rename_i e he
    split at h
    · rename_i h2; exact ⟨e, he, h2⟩
    · cases h
  · cases h
theorem pe_str {st dt : TypeId} {x : Operand} {v : Value} {m : Nat} {l : List Int} (hx : evT tm x = some v) (hs : isBytes P st = true) (hd : tyIs P dt isStrD = true) (hv : Src K L v 1 m (flat byC l)) : PE P K L ⟨d, .convert st dt x, T, pos, af, gd⟩ (tget tm) (.string (strOfNums l)) := fun ρ w ha hr => by
  have h1 := ha x (by simp [Op.operands]) _ hx
  obtain ⟨e, h2, h3⟩ := isBytes_spec hs
  obtain ⟨dd, h4, h5⟩ := tyIs_spec hd
  cases dd <;> simp [isStrD] at h5
  have h6 := hv w hr
  rw [flat_byC] at h6
  have h7 := run_string h2 h3 h4 h6
  unfold execOp
  simp only [h1]
  simp [Sem.run_bind, h7]
end
end Go.Pm
namespace Go.Proofs.Ytmbgbhambgoejaa
set_option linter.unusedSimpArgs false
set_option linter.unusedVariables false
open Go.RowKit Go.Pm

def I64 (n : Int) : Prop := -9223372036854775808 ≤ n ∧ n ≤ 9223372036854775807
def U32 (n : Int) : Prop := 0 ≤ n ∧ n ≤ 4294967295
def U8 (n : Int) : Prop := 0 ≤ n ∧ n ≤ 255
def u32C (n : Int) : List Value := [.int .u32 n]
abbrev ret0 (v : Value) : Value → List HP → Prop := fun u L' => u = v ∧ L' = []
structure Sg where
  set : Bool
  a : Option Addr
  c : Nat
  as_ : List Int
def sgC (s : Sg) : List Value := [.bool s.set, .slice s.a s.as_.length s.c]
structure Rw where
  kind : Int
  a : Option Addr
  c : Nat
  data : List Int
def rwC (r : Rw) : List Value := [.int .i64 r.kind, .slice r.a r.data.length r.c]
structure At where
  origin : Int
  pa : Option Addr
  pc : Nat
  path : List Sg
  next : Int
  hasMed : Bool
  med : Int
  hasLocal : Bool
  loc : Int
  atomic : Bool
  hasMaker : Bool
  makerAS : Int
  maker : Int
  ca : Option Addr
  cc : Nat
  comms : List Int
  oa : Option Addr
  oc : Nat
  others : List Rw
def atN (c : At) (n m k : Nat) : List Value := [.int .i64 c.origin, .slice c.pa n c.pc, .int .u32 c.next, .bool c.hasMed, .int .u32 c.med, .bool c.hasLocal, .int .u32 c.loc, .bool c.atomic, .bool c.hasMaker, .int .u32 c.makerAS, .int .u32 c.maker, .slice c.ca m c.cc, .slice c.oa k c.oc]
def atC (c : At) : List Value := atN c c.path.length c.comms.length c.others.length
def segV (w : World) (s : Sg) : Prop := Vw w (.slice s.a s.as_.length s.c) 1 s.as_.length (flat u32C s.as_)
def rawV (w : World) (r : Rw) : Prop := Vw w (.slice r.a r.data.length r.c) 1 r.data.length (flat byC r.data)
structure PathV (w : World) (a : Option Addr) (c : Nat) (p : List Sg) : Prop where
  vw : Vw w (.slice a p.length c) 2 p.length (flat sgC p)
  segs : ∀ s ∈ p, segV w s
structure RawsV (w : World) (a : Option Addr) (c : Nat) (p : List Rw) : Prop where
  vw : Vw w (.slice a p.length c) 2 p.length (flat rwC p)
  raws : ∀ s ∈ p, rawV w s
structure AtV (w : World) (d : At) : Prop where
  path : PathV w d.pa d.pc d.path
  comms : Vw w (.slice d.ca d.comms.length d.cc) 1 d.comms.length (flat u32C d.comms)
  others : RawsV w d.oa d.oc d.others
def SgN (s : Sg) : Prop := s.as_.length ≤ 35184372088832 ∧ ∀ z ∈ s.as_, U32 z
def RwN (r : Rw) : Prop := I64 r.kind ∧ r.data.length ≤ 140737488355328 ∧ ∀ z ∈ r.data, U8 z
structure AtN (d : At) : Prop where
  origin : I64 d.origin
  next : U32 d.next
  med : U32 d.med
  loc : U32 d.loc
  makerAS : U32 d.makerAS
  maker : U32 d.maker
  path : ∀ s ∈ d.path, SgN s
  comms : ∀ z ∈ d.comms, U32 z
  others : ∀ r ∈ d.others, RwN r
structure AtF (d : At) : Prop where
  num : AtN d
  path : d.path.length ≤ 1000
  comms : d.comms.length ≤ 1000
  others : d.others.length ≤ 1000
structure Nf where
  origin : Int
  path : List (Bool × List Int)
  next : Int
  med : Option Int
  loc : Option Int
  atomic : Bool
  maker : Option (Int × Int)
  comms : List Int
  others : List (Int × List Int)
deriving DecidableEq
def pN (p : List Sg) : List (Bool × List Int) := p.map fun s => (s.set, s.as_)
def oN (p : List Rw) : List (Int × List Int) := p.map fun r => (r.kind, r.data)
def At.nf (d : At) : Nf := ⟨d.origin, pN d.path, d.next, if d.hasMed then some d.med else none, if d.hasLocal then some d.loc else none, d.atomic, if d.hasMaker then some (d.makerAS, d.maker) else none, d.comms, oN d.others⟩
def At.at_ (c : At) (p : List Sg) (pa : Option Addr) (pc : Nat) (q : List Int) (ca : Option Addr) (cc : Nat) (o : List Rw) (oa : Option Addr) (oc : Nat) : At := { c with path := p, pa := pa, pc := pc, comms := q, ca := ca, cc := cc, others := o, oa := oa, oc := oc }
theorem At.at_nf (c : At) (p : List Sg) (pa : Option Addr) (pc : Nat) (q : List Int) (ca : Option Addr) (cc : Nat) (o : List Rw) (oa : Option Addr) (oc : Nat) (h1 : pN p = pN c.path) (h2 : q = c.comms) (h3 : oN o = oN c.others) : (c.at_ p pa pc q ca cc o oa oc).nf = c.nf := by
  subst h2
  simp only [At.nf, At.at_, h1, h3]
  rfl
theorem pN_len {p q : List Sg} (h : pN p = pN q) : p.length = q.length := by have := congrArg List.length h; simpa [pN] using this
theorem oN_len {p q : List Rw} (h : oN p = oN q) : p.length = q.length := by have := congrArg List.length h; simpa [oN] using this
theorem pN_num {p q : List Sg} (h : pN p = pN q) (hn : ∀ s ∈ q, SgN s) : ∀ s ∈ p, SgN s := by
  intro s hs
  have : (s.set, s.as_) ∈ pN q := h ▸ List.mem_map.2 ⟨s, hs, rfl⟩
  obtain ⟨t, ht, e⟩ := List.mem_map.1 this
  have e2 : t.as_ = s.as_ := congrArg Prod.snd e
  have := hn t ht
  unfold SgN at this ⊢
  rwa [e2] at this
theorem oN_num {p q : List Rw} (h : oN p = oN q) (hn : ∀ s ∈ q, RwN s) : ∀ s ∈ p, RwN s := by
  intro s hs
  have : (s.kind, s.data) ∈ oN q := h ▸ List.mem_map.2 ⟨s, hs, rfl⟩
  obtain ⟨t, ht, e⟩ := List.mem_map.1 this
  have e1 : t.kind = s.kind := congrArg Prod.fst e
  have e2 : t.data = s.data := congrArg Prod.snd e
  have := hn t ht
  unfold RwN at this ⊢
  rwa [e1, e2] at this
theorem At.at_num {c : At} (h : AtF c) (p : List Sg) (pa : Option Addr) (pc : Nat) (q : List Int) (ca : Option Addr) (cc : Nat) (o : List Rw) (oa : Option Addr) (oc : Nat) (h1 : pN p = pN c.path) (h2 : q = c.comms) (h3 : oN o = oN c.others) : AtF (c.at_ p pa pc q ca cc o oa oc) := by
  subst h2
  exact ⟨⟨h.num.origin, h.num.next, h.num.med, h.num.loc, h.num.makerAS, h.num.maker, pN_num h1 h.num.path, h.num.comms, oN_num h3 h.num.others⟩, (pN_len h1).symm ▸ h.path, h.comms, (oN_len h3).symm ▸ h.others⟩
theorem take_snoc {α : Type} {l : List α} {k : Nat} {x : α} (h : l[k]? = some x) : l.take (k + 1) = l.take k ++ [x] := by
  rw [List.take_add_one, h]; rfl
def CopyR (d : At) (v : Value) (L' : List HP) : Prop := ∃ d', AtF d' ∧ d'.nf = d.nf ∧ v = .agg (atC d').toArray ∧ L' = [has (fun w => AtV w d')]
end Go.Proofs.Ytmbgbhambgoejaa
namespace Go.Proofs.Ytmbgbhambgoejaa.C
set_option linter.unusedSimpArgs false
set_option linter.unusedVariables false
set_option maxRecDepth 20000
set_option maxHeartbeats 4000000
open Go.RowKit Go.Pm

abbrev Pf := Int × Int
def PfN (p : Pf) : Prop := U32 p.1 ∧ I64 p.2
abbrev pfC (p : Pf) : List Value := [.int .u32 p.1, .int .i64 p.2]
def pw (l : Int) : Int := 2 ^ (32 - l).toNat
def Rt (p : Pf) : Prop := 0 ≤ p.2 ∧ p.2 ≤ 32 ∧ p.1 % pw p.2 = 0
instance (p : Pf) : Decidable (Rt p) := inferInstanceAs (Decidable (_ ∧ _ ∧ _))
theorem pw_pos (l : Int) : 0 < pw l := Int.pow_pos (by omega)
theorem pw_le (l : Int) (h : 0 ≤ l) : pw l ≤ 4294967296 := by
  unfold pw
  have : (2 : Int) ^ (32 - l).toNat ≤ 2 ^ 32 := by
    have h1 : (2 : Nat) ^ (32 - l).toNat ≤ 2 ^ 32 := Nat.pow_le_pow_right (by omega) (by omega)
    exact_mod_cast h1
  omega
theorem mask_s (a l : Int) (ha : U32 a) (h0 : 0 ≤ l) (h1 : l ≤ 32) : Pact Try.prog 73 #[.int .u32 a, .int .i64 l] (fun _ => True) [] (ret0 (.int .u32 (a - a % pw l))) := by
  refine pact Try.func73 rfl Try.ntmps73 rfl ?_
  intro W K _
  have hm : (32 - l) = (((32 - l).toNat : Nat) : Int) := by omega
  have hle := pw_le l h0
  have hpos := pw_pos l
  have e1 : (1 : Int) * 2 ^ (32 - l).toNat = pw l := by unfold pw; omega
  unfold U32 at ha
  (repeat' (first | ((with_reducible apply gL); (first | refine yL0 ?_ | ((with_reducible apply gL_bin_shl); (first | (refine JL_p rfl xR xR (pe_shl (m := (32 - l).toNat) xR xR hm (by show _ ≤ 64; omega) (w_u64 (by rw [e1]; omega) (by rw [e1]; omega))) ?_) | fail)) | refine yL ?_ | fail)) | refine yJ ?_ | fail))
  refine J_ret1 rfl (by rfl) fun w H => ⟨[], ⟨?_, rfl⟩, H.sel .nil⟩
  rw [e1]
  have := bits_andNot (a := a) (m := (32 - l).toNat) (by omega) (by omega) (by omega)
  unfold pw at *
  rw [this]
theorem right_s (p : Pf) (hp : PfN p) : Pact Try.prog 67 #[.agg (pfC p).toArray] (fun _ => True) [] (ret0 (.bool (decide (Rt p)))) := by
  refine pact Try.func67 rfl Try.ntmps67 rfl ?_
  intro W K _
  (repeat' (first | ((with_reducible apply gL); (first | refine yL0 ?_ | refine yL ?_ | (refine yM ?_; intro _) | fail)) | ((with_reducible apply gD); (first | (refine JD_nil ?_; try simp only [List.cons_append, List.nil_append]) | (refine JD_bar ?_; try simp only [List.cons_append, List.nil_append]) | refine yD0 ?_ | refine yD ?_ | ((with_reducible apply gD_go); (first | (refine JD_goq (mask_s p.1 p.2 hp.1 (by omega) (by omega)) (hφ := xF) (h := ?_); rintro _ _ ⟨rfl, rfl⟩; try simp only [List.cons_append, List.nil_append]) | fail)) | ((with_reducible apply gD_gd); (first | (refine JD_guard xR xR ?_ ?_ <;> intro _ <;> (try (exfalso; first | contradiction | omega))) | (refine JD_guardb xR xR ?_ ?_ <;> (intro hgb; subst hgb)) | (refine JD_guardb xR xR ?_ ?_ <;> (intro hgb; fail_if_success (have : type_of% hgb := rfl))) | fail)) | fail)) | refine yJ ?_ | refine J_draw (id := 1) [0, 1, 2, 3, 4, 5, 6, 7, 8, 9, 10, 11, 12, 14, 15, 13] [16, 17, 18] mixed xC xD xD ?_ | fail))
  all_goals (refine J_ret1 rfl (by rfl) fun w H => ⟨[], ⟨?_, rfl⟩, H.sel .nil⟩)
  all_goals congr 1
  · rename_i h1 h2
    simp only [Rt, h1, h2, true_and]
    congr 1
    simp only [eq_iff_iff]
    omega
  · rename_i h1 h2
    simp [Rt, h1, h2]
  · rename_i h1
    simp [Rt, h1]
/-! The document's answer. -/
theorem right_b (p : Pf) (hp : PfN p) (b : Bool) (hb : decide (Rt p) = b) : Pact Try.prog 67 #[.agg (pfC p).toArray] (fun _ => True) [] (ret0 (.bool b)) := hb ▸ right_s p hp
/-! Words, tests, acts. -/
def WordOk (n : Int) : Prop := 0 ≤ n ∧ n ≤ 4294967295
instance (n : Int) : Decidable (WordOk n) := inferInstanceAs (Decidable (_ ∧ _))
def TestOk (op n : Int) (p : Pf) : Prop := (op = 4 ∧ Rt p ∧ p.2 ≤ n ∧ n ≤ 32) ∨ (op = 5 ∧ Rt p ∧ n = 0) ∨ ((6 ≤ op ∧ op ≤ 10 ∨ op = 12) ∧ (p.1 = 0 ∧ p.2 = 0) ∧ (0 ≤ n ∧ n ≤ 4294967295)) ∨ (op = 11 ∧ (p.1 = 0 ∧ p.2 = 0) ∧ 0 ≤ n ∧ n ≤ 2)
instance (op n : Int) (p : Pf) : Decidable (TestOk op n p) := inferInstanceAs (Decidable (_ ∨ _ ∨ _ ∨ _))
def ActOk (op n m : Int) : Prop := ((op = 2 ∨ op = 3 ∨ op = 9) ∧ n = 0 ∧ m = 0) ∨ (op = 4 ∧ 1 ≤ n ∧ n ≤ 4294967295 ∧ 1 ≤ m ∧ m ≤ 10) ∨ ((5 ≤ op ∧ op ≤ 8) ∧ (0 ≤ n ∧ n ≤ 4294967295) ∧ m = 0)
instance (op n m : Int) : Decidable (ActOk op n m) := inferInstanceAs (Decidable (_ ∨ _ ∨ _))
theorem word_s (n : Int) : Pact Try.prog 48 #[.int .i64 n] (fun _ => True) [] (ret0 (.bool (decide (0 ≤ n ∧ n ≤ 4294967295)))) := by
  refine pact Try.func48 rfl Try.ntmps48 rfl ?_
  intro W K _
  (repeat' (first | ((with_reducible apply gL); (first | refine yL0 ?_ | refine yL ?_ | ((with_reducible apply gL_gd); (first | (refine JL_guard xR xR ?_ ?_ <;> intro _ <;> (try (exfalso; first | contradiction | omega))) | (refine JL_guardb xR xR ?_ ?_ <;> (intro hgb; subst hgb)) | (refine JL_guardb xR xR ?_ ?_ <;> (intro hgb; fail_if_success (have : type_of% hgb := rfl))) | fail)) | fail)) | refine yJ ?_ | fail))
  all_goals (refine J_ret1 rfl (by rfl) fun w H => ⟨[], ⟨?_, rfl⟩, H.sel .nil⟩; congr 1; rw [Bool.eq_iff_iff]; simp only [decide_eq_true_eq, true_iff, Bool.false_eq_true, false_iff]; omega)
end Go.Proofs.Ytmbgbhambgoejaa.C
namespace Go.Proofs.Ytmbgbhambgoejaa.C
set_option linter.unusedSimpArgs false
set_option linter.unusedVariables false
set_option maxRecDepth 20000
set_option maxHeartbeats 4000000
open Go.RowKit Go.Pm

theorem test_s (op n : Int) (p : Pf) (hp : PfN p) : Pact Try.prog 49 #[.int .i64 op, .int .i64 n, .agg (pfC p).toArray] (fun _ => True) [] (ret0 (.bool (decide (TestOk op n p)))) := by
  refine pact Try.func49 rfl Try.ntmps49 rfl ?_
  intro W K _
  unfold TestOk
  by_cases hr : Rt p
  · (repeat' (first | ((with_reducible apply gL); (first | refine yL0 ?_ | refine yL ?_ | ((with_reducible apply gL_go); (first | (refine JL_goq (right_b p hp true (decide_eq_true hr)) (hφ := xF) (h := ?_); rintro _ _ ⟨rfl, rfl⟩; try simp only [List.cons_append, List.nil_append]) | (refine JL_goq (word_s n) (hφ := xF) (h := ?_); rintro _ _ ⟨rfl, rfl⟩; try simp only [List.cons_append, List.nil_append]) | fail)) | (refine yM ?_; intro _) | ((with_reducible apply gL_gd); (first | (refine JL_guard xR xR ?_ ?_ <;> intro _ <;> (try (exfalso; first | contradiction | omega))) | (refine JL_guardb xR xR ?_ ?_ <;> (intro hgb; subst hgb)) | (refine JL_guardb xR xR ?_ ?_ <;> (intro hgb; fail_if_success (have : type_of% hgb := rfl))) | fail)) | fail)) | refine yJ ?_ | ((with_reducible apply gJ_if); (first | (refine J_if xR ?_ ?_ <;> intro _ <;> (try (exfalso; first | contradiction | omega))) | (refine J_ifb xR ?_ ?_ <;> (intro hgb; subst hgb)) | (refine J_ifb xR ?_ ?_ <;> intro _) | fail)) | fail))
    all_goals (refine J_ret1 rfl (by rfl) fun w H => ⟨[], ⟨?_, rfl⟩, H.sel .nil⟩; refine congrArg Value.bool ?_; rw [Bool.eq_iff_iff]; simp only [decide_eq_true_eq, true_iff, Bool.false_eq_true, false_iff, hr, true_and]; omega)
  · (repeat' (first | ((with_reducible apply gL); (first | refine yL0 ?_ | refine yL ?_ | ((with_reducible apply gL_go); (first | (refine JL_goq (right_b p hp false (decide_eq_false hr)) (hφ := xF) (h := ?_); rintro _ _ ⟨rfl, rfl⟩; try simp only [List.cons_append, List.nil_append]) | (refine JL_goq (word_s n) (hφ := xF) (h := ?_); rintro _ _ ⟨rfl, rfl⟩; try simp only [List.cons_append, List.nil_append]) | fail)) | (refine yM ?_; intro _) | ((with_reducible apply gL_gd); (first | (refine JL_guard xR xR ?_ ?_ <;> intro _ <;> (try (exfalso; first | contradiction | omega))) | (refine JL_guardb xR xR ?_ ?_ <;> (intro hgb; subst hgb)) | (refine JL_guardb xR xR ?_ ?_ <;> (intro hgb; fail_if_success (have : type_of% hgb := rfl))) | fail)) | fail)) | refine yJ ?_ | ((with_reducible apply gJ_if); (first | (refine J_if xR ?_ ?_ <;> intro _ <;> (try (exfalso; first | contradiction | omega))) | (refine J_ifb xR ?_ ?_ <;> (intro hgb; subst hgb)) | (refine J_ifb xR ?_ ?_ <;> intro _) | fail)) | fail))
    all_goals (refine J_ret1 rfl (by rfl) fun w H => ⟨[], ⟨?_, rfl⟩, H.sel .nil⟩; refine congrArg Value.bool ?_; rw [Bool.eq_iff_iff]; simp only [decide_eq_true_eq, true_iff, Bool.false_eq_true, false_iff, hr, false_and, and_false, false_or]; omega)
theorem act_s (op n m : Int) : Pact Try.prog 30 #[.int .i64 op, .int .i64 n, .int .i64 m] (fun _ => True) [] (ret0 (.bool (decide (ActOk op n m)))) := by
  refine pact Try.func30 rfl Try.ntmps30 rfl ?_
  intro W K _
  (repeat' (first | ((with_reducible apply gL); (first | refine yL0 ?_ | refine yL ?_ | ((with_reducible apply gL_go); (first | (refine JL_goq (word_s n) (hφ := xF) (h := ?_); rintro _ _ ⟨rfl, rfl⟩; try simp only [List.cons_append, List.nil_append]) | fail)) | ((with_reducible apply gL_gd); (first | (refine JL_guard xR xR ?_ ?_ <;> intro _ <;> (try (exfalso; first | contradiction | omega))) | (refine JL_guardb xR xR ?_ ?_ <;> (intro hgb; subst hgb)) | (refine JL_guardb xR xR ?_ ?_ <;> (intro hgb; fail_if_success (have : type_of% hgb := rfl))) | fail)) | fail)) | refine yJ ?_ | ((with_reducible apply gJ_if); (first | (refine J_if xR ?_ ?_ <;> intro _ <;> (try (exfalso; first | contradiction | omega))) | (refine J_ifb xR ?_ ?_ <;> (intro hgb; subst hgb)) | (refine J_ifb xR ?_ ?_ <;> intro _) | fail)) | fail))
  all_goals (refine J_ret1 rfl (by rfl) fun w H => ⟨[], ⟨?_, rfl⟩, H.sel .nil⟩; refine congrArg Value.bool ?_; rw [Bool.eq_iff_iff]; simp only [decide_eq_true_eq, true_iff, Bool.false_eq_true, false_iff]; unfold ActOk; omega)
end Go.Proofs.Ytmbgbhambgoejaa.C
namespace Go.Proofs.Ytmbgbhambgoejaa.C
set_option linter.unusedSimpArgs false
set_option linter.unusedVariables false
set_option maxRecDepth 20000
set_option maxHeartbeats 4000000
open Go.RowKit Go.Pm

structure Sp where
  op : Int
  n : Int
  m : Int
  a : Int
  l : Int
  x : Int
  y : Int
deriving DecidableEq
abbrev spC (s : Sp) : List Value := [.int .i64 s.op, .int .i64 s.n, .int .i64 s.m, .int .u32 s.a, .int .i64 s.l, .int .i64 s.x, .int .i64 s.y]
structure SpN (s : Sp) : Prop where
  op : I64 s.op
  n : I64 s.n
  m : I64 s.m
  a : U32 s.a
  l : I64 s.l
  x : I64 s.x
  y : I64 s.y
def StepOk (s : Sp) (k n : Int) : Prop :=
  ((4 ≤ s.op ∧ s.op ≤ 12) ∧ TestOk s.op s.n (s.a, s.l) ∧ s.m = 0 ∧ (k < s.x ∧ s.x < n) ∧ (k < s.y ∧ s.y < n)) ∨
  (s.op = 21 ∧ s.n = 0 ∧ s.m = 0 ∧ (s.a = 0 ∧ s.l = 0) ∧ (k < s.x ∧ s.x < n) ∧ s.y = 0) ∨
  ((s.op = 22 ∨ s.op = 23) ∧ ActOk (s.op - 20) s.n s.m ∧ (s.a = 0 ∧ s.l = 0) ∧ s.x = 0 ∧ s.y = 0) ∨
  ((24 ≤ s.op ∧ s.op ≤ 29) ∧ ActOk (s.op - 20) s.n s.m ∧ (s.a = 0 ∧ s.l = 0) ∧ (k < s.x ∧ s.x < n) ∧ s.y = 0)
instance (s : Sp) (k n : Int) : Decidable (StepOk s k n) := inferInstanceAs (Decidable (_ ∨ _ ∨ _ ∨ _))
theorem test_b (op n : Int) (p : Pf) (hp : PfN p) (b : Bool) (hb : decide (TestOk op n p) = b) : Pact Try.prog 49 #[.int .i64 op, .int .i64 n, .agg (pfC p).toArray] (fun _ => True) [] (ret0 (.bool b)) := hb ▸ test_s op n p hp
theorem act_b (op n m : Int) (b : Bool) (hb : decide (ActOk op n m) = b) : Pact Try.prog 30 #[.int .i64 op, .int .i64 n, .int .i64 m] (fun _ => True) [] (ret0 (.bool b)) := hb ▸ act_s op n m
theorem step1_s (kb nb : Nat) (t k n : Int) : Pact Try.prog 54 #[.int .i64 t, .pointer (some ⟨kb, 0, none⟩), .pointer (some ⟨nb, 0, none⟩)] (fun _ => True) [pts kb [.int .i64 k] 3, pts nb [.int .i64 n] 3] (fun u L' => u = .bool (decide (k < t ∧ t < n)) ∧ L' = [pts kb [.int .i64 k] 3, pts nb [.int .i64 n] 3]) := by
  refine pact Try.func54 rfl Try.ntmps54 rfl ?_
  intro W K _
  (repeat' (first | ((with_reducible apply gL); (first | refine yL0 ?_ | refine yL ?_ | ((with_reducible apply gL_gd); (first | (refine JL_guard xR xR ?_ ?_ <;> intro _ <;> (try (exfalso; first | contradiction | omega))) | (refine JL_guardb xR xR ?_ ?_ <;> (intro hgb; subst hgb)) | (refine JL_guardb xR xR ?_ ?_ <;> (intro hgb; fail_if_success (have : type_of% hgb := rfl))) | fail)) | fail)) | refine yJ ?_ | fail))
  all_goals (refine J_ret1 rfl (by rfl) fun w H => ⟨_, ⟨?_, rfl⟩, H.sel xZ⟩; refine congrArg Value.bool ?_; rw [Bool.eq_iff_iff]; simp only [decide_eq_true_eq, true_iff, Bool.false_eq_true, false_iff]; omega)
theorem i64_sub20 (z : Int) (h : I64 z) : IntKind.i64.wrap (z - 20) = z - 20 ∨ (z < -9223372036854775788 ∧ 9223372036854775787 < IntKind.i64.wrap (z - 20)) := by
  unfold I64 at h
  by_cases h2 : -9223372036854775788 ≤ z
  · left; rw [w_i64 (by omega) (by omega)]
  · right
    refine ⟨by omega, ?_⟩
    unfold IntKind.wrap
    simp only [IntKind.bits, IntKind.signed, Bool.true_and, decide_eq_true_eq, show (64 - 1 : Nat) = 63 from rfl, show ((2 : Int) ^ 64) = 18446744073709551616 from rfl, show ((2 : Int) ^ 63) = 9223372036854775808 from rfl]
    split <;> omega
theorem step_s (s : Sp) (k n : Int) (hs : SpN s) : Pact Try.prog 37 #[.agg (spC s).toArray, .int .i64 k, .int .i64 n] (fun _ => True) [] (ret0 (.bool (decide (StepOk s k n)))) := by
  refine pact Try.func37 rfl Try.ntmps37 rfl ?_
  intro W K _
  have hp : PfN (s.a, s.l) := ⟨hs.a, hs.l⟩
  have hq2 := i64_sub20 s.op hs.op
  obtain ⟨q, hq⟩ : ∃ q, IntKind.i64.wrap (s.op - 20) = q := ⟨_, rfl⟩
  rw [hq] at hq2
  have hA : ∀ b, decide (ActOk q s.n s.m) = b → (b = true ↔ q = s.op - 20 ∧ ActOk (s.op - 20) s.n s.m) := by
    intro b hb
    rw [← hb, decide_eq_true_eq]
    rcases hq2 with h | h
    · rw [h]; simp
    · unfold ActOk; omega
  have hrange : ActOk (s.op - 20) s.n s.m → 22 ≤ s.op ∧ s.op ≤ 29 := by unfold ActOk; omega
  rcases hbt : decide (TestOk s.op s.n (s.a, s.l)) with _ | _
  all_goals rcases hba : decide (ActOk q s.n s.m) with _ | _
  all_goals have hA := hA _ hba
  all_goals (have ht := hbt; simp only [decide_eq_true_eq, decide_eq_false_iff_not] at ht)
  all_goals (
    (repeat' (first | ((with_reducible apply gL); (first | refine yL0 ?_ | ((with_reducible apply gL_bin_sub); (first | (refine L_bin_sub_r ?_; rw [hq]) | fail)) | refine yL ?_ | ((with_reducible apply gL_go); (first | (refine JL_goq (test_b s.op s.n (s.a, s.l) hp _ hbt) (hφ := xF) (h := ?_); rintro _ _ ⟨rfl, rfl⟩; try simp only [List.cons_append, List.nil_append]) | (refine JL_goq (act_b q s.n s.m _ hba) (hφ := xF) (h := ?_); rintro _ _ ⟨rfl, rfl⟩; try simp only [List.cons_append, List.nil_append]) | (refine JL_goq (step1_s _ _ s.x k n) (hφ := xF) (h := ?_); rintro _ _ ⟨rfl, rfl⟩; try simp only [List.cons_append, List.nil_append]) | (refine JL_goq (step1_s _ _ s.y k n) (hφ := xF) (h := ?_); rintro _ _ ⟨rfl, rfl⟩; try simp only [List.cons_append, List.nil_append]) | fail)) | (refine yM ?_; intro _) | ((with_reducible apply gL_gd); (first | (refine JL_guard xR xR ?_ ?_ <;> intro _ <;> (try (exfalso; first | contradiction | omega))) | (refine JL_guardb xR xR ?_ ?_ <;> (intro hgb; subst hgb)) | (refine JL_guardb xR xR ?_ ?_ <;> (intro hgb; fail_if_success (have : type_of% hgb := rfl))) | fail)) | fail)) | refine yJ ?_ | ((with_reducible apply gJ_if); (first | (refine J_if xR ?_ ?_ <;> intro _ <;> (try (exfalso; first | contradiction | omega))) | (refine J_ifb xR ?_ ?_ <;> (intro hgb; subst hgb)) | (refine J_ifb xR ?_ ?_ <;> intro _) | fail)) | fail)))
  all_goals (refine J_ret1 rfl (by rfl) fun w H => ⟨_, ⟨?_, rfl⟩, H.sel .nil⟩; refine congrArg Value.bool ?_; rw [Bool.eq_iff_iff]; simp only [decide_eq_true_eq, true_iff, Bool.false_eq_true, false_iff]; unfold StepOk; simp only [ht, true_and, false_and, and_false, false_or, Bool.false_eq_true, true_iff, false_iff] at hA ⊢)
  all_goals (rcases Classical.em (ActOk (s.op - 20) s.n s.m) with hw | hw)
  all_goals (first | (have hr := hrange hw; (try simp only [hw, and_true, and_false, true_and, false_and, or_false, false_or, iff_false, iff_true, not_true_eq_false, not_false_eq_true] at hA ⊢) <;> omega) | ((try simp only [hw, and_true, and_false, true_and, false_and, or_false, false_or, iff_false, iff_true, not_true_eq_false, not_false_eq_true] at hA ⊢) <;> omega))
end Go.Proofs.Ytmbgbhambgoejaa.C
namespace Go.Proofs.Ytmbgbhambgoejaa.C
set_option linter.unusedSimpArgs false
set_option linter.unusedVariables false
set_option maxRecDepth 20000
set_option maxHeartbeats 4000000
open Go.RowKit Go.Pm

def allB : List Sp → Nat → Nat → Bool
  | [], _, _ => true
  | s :: r, k, n => decide (StepOk s k n) && allB r (k + 1) n
theorem allB_iff : ∀ (l : List Sp) (k n : Nat), allB l k n = true ↔ ∀ i s, l[i]? = some s → StepOk s ((k + i : Nat) : Int) n
  | [], k, n => by simp [allB]
  | x :: r, k, n => by
    unfold allB
    rw [Bool.and_eq_true, decide_eq_true_eq, allB_iff r (k + 1) n]
    constructor
    · rintro ⟨h1, h2⟩ i s hi
      cases i with
      | zero => cases hi; exact h1
      | succ i =>
        have := h2 i s hi
        rwa [show k + (i + 1) = k + 1 + i by omega]
    · intro h
      refine ⟨h 0 x rfl, fun i s hi => ?_⟩
      have := h (i + 1) s hi
      rwa [show k + 1 + i = k + (i + 1) by omega]
def checkE (l : List Sp) : Int :=
  if 4096 < l.length then 3 else if allB l 0 l.length = true ∧ (l.getLast?.any fun s => decide (s.op = 22 ∨ s.op = 23)) = true then 0 else 260
theorem checkE_long {l : List Sp} (h : 4096 < l.length) : checkE l = 3 := if_pos h
theorem checkE_bad {l : List Sp} (h : ¬ 4096 < l.length) {i : Nat} {s : Sp} (hi : l[i]? = some s) (hs : ¬ StepOk s i l.length) : checkE l = 260 := by
  unfold checkE
  rw [if_neg h, if_neg]
  rintro ⟨h1, _⟩
  have := (allB_iff l 0 l.length).1 h1 i s hi
  rw [Nat.zero_add] at this
  exact hs this
theorem checkE_last {l : List Sp} (h : ¬ 4096 < l.length) (hl : ∀ s, l[l.length - 1]? = some s → ¬ (s.op = 22 ∨ s.op = 23)) : checkE l = 260 := by
  unfold checkE
  rw [if_neg h, if_neg]
  rintro ⟨_, h1⟩
  rw [List.getLast?_eq_getElem?] at h1
  cases he : l[l.length - 1]? with
  | none => rw [he] at h1; simp at h1
  | some s => rw [he] at h1; exact hl s he (by simpa using h1)
theorem checkE_ok {l : List Sp} (h : ¬ 4096 < l.length) (ha : ∀ i, i < l.length → ∀ s, l[i]? = some s → StepOk s i l.length) {s : Sp} (hs : l[l.length - 1]? = some s) (ho : s.op = 22 ∨ s.op = 23) : checkE l = 0 := by
  unfold checkE
  rw [if_neg h, if_pos]
  refine ⟨(allB_iff l 0 l.length).2 fun i s hi => ?_, ?_⟩
  · rw [Nat.zero_add]
    exact ha i (List.getElem?_eq_some_iff.1 hi).1 s hi
  · rw [List.getLast?_eq_getElem?, hs]
    simpa using ho
theorem step_b (s : Sp) (k n : Int) (hs : SpN s) (b : Bool) (hb : decide (StepOk s k n) = b) : Pact Try.prog 37 #[.agg (spC s).toArray, .int .i64 k, .int .i64 n] (fun _ => True) [] (ret0 (.bool b)) := hb ▸ step_s s k n hs
theorem check_s (a : Option Addr) (c : Nat) (l : List Sp) (hn : ∀ s ∈ l, SpN s) (hl : l.length ≤ 1000000000000) : Pact Try.prog 21 #[.slice a l.length c] (fun w => Vw w (.slice a l.length c) 7 l.length (flat spC l)) [] (ret0 (.int .i64 (checkE l))) := by
  refine pact Try.func21 rfl Try.ntmps21 rfl ?_
  intro W K hK
  by_cases h1 : 4096 < l.length
  · (repeat' (first | ((with_reducible apply gL); (first | refine yL0 ?_ | refine yL ?_ | (refine yM ?_; intro _) | ((with_reducible apply gL_gd); (first | (refine JL_guard xR xR ?_ ?_ <;> intro _ <;> (try (exfalso; first | contradiction | omega))) | (refine JL_guardb xR xR ?_ ?_ <;> (intro hgb; subst hgb)) | (refine JL_guardb xR xR ?_ ?_ <;> (intro hgb; fail_if_success (have : type_of% hgb := rfl))) | fail)) | fail)) | refine yJ ?_ | ((with_reducible apply gJ_if); (first | (refine J_if xR ?_ ?_ <;> intro _ <;> (try (exfalso; first | contradiction | omega))) | (refine J_ifb xR ?_ ?_ <;> (intro hgb; subst hgb)) | (refine J_ifb xR ?_ ?_ <;> intro _) | fail)) | fail))
    exact J_ret1 rfl (by rfl) fun w H => ⟨_, ⟨by rw [checkE_long h1], rfl⟩, H.sel .nil⟩
  (repeat' (first | ((with_reducible apply gL); (first | refine yL0 ?_ | refine yL ?_ | (refine yM ?_; intro _) | ((with_reducible apply gL_gd); (first | (refine JL_guard xR xR ?_ ?_ <;> intro _ <;> (try (exfalso; first | contradiction | omega))) | (refine JL_guardb xR xR ?_ ?_ <;> (intro hgb; subst hgb)) | (refine JL_guardb xR xR ?_ ?_ <;> (intro hgb; fail_if_success (have : type_of% hgb := rfl))) | fail)) | fail)) | refine yJ ?_ | ((with_reducible apply gJ_if); (first | (refine J_if xR ?_ ?_ <;> intro _ <;> (try (exfalso; first | contradiction | omega))) | (refine J_ifb xR ?_ ?_ <;> (intro hgb; subst hgb)) | (refine J_ifb xR ?_ ?_ <;> intro _) | fail)) | fail))
  refine J_loop (α := Nat) 0 (fun k => l.length - k) (fun k => k ≤ l.length ∧ ∀ i, i < k → ∀ s, l[i]? = some s → StepOk s i l.length) (fun k => [(0, .slice a l.length c), (2, .int .i64 0), (9, .slice a l.length c), (10, .int .i64 l.length), (11, .int .i64 k)])
    (fun _ => []) ⟨Nat.zero_le _, fun i h => absurd h (Nat.not_lt_zero _)⟩ ⟨rfl, rfl, rfl, rfl, rfl, trivial⟩ (fun w H => H.sel .nil) ?_
  rintro k ⟨hk, hall⟩
  by_cases hlt : k < l.length
  · obtain ⟨s, hs⟩ : ∃ s, l[k]? = some s := ⟨_, List.getElem?_eq_getElem hlt⟩
    have hsn := hn s (List.mem_of_getElem? hs)
    by_cases hok : StepOk s k l.length
    · (repeat' (first | ((with_reducible apply gL); (first | refine yL0 ?_ | refine yL ?_ | ((with_reducible apply gL_go); (first | (refine JL_goq (step_b s k l.length hsn true (decide_eq_true hok)) (hφ := xF) (h := ?_); rintro _ _ ⟨rfl, rfl⟩; try simp only [List.cons_append, List.nil_append]) | fail)) | (refine yM ?_; intro _) | ((with_reducible apply gL_gd); (first | (refine JL_guard xR xR ?_ ?_ <;> intro _ <;> (try (exfalso; first | contradiction | omega))) | (refine JL_guardb xR xR ?_ ?_ <;> (intro hgb; subst hgb)) | (refine JL_guardb xR xR ?_ ?_ <;> (intro hgb; fail_if_success (have : type_of% hgb := rfl))) | fail)) | fail)) | refine yJ ?_ | ((with_reducible apply gJ_if); (first | (refine J_if xR ?_ ?_ <;> intro _ <;> (try (exfalso; first | contradiction | omega))) | (refine J_ifb xR ?_ ?_ <;> (intro hgb; subst hgb)) | (refine J_ifb xR ?_ ?_ <;> intro _) | fail)) | fail))
      refine J_again (k + 1) (by omega) ⟨hlt, fun i hi s' hs' => ?_⟩ ⟨rfl, rfl, rfl, rfl, rfl, trivial⟩ (fun w H => H.sel .nil)
      by_cases hik : i = k
      · subst hik; rw [hs] at hs'; cases hs'; exact hok
      · exact hall i (by omega) s' hs'
    · (repeat' (first | ((with_reducible apply gL); (first | refine yL0 ?_ | refine yL ?_ | ((with_reducible apply gL_go); (first | (refine JL_goq (step_b s k l.length hsn false (decide_eq_false hok)) (hφ := xF) (h := ?_); rintro _ _ ⟨rfl, rfl⟩; try simp only [List.cons_append, List.nil_append]) | fail)) | (refine yM ?_; intro _) | ((with_reducible apply gL_gd); (first | (refine JL_guard xR xR ?_ ?_ <;> intro _ <;> (try (exfalso; first | contradiction | omega))) | (refine JL_guardb xR xR ?_ ?_ <;> (intro hgb; subst hgb)) | (refine JL_guardb xR xR ?_ ?_ <;> (intro hgb; fail_if_success (have : type_of% hgb := rfl))) | fail)) | fail)) | refine yJ ?_ | ((with_reducible apply gJ_if); (first | (refine J_if xR ?_ ?_ <;> intro _ <;> (try (exfalso; first | contradiction | omega))) | (refine J_ifb xR ?_ ?_ <;> (intro hgb; subst hgb)) | (refine J_ifb xR ?_ ?_ <;> intro _) | fail)) | fail))
      exact J_ret1 rfl (by rfl) fun w H => ⟨_, ⟨by rw [checkE_bad h1 hs hok], rfl⟩, H.sel .nil⟩
  · obtain rfl : k = l.length := by omega
    by_cases h0 : l.length = 0
    · (repeat' (first | ((with_reducible apply gL); (first | refine yL0 ?_ | refine yL ?_ | (refine yM ?_; intro _) | ((with_reducible apply gL_gd); (first | (refine JL_guard xR xR ?_ ?_ <;> intro _ <;> (try (exfalso; first | contradiction | omega))) | (refine JL_guardb xR xR ?_ ?_ <;> (intro hgb; subst hgb)) | (refine JL_guardb xR xR ?_ ?_ <;> (intro hgb; fail_if_success (have : type_of% hgb := rfl))) | fail)) | fail)) | refine yJ ?_ | ((with_reducible apply gJ_if); (first | (refine J_if xR ?_ ?_ <;> intro _ <;> (try (exfalso; first | contradiction | omega))) | (refine J_ifb xR ?_ ?_ <;> (intro hgb; subst hgb)) | (refine J_ifb xR ?_ ?_ <;> intro _) | fail)) | fail))
      exact J_ret1 rfl (by rfl) fun w H => ⟨_, ⟨by rw [checkE_last h1 (fun s hs => by rw [List.getElem?_eq_none (by omega)] at hs; cases hs)], rfl⟩, H.sel .nil⟩
    · obtain ⟨s, hs⟩ : ∃ s, l[l.length - 1]? = some s := ⟨_, List.getElem?_eq_getElem (by omega)⟩
      have hs2 : l[((l.length : Int) - 1).toNat]? = some s := by rw [show ((l.length : Int) - 1).toNat = l.length - 1 by omega]; exact hs
      (repeat' (first | ((with_reducible apply gL); (first | refine yL0 ?_ | refine yL ?_ | (refine yM ?_; intro _) | ((with_reducible apply gL_gd); (first | (refine JL_guard xR xR ?_ ?_ <;> intro _ <;> (try (exfalso; first | contradiction | omega))) | (refine JL_guardb xR xR ?_ ?_ <;> (intro hgb; subst hgb)) | (refine JL_guardb xR xR ?_ ?_ <;> (intro hgb; fail_if_success (have : type_of% hgb := rfl))) | fail)) | fail)) | refine yJ ?_ | ((with_reducible apply gJ_if); (first | (refine J_if xR ?_ ?_ <;> intro _ <;> (try (exfalso; first | contradiction | omega))) | (refine J_ifb xR ?_ ?_ <;> (intro hgb; subst hgb)) | (refine J_ifb xR ?_ ?_ <;> intro _) | fail)) | fail))
      all_goals (refine J_ret1 rfl (by rfl) fun w H => ⟨_, ⟨?_, rfl⟩, H.sel .nil⟩; refine congrArg (Value.int .i64) ?_; first | exact (checkE_ok h1 hall hs (by omega)).symm | exact (checkE_last h1 (fun s' hs' => by rw [hs] at hs'; cases hs'; omega)).symm)
theorem check_b (a : Option Addr) (c : Nat) (l : List Sp) (hn : ∀ s ∈ l, SpN s) (hl : l.length ≤ 1000000000000) (e : Int) (he : checkE l = e) : Pact Try.prog 21 #[.slice a l.length c] (fun w => Vw w (.slice a l.length c) 7 l.length (flat spC l)) [] (ret0 (.int .i64 e)) := he ▸ check_s a c l hn hl
def cnt (l : List Sp) : Nat := l.countP fun s => decide (s.op ≤ 12)
def testsN (l : List Sp) : Nat := if checkE l = 0 then cnt l else 0
end Go.Proofs.Ytmbgbhambgoejaa.C
namespace Go.Proofs.Ytmbgbhambgoejaa.C
set_option linter.unusedSimpArgs false
set_option linter.unusedVariables false
set_option maxRecDepth 20000
set_option maxHeartbeats 4000000
open Go.RowKit Go.Pm

structure Cd where
  op : Int
  n : Int
  pa : Int
  pl : Int
  a : Option Addr
  c : Nat
  l : List Cd
structure St where
  op : Int
  n : Int
  m : Int
  cd : Cd
  ta : Option Addr
  tc : Nat
  th : List St
  ea : Option Addr
  ec : Nat
  el : List St
abbrev cdC (x : Cd) : List Value := [.int .i64 x.op, .slice x.a x.l.length x.c, .int .u32 x.pa, .int .i64 x.pl, .int .i64 x.n]
abbrev stC (s : St) : List Value := [.int .i64 s.op, .int .i64 s.cd.op, .slice s.cd.a s.cd.l.length s.cd.c, .int .u32 s.cd.pa, .int .i64 s.cd.pl, .int .i64 s.cd.n, .slice s.ta s.th.length s.tc, .slice s.ea s.el.length s.ec, .int .i64 s.n, .int .i64 s.m]
structure CdN (x : Cd) : Prop where
  op : I64 x.op
  n : I64 x.n
  pa : U32 x.pa
  pl : I64 x.pl
structure StN (s : St) : Prop where
  op : I64 s.op
  n : I64 s.n
  m : I64 s.m
  cd : CdN s.cd
def CdR : Nat → Cd → Prop
  | 0, x => CdN x ∧ x.l.length ≤ 140737488355328
  | d + 1, x => CdN x ∧ x.l.length ≤ 140737488355328 ∧ ∀ y ∈ x.l, CdR d y
def CdV (w : World) : Nat → Cd → Prop
  | 0, _ => True
  | d + 1, x => Vw w (.slice x.a x.l.length x.c) 5 x.l.length (flat cdC x.l) ∧ ∀ y ∈ x.l, CdV w d y
def CdF : Nat → Cd → Prop
  | 0, x => CdN x ∧ x.l = []
  | d + 1, x => CdN x ∧ x.l.length ≤ 5 ∧ ∀ y ∈ x.l, CdF d y
def LsR : Nat → List St → Prop
  | 0, l => l.length ≤ 140737488355328
  | d + 1, l => l.length ≤ 140737488355328 ∧ ∀ s ∈ l, StN s ∧ CdR 5 s.cd ∧ LsR d s.th ∧ LsR d s.el
def LsV (w : World) : Nat → Option Addr → Nat → List St → Prop
  | 0, _, _, _ => True
  | d + 1, a, c, l => Vw w (.slice a l.length c) 10 l.length (flat stC l) ∧ ∀ s ∈ l, CdV w 5 s.cd ∧ LsV w d s.ta s.tc s.th ∧ LsV w d s.ea s.ec s.el
def LsF : Nat → List St → Prop
  | 0, l => l = []
  | d + 1, l => l.length ≤ 6 ∧ ∀ s ∈ l, StN s ∧ CdF 5 s.cd ∧ LsF d s.th ∧ LsF d s.el
theorem CdR.nn {d : Nat} {x : Cd} (h : CdR d x) : CdN x := by
  cases d with
  | zero => exact h.1
  | succ d => exact h.1
theorem CdR.len {d : Nat} {x : Cd} (h : CdR d x) : x.l.length ≤ 140737488355328 := by
  cases d with
  | zero => exact h.2
  | succ d => exact h.2.1
theorem CdF.nn {d : Nat} {x : Cd} (h : CdF d x) : CdN x := by
  cases d with
  | zero => exact h.1
  | succ d => exact h.1
structure Lc where
  k : Nat
  ys : List Cd
  a : Option Addr
  c : Nat
theorem cond_s : ∀ (d : Nat) (x : Cd), CdR d x → d ≤ 64 → Pact Try.prog 14 #[.agg (cdC x).toArray, .int .i64 d] (fun w => CdV w d x) [] (fun u L' => ∃ y, CdF d y ∧ u = .agg (cdC y).toArray ∧ L' = [has (fun w => CdV w d y)]) := by
  intro d
  induction d with
  | zero =>
    intro x hx _
    have hxl := hx.len
    refine pact Try.func14 rfl Try.ntmps14 rfl ?_
    intro W K hK
    (repeat' (first | ((with_reducible apply gL); (first | refine yL0 ?_ | refine yL ?_ | (refine yM ?_; intro _) | (refine yA ?_; intro _ _ _ _) | ((with_reducible apply gL_gd); (first | (refine JL_guard xR xR ?_ ?_ <;> intro _ <;> (try (exfalso; first | contradiction | omega))) | (refine JL_guardb xR xR ?_ ?_ <;> (intro hgb; subst hgb)) | (refine JL_guardb xR xR ?_ ?_ <;> (intro hgb; fail_if_success (have : type_of% hgb := rfl))) | fail)) | fail)) | refine yJ ?_ | ((with_reducible apply gJ_if); (first | (refine J_if xR ?_ ?_ <;> intro _ <;> (try (exfalso; first | contradiction | omega))) | (refine J_ifb xR ?_ ?_ <;> (intro hgb; subst hgb)) | (refine J_ifb xR ?_ ?_ <;> intro _) | fail)) | fail))
    rename_i b1 b2 b3
    refine J_loop (α := Unit) () (fun _ => 0) (fun _ => True) (fun _ => [(1, .int .i64 ((0 : Nat) : Int)), (2, .pointer (some ⟨b1, 0, none⟩)), (4, .pointer (some ⟨b2, 0, none⟩)), (5, .slice (some ⟨b3, 0, none⟩) 0 0), (6, .int .i64 0)])
      (fun _ => [pts b1 (cdC x) 50, pts b2 [.int .i64 0, .slice none 0 0, .int .u32 0, .int .i64 0, .int .i64 0] 50]) trivial ⟨rfl, rfl, rfl, rfl, rfl, trivial⟩ (fun w H => H.sel xZ) ?_
    rintro ⟨⟩ _
    (repeat' (first | ((with_reducible apply gL); (first | refine yL0 ?_ | refine yL ?_ | (refine yM ?_; intro _) | (refine yA ?_; intro _ _ _ _) | ((with_reducible apply gL_gd); (first | (refine JL_guard xR xR ?_ ?_ <;> intro _ <;> (try (exfalso; first | contradiction | omega))) | (refine JL_guardb xR xR ?_ ?_ <;> (intro hgb; subst hgb)) | (refine JL_guardb xR xR ?_ ?_ <;> (intro hgb; fail_if_success (have : type_of% hgb := rfl))) | fail)) | fail)) | refine yJ ?_ | ((with_reducible apply gJ_if); (first | (refine J_if xR ?_ ?_ <;> intro _ <;> (try (exfalso; first | contradiction | omega))) | (refine J_ifb xR ?_ ?_ <;> (intro hgb; subst hgb)) | (refine J_ifb xR ?_ ?_ <;> intro _) | fail)) | fail))
    all_goals exact J_retC (cs := [.int .i64 x.op, .slice (some ⟨b3, 0, none⟩) 0 0, .int .u32 x.pa, .int .i64 x.pl, .int .i64 x.n]) rfl (by rfl) xA (by rfl) fun w H => ⟨_, ⟨⟨x.op, x.n, x.pa, x.pl, some ⟨b3, 0, none⟩, 0, []⟩, ⟨⟨hx.1.op, hx.1.n, hx.1.pa, hx.1.pl⟩, rfl⟩, rfl, rfl⟩, (Ow.hasTrue (φ := fun w => CdV w 0 _) H (fun _ => trivial)).sel xZ⟩
  | succ d ih =>
    intro x hx hd
    have hxl := hx.len
    refine pact Try.func14 rfl Try.ntmps14 rfl ?_
    intro W K hK
    have hkv : Kn K (fun w => Vw w (.slice x.a x.l.length x.c) 5 x.l.length (flat cdC x.l)) := hK.imp fun w h => h.1
    have hkl : ∀ y ∈ x.l, Kn K (fun w => CdV w d y) := fun y hy => hK.imp fun w h => h.2 y hy
    have hd1 : (d : Int) + 1 - 1 = d := by omega
    (repeat' (first | ((with_reducible apply gL); (first | refine yL0 ?_ | refine yL ?_ | (refine yM ?_; intro _) | (refine yA ?_; intro _ _ _ _) | ((with_reducible apply gL_gd); (first | (refine JL_guard xR xR ?_ ?_ <;> intro _ <;> (try (exfalso; first | contradiction | omega))) | (refine JL_guardb xR xR ?_ ?_ <;> (intro hgb; subst hgb)) | (refine JL_guardb xR xR ?_ ?_ <;> (intro hgb; fail_if_success (have : type_of% hgb := rfl))) | fail)) | fail)) | refine yJ ?_ | ((with_reducible apply gJ_if); (first | (refine J_if xR ?_ ?_ <;> intro _ <;> (try (exfalso; first | contradiction | omega))) | (refine J_ifb xR ?_ ?_ <;> (intro hgb; subst hgb)) | (refine J_ifb xR ?_ ?_ <;> intro _) | fail)) | fail))
    rename_i b1 b2 b3
    refine J_loop (α := Lc) ⟨0, [], some ⟨b3, 0, none⟩, 0⟩ (fun z => 5 - z.k) (fun z => z.k ≤ x.l.length ∧ z.k ≤ 5 ∧ z.k = z.ys.length ∧ ∀ y ∈ z.ys, CdF d y) (fun z => [(1, .int .i64 ((d : Int) + 1)), (2, .pointer (some ⟨b1, 0, none⟩)), (4, .pointer (some ⟨b2, 0, none⟩)), (5, .slice z.a z.ys.length z.c), (6, .int .i64 z.k)])
      (fun z => [pts b1 (cdC x) 50, pts b2 [.int .i64 0, .slice none 0 0, .int .u32 0, .int .i64 0, .int .i64 0] 50, Ar 50 5 cdC (.slice z.a z.ys.length z.c) z.ys, has (fun w => ∀ y ∈ z.ys, CdV w d y)]) ⟨Nat.zero_le _, Nat.zero_le _, rfl, by simp⟩ ⟨rfl, rfl, rfl, rfl, rfl, trivial⟩ (fun w H => (Ow.hasTrue (φ := fun w => ∀ y ∈ ([] : List Cd), CdV w d y) (Ow.arLit0 (sz := 5) (enc := cdC) H xA) (by intro _ _ h; exact absurd h List.not_mem_nil)).sel xZ) ?_
    rintro ⟨k, ys, a, c⟩ ⟨hk, hk5, hky, hys⟩
    dsimp only at hk hk5 hky hys ⊢
    by_cases hlt : k < x.l.length ∧ k < 5
    · obtain ⟨hlt, hlt5⟩ := hlt
      obtain ⟨y, hs⟩ : ∃ y, x.l[k]? = some y := ⟨_, List.getElem?_eq_getElem hlt⟩
      have hm := List.mem_of_getElem? hs
      have hyr := hx.2.2 y hm
      (repeat' (first | ((with_reducible apply gL); (first | refine yL0 ?_ | refine yL ?_ | (refine yM ?_; intro _) | (refine yA ?_; intro _ _ _ _) | ((with_reducible apply gL_gd); (first | (refine JL_guard xR xR ?_ ?_ <;> intro _ <;> (try (exfalso; first | contradiction | omega))) | (refine JL_guardb xR xR ?_ ?_ <;> (intro hgb; subst hgb)) | (refine JL_guardb xR xR ?_ ?_ <;> (intro hgb; fail_if_success (have : type_of% hgb := rfl))) | fail)) | fail)) | refine yJ ?_ | ((with_reducible apply gJ_if); (first | (refine J_if xR ?_ ?_ <;> intro _ <;> (try (exfalso; first | contradiction | omega))) | (refine J_ifb xR ?_ ?_ <;> (intro hgb; subst hgb)) | (refine J_ifb xR ?_ ?_ <;> intro _) | fail)) | fail))
      rw [hd1]
      (repeat' (first | ((with_reducible apply gL); (first | refine yL0 ?_ | ((with_reducible apply gL_c_append); (first | (refine JL_ap1 (z := z) (tabE etab_ok xR) xR xR xA xA xC xR xL xR (by omega) xR xR ?_; intro ad2 c2 _ _) | fail)) | refine yL ?_ | ((with_reducible apply gL_go); (first | (refine JL_goq (ih y hyr (by omega)) (hφ := (by (try simp only [List.cons_append, List.nil_append]); exact fun w hr => hkl y hm w hr.1)) (h := ?_); rintro _ _ ⟨z, hz, rfl, rfl⟩; try simp only [List.cons_append, List.nil_append]) | fail)) | (refine yM ?_; intro _) | (refine yA ?_; intro _ _ _ _) | ((with_reducible apply gL_gd); (first | (refine JL_guard xR xR ?_ ?_ <;> intro _ <;> (try (exfalso; first | contradiction | omega))) | (refine JL_guardb xR xR ?_ ?_ <;> (intro hgb; subst hgb)) | (refine JL_guardb xR xR ?_ ?_ <;> (intro hgb; fail_if_success (have : type_of% hgb := rfl))) | fail)) | fail)) | refine yJ ?_ | ((with_reducible apply gJ_if); (first | (refine J_if xR ?_ ?_ <;> intro _ <;> (try (exfalso; first | contradiction | omega))) | (refine J_ifb xR ?_ ?_ <;> (intro hgb; subst hgb)) | (refine J_ifb xR ?_ ?_ <;> intro _) | fail)) | fail))
      refine J_again ⟨k + 1, ys ++ [z], ad2, c2⟩ (by dsimp only; omega) ⟨hlt, by dsimp only; omega, by simp [hky], ?_⟩ ⟨rfl, rfl, rfl, ?_, rfl, trivial⟩ (fun w H => ?_)
      · intro y' hy'
        rcases List.mem_append.1 hy' with h | h
        · exact hys y' h
        · obtain rfl := List.mem_singleton.1 h
          exact hz
      · show some _ = some _
        simp
      · simp only [List.length_append, List.length_cons, List.length_nil]
        refine (Ow.has (M := [has (fun w => CdV w d z), has (fun w => ∀ y ∈ ys, CdV w d y)]) (φ := fun w => ∀ y ∈ ys ++ [z], CdV w d y) H xZ ?_).sel xZ
        intro w hr y' hy'
        rcases List.mem_append.1 hy' with h | h
        · exact hr.has (.there .here) y' h
        · obtain rfl := List.mem_singleton.1 h
          exact hr.has .here
    · (repeat' (first | ((with_reducible apply gL); (first | refine yL0 ?_ | refine yL ?_ | (refine yM ?_; intro _) | (refine yA ?_; intro _ _ _ _) | ((with_reducible apply gL_gd); (first | (refine JL_guard xR xR ?_ ?_ <;> intro _ <;> (try (exfalso; first | contradiction | omega))) | (refine JL_guardb xR xR ?_ ?_ <;> (intro hgb; subst hgb)) | (refine JL_guardb xR xR ?_ ?_ <;> (intro hgb; fail_if_success (have : type_of% hgb := rfl))) | fail)) | fail)) | refine yJ ?_ | ((with_reducible apply gJ_if); (first | (refine J_if xR ?_ ?_ <;> intro _ <;> (try (exfalso; first | contradiction | omega))) | (refine J_ifb xR ?_ ?_ <;> (intro hgb; subst hgb)) | (refine J_ifb xR ?_ ?_ <;> intro _) | fail)) | fail))
      all_goals (first | (exfalso; omega) | skip)
      all_goals exact J_retC (cs := [.int .i64 x.op, .slice a ys.length c, .int .u32 x.pa, .int .i64 x.pl, .int .i64 x.n]) rfl (by rfl) xA (by rfl) fun w H => ⟨_, ⟨⟨x.op, x.n, x.pa, x.pl, a, c, ys⟩, ⟨⟨hx.1.op, hx.1.n, hx.1.pa, hx.1.pl⟩, by show ys.length ≤ 5; omega, hys⟩, rfl, rfl⟩, (Ow.has (M := [Ar 50 5 cdC (.slice a ys.length c) ys, has (fun w => ∀ y ∈ ys, CdV w d y)]) (φ := fun w => CdV w (d + 1) ⟨x.op, x.n, x.pa, x.pl, a, c, ys⟩) H xZ (fun w hr => ⟨Src.ar .here w hr, hr.has (.there .here)⟩)).sel xZ⟩
end Go.Proofs.Ytmbgbhambgoejaa.C
