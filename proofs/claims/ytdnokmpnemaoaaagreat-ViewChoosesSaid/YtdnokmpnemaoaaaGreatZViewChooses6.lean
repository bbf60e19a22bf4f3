/-
  Je: merged.
-/
import Derived.Test.YtdnokmpnemaoaaaGreatZViewChooses5
namespace Go.Pm
set_option linter.unusedSimpArgs false
set_option linter.unusedVariables false
open Go.RowKit

def fieldInfo (P : Program) (t : TypeId) (f : Nat) : Option (Nat × Nat × Bool) := match P.underlying t with
  | some (.struct fs) => match fs[f]? with
    | some fd => match P.info? fd.type, P.underlying fd.type with
      | some i, some d => some (fd.offset, i.size, d.isRow)
      | _, _ => none
    | none => none
  | _ => none
theorem fieldInfo_spec {P : Program} {t : TypeId} {f off sz : Nat} {r : Bool} (h : fieldInfo P t f = some (off, sz, r)) : ∃ fs fd i d, P.underlying t = some (.struct fs) ∧ fs[f]? = some fd ∧ fd.offset = off ∧ P.info? fd.type = some i ∧ i.size = sz ∧ P.underlying fd.type = some d ∧ d.isRow = r := by
  unfold fieldInfo at h
  split at h
  · rename_i fs hu
    split at h
    · rename_i fd hf
      split at h
      · rename_i i d hi hd
        simp only [Option.some.injEq, Prod.mk.injEq] at h
        exact ⟨fs, fd, i, d, hu, hf, h.1, hi, h.2.1, hd, h.2.2⟩
      · cases h
    · cases h
  · cases h
def elemInfo (P : Program) (t : TypeId) : Option (TypeId × Nat × Nat) := match P.underlying t with
  | some (.slice e) => match P.info? e with
    | some i => some (e, i.size, i.bytes)
    | none => none
  | _ => none
theorem elemInfo_spec {P : Program} {t e : TypeId} {sz by_ : Nat} (h : elemInfo P t = some (e, sz, by_)) : ∃ i, P.underlying t = some (.slice e) ∧ P.info? e = some i ∧ i.size = sz ∧ i.bytes = by_ := by
  unfold elemInfo at h
  split at h
  · rename_i e' hu
    split at h
    · rename_i i hi
      simp only [Option.some.injEq, Prod.mk.injEq] at h
      obtain ⟨rfl, h2, h3⟩ := h
      exact ⟨i, hu, hi, h2, h3⟩
    · cases h
  · cases h
theorem run_sz {P : Program} {t : TypeId} {i : TypeInfo} (h : P.info? t = some i) (w : World) : (sizeOf t).run P w = .ok i.size w := by simp [sizeOf, typeInfo, h]
theorem run_agg {P : Program} {t : TypeId} {d : TypeDesc} (h : P.underlying t = some d) (w : World) : (isAgg t).run P w = .ok d.isRow w := by
  unfold isAgg
  rw [Sem.run_bind, run_underlying h w]
  cases d <;> rfl

/-! Tables of what the types say, so that numbers stand as numbers. -/
def tabGet {β : Type} : List (Nat × β) → Nat → Option β
  | [], _ => none
  | (k, v) :: r, t => bif Nat.beq k t then some v else tabGet r t
theorem tabGet_mem {β : Type} : ∀ {l : List (Nat × β)} {t : Nat} {x : β}, tabGet l t = some x → (t, x) ∈ l
  | [], _, _, h => by cases h
  | (k, v) :: r, t, x, h => by
    simp only [tabGet] at h
    by_cases hu : k = t
    · subst hu; simp at h; subst h; simp
    · have : Nat.beq k t = false := by rw [Bool.eq_false_iff]; intro hb; exact hu (Nat.eq_of_beq_eq_true hb)
      rw [this] at h
      exact List.mem_cons_of_mem _ (tabGet_mem h)
def tabOkE (P : Program) (tab : List (Nat × (TypeId × Nat × Nat))) : Bool := tab.all fun p => decide (elemInfo P p.1 = some p.2)
theorem tabE {P : Program} {tab : List (Nat × (TypeId × Nat × Nat))} {t : Nat} {x : TypeId × Nat × Nat} (h : tabOkE P tab = true) (g : tabGet tab t = some x) : elemInfo P t = some x := by
  simpa using List.all_eq_true.1 h _ (tabGet_mem g)
def fOk (P : Program) (t : TypeId) : Nat → List (Nat × Nat × Bool) → Bool
  | _, [] => true
  | i, x :: r => decide (fieldInfo P t i = some x) && fOk P t (i + 1) r
theorem fOk_get {P : Program} {t : TypeId} : ∀ {l : List (Nat × Nat × Bool)} {i j : Nat} {x : Nat × Nat × Bool}, fOk P t i l = true → l[j]? = some x → fieldInfo P t (i + j) = some x
  | [], _, _, _, _, h => by simp at h
  | y :: r, i, 0, x, h, g => by
    simp only [fOk, Bool.and_eq_true, decide_eq_true_eq] at h
    simp at g
    rw [Nat.add_zero, h.1, g]
  | y :: r, i, j + 1, x, h, g => by
    simp only [fOk, Bool.and_eq_true, decide_eq_true_eq] at h
    have := fOk_get (j := j) h.2 (by simpa using g)
    rw [show i + (j + 1) = i + 1 + j by omega]
    exact this
def tabOkF (P : Program) (tab : List (Nat × List (Nat × Nat × Bool))) : Bool := tab.all fun p => fOk P p.1 0 p.2
def tabGetF (tab : List (Nat × List (Nat × Nat × Bool))) (t f : Nat) : Option (Nat × Nat × Bool) := match tabGet tab t with
  | some l => l[f]?
  | none => none
theorem tabF {P : Program} {tab : List (Nat × List (Nat × Nat × Bool))} {t f : Nat} {x : Nat × Nat × Bool} (h : tabOkF P tab = true) (g : tabGetF tab t f = some x) : fieldInfo P t f = some x := by
  unfold tabGetF at g
  split at g
  · rename_i l hl
    have := fOk_get (j := f) (List.all_eq_true.1 h _ (tabGet_mem hl)) g
    simpa using this
  · cases g
def tabOkS (P : Program) (tab : List (Nat × Nat)) : Bool := tab.all fun p => decide ((P.info? p.1).map (·.size) = some p.2)
theorem tabS {P : Program} {tab : List (Nat × Nat)} {t x : Nat} (h : tabOkS P tab = true) (g : tabGet tab t = some x) : (P.info? t).map (·.size) = some x := by
  simpa using List.all_eq_true.1 h _ (tabGet_mem g)

@[irreducible] def elA (a : Option Addr) (j sz off : Nat) : Addr := (a.getD ⟨0, 0, none⟩).add (j * sz + off)
theorem elA_add (a : Option Addr) (j sz m k : Nat) : (elA a j sz m).add k = elA a j sz (m + k) := by unfold elA; rw [addr_add_add, Nat.add_assoc]
@[irreducible] def slA (a : Option Addr) (c l sz : Nat) : Option Addr := if c = l then a else a.map (·.add (l * sz))

def Src (K : Hl) (L : List HP) (v : Value) (sz n : Nat) (xs : List Value) : Prop := ∀ w, Rdw K L w → Vw w v sz n xs
section
variable {P : Program} {K : Hl} {L R : List HP} {v : Value} {sz n : Nat} {xs : List Value} {e : TypeId}
theorem Rdw.tk {w : World} {A : HP} (h : Rdw K L w) (t : Tk L A R) : ∃ k, A k ∧ k.inn w := by
  obtain ⟨x, s, d, i⟩ := h.2
  obtain ⟨h1, h2, a, _, d', rfl⟩ := sats_perm t.perm x s
  exact ⟨h1, a, ((Hl.inn_add d').1 i).1⟩
theorem Rdw.blk {w : World} {b : Nat} {cs : List Value} {T : TypeId} (h : Rdw K L w) (t : Tk L (pts b cs T) R) : Blk w b cs.toArray T := by
  obtain ⟨k, rfl, i⟩ := h.tk t
  exact i b _ (by simp [Hl.one])
def Ar {α : Type} (e : TypeId) (sz : Nat) (enc : α → List Value) (v : Value) (es : List α) : HP := Sl e sz v es.length (flat enc es)
def Vr {α : Type} (sz : Nat) (enc : α → List Value) (v : Value) (es : List α) : HP := V sz v es.length (flat enc es)
theorem Src.sl (t : Tk L (Sl e sz v n xs) R) : Src K L v sz n xs := fun w h => by
  obtain ⟨k, hk, i⟩ := h.tk t
  exact own_vw (hk.owns i 0 (fun _ _ => Nat.zero_le _))
theorem Src.ofV (t : Tk L (V sz v n xs) R) : Src K L v sz n xs := fun w h => by
  obtain ⟨k, hk, i⟩ := h.tk t
  exact hk.vw i
theorem Src.ar {α : Type} {enc : α → List Value} {es : List α} (t : Tk L (Ar e sz enc v es) R) : Src K L v sz es.length (flat enc es) := Src.sl t
theorem Src.vr {α : Type} {enc : α → List Value} {es : List α} (t : Tk L (Vr sz enc v es) R) : Src K L v sz es.length (flat enc es) := Src.ofV t
theorem Src.kn (h : Kn K (fun w => Vw w v sz n xs)) : Src K L v sz n xs := fun w hr => h w hr.1
theorem Src.lit {g m : Nat} {cs : List Value} (t : Tk L (pts g cs e) R) (hl : cs.length = m * sz) (hm : m ≤ maxLen) : Src K L (.slice (some ⟨g, 0, none⟩) m m) sz m cs := fun w h => by
  have hb := h.blk t
  refine ⟨_, m, rfl, hl, Nat.le_refl _, hm, (fun h => by cases h), fun _ => ⟨g, 0, rfl, fun j u hu => ?_⟩⟩
  rw [Nat.zero_add, hb.cell]
  simpa using hu
theorem Src.nil : Src K L (.slice none 0 0) sz 0 [] := fun w _ => Vw.nil w sz
theorem Vw.shape {w : World} {v : Value} {sz n : Nat} {xs : List Value} (h : Vw w v sz n xs) : ∃ a c, v = .slice a n c ∧ n ≤ c ∧ c ≤ maxLen := by
  obtain ⟨a, c, rfl, _, h2, h3, _⟩ := h
  exact ⟨a, c, rfl, h2, h3⟩
end

section
variable {P : Program} {K : Hl} {L R : List HP} {tm : TM} {d : Option Tmp} {T : TypeId} {pos : String} {af : Array Edge} {gd : Option (Nat × Bool)}

theorem pe_move {x : Operand} {v : Value} (h : evT tm x = some v) : PE P K L ⟨d, .move x, T, pos, af, gd⟩ (tget tm) v := fun ρ w ha _ => by
  have := ha x (by simp [Op.operands]) v h
  unfold execOp; simp only [this]; rfl
theorem pe_assign {x : Operand} {v : Value} (h : evT tm x = some v) : PE P K L ⟨d, .assign x, T, pos, af, gd⟩ (tget tm) v := fun ρ w ha _ => by
  have := ha x (by simp [Op.operands]) v h
  unfold execOp; simp only [this]; rfl
theorem pe_pickT {c x y : Operand} {v : Value} (hc : evT tm c = some (.bool true)) (h : evT tm x = some v) : PE P K L ⟨d, .pick c x y, T, pos, af, gd⟩ (tget tm) v := fun ρ w ha _ => by
  have h1 := ha c (by simp [Op.operands]) _ hc
  have h2 := ha x (by simp [Op.operands]) _ h
  unfold execOp; simp only [h1, h2]; rfl
theorem pe_pickF {c x y : Operand} {v : Value} (hc : evT tm c = some (.bool false)) (h : evT tm y = some v) : PE P K L ⟨d, .pick c x y, T, pos, af, gd⟩ (tget tm) v := fun ρ w ha _ => by
  have h1 := ha c (by simp [Op.operands]) _ hc
  have h2 := ha y (by simp [Op.operands]) _ h
  unfold execOp; simp only [h1, h2]; rfl
theorem pe_nilP {x : Operand} {p : Addr} (h : evT tm x = some (.pointer (some p))) : PE P K L ⟨d, .nilCheck x, T, pos, af, gd⟩ (tget tm) (.pointer (some p)) := fun ρ w ha _ => by
  have := ha x (by simp [Op.operands]) _ h
  unfold execOp; simp only [this]; rfl
theorem pe_nilF {x : Operand} {f : FuncId} {a b : Array Value} (h : evT tm x = some (.func (.func f) a b)) : PE P K L ⟨d, .nilCheck x, T, pos, af, gd⟩ (tget tm) (.func (.func f) a b) := fun ρ w ha _ => by
  have := ha x (by simp [Op.operands]) _ h
  unfold execOp; simp only [this]; rfl
theorem pe_extract {x : Operand} {i : Nat} {vs : List Value} {v : Value} (h : evT tm x = some (.tuple vs.toArray)) (hv : vs[i]? = some v) : PE P K L ⟨d, .extract x i, T, pos, af, gd⟩ (tget tm) v := fun ρ w ha _ => by
  have := ha x (by simp [Op.operands]) _ h
  unfold execOp; simp only [this, Instr.extract, List.getElem?_toArray, hv]; rfl
theorem pe_func {f : Fn} {fs cs : Array Operand} {vs us : List Value} (h1 : fs.toList.mapM (evT tm) = some vs) (h2 : cs.toList.mapM (evT tm) = some us) : PE P K L ⟨d, .makeFunc f fs cs, T, pos, af, gd⟩ (tget tm) (.func f vs.toArray us.toArray) := fun ρ w ha _ => by
  have key : ∀ (l : List Operand) (r : List Value), (∀ x ∈ l, x ∈ fs.toList ++ cs.toList) → l.mapM (evT tm) = some r → l.map ρ = r := by
    intro l
    induction l with
    | nil => intro r _ h; simpa using h
    | cons x l ih =>
      intro r hm h
      simp only [List.mapM_cons, Option.pure_def, Option.bind_eq_bind, Option.bind_eq_some_iff, Option.some.injEq] at h
      obtain ⟨v, hv, r', hr, rfl⟩ := h
      have := ha x (by simpa [Op.operands] using hm x (by simp)) v hv
      simp [this, ih r' (fun y hy => hm y (by simp [hy])) hr]
  have e1 := key fs.toList vs (fun x hx => by simp [hx]) h1
  have e2 := key cs.toList us (fun x hx => by simp [hx]) h2
  have e3 : fs.map ρ = vs.toArray := Array.ext' (by rw [Array.toList_map]; exact e1)
  have e4 : cs.map ρ = us.toArray := Array.ext' (by rw [Array.toList_map]; exact e2)
  unfold execOp; simp only [e3, e4]; rfl

/-! Numbers. -/
theorem pe_int {op : BinOp} {xt yt : TypeId} {x y : Operand} {k : IntKind} {a b : Int} {v : Value} (hx : evT tm x = some (.int k a)) (hy : evT tm y = some (.int k b)) (hr : ∀ w, (binOp op xt (.int k a) (.int k b)).run P w = .ok v w) : PE P K L ⟨d, .binOp op xt x y yt, T, pos, af, gd⟩ (tget tm) v := fun ρ w ha _ => by
  have h1 := ha x (by simp [Op.operands]) _ hx
  have h2 := ha y (by simp [Op.operands]) _ hy
  unfold execOp
  have h3 : eqGuard op xt x y (.int k a) (.int k b) = pure () := by cases op <;> rfl
  simp only [h1, h2, h3]
  simp [Sem.run_bind, hr w]
theorem w_i64 {a : Int} (h : -9223372036854775808 ≤ a) (h2 : a ≤ 9223372036854775807) : IntKind.i64.wrap a = a := IntWalk.i64_in a (by omega)
theorem w_u32 {a : Int} (h : 0 ≤ a) (h2 : a ≤ 4294967295) : IntKind.u32.wrap a = a := by
  have : IntKind.u32.wrap a = a % 4294967296 := rfl
  omega
theorem w_u16 {a : Int} (h : 0 ≤ a) (h2 : a ≤ 65535) : IntKind.u16.wrap a = a := by
  have : IntKind.u16.wrap a = a % 65536 := rfl
  omega
theorem w_u8 {a : Int} (h : 0 ≤ a) (h2 : a ≤ 255) : IntKind.u8.wrap a = a := by
  have : IntKind.u8.wrap a = a % 256 := rfl
  omega
theorem w_u64 {a : Int} (h : 0 ≤ a) (h2 : a ≤ 18446744073709551615) : IntKind.u64.wrap a = a := by
  have : IntKind.u64.wrap a = a % 18446744073709551616 := rfl
  omega
theorem m_u32 {a : Int} : IntKind.u32.wrap a = a % 4294967296 := rfl
theorem m_u16 {a : Int} : IntKind.u16.wrap a = a % 65536 := rfl
theorem m_u8 {a : Int} : IntKind.u8.wrap a = a % 256 := rfl
theorem m_u64 {a : Int} : IntKind.u64.wrap a = a % 18446744073709551616 := rfl
section
variable {xt yt : TypeId} {x y : Operand} {k k' : IntKind} {a b c : Int} (hx : evT tm x = some (.int k a)) (hy : evT tm y = some (.int k b))
include hx hy
theorem pe_add (hw : k.wrap (a + b) = c) : PE P K L ⟨d, .binOp .add xt x y yt, T, pos, af, gd⟩ (tget tm) (.int k c) := pe_int hx hy fun w => by subst hw; simp [binOp, Op.intArith]
theorem pe_sub (hw : k.wrap (a - b) = c) : PE P K L ⟨d, .binOp .sub xt x y yt, T, pos, af, gd⟩ (tget tm) (.int k c) := pe_int hx hy fun w => by subst hw; simp [binOp, Op.intArith]
theorem pe_mul (hw : k.wrap (a * b) = c) : PE P K L ⟨d, .binOp .mul xt x y yt, T, pos, af, gd⟩ (tget tm) (.int k c) := pe_int hx hy fun w => by subst hw; simp [binOp, Op.intArith]
theorem pe_quo (ha : 0 ≤ a) (hb : 0 < b) (hw : k.wrap (a / b) = c) : PE P K L ⟨d, .binOp .quo xt x y yt, T, pos, af, gd⟩ (tget tm) (.int k c) := pe_int hx hy fun w => by
  subst hw
  have : ¬ b = 0 := by omega
  simp [binOp, Op.intDiv, this, Int.tdiv_eq_ediv_of_nonneg ha]
theorem pe_rem (ha : 0 ≤ a) (hb : 0 < b) : PE P K L ⟨d, .binOp .rem xt x y yt, T, pos, af, gd⟩ (tget tm) (.int k (a % b)) := pe_int hx hy fun w => by
  have : ¬ b = 0 := by omega
  simp [binOp, Op.intDiv, this, Int.tmod_eq_emod_of_nonneg ha]
theorem pe_and (hw : bits .and k a b = c) : PE P K L ⟨d, .binOp .and xt x y yt, T, pos, af, gd⟩ (tget tm) (.int k c) := pe_int hx hy fun w => by subst hw; simp [binOp, Op.intBits, bits]
theorem pe_or (hw : bits .or k a b = c) : PE P K L ⟨d, .binOp .or xt x y yt, T, pos, af, gd⟩ (tget tm) (.int k c) := pe_int hx hy fun w => by subst hw; simp [binOp, Op.intBits, bits]
theorem pe_andNot (hw : bits .andNot k a b = c) : PE P K L ⟨d, .binOp .andNot xt x y yt, T, pos, af, gd⟩ (tget tm) (.int k c) := pe_int hx hy fun w => by subst hw; simp [binOp, Op.intBits, bits]
theorem pe_eql : PE P K L ⟨d, .binOp .eql xt x y yt, T, pos, af, gd⟩ (tget tm) (.bool (decide (a = b))) := pe_int hx hy fun w => by
  have : (a == b) = decide (a = b) := by by_cases h : a = b <;> simp [h]
  simp [binOp, Op.intCmp, this]
theorem pe_neq : PE P K L ⟨d, .binOp .neq xt x y yt, T, pos, af, gd⟩ (tget tm) (.bool (decide (a ≠ b))) := pe_int hx hy fun w => by
  have : (a != b) = decide (a ≠ b) := by by_cases h : a = b <;> simp [h]
  simp [binOp, Op.intCmp, this]
theorem pe_lss : PE P K L ⟨d, .binOp .lss xt x y yt, T, pos, af, gd⟩ (tget tm) (.bool (decide (a < b))) := pe_int hx hy fun w => by simp [binOp, Op.intCmp]
theorem pe_leq : PE P K L ⟨d, .binOp .leq xt x y yt, T, pos, af, gd⟩ (tget tm) (.bool (decide (a ≤ b))) := pe_int hx hy fun w => by simp [binOp, Op.intCmp]
theorem pe_gtr : PE P K L ⟨d, .binOp .gtr xt x y yt, T, pos, af, gd⟩ (tget tm) (.bool (decide (b < a))) := pe_int hx hy fun w => by simp [binOp, Op.intCmp]
theorem pe_geq : PE P K L ⟨d, .binOp .geq xt x y yt, T, pos, af, gd⟩ (tget tm) (.bool (decide (b ≤ a))) := pe_int hx hy fun w => by simp [binOp, Op.intCmp]
end
theorem pe_shift {op : BinOp} {xt yt : TypeId} {x y : Operand} {k k' : IntKind} {a b : Int} {v : Value} (ho : op = .shl ∨ op = .shr) (hx : evT tm x = some (.int k a)) (hy : evT tm y = some (.int k' b)) (hr : ∀ w, (Op.shift op k a k' b).run P w = .ok v w) : PE P K L ⟨d, .binOp op xt x y yt, T, pos, af, gd⟩ (tget tm) v := fun ρ w ha _ => by
  have h1 := ha x (by simp [Op.operands]) _ hx
  have h2 := ha y (by simp [Op.operands]) _ hy
  unfold execOp
  have h3 : eqGuard op xt x y (.int k a) (.int k' b) = pure () := by cases op <;> rfl
  simp only [h1, h2, h3]
  rcases ho with rfl | rfl <;> simp [Sem.run_bind, binOp, hr w]
theorem pe_shl {xt yt : TypeId} {x y : Operand} {k k' : IntKind} {a b c : Int} {m : Nat} (hx : evT tm x = some (.int k a)) (hy : evT tm y = some (.int k' b)) (hb : b = (m : Int)) (hm : m ≤ k.bits) (hw : k.wrap (a * 2 ^ m) = c) : PE P K L ⟨d, .binOp .shl xt x y yt, T, pos, af, gd⟩ (tget tm) (.int k c) :=
  pe_shift (.inl rfl) hx hy fun w => by
    subst hw hb
    have h1 : ¬ ((m : Int) < 0) := by omega
    have h2 : min (m : Int).toNat k.bits = m := by simp; omega
    simp only [Op.shift, if_neg h1, h2]; rfl
theorem pe_shr {xt yt : TypeId} {x y : Operand} {k k' : IntKind} {a b : Int} {m : Nat} (hx : evT tm x = some (.int k a)) (hy : evT tm y = some (.int k' b)) (hb : b = (m : Int)) (hm : m ≤ k.bits) : PE P K L ⟨d, .binOp .shr xt x y yt, T, pos, af, gd⟩ (tget tm) (.int k (a / 2 ^ m)) :=
  pe_shift (.inr rfl) hx hy fun w => by
    subst hb
    have h1 : ¬ ((m : Int) < 0) := by omega
    have h2 : min (m : Int).toNat k.bits = m := by simp; omega
    have h3 : a.fdiv (2 ^ m) = a / 2 ^ m := Int.fdiv_eq_ediv_of_nonneg _ (Int.le_of_lt (Int.pow_pos (by omega)))
    simp only [Op.shift, if_neg h1, h2, h3]; rfl
theorem pe_neg {xt : TypeId} {x : Operand} {k : IntKind} {a c : Int} (hx : evT tm x = some (.int k a)) (hw : k.wrap (0 - a) = c) : PE P K L ⟨d, .unOp .neg xt x, T, pos, af, gd⟩ (tget tm) (.int k c) := fun ρ w ha _ => by
  have h1 := ha x (by simp [Op.operands]) _ hx
  subst hw
  unfold execOp; simp only [h1]; rfl
theorem pe_notD {xt : TypeId} {x : Operand} {p : Prop} [Decidable p] (hx : evT tm x = some (.bool (decide p))) : PE P K L ⟨d, .unOp .not xt x, T, pos, af, gd⟩ (tget tm) (.bool (decide (¬ p))) := fun ρ w ha _ => by
  have h1 := ha x (by simp [Op.operands]) _ hx
  have h2 : decide (¬ p) = !decide p := by by_cases h : p <;> simp [h]
  rw [h2]
  unfold execOp; simp only [h1]; rfl
theorem pe_notT {xt : TypeId} {x : Operand} (hx : evT tm x = some (.bool true)) : PE P K L ⟨d, .unOp .not xt x, T, pos, af, gd⟩ (tget tm) (.bool false) := fun ρ w ha _ => by
  have h1 := ha x (by simp [Op.operands]) _ hx
  unfold execOp; simp only [h1]; rfl
theorem pe_notF {xt : TypeId} {x : Operand} (hx : evT tm x = some (.bool false)) : PE P K L ⟨d, .unOp .not xt x, T, pos, af, gd⟩ (tget tm) (.bool true) := fun ρ w ha _ => by
  have h1 := ha x (by simp [Op.operands]) _ hx
  unfold execOp; simp only [h1]; rfl
theorem pe_notB {xt : TypeId} {x : Operand} {b : Bool} (hx : evT tm x = some (.bool b)) : PE P K L ⟨d, .unOp .not xt x, T, pos, af, gd⟩ (tget tm) (.bool (decide (¬ b = true))) := fun ρ w ha _ => by
  have h1 := ha x (by simp [Op.operands]) _ hx
  have h2 : decide (¬ b = true) = !b := by cases b <;> rfl
  rw [h2]
  unfold execOp; simp only [h1]; rfl
def intTy (P : Program) (t : TypeId) : Option IntKind := match P.underlying t with
  | some (.int k) => some k
  | _ => none
theorem pe_conv {st dt : TypeId} {x : Operand} {k j : IntKind} {a c : Int} (hx : evT tm x = some (.int k a)) (ht : intTy P dt = some j) (hs : (P.underlying st).isSome = true) (hw : j.wrap a = c) : PE P K L ⟨d, .convert st dt x, T, pos, af, gd⟩ (tget tm) (.int j c) := fun ρ w ha _ => by
  have h1 := ha x (by simp [Op.operands]) _ hx
  subst hw
  obtain ⟨s, hs⟩ := Option.isSome_iff_exists.1 hs
  have hd : P.underlying dt = some (.int j) := by
    unfold intTy at ht
    split at ht
    · rename_i k' hu; cases ht; exact hu
    · cases ht
  unfold execOp
  simp only [h1]
  simp [convert, Sem.run_bind, run_underlying hs, run_underlying hd, Conv.intToInt]

/-! Bools, and what is nil. -/
theorem pe_bin {op : BinOp} {xt yt : TypeId} {x y : Operand} {a b v : Value} (hx : evT tm x = some a) (hy : evT tm y = some b) (hr : ∀ w, (do eqGuard op xt x y a b; binOp op xt a b : Sem Value).run P w = .ok v w) : PE P K L ⟨d, .binOp op xt x y yt, T, pos, af, gd⟩ (tget tm) v := fun ρ w ha _ => by
  have h1 := ha x (by simp [Op.operands]) _ hx
  have h2 := ha y (by simp [Op.operands]) _ hy
  unfold execOp
  simp only [h1, h2]
  have := hr w
  simp only [Sem.run_bind] at this ⊢
  simp [this]
def tyIs (P : Program) (t : TypeId) (f : TypeDesc → Bool) : Bool := match P.underlying t with
  | some d => f d
  | none => false
def isSliceD : TypeDesc → Bool
  | .slice _ => true
  | _ => false
def isPtrD : TypeDesc → Bool
  | .pointer _ => true
  | _ => false
def isBoolD : TypeDesc → Bool
  | .bool => true
  | _ => false
theorem tyIs_spec {P : Program} {t : TypeId} {f : TypeDesc → Bool} (h : tyIs P t f = true) : ∃ d, P.underlying t = some d ∧ f d = true := by
  unfold tyIs at h
  split at h
  · rename_i d hd; exact ⟨d, hd, h⟩
  · cases h
theorem run_eqB {t : TypeId} (ht : tyIs P t isBoolD = true) (a b : Bool) (w : World) : (Op.equal t (.bool a) (.bool b)).run P w = .ok (a == b) w := by
  obtain ⟨d, hd, hf⟩ := tyIs_spec ht
  cases d <;> simp [isBoolD] at hf
  have key : ∀ m, (Op.equalIn (m + 1) t (.bool a) (.bool b)).run P w = .ok (a == b) w := fun m => by simp [Op.equalIn, Sem.run_bind, run_underlying hd]
  exact key 9999
theorem pe_eqB {xt yt : TypeId} {x y : Operand} {a b : Bool} (hx : evT tm x = some (.bool a)) (hy : evT tm y = some (.bool b)) (ht : tyIs P xt isBoolD = true) : PE P K L ⟨d, .binOp .eql xt x y yt, T, pos, af, gd⟩ (tget tm) (.bool (decide (a = b))) := pe_bin hx hy fun w => by
  have : decide (a = b) = (a == b) := by cases a <;> cases b <;> rfl
  simp [eqGuard, binOp, Sem.run_bind, run_eqB ht, this]
theorem pe_neB {xt yt : TypeId} {x y : Operand} {a b : Bool} (hx : evT tm x = some (.bool a)) (hy : evT tm y = some (.bool b)) (ht : tyIs P xt isBoolD = true) : PE P K L ⟨d, .binOp .neq xt x y yt, T, pos, af, gd⟩ (tget tm) (.bool (decide (a ≠ b))) := pe_bin hx hy fun w => by
  have : decide (a ≠ b) = !(a == b) := by cases a <;> cases b <;> rfl
  simp [eqGuard, binOp, Sem.run_bind, run_eqB ht, this]
theorem run_eqS {t : TypeId} (ht : tyIs P t isSliceD = true) (a : Option Addr) (n c n' c' : Nat) (w : World) : (Op.equal t (.slice a n c) (.slice none n' c')).run P w = .ok a.isNone w := by
  obtain ⟨d, hd, hf⟩ := tyIs_spec ht
  cases d <;> simp [isSliceD] at hf
  have key : ∀ m, (Op.equalIn (m + 1) t (.slice a n c) (.slice none n' c')).run P w = .ok a.isNone w := fun m => by cases a <;> simp [Op.equalIn, Sem.run_bind, run_underlying hd]
  exact key 9999
theorem pe_eqS {xt yt : TypeId} {x y : Operand} {a : Option Addr} {n c n' c' : Nat} (hx : evT tm x = some (.slice a n c)) (hy : evT tm y = some (.slice none n' c')) (ht : tyIs P xt isSliceD = true) : PE P K L ⟨d, .binOp .eql xt x y yt, T, pos, af, gd⟩ (tget tm) (.bool (decide (a = none))) := pe_bin hx hy fun w => by
  have : decide (a = none) = a.isNone := by cases a <;> rfl
  simp [eqGuard, binOp, Sem.run_bind, run_eqS ht, this]
theorem pe_neS {xt yt : TypeId} {x y : Operand} {a : Option Addr} {n c n' c' : Nat} (hx : evT tm x = some (.slice a n c)) (hy : evT tm y = some (.slice none n' c')) (ht : tyIs P xt isSliceD = true) : PE P K L ⟨d, .binOp .neq xt x y yt, T, pos, af, gd⟩ (tget tm) (.bool (decide (a ≠ none))) := pe_bin hx hy fun w => by
  have : decide (a ≠ none) = !a.isNone := by cases a <;> rfl
  simp [eqGuard, binOp, Sem.run_bind, run_eqS ht, this]
theorem run_eqP {t : TypeId} (ht : tyIs P t isPtrD = true) (a : Option Addr) (w : World) : (Op.equal t (.pointer a) (.pointer none)).run P w = .ok a.isNone w := by
  obtain ⟨d, hd, hf⟩ := tyIs_spec ht
  cases d <;> simp [isPtrD] at hf
  have key : ∀ m, (Op.equalIn (m + 1) t (.pointer a) (.pointer none)).run P w = .ok a.isNone w := fun m => by cases a <;> simp [Op.equalIn, Sem.run_bind, run_underlying hd]
  exact key 9999
theorem pe_eqP {xt yt : TypeId} {x y : Operand} {a : Option Addr} (hx : evT tm x = some (.pointer a)) (hy : evT tm y = some (.pointer none)) (ht : tyIs P xt isPtrD = true) : PE P K L ⟨d, .binOp .eql xt x y yt, T, pos, af, gd⟩ (tget tm) (.bool (decide (a = none))) := pe_bin hx hy fun w => by
  have : decide (a = none) = a.isNone := by cases a <;> rfl
  cases a <;> simp [eqGuard, binOp, Sem.run_bind, run_eqP ht]
theorem pe_neP {xt yt : TypeId} {x y : Operand} {a : Option Addr} (hx : evT tm x = some (.pointer a)) (hy : evT tm y = some (.pointer none)) (ht : tyIs P xt isPtrD = true) : PE P K L ⟨d, .binOp .neq xt x y yt, T, pos, af, gd⟩ (tget tm) (.bool (decide (a ≠ none))) := pe_bin hx hy fun w => by
  cases a <;> simp [eqGuard, binOp, Sem.run_bind, run_eqP ht]

/-! Places and parts. -/
theorem pe_faG {st : TypeId} {x : Operand} {f off sz : Nat} {r : Bool} {p : Addr} (hx : evT tm x = some (.pointer (some p))) (hf : fieldInfo P st f = some (off, sz + 1, r)) : PE P K L ⟨d, .fieldAddr st x f, T, pos, af, gd⟩ (tget tm) (.pointer (some (p.add off))) := fun ρ w ha _ => by
  have h1 := ha x (by simp [Op.operands]) _ hx
  obtain ⟨fs, fd, i, de, hu, hfd, rfl, hi, hs, _, _⟩ := fieldInfo_spec hf
  unfold execOp
  simp only [h1]
  simp [Instr.fieldAt, Sem.run_bind, run_underlying hu, hfd, Instr.sureAddr, fieldPlace, run_sz hi, hs]
theorem pe_fa {st : TypeId} {x : Operand} {f off sz b o : Nat} {r : Bool} (hx : evT tm x = some (.pointer (some ⟨b, o, none⟩))) (hf : fieldInfo P st f = some (off, sz + 1, r)) : PE P K L ⟨d, .fieldAddr st x f, T, pos, af, gd⟩ (tget tm) (.pointer (some ⟨b, o + off, none⟩)) := by
  have := pe_faG (P := P) (K := K) (L := L) (d := d) (T := T) (pos := pos) (af := af) (gd := gd) hx hf
  rwa [addr_add_plain] at this
theorem pe_faE {st : TypeId} {x : Operand} {f off sz j sz' m : Nat} {r : Bool} {a : Option Addr} (hx : evT tm x = some (.pointer (some (elA a j sz' m)))) (hf : fieldInfo P st f = some (off, sz + 1, r)) : PE P K L ⟨d, .fieldAddr st x f, T, pos, af, gd⟩ (tget tm) (.pointer (some (elA a j sz' (m + off)))) := by
  have := pe_faG (P := P) (K := K) (L := L) (d := d) (T := T) (pos := pos) (af := af) (gd := gd) hx hf
  rwa [elA_add] at this
theorem pe_ix {t : TypeId} {x i : Operand} {a : Option Addr} {n c j sz sz' n' b' : Nat} {k : IntKind} {z : Int} {e : TypeId} {xs : List Value} (hx : evT tm x = some (.slice a n c)) (hi : evT tm i = some (.int k z)) (ht : elemInfo P t = some (e, sz, b')) (hs : Src K L (.slice a n c) sz' n' xs) (hz : z = (j : Int)) (hj : j < n) : PE P K L ⟨d, .indexAddr t x i, T, pos, af, gd⟩ (tget tm) (.pointer (some (elA a j sz 0))) := fun ρ w ha hr => by
  have h1 := ha x (by simp [Op.operands]) _ hx
  have h2 := ha i (by simp [Op.operands]) _ hi
  obtain ⟨inf, hu, hin, hsz, _⟩ := elemInfo_spec ht
  subst hz
  obtain ⟨a', c', he, _, _, _, hn, _⟩ := hs w hr
  cases he
  cases a with
  | none => have := (hn rfl).1; omega
  | some p =>
    unfold execOp
    simp only [h1, h2]
    have h3 : (0 : Int) ≤ (j : Int) ∧ (j : Int) < (n : Int) := by omega
    simp [Instr.indexAt, Sem.run_bind, run_underlying hu, asIntOf, h3, hj, run_sz hin, hsz, elA]
theorem pe_ixL {t : TypeId} {x i : Operand} {b o n c j sz b' : Nat} {k : IntKind} {z : Int} {e : TypeId} (hx : evT tm x = some (.slice (some ⟨b, o, none⟩) n c)) (hi : evT tm i = some (.int k z)) (ht : elemInfo P t = some (e, sz, b')) (hz : z = (j : Int)) (hj : j < n) : PE P K L ⟨d, .indexAddr t x i, T, pos, af, gd⟩ (tget tm) (.pointer (some ⟨b, o + j * sz, none⟩)) := fun ρ w ha hr => by
  have h1 := ha x (by simp [Op.operands]) _ hx
  have h2 := ha i (by simp [Op.operands]) _ hi
  obtain ⟨inf, hu, hin, hsz, _⟩ := elemInfo_spec ht
  subst hz
  unfold execOp
  simp only [h1, h2]
  have h3 : (0 : Int) ≤ (j : Int) ∧ (j : Int) < (n : Int) := by omega
  simp [Instr.indexAt, Sem.run_bind, run_underlying hu, asIntOf, h3, hj, run_sz hin, hsz, addr_add_plain]
def arrInfo (P : Program) (t : TypeId) : Option (Nat × Nat × Bool) := match P.underlying t with
  | some (.array n e) => match P.info? e, P.underlying e with
    | some i, some d => some (n, i.size, d.isRow)
    | _, _ => none
  | _ => none
theorem arrInfo_spec {P : Program} {t : TypeId} {n sz : Nat} {r : Bool} (h : arrInfo P t = some (n, sz, r)) : ∃ e i d, P.underlying t = some (.array n e) ∧ P.info? e = some i ∧ i.size = sz ∧ P.underlying e = some d ∧ d.isRow = r := by
  unfold arrInfo at h
  split at h
  · rename_i n' e hu
    split at h
    · rename_i i d hi hd
      simp only [Option.some.injEq, Prod.mk.injEq] at h
      obtain ⟨rfl, h2, h3⟩ := h
      exact ⟨e, i, d, hu, hi, h2, hd, h3⟩
    · cases h
  · cases h
def tabOkA (P : Program) (tab : List (Nat × (Nat × Nat × Bool))) : Bool := tab.all fun p => decide (arrInfo P p.1 = some p.2)
theorem tabA {P : Program} {tab : List (Nat × (Nat × Nat × Bool))} {t : Nat} {x : Nat × Nat × Bool} (h : tabOkA P tab = true) (g : tabGet tab t = some x) : arrInfo P t = some x := by
  simpa using List.all_eq_true.1 h _ (tabGet_mem g)
theorem pe_ixA {t : TypeId} {x i : Operand} {b o n j sz : Nat} {r : Bool} {k : IntKind} {z : Int} (hx : evT tm x = some (.pointer (some ⟨b, o, none⟩))) (hi : evT tm i = some (.int k z)) (ht : arrInfo P t = some (n, sz, r)) (hz : z = (j : Int)) (hj : j < n) : PE P K L ⟨d, .indexAddr t x i, T, pos, af, gd⟩ (tget tm) (.pointer (some ⟨b, o + j * sz, none⟩)) := fun ρ w ha hr => by
  have h1 := ha x (by simp [Op.operands]) _ hx
  have h2 := ha i (by simp [Op.operands]) _ hi
  obtain ⟨e, inf, de, hu, hin, hsz, _, _⟩ := arrInfo_spec ht
  subst hz
  unfold execOp
  simp only [h1, h2]
  have h3 : (0 : Int) ≤ (j : Int) ∧ (j : Int) < (n : Int) := by omega
  simp [Instr.indexAt, Sem.run_bind, run_underlying hu, asIntOf, h3, hj, run_sz hin, hsz, addr_add_plain, Instr.sureAddr]

/-! Loads. -/
theorem pe_ldG {ty : TypeId} {x : Operand} {p : Addr} {v : Value} (hx : evT tm x = some (.pointer (some p))) (h : ∀ w, Rdw K L w → (loadVar ty p).run P w = .ok v w) : PE P K L ⟨d, .load ty x, T, pos, af, gd⟩ (tget tm) v := fun ρ w ha hr => by
  have h1 := ha x (by simp [Op.operands]) _ hx
  unfold execOp
  simp only [h1]
  simp [Instr.loadAt, Instr.sureAddr, Sem.run_bind, h w hr]
theorem pe_ld {ty T' : TypeId} {x : Operand} {b i : Nat} {cs : List Value} {v : Value} (hx : evT tm x = some (.pointer (some ⟨b, i, none⟩))) (hm : Tk L (pts b cs T') R) (ht : cellTy P ty = true) (hv : cs[i]? = some v) : PE P K L ⟨d, .load ty x, T, pos, af, gd⟩ (tget tm) v :=
  pe_ldG hx fun w hr => run_load_cell ht (by rw [(hr.blk hm).cell]; simpa using hv)
theorem pe_ldW {ty T' : TypeId} {x : Operand} {b : Nat} {cs : List Value} (hx : evT tm x = some (.pointer (some ⟨b, 0, none⟩))) (hm : Tk L (pts b cs T') R) (ht : rowTy P ty cs.length = true) : PE P K L ⟨d, .load ty x, T, pos, af, gd⟩ (tget tm) (.agg cs.toArray) :=
  pe_ldG hx fun w hr => run_load_row ht (by simpa using (hr.blk hm).range)
theorem pe_ldS {ty T' : TypeId} {x : Operand} {b i n : Nat} {cs vs : List Value} (hx : evT tm x = some (.pointer (some ⟨b, i, none⟩))) (hm : Tk L (pts b cs T') R) (hn : (P.info? ty).map (·.size) = some n) (hs : Seg cs i n vs) (ht : rowTy P ty n = true) : PE P K L ⟨d, .load ty x, T, pos, af, gd⟩ (tget tm) (.agg vs.toArray) :=
  pe_ldG hx fun w hr => run_load_row (hs.len ▸ ht) (fun j v hv => by rw [(hr.blk hm).cell]; simpa using hs.get j v hv)
theorem pe_ldK {ty : TypeId} {x : Operand} {p : Addr} {v : Value} (hx : evT tm x = some (.pointer (some p))) (h : Kn K (fun w => w.cell? p = some v)) (ht : cellTy P ty = true) : PE P K L ⟨d, .load ty x, T, pos, af, gd⟩ (tget tm) v :=
  pe_ldG hx fun w hr => run_load_cell ht (h w hr.1)
theorem Src.at {a : Option Addr} {n c sz n' j : Nat} {α : Type} {enc : α → List Value} {es : List α} {x : α} (hs : Src K L (.slice a n c) sz n' (flat enc es)) (hl : ∀ x, (enc x).length = sz) (hj : es[j]? = some x) {w : World} (hr : Rdw K L w) (hz : 0 < sz) : ∃ b o, a = some ⟨b, o, none⟩ ∧ w.rangeAt b (o + j * sz) (enc x) := by
  have hlt := (List.getElem?_eq_some_iff.1 hj).1
  have hv := hs w hr
  obtain ⟨a', c', he, h1, _⟩ := hs w hr
  injection he with h2 h3 h4
  subst h2 h3 h4
  rw [flat_length hl] at h1
  have hnn : es.length = n := Nat.eq_of_mul_eq_mul_right hz h1
  have hne : flat enc es ≠ [] := fun h0 => by
    have h5 := congrArg List.length h0
    rw [flat_length hl] at h5
    rcases Nat.mul_eq_zero.1 h5 with h | h <;> omega
  obtain ⟨b, o, rfl⟩ := hv.addr hne
  have := hv.row hl hnn j hlt
  refine ⟨b, o, rfl, ?_⟩
  rw [List.getElem?_eq_getElem hlt] at hj
  cases hj
  exact this
theorem elA_some (b o j sz m : Nat) : elA (some ⟨b, o, none⟩) j sz m = ⟨b, o + (j * sz + m), none⟩ := by unfold elA; exact addr_add_plain _ _ _
theorem pe_el {ty : TypeId} {x : Operand} {a : Option Addr} {n c sz n' j : Nat} {α : Type} {enc : α → List Value} {es : List α} {y : α} (hx : evT tm x = some (.pointer (some (elA a j sz 0)))) (hs : Src K L (.slice a n c) sz n' (flat enc es)) (hl : ∀ x, (enc x).length = sz) (hz : Nat.blt 0 sz = true) (ht : rowTy P ty sz = true) (hj : es[j]? = some y) : PE P K L ⟨d, .load ty x, T, pos, af, gd⟩ (tget tm) (.agg (enc y).toArray) :=
  pe_ldG hx fun w hr => by
    obtain ⟨b, o, rfl, hc⟩ := hs.at hl hj hr (by simpa using hz)
    rw [elA_some]
    exact run_load_row (by rw [hl]; exact ht) (by simpa using hc)
theorem pe_elC {ty : TypeId} {x : Operand} {a : Option Addr} {n c sz n' j : Nat} {α : Type} {enc : α → List Value} {es : List α} {y : α} {v : Value} (hx : evT tm x = some (.pointer (some (elA a j sz 0)))) (hs : Src K L (.slice a n c) sz n' (flat enc es)) (hl : ∀ x, (enc x).length = sz) (hz : Nat.blt 0 sz = true) (ht : cellTy P ty = true) (hj : es[j]? = some y) (hv : (enc y)[0]? = some v) : PE P K L ⟨d, .load ty x, T, pos, af, gd⟩ (tget tm) v :=
  pe_ldG hx fun w hr => by
    obtain ⟨b, o, rfl, hc⟩ := hs.at hl hj hr (by simpa using hz)
    rw [elA_some]
    exact run_load_cell ht (by simpa using hc 0 v hv)
theorem pe_elF {ty : TypeId} {x : Operand} {a : Option Addr} {n c sz n' j off : Nat} {α : Type} {enc : α → List Value} {es : List α} {y : α} {v : Value} (hx : evT tm x = some (.pointer (some (elA a j sz off)))) (hs : Src K L (.slice a n c) sz n' (flat enc es)) (hl : ∀ x, (enc x).length = sz) (hz : Nat.blt 0 sz = true) (ht : cellTy P ty = true) (hj : es[j]? = some y) (hv : (enc y)[off]? = some v) : PE P K L ⟨d, .load ty x, T, pos, af, gd⟩ (tget tm) v :=
  pe_ldG hx fun w hr => by
    obtain ⟨b, o, rfl, hc⟩ := hs.at hl hj hr (by simpa using hz)
    rw [elA_some]
    exact run_load_cell ht (by have := hc off v hv; rwa [Nat.add_assoc] at this)
theorem pe_elS {ty : TypeId} {x : Operand} {a : Option Addr} {n c sz n' j off m : Nat} {α : Type} {enc : α → List Value} {es : List α} {y : α} {vs : List Value} (hx : evT tm x = some (.pointer (some (elA a j sz off)))) (hs : Src K L (.slice a n c) sz n' (flat enc es)) (hl : ∀ x, (enc x).length = sz) (hz : Nat.blt 0 sz = true) (hn : (P.info? ty).map (·.size) = some m) (hj : es[j]? = some y) (hv : Seg (enc y) off m vs) (ht : rowTy P ty m = true) : PE P K L ⟨d, .load ty x, T, pos, af, gd⟩ (tget tm) (.agg vs.toArray) :=
  pe_ldG hx fun w hr => by
    obtain ⟨b, o, rfl, hc⟩ := hs.at hl hj hr (by simpa using hz)
    rw [elA_some]
    exact run_load_row (hv.len ▸ ht) (fun i u hu => by have := hc (off + i) u (hv.get i u hu); rw [← this]; congr 2; omega)

/-! Builtins that read. -/
theorem pe_call {b : Builtin} {xs : Array Operand} {ts : Array TypeId} {vs : List Value} {v : Value} (h1 : xs.toList.mapM (evT tm) = some vs) (h2 : ∀ w, Rdw K L w → ∀ cs, (builtin b ts T cs vs.toArray).run P w = .ok (.value v) w) : PE P K L ⟨d, .call ⟨.builtin b, xs, ts⟩, T, pos, af, gd⟩ (tget tm) v := fun ρ w ha hr => by
  have key : ∀ (l : List Operand) (r : List Value), (∀ x ∈ l, x ∈ xs.toList) → l.mapM (evT tm) = some r → l.map ρ = r := by
    intro l
    induction l with
    | nil => intro r _ h; simpa using h
    | cons x l ih =>
      intro r hm h
      simp only [List.mapM_cons, Option.pure_def, Option.bind_eq_bind, Option.bind_eq_some_iff, Option.some.injEq] at h
      obtain ⟨v, hv, r', hr, rfl⟩ := h
      have := ha x (by simpa [Op.operands, Call.operands] using hm x (by simp)) v hv
      simp [this, ih r' (fun y hy => hm y (by simp [hy])) hr]
  have e1 := key xs.toList vs (fun x hx => hx) h1
  have e3 : xs.map ρ = vs.toArray := Array.ext' (by rw [Array.toList_map]; exact e1)
  unfold execOp
  simp only [resolve, Sem.run_bind, Sem.run_pure, Result.andThen_ok, invoke, e3, h2 w hr]
theorem pe_len {x : Operand} {t : TypeId} {a : Option Addr} {n c : Nat} (hx : evT tm x = some (.slice a n c)) (ht : tyIs P t isSliceD = true) : PE P K L ⟨d, .call ⟨.builtin .len, #[x], #[t]⟩, T, pos, af, gd⟩ (tget tm) (.int .i64 n) := pe_call (vs := [.slice a n c]) (by simp [hx]) fun w _ cs => by
  obtain ⟨de, hd, hf⟩ := tyIs_spec ht
  cases de <;> simp [isSliceD] at hf
  simp [builtin, Builtin.len_, Sem.run_bind, run_underlying hd, goInt]
theorem pe_cap {x : Operand} {t : TypeId} {a : Option Addr} {n c : Nat} (hx : evT tm x = some (.slice a n c)) (ht : tyIs P t isSliceD = true) : PE P K L ⟨d, .call ⟨.builtin .cap, #[x], #[t]⟩, T, pos, af, gd⟩ (tget tm) (.int .i64 c) := pe_call (vs := [.slice a n c]) (by simp [hx]) fun w _ cs => by
  obtain ⟨de, hd, hf⟩ := tyIs_spec ht
  cases de <;> simp [isSliceD] at hf
  simp [builtin, Builtin.cap_, Sem.run_bind, run_underlying hd, goInt]
theorem pe_min {x y : Operand} {ts : Array TypeId} {k : IntKind} {a b : Int} (hx : evT tm x = some (.int k a)) (hy : evT tm y = some (.int k b)) : PE P K L ⟨d, .call ⟨.builtin .min, #[x, y], ts⟩, T, pos, af, gd⟩ (tget tm) (.int k (min a b)) := pe_call (vs := [.int k a, .int k b]) (by simp [hx, hy]) fun w _ cs => by
  have : (if b < a then b else a) = min a b := by omega
  simp [builtin, Builtin.min_, Builtin.min2, this]
theorem pe_max {x y : Operand} {ts : Array TypeId} {k : IntKind} {a b : Int} (hx : evT tm x = some (.int k a)) (hy : evT tm y = some (.int k b)) : PE P K L ⟨d, .call ⟨.builtin .max, #[x, y], ts⟩, T, pos, af, gd⟩ (tget tm) (.int k (max a b)) := pe_call (vs := [.int k a, .int k b]) (by simp [hx, hy]) fun w _ cs => by
  have : (if a < b then b else a) = max a b := by omega
  simp [builtin, Builtin.max_, Builtin.max2, this]

/-! Slice expressions. -/
theorem run_bound {k : IntKind} {z : Int} {j y : Nat} {code : BoundsCode} (hz : z = (j : Int)) (hj : j ≤ y) (w : World) : (Instr.sliceBound (.int k z) y code).run P w = .ok j w := by
  subst hz
  simp [Instr.sliceBound, asIntOf, hj]
theorem pe_sl {t : TypeId} {x : Operand} {lo hi : Option Operand} {a : Option Addr} {n c l h sz b' : Nat} {e : TypeId} (hx : evT tm x = some (.slice a n c)) (ht : elemInfo P t = some (e, sz, b'))
    (hl : match lo with | none => l = 0 | some y => ∃ k z, evT tm y = some (.int k z) ∧ z = (l : Int)) (hh : match hi with | none => h = n | some y => ∃ k z, evT tm y = some (.int k z) ∧ z = (h : Int)) (hlh : l ≤ h) (hhc : h ≤ c) :
    PE P K L ⟨d, .slice t x lo hi none, T, pos, af, gd⟩ (tget tm) (.slice (slA a c l sz) (h - l) (c - l)) := fun ρ w ha _ => by
  have h1 := ha x (by simp [Op.operands]) _ hx
  obtain ⟨inf, hu, hin, hsz, _⟩ := elemInfo_spec ht
  have e2 : (Instr.sliceBounds true n c (lo.map ρ) (hi.map ρ) (none : Option Value)).run P w = .ok (l, h, c) w := by
    cases lo with
    | none =>
      subst hl
      cases hi with
      | none => subst hh; simp [Instr.sliceBounds]
      | some y =>
        obtain ⟨k, z, hy, hz⟩ := hh
        have := ha y (by simp [Op.operands]) _ hy
        simp [Instr.sliceBounds, Sem.run_bind, this, run_bound hz hhc]
    | some y =>
      obtain ⟨k, z, hy, hz⟩ := hl
      have e3 := ha y (by simp [Op.operands]) _ hy
      cases hi with
      | none => subst hh; simp [Instr.sliceBounds, Sem.run_bind, e3, run_bound hz hlh]
      | some y2 =>
        obtain ⟨k2, z2, hy2, hz2⟩ := hh
        have := ha y2 (by simp [Op.operands]) _ hy2
        simp [Instr.sliceBounds, Sem.run_bind, this, e3, run_bound hz2 hhc, run_bound hz hlh]
  have e4 : (none : Option Operand).map ρ = none := rfl
  unfold execOp
  simp only [h1, e4]
  simp [Instr.sliceAt, Instr.slice, Sem.run_bind, run_underlying hu, e2, run_sz hin, hsz, slA]
theorem slA_zero (a : Option Addr) (c sz : Nat) : slA a c 0 sz = a := by
  unfold slA
  split
  · rfl
  · cases a <;> simp [Addr.add]
theorem pe_sl0 {t : TypeId} {x : Operand} {hi : Option Operand} {a : Option Addr} {n c h sz b' : Nat} {e : TypeId} (hx : evT tm x = some (.slice a n c)) (ht : elemInfo P t = some (e, sz, b'))
    (hh : match hi with | none => h = n | some y => ∃ k z, evT tm y = some (.int k z) ∧ z = (h : Int)) (hlh : 0 ≤ h) (hhc : h ≤ c) :
    PE P K L ⟨d, .slice t x none hi none, T, pos, af, gd⟩ (tget tm) (.slice a h c) := by
  have := pe_sl (P := P) (K := K) (L := L) (d := d) (T := T) (pos := pos) (af := af) (gd := gd) (lo := none) (l := 0) hx ht rfl hh hlh hhc
  rwa [slA_zero, Nat.sub_zero, Nat.sub_zero] at this
end
end Go.Pm
