/-
  Je, Jf, Jg, Jh, Ji, Jj: merged.
-/
import Derived.Test.YtnhabkipjmgaaaaGreatZRibLimit2
namespace Go.Pm
set_option linter.unusedSimpArgs false
set_option linter.unusedVariables false
open Go.RowKit

def fieldInfo (P : Program) (t : TypeId) (f : Nat) : Option (Nat × Nat × Bool) := match P.underlying t with
  | some (.struct fs) => match fs[f]? with
    | some fd => match P.info? fd.type, P.underlying fd.type with
      | some i, some d => some (fd.offset, i.size, d.isRow)
      | _, _ => none
    | none => none
  | _ => none
theorem fieldInfo_spec {P : Program} {t : TypeId} {f off sz : Nat} {r : Bool} (h : fieldInfo P t f = some (off, sz, r)) : ∃ fs fd i d, P.underlying t = some (.struct fs) ∧ fs[f]? = some fd ∧ fd.offset = off ∧ P.info? fd.type = some i ∧ i.size = sz ∧ P.underlying fd.type = some d ∧ d.isRow = r := by
  unfold fieldInfo at h
  split at h
  · rename_i fs hu
    split at h
    · rename_i fd hf
      split at h
      · rename_i i d hi hd
        simp only [Option.some.injEq, Prod.mk.injEq] at h
        exact ⟨fs, fd, i, d, hu, hf, h.1, hi, h.2.1, hd, h.2.2⟩
      · cases h
    · cases h
  · cases h
def elemInfo (P : Program) (t : TypeId) : Option (TypeId × Nat × Nat) := match P.underlying t with
  | some (.slice e) => match P.info? e with
    | some i => some (e, i.size, i.bytes)
    | none => none
  | _ => none
theorem elemInfo_spec {P : Program} {t e : TypeId} {sz by_ : Nat} (h : elemInfo P t = some (e, sz, by_)) : ∃ i, P.underlying t = some (.slice e) ∧ P.info? e = some i ∧ i.size = sz ∧ i.bytes = by_ := by
  unfold elemInfo at h
  split at h
  · rename_i e' hu
    split at h
    · rename_i i hi
      simp only [Option.some.injEq, Prod.mk.injEq] at h
      obtain ⟨rfl, h2, h3⟩ := h
      exact ⟨i, hu, hi, h2, h3⟩
    · cases h
  · cases h
theorem run_sz {P : Program} {t : TypeId} {i : TypeInfo} (h : P.info? t = some i) (w : World) : (sizeOf t).run P w = .ok i.size w := by simp [sizeOf, typeInfo, h]
theorem run_agg {P : Program} {t : TypeId} {d : TypeDesc} (h : P.underlying t = some d) (w : World) : (isAgg t).run P w = .ok d.isRow w := by
  unfold isAgg
  rw [Sem.run_bind, run_underlying h w]
  cases d <;> rfl

/-! Tables of what the types say, so that numbers stand as numbers. -/
def tabGet {β : Type} : List (Nat × β) → Nat → Option β
  | [], _ => none
  | (k, v) :: r, t => bif Nat.beq k t then some v else tabGet r t
theorem tabGet_mem {β : Type} : ∀ {l : List (Nat × β)} {t : Nat} {x : β}, tabGet l t = some x → (t, x) ∈ l
  | [], _, _, h => by cases h
  | (k, v) :: r, t, x, h => by
    simp only [tabGet] at h
    by_cases hu : k = t
    · subst hu; simp at h; subst h; simp
    · have : Nat.beq k t = false := by rw [Bool.eq_false_iff]; intro hb; exact hu (Nat.eq_of_beq_eq_true hb)
      rw [this] at h
      exact List.mem_cons_of_mem _ (tabGet_mem h)
def tabOkE (P : Program) (tab : List (Nat × (TypeId × Nat × Nat))) : Bool := tab.all fun p => decide (elemInfo P p.1 = some p.2)
theorem tabE {P : Program} {tab : List (Nat × (TypeId × Nat × Nat))} {t : Nat} {x : TypeId × Nat × Nat} (h : tabOkE P tab = true) (g : tabGet tab t = some x) : elemInfo P t = some x := by
  simpa using List.all_eq_true.1 h _ (tabGet_mem g)
def fOk (P : Program) (t : TypeId) : Nat → List (Nat × Nat × Bool) → Bool
  | _, [] => true
  | i, x :: r => decide (fieldInfo P t i = some x) && fOk P t (i + 1) r
theorem fOk_get {P : Program} {t : TypeId} : ∀ {l : List (Nat × Nat × Bool)} {i j : Nat} {x : Nat × Nat × Bool}, fOk P t i l = true → l[j]? = some x → fieldInfo P t (i + j) = some x
  | [], _, _, _, _, h => by simp at h
  | y :: r, i, 0, x, h, g => by
    simp only [fOk, Bool.and_eq_true, decide_eq_true_eq] at h
    simp at g
    rw [Nat.add_zero, h.1, g]
  | y :: r, i, j + 1, x, h, g => by
    simp only [fOk, Bool.and_eq_true, decide_eq_true_eq] at h
    have := fOk_get (j := j) h.2 (by simpa using g)
    rw [show i + (j + 1) = i + 1 + j by omega]
    exact this
def tabOkF (P : Program) (tab : List (Nat × List (Nat × Nat × Bool))) : Bool := tab.all fun p => fOk P p.1 0 p.2
def tabGetF (tab : List (Nat × List (Nat × Nat × Bool))) (t f : Nat) : Option (Nat × Nat × Bool) := match tabGet tab t with
  | some l => l[f]?
  | none => none
theorem tabF {P : Program} {tab : List (Nat × List (Nat × Nat × Bool))} {t f : Nat} {x : Nat × Nat × Bool} (h : tabOkF P tab = true) (g : tabGetF tab t f = some x) : fieldInfo P t f = some x := by
  unfold tabGetF at g
  split at g
  · rename_i l hl
    have := fOk_get (j := f) (List.all_eq_true.1 h _ (tabGet_mem hl)) g
    simpa using this
  · cases g
def tabOkS (P : Program) (tab : List (Nat × Nat)) : Bool := tab.all fun p => decide ((P.info? p.1).map (·.size) = some p.2)
theorem tabS {P : Program} {tab : List (Nat × Nat)} {t x : Nat} (h : tabOkS P tab = true) (g : tabGet tab t = some x) : (P.info? t).map (·.size) = some x := by
  simpa using List.all_eq_true.1 h _ (tabGet_mem g)

/-- An element's place in a slice: the slice's address, and how many cells on. -/
@[irreducible] def elA (a : Option Addr) (j sz off : Nat) : Addr := (a.getD ⟨0, 0, none⟩).add (j * sz + off)
theorem elA_add (a : Option Addr) (j sz m k : Nat) : (elA a j sz m).add k = elA a j sz (m + k) := by unfold elA; rw [addr_add_add, Nat.add_assoc]
/-- The address of a part of a slice. -/
@[irreducible] def slA (a : Option Addr) (c l sz : Nat) : Option Addr := if c = l then a else a.map (·.add (l * sz))

/-- That the slice v may be read: K and the parts L say so. -/
def Src (K : Hl) (L : List HP) (v : Value) (sz n : Nat) (xs : List Value) : Prop := ∀ w, Rdw K L w → Vw w v sz n xs
section
variable {P : Program} {K : Hl} {L R : List HP} {v : Value} {sz n : Nat} {xs : List Value} {e : TypeId}
theorem Rdw.tk {w : World} {A : HP} (h : Rdw K L w) (t : Tk L A R) : ∃ k, A k ∧ k.inn w := by
  obtain ⟨x, s, d, i⟩ := h.2
  obtain ⟨h1, h2, a, _, d', rfl⟩ := sats_perm t.perm x s
  exact ⟨h1, a, ((Hl.inn_add d').1 i).1⟩
theorem Rdw.blk {w : World} {b : Nat} {cs : List Value} {T : TypeId} (h : Rdw K L w) (t : Tk L (pts b cs T) R) : Blk w b cs.toArray T := by
  obtain ⟨k, rfl, i⟩ := h.tk t
  exact i b _ (by simp [Hl.one])
/-- A slice of the call's own, of elements that are laid as enc says. -/
def Ar {α : Type} (e : TypeId) (sz : Nat) (enc : α → List Value) (v : Value) (es : List α) : HP := Sl e sz v es.length (flat enc es)
/-- A slice that may be read alone. -/
def Vr {α : Type} (sz : Nat) (enc : α → List Value) (v : Value) (es : List α) : HP := V sz v es.length (flat enc es)
theorem Src.sl (t : Tk L (Sl e sz v n xs) R) : Src K L v sz n xs := fun w h => by
  obtain ⟨k, hk, i⟩ := h.tk t
  exact own_vw (hk.owns i 0 (fun _ _ => Nat.zero_le _))
theorem Src.ofV (t : Tk L (V sz v n xs) R) : Src K L v sz n xs := fun w h => by
  obtain ⟨k, hk, i⟩ := h.tk t
  exact hk.vw i
theorem Src.ar {α : Type} {enc : α → List Value} {es : List α} (t : Tk L (Ar e sz enc v es) R) : Src K L v sz es.length (flat enc es) := Src.sl t
theorem Src.vr {α : Type} {enc : α → List Value} {es : List α} (t : Tk L (Vr sz enc v es) R) : Src K L v sz es.length (flat enc es) := Src.ofV t
theorem Src.kn (h : Kn K (fun w => Vw w v sz n xs)) : Src K L v sz n xs := fun w hr => h w hr.1
theorem Src.lit {g m : Nat} {cs : List Value} (t : Tk L (pts g cs e) R) (hl : cs.length = m * sz) (hm : m ≤ maxLen) : Src K L (.slice (some ⟨g, 0, none⟩) m m) sz m cs := fun w h => by
  have hb := h.blk t
  refine ⟨_, m, rfl, hl, Nat.le_refl _, hm, (fun h => by cases h), fun _ => ⟨g, 0, rfl, fun j u hu => ?_⟩⟩
  rw [Nat.zero_add, hb.cell]
  simpa using hu
theorem Src.nil : Src K L (.slice none 0 0) sz 0 [] := fun w _ => Vw.nil w sz
theorem Vw.shape {w : World} {v : Value} {sz n : Nat} {xs : List Value} (h : Vw w v sz n xs) : ∃ a c, v = .slice a n c ∧ n ≤ c ∧ c ≤ maxLen := by
  obtain ⟨a, c, rfl, _, h2, h3, _⟩ := h
  exact ⟨a, c, rfl, h2, h3⟩
end

section
variable {P : Program} {K : Hl} {L R : List HP} {tm : TM} {d : Option Tmp} {T : TypeId} {pos : String} {af : Array Edge} {gd : Option (Nat × Bool)}

theorem pe_move {x : Operand} {v : Value} (h : evT tm x = some v) : PE P K L ⟨d, .move x, T, pos, af, gd⟩ (tget tm) v := fun ρ w ha _ => by
  have := ha x (by simp [Op.operands]) v h
  unfold execOp; simp only [this]; rfl
theorem pe_assign {x : Operand} {v : Value} (h : evT tm x = some v) : PE P K L ⟨d, .assign x, T, pos, af, gd⟩ (tget tm) v := fun ρ w ha _ => by
  have := ha x (by simp [Op.operands]) v h
  unfold execOp; simp only [this]; rfl
theorem pe_pickT {c x y : Operand} {v : Value} (hc : evT tm c = some (.bool true)) (h : evT tm x = some v) : PE P K L ⟨d, .pick c x y, T, pos, af, gd⟩ (tget tm) v := fun ρ w ha _ => by
  have h1 := ha c (by simp [Op.operands]) _ hc
  have h2 := ha x (by simp [Op.operands]) _ h
  unfold execOp; simp only [h1, h2]; rfl
theorem pe_pickF {c x y : Operand} {v : Value} (hc : evT tm c = some (.bool false)) (h : evT tm y = some v) : PE P K L ⟨d, .pick c x y, T, pos, af, gd⟩ (tget tm) v := fun ρ w ha _ => by
  have h1 := ha c (by simp [Op.operands]) _ hc
  have h2 := ha y (by simp [Op.operands]) _ h
  unfold execOp; simp only [h1, h2]; rfl
theorem pe_nilP {x : Operand} {p : Addr} (h : evT tm x = some (.pointer (some p))) : PE P K L ⟨d, .nilCheck x, T, pos, af, gd⟩ (tget tm) (.pointer (some p)) := fun ρ w ha _ => by
  have := ha x (by simp [Op.operands]) _ h
  unfold execOp; simp only [this]; rfl
theorem pe_nilF {x : Operand} {f : FuncId} {a b : Array Value} (h : evT tm x = some (.func (.func f) a b)) : PE P K L ⟨d, .nilCheck x, T, pos, af, gd⟩ (tget tm) (.func (.func f) a b) := fun ρ w ha _ => by
  have := ha x (by simp [Op.operands]) _ h
  unfold execOp; simp only [this]; rfl
theorem pe_extract {x : Operand} {i : Nat} {vs : List Value} {v : Value} (h : evT tm x = some (.tuple vs.toArray)) (hv : vs[i]? = some v) : PE P K L ⟨d, .extract x i, T, pos, af, gd⟩ (tget tm) v := fun ρ w ha _ => by
  have := ha x (by simp [Op.operands]) _ h
  unfold execOp; simp only [this, Instr.extract, List.getElem?_toArray, hv]; rfl
theorem pe_func {f : Fn} {fs cs : Array Operand} {vs us : List Value} (h1 : fs.toList.mapM (evT tm) = some vs) (h2 : cs.toList.mapM (evT tm) = some us) : PE P K L ⟨d, .makeFunc f fs cs, T, pos, af, gd⟩ (tget tm) (.func f vs.toArray us.toArray) := fun ρ w ha _ => by
  have key : ∀ (l : List Operand) (r : List Value), (∀ x ∈ l, x ∈ fs.toList ++ cs.toList) → l.mapM (evT tm) = some r → l.map ρ = r := by
    intro l
    induction l with
    | nil => intro r _ h; simpa using h
    | cons x l ih =>
      intro r hm h
      simp only [List.mapM_cons, Option.pure_def, Option.bind_eq_bind, Option.bind_eq_some_iff, Option.some.injEq] at h
      obtain ⟨v, hv, r', hr, rfl⟩ := h
      have := ha x (by simpa [Op.operands] using hm x (by simp)) v hv
      simp [this, ih r' (fun y hy => hm y (by simp [hy])) hr]
  have e1 := key fs.toList vs (fun x hx => by simp [hx]) h1
  have e2 := key cs.toList us (fun x hx => by simp [hx]) h2
  have e3 : fs.map ρ = vs.toArray := Array.ext' (by rw [Array.toList_map]; exact e1)
  have e4 : cs.map ρ = us.toArray := Array.ext' (by rw [Array.toList_map]; exact e2)
  unfold execOp; simp only [e3, e4]; rfl

/-! Numbers. -/
theorem pe_int {op : BinOp} {xt yt : TypeId} {x y : Operand} {k : IntKind} {a b : Int} {v : Value} (hx : evT tm x = some (.int k a)) (hy : evT tm y = some (.int k b)) (hr : ∀ w, (binOp op xt (.int k a) (.int k b)).run P w = .ok v w) : PE P K L ⟨d, .binOp op xt x y yt, T, pos, af, gd⟩ (tget tm) v := fun ρ w ha _ => by
  have h1 := ha x (by simp [Op.operands]) _ hx
  have h2 := ha y (by simp [Op.operands]) _ hy
  unfold execOp
  have h3 : eqGuard op xt x y (.int k a) (.int k b) = pure () := by cases op <;> rfl
  simp only [h1, h2, h3]
  simp [Sem.run_bind, hr w]
theorem w_i64 {a : Int} (h : -9223372036854775808 ≤ a) (h2 : a ≤ 9223372036854775807) : IntKind.i64.wrap a = a := IntWalk.i64_in a (by omega)
theorem w_u32 {a : Int} (h : 0 ≤ a) (h2 : a ≤ 4294967295) : IntKind.u32.wrap a = a := by
  have : IntKind.u32.wrap a = a % 4294967296 := rfl
  omega
theorem w_u16 {a : Int} (h : 0 ≤ a) (h2 : a ≤ 65535) : IntKind.u16.wrap a = a := by
  have : IntKind.u16.wrap a = a % 65536 := rfl
  omega
theorem w_u8 {a : Int} (h : 0 ≤ a) (h2 : a ≤ 255) : IntKind.u8.wrap a = a := by
  have : IntKind.u8.wrap a = a % 256 := rfl
  omega
theorem w_u64 {a : Int} (h : 0 ≤ a) (h2 : a ≤ 18446744073709551615) : IntKind.u64.wrap a = a := by
  have : IntKind.u64.wrap a = a % 18446744073709551616 := rfl
  omega
theorem m_u32 {a : Int} : IntKind.u32.wrap a = a % 4294967296 := rfl
theorem m_u16 {a : Int} : IntKind.u16.wrap a = a % 65536 := rfl
theorem m_u8 {a : Int} : IntKind.u8.wrap a = a % 256 := rfl
theorem m_u64 {a : Int} : IntKind.u64.wrap a = a % 18446744073709551616 := rfl
section
variable {xt yt : TypeId} {x y : Operand} {k k' : IntKind} {a b c : Int} (hx : evT tm x = some (.int k a)) (hy : evT tm y = some (.int k b))
include hx hy
theorem pe_add (hw : k.wrap (a + b) = c) : PE P K L ⟨d, .binOp .add xt x y yt, T, pos, af, gd⟩ (tget tm) (.int k c) := pe_int hx hy fun w => by subst hw; simp [binOp, Op.intArith]
theorem pe_sub (hw : k.wrap (a - b) = c) : PE P K L ⟨d, .binOp .sub xt x y yt, T, pos, af, gd⟩ (tget tm) (.int k c) := pe_int hx hy fun w => by subst hw; simp [binOp, Op.intArith]
theorem pe_mul (hw : k.wrap (a * b) = c) : PE P K L ⟨d, .binOp .mul xt x y yt, T, pos, af, gd⟩ (tget tm) (.int k c) := pe_int hx hy fun w => by subst hw; simp [binOp, Op.intArith]
theorem pe_quo (ha : 0 ≤ a) (hb : 0 < b) (hw : k.wrap (a / b) = c) : PE P K L ⟨d, .binOp .quo xt x y yt, T, pos, af, gd⟩ (tget tm) (.int k c) := pe_int hx hy fun w => by
  subst hw
  have : ¬ b = 0 := by omega
  simp [binOp, Op.intDiv, this, Int.tdiv_eq_ediv_of_nonneg ha]
theorem pe_rem (ha : 0 ≤ a) (hb : 0 < b) : PE P K L ⟨d, .binOp .rem xt x y yt, T, pos, af, gd⟩ (tget tm) (.int k (a % b)) := pe_int hx hy fun w => by
  have : ¬ b = 0 := by omega
  simp [binOp, Op.intDiv, this, Int.tmod_eq_emod_of_nonneg ha]
theorem pe_and (hw : bits .and k a b = c) : PE P K L ⟨d, .binOp .and xt x y yt, T, pos, af, gd⟩ (tget tm) (.int k c) := pe_int hx hy fun w => by subst hw; simp [binOp, Op.intBits, bits]
theorem pe_or (hw : bits .or k a b = c) : PE P K L ⟨d, .binOp .or xt x y yt, T, pos, af, gd⟩ (tget tm) (.int k c) := pe_int hx hy fun w => by subst hw; simp [binOp, Op.intBits, bits]
theorem pe_xor (hw : bits .xor k a b = c) : PE P K L ⟨d, .binOp .xor xt x y yt, T, pos, af, gd⟩ (tget tm) (.int k c) := pe_int hx hy fun w => by subst hw; simp [binOp, Op.intBits, bits]
theorem pe_andNot (hw : bits .andNot k a b = c) : PE P K L ⟨d, .binOp .andNot xt x y yt, T, pos, af, gd⟩ (tget tm) (.int k c) := pe_int hx hy fun w => by subst hw; simp [binOp, Op.intBits, bits]
theorem pe_eql : PE P K L ⟨d, .binOp .eql xt x y yt, T, pos, af, gd⟩ (tget tm) (.bool (decide (a = b))) := pe_int hx hy fun w => by
  have : (a == b) = decide (a = b) := by by_cases h : a = b <;> simp [h]
  simp [binOp, Op.intCmp, this]
theorem pe_neq : PE P K L ⟨d, .binOp .neq xt x y yt, T, pos, af, gd⟩ (tget tm) (.bool (decide (a ≠ b))) := pe_int hx hy fun w => by
  have : (a != b) = decide (a ≠ b) := by by_cases h : a = b <;> simp [h]
  simp [binOp, Op.intCmp, this]
theorem pe_lss : PE P K L ⟨d, .binOp .lss xt x y yt, T, pos, af, gd⟩ (tget tm) (.bool (decide (a < b))) := pe_int hx hy fun w => by simp [binOp, Op.intCmp]
theorem pe_leq : PE P K L ⟨d, .binOp .leq xt x y yt, T, pos, af, gd⟩ (tget tm) (.bool (decide (a ≤ b))) := pe_int hx hy fun w => by simp [binOp, Op.intCmp]
theorem pe_gtr : PE P K L ⟨d, .binOp .gtr xt x y yt, T, pos, af, gd⟩ (tget tm) (.bool (decide (b < a))) := pe_int hx hy fun w => by simp [binOp, Op.intCmp]
theorem pe_geq : PE P K L ⟨d, .binOp .geq xt x y yt, T, pos, af, gd⟩ (tget tm) (.bool (decide (b ≤ a))) := pe_int hx hy fun w => by simp [binOp, Op.intCmp]
end
theorem pe_shift {op : BinOp} {xt yt : TypeId} {x y : Operand} {k k' : IntKind} {a b : Int} {v : Value} (ho : op = .shl ∨ op = .shr) (hx : evT tm x = some (.int k a)) (hy : evT tm y = some (.int k' b)) (hr : ∀ w, (Op.shift op k a k' b).run P w = .ok v w) : PE P K L ⟨d, .binOp op xt x y yt, T, pos, af, gd⟩ (tget tm) v := fun ρ w ha _ => by
  have h1 := ha x (by simp [Op.operands]) _ hx
  have h2 := ha y (by simp [Op.operands]) _ hy
  unfold execOp
  have h3 : eqGuard op xt x y (.int k a) (.int k' b) = pure () := by cases op <;> rfl
  simp only [h1, h2, h3]
  rcases ho with rfl | rfl <;> simp [Sem.run_bind, binOp, hr w]
theorem pe_shl {xt yt : TypeId} {x y : Operand} {k k' : IntKind} {a b c : Int} {m : Nat} (hx : evT tm x = some (.int k a)) (hy : evT tm y = some (.int k' b)) (hb : b = (m : Int)) (hm : m ≤ k.bits) (hw : k.wrap (a * 2 ^ m) = c) : PE P K L ⟨d, .binOp .shl xt x y yt, T, pos, af, gd⟩ (tget tm) (.int k c) :=
  pe_shift (.inl rfl) hx hy fun w => by
    subst hw hb
    have h1 : ¬ ((m : Int) < 0) := by omega
    have h2 : min (m : Int).toNat k.bits = m := by simp; omega
    simp only [Op.shift, if_neg h1, h2]; rfl
theorem pe_shr {xt yt : TypeId} {x y : Operand} {k k' : IntKind} {a b : Int} {m : Nat} (hx : evT tm x = some (.int k a)) (hy : evT tm y = some (.int k' b)) (hb : b = (m : Int)) (hm : m ≤ k.bits) : PE P K L ⟨d, .binOp .shr xt x y yt, T, pos, af, gd⟩ (tget tm) (.int k (a / 2 ^ m)) :=
  pe_shift (.inr rfl) hx hy fun w => by
    subst hb
    have h1 : ¬ ((m : Int) < 0) := by omega
    have h2 : min (m : Int).toNat k.bits = m := by simp; omega
    have h3 : a.fdiv (2 ^ m) = a / 2 ^ m := Int.fdiv_eq_ediv_of_nonneg _ (Int.le_of_lt (Int.pow_pos (by omega)))
    simp only [Op.shift, if_neg h1, h2, h3]; rfl
theorem pe_notD {xt : TypeId} {x : Operand} {p : Prop} [Decidable p] (hx : evT tm x = some (.bool (decide p))) : PE P K L ⟨d, .unOp .not xt x, T, pos, af, gd⟩ (tget tm) (.bool (decide (¬ p))) := fun ρ w ha _ => by
  have h1 := ha x (by simp [Op.operands]) _ hx
  have h2 : decide (¬ p) = !decide p := by by_cases h : p <;> simp [h]
  rw [h2]
  unfold execOp; simp only [h1]; rfl
theorem pe_notT {xt : TypeId} {x : Operand} (hx : evT tm x = some (.bool true)) : PE P K L ⟨d, .unOp .not xt x, T, pos, af, gd⟩ (tget tm) (.bool false) := fun ρ w ha _ => by
  have h1 := ha x (by simp [Op.operands]) _ hx
  unfold execOp; simp only [h1]; rfl
theorem pe_notF {xt : TypeId} {x : Operand} (hx : evT tm x = some (.bool false)) : PE P K L ⟨d, .unOp .not xt x, T, pos, af, gd⟩ (tget tm) (.bool true) := fun ρ w ha _ => by
  have h1 := ha x (by simp [Op.operands]) _ hx
  unfold execOp; simp only [h1]; rfl
theorem pe_notB {xt : TypeId} {x : Operand} {b : Bool} (hx : evT tm x = some (.bool b)) : PE P K L ⟨d, .unOp .not xt x, T, pos, af, gd⟩ (tget tm) (.bool (decide (¬ b = true))) := fun ρ w ha _ => by
  have h1 := ha x (by simp [Op.operands]) _ hx
  have h2 : decide (¬ b = true) = !b := by cases b <;> rfl
  rw [h2]
  unfold execOp; simp only [h1]; rfl
def intTy (P : Program) (t : TypeId) : Option IntKind := match P.underlying t with
  | some (.int k) => some k
  | _ => none
theorem pe_conv {st dt : TypeId} {x : Operand} {k j : IntKind} {a c : Int} (hx : evT tm x = some (.int k a)) (ht : intTy P dt = some j) (hs : (P.underlying st).isSome = true) (hw : j.wrap a = c) : PE P K L ⟨d, .convert st dt x, T, pos, af, gd⟩ (tget tm) (.int j c) := fun ρ w ha _ => by
  have h1 := ha x (by simp [Op.operands]) _ hx
  subst hw
  obtain ⟨s, hs⟩ := Option.isSome_iff_exists.1 hs
  have hd : P.underlying dt = some (.int j) := by
    unfold intTy at ht
    split at ht
    · rename_i k' hu; cases ht; exact hu
    · cases ht
  unfold execOp
  simp only [h1]
  simp [convert, Sem.run_bind, run_underlying hs, run_underlying hd, Conv.intToInt]

/-! Bools, and what is nil. -/
theorem pe_bin {op : BinOp} {xt yt : TypeId} {x y : Operand} {a b v : Value} (hx : evT tm x = some a) (hy : evT tm y = some b) (hr : ∀ w, (do eqGuard op xt x y a b; binOp op xt a b : Sem Value).run P w = .ok v w) : PE P K L ⟨d, .binOp op xt x y yt, T, pos, af, gd⟩ (tget tm) v := fun ρ w ha _ => by
  have h1 := ha x (by simp [Op.operands]) _ hx
  have h2 := ha y (by simp [Op.operands]) _ hy
  unfold execOp
  simp only [h1, h2]
  have := hr w
  simp only [Sem.run_bind] at this ⊢
  simp [this]
def tyIs (P : Program) (t : TypeId) (f : TypeDesc → Bool) : Bool := match P.underlying t with
  | some d => f d
  | none => false
def isSliceD : TypeDesc → Bool
  | .slice _ => true
  | _ => false
def isPtrD : TypeDesc → Bool
  | .pointer _ => true
  | _ => false
def isBoolD : TypeDesc → Bool
  | .bool => true
  | _ => false
theorem tyIs_spec {P : Program} {t : TypeId} {f : TypeDesc → Bool} (h : tyIs P t f = true) : ∃ d, P.underlying t = some d ∧ f d = true := by
  unfold tyIs at h
  split at h
  · rename_i d hd; exact ⟨d, hd, h⟩
  · cases h
theorem run_eqB {t : TypeId} (ht : tyIs P t isBoolD = true) (a b : Bool) (w : World) : (Op.equal t (.bool a) (.bool b)).run P w = .ok (a == b) w := by
  obtain ⟨d, hd, hf⟩ := tyIs_spec ht
  cases d <;> simp [isBoolD] at hf
  have key : ∀ m, (Op.equalIn (m + 1) t (.bool a) (.bool b)).run P w = .ok (a == b) w := fun m => by simp [Op.equalIn, Sem.run_bind, run_underlying hd]
  exact key 9999
theorem pe_eqB {xt yt : TypeId} {x y : Operand} {a b : Bool} (hx : evT tm x = some (.bool a)) (hy : evT tm y = some (.bool b)) (ht : tyIs P xt isBoolD = true) : PE P K L ⟨d, .binOp .eql xt x y yt, T, pos, af, gd⟩ (tget tm) (.bool (decide (a = b))) := pe_bin hx hy fun w => by
  have : decide (a = b) = (a == b) := by cases a <;> cases b <;> rfl
  simp [eqGuard, binOp, Sem.run_bind, run_eqB ht, this]
theorem pe_neB {xt yt : TypeId} {x y : Operand} {a b : Bool} (hx : evT tm x = some (.bool a)) (hy : evT tm y = some (.bool b)) (ht : tyIs P xt isBoolD = true) : PE P K L ⟨d, .binOp .neq xt x y yt, T, pos, af, gd⟩ (tget tm) (.bool (decide (a ≠ b))) := pe_bin hx hy fun w => by
  have : decide (a ≠ b) = !(a == b) := by cases a <;> cases b <;> rfl
  simp [eqGuard, binOp, Sem.run_bind, run_eqB ht, this]
theorem run_eqS {t : TypeId} (ht : tyIs P t isSliceD = true) (a : Option Addr) (n c n' c' : Nat) (w : World) : (Op.equal t (.slice a n c) (.slice none n' c')).run P w = .ok a.isNone w := by
  obtain ⟨d, hd, hf⟩ := tyIs_spec ht
  cases d <;> simp [isSliceD] at hf
  have key : ∀ m, (Op.equalIn (m + 1) t (.slice a n c) (.slice none n' c')).run P w = .ok a.isNone w := fun m => by cases a <;> simp [Op.equalIn, Sem.run_bind, run_underlying hd]
  exact key 9999
theorem pe_eqS {xt yt : TypeId} {x y : Operand} {a : Option Addr} {n c n' c' : Nat} (hx : evT tm x = some (.slice a n c)) (hy : evT tm y = some (.slice none n' c')) (ht : tyIs P xt isSliceD = true) : PE P K L ⟨d, .binOp .eql xt x y yt, T, pos, af, gd⟩ (tget tm) (.bool (decide (a = none))) := pe_bin hx hy fun w => by
  have : decide (a = none) = a.isNone := by cases a <;> rfl
  simp [eqGuard, binOp, Sem.run_bind, run_eqS ht, this]
theorem pe_neS {xt yt : TypeId} {x y : Operand} {a : Option Addr} {n c n' c' : Nat} (hx : evT tm x = some (.slice a n c)) (hy : evT tm y = some (.slice none n' c')) (ht : tyIs P xt isSliceD = true) : PE P K L ⟨d, .binOp .neq xt x y yt, T, pos, af, gd⟩ (tget tm) (.bool (decide (a ≠ none))) := pe_bin hx hy fun w => by
  have : decide (a ≠ none) = !a.isNone := by cases a <;> rfl
  simp [eqGuard, binOp, Sem.run_bind, run_eqS ht, this]
theorem run_eqP {t : TypeId} (ht : tyIs P t isPtrD = true) (a : Option Addr) (w : World) : (Op.equal t (.pointer a) (.pointer none)).run P w = .ok a.isNone w := by
  obtain ⟨d, hd, hf⟩ := tyIs_spec ht
  cases d <;> simp [isPtrD] at hf
  have key : ∀ m, (Op.equalIn (m + 1) t (.pointer a) (.pointer none)).run P w = .ok a.isNone w := fun m => by cases a <;> simp [Op.equalIn, Sem.run_bind, run_underlying hd]
  exact key 9999
theorem pe_eqP {xt yt : TypeId} {x y : Operand} {a : Option Addr} (hx : evT tm x = some (.pointer a)) (hy : evT tm y = some (.pointer none)) (ht : tyIs P xt isPtrD = true) : PE P K L ⟨d, .binOp .eql xt x y yt, T, pos, af, gd⟩ (tget tm) (.bool (decide (a = none))) := pe_bin hx hy fun w => by
  have : decide (a = none) = a.isNone := by cases a <;> rfl
  cases a <;> simp [eqGuard, binOp, Sem.run_bind, run_eqP ht]
theorem pe_neP {xt yt : TypeId} {x y : Operand} {a : Option Addr} (hx : evT tm x = some (.pointer a)) (hy : evT tm y = some (.pointer none)) (ht : tyIs P xt isPtrD = true) : PE P K L ⟨d, .binOp .neq xt x y yt, T, pos, af, gd⟩ (tget tm) (.bool (decide (a ≠ none))) := pe_bin hx hy fun w => by
  cases a <;> simp [eqGuard, binOp, Sem.run_bind, run_eqP ht]

/-! Places and parts. -/
theorem pe_faG {st : TypeId} {x : Operand} {f off sz : Nat} {r : Bool} {p : Addr} (hx : evT tm x = some (.pointer (some p))) (hf : fieldInfo P st f = some (off, sz + 1, r)) : PE P K L ⟨d, .fieldAddr st x f, T, pos, af, gd⟩ (tget tm) (.pointer (some (p.add off))) := fun ρ w ha _ => by
  have h1 := ha x (by simp [Op.operands]) _ hx
  obtain ⟨fs, fd, i, de, hu, hfd, rfl, hi, hs, _, _⟩ := fieldInfo_spec hf
  unfold execOp
  simp only [h1]
  simp [Instr.fieldAt, Sem.run_bind, run_underlying hu, hfd, Instr.sureAddr, fieldPlace, run_sz hi, hs]
theorem pe_fa {st : TypeId} {x : Operand} {f off sz b o : Nat} {r : Bool} (hx : evT tm x = some (.pointer (some ⟨b, o, none⟩))) (hf : fieldInfo P st f = some (off, sz + 1, r)) : PE P K L ⟨d, .fieldAddr st x f, T, pos, af, gd⟩ (tget tm) (.pointer (some ⟨b, o + off, none⟩)) := by
  have := pe_faG (P := P) (K := K) (L := L) (d := d) (T := T) (pos := pos) (af := af) (gd := gd) hx hf
  rwa [addr_add_plain] at this
theorem pe_faE {st : TypeId} {x : Operand} {f off sz j sz' m : Nat} {r : Bool} {a : Option Addr} (hx : evT tm x = some (.pointer (some (elA a j sz' m)))) (hf : fieldInfo P st f = some (off, sz + 1, r)) : PE P K L ⟨d, .fieldAddr st x f, T, pos, af, gd⟩ (tget tm) (.pointer (some (elA a j sz' (m + off)))) := by
  have := pe_faG (P := P) (K := K) (L := L) (d := d) (T := T) (pos := pos) (af := af) (gd := gd) hx hf
  rwa [elA_add] at this
theorem pe_fieldC {st : TypeId} {x : Operand} {f off sz : Nat} {cs : List Value} {v : Value} (hx : evT tm x = some (.agg cs.toArray)) (hf : fieldInfo P st f = some (off, sz, false)) (hv : cs[off]? = some v) : PE P K L ⟨d, .field st x f, T, pos, af, gd⟩ (tget tm) v := fun ρ w ha _ => by
  have h1 := ha x (by simp [Op.operands]) _ hx
  obtain ⟨fs, fd, i, de, hu, hfd, rfl, hi, hs, hd, hr⟩ := fieldInfo_spec hf
  unfold execOp
  simp only [h1]
  simp [Instr.field, Sem.run_bind, run_underlying hu, hfd, asAgg, part, run_agg hd, hr, hv]
theorem pe_fieldR {st : TypeId} {x : Operand} {f off sz : Nat} {cs vs : List Value} (hx : evT tm x = some (.agg cs.toArray)) (hf : fieldInfo P st f = some (off, sz, true)) (hv : Seg cs off sz vs) : PE P K L ⟨d, .field st x f, T, pos, af, gd⟩ (tget tm) (.agg vs.toArray) := fun ρ w ha _ => by
  have h1 := ha x (by simp [Op.operands]) _ hx
  obtain ⟨fs, fd, i, de, hu, hfd, rfl, hi, hs, hd, hr⟩ := fieldInfo_spec hf
  have hseg : (cs.drop fd.offset).take sz = vs := by
    apply List.ext_getElem?
    intro j
    have hl := hv.len
    by_cases hj : j < sz
    · rw [List.getElem?_take, if_pos hj, List.getElem?_drop]
      have h3 : vs[j]? = some vs[j] := List.getElem?_eq_getElem (by omega)
      rw [hv.get j _ h3, h3]
    · rw [List.getElem?_eq_none (by rw [List.length_take]; omega), List.getElem?_eq_none (by omega)]
  unfold execOp
  simp only [h1]
  simp [Instr.field, Sem.run_bind, run_underlying hu, hfd, asAgg, part, run_agg hd, hr, run_sz hi, hs, hseg]
theorem pe_ix {t : TypeId} {x i : Operand} {a : Option Addr} {n c j sz sz' n' b' : Nat} {k : IntKind} {z : Int} {e : TypeId} {xs : List Value} (hx : evT tm x = some (.slice a n c)) (hi : evT tm i = some (.int k z)) (ht : elemInfo P t = some (e, sz, b')) (hs : Src K L (.slice a n c) sz' n' xs) (hz : z = (j : Int)) (hj : j < n) : PE P K L ⟨d, .indexAddr t x i, T, pos, af, gd⟩ (tget tm) (.pointer (some (elA a j sz 0))) := fun ρ w ha hr => by
  have h1 := ha x (by simp [Op.operands]) _ hx
  have h2 := ha i (by simp [Op.operands]) _ hi
  obtain ⟨inf, hu, hin, hsz, _⟩ := elemInfo_spec ht
  subst hz
  obtain ⟨a', c', he, _, _, _, hn, _⟩ := hs w hr
  cases he
  cases a with
  | none => have := (hn rfl).1; omega
  | some p =>
    unfold execOp
    simp only [h1, h2]
    have h3 : (0 : Int) ≤ (j : Int) ∧ (j : Int) < (n : Int) := by omega
    simp [Instr.indexAt, Sem.run_bind, run_underlying hu, asIntOf, h3, hj, run_sz hin, hsz, elA]
/-- The same where the address is known. -/
theorem pe_ixL {t : TypeId} {x i : Operand} {b o n c j sz b' : Nat} {k : IntKind} {z : Int} {e : TypeId} (hx : evT tm x = some (.slice (some ⟨b, o, none⟩) n c)) (hi : evT tm i = some (.int k z)) (ht : elemInfo P t = some (e, sz, b')) (hz : z = (j : Int)) (hj : j < n) : PE P K L ⟨d, .indexAddr t x i, T, pos, af, gd⟩ (tget tm) (.pointer (some ⟨b, o + j * sz, none⟩)) := fun ρ w ha hr => by
  have h1 := ha x (by simp [Op.operands]) _ hx
  have h2 := ha i (by simp [Op.operands]) _ hi
  obtain ⟨inf, hu, hin, hsz, _⟩ := elemInfo_spec ht
  subst hz
  unfold execOp
  simp only [h1, h2]
  have h3 : (0 : Int) ≤ (j : Int) ∧ (j : Int) < (n : Int) := by omega
  simp [Instr.indexAt, Sem.run_bind, run_underlying hu, asIntOf, h3, hj, run_sz hin, hsz, addr_add_plain]
def arrInfo (P : Program) (t : TypeId) : Option (Nat × Nat × Bool) := match P.underlying t with
  | some (.array n e) => match P.info? e, P.underlying e with
    | some i, some d => some (n, i.size, d.isRow)
    | _, _ => none
  | _ => none
theorem arrInfo_spec {P : Program} {t : TypeId} {n sz : Nat} {r : Bool} (h : arrInfo P t = some (n, sz, r)) : ∃ e i d, P.underlying t = some (.array n e) ∧ P.info? e = some i ∧ i.size = sz ∧ P.underlying e = some d ∧ d.isRow = r := by
  unfold arrInfo at h
  split at h
  · rename_i n' e hu
    split at h
    · rename_i i d hi hd
      simp only [Option.some.injEq, Prod.mk.injEq] at h
      obtain ⟨rfl, h2, h3⟩ := h
      exact ⟨e, i, d, hu, hi, h2, hd, h3⟩
    · cases h
  · cases h
def tabOkA (P : Program) (tab : List (Nat × (Nat × Nat × Bool))) : Bool := tab.all fun p => decide (arrInfo P p.1 = some p.2)
theorem tabA {P : Program} {tab : List (Nat × (Nat × Nat × Bool))} {t : Nat} {x : Nat × Nat × Bool} (h : tabOkA P tab = true) (g : tabGet tab t = some x) : arrInfo P t = some x := by
  simpa using List.all_eq_true.1 h _ (tabGet_mem g)
theorem pe_ixA {t : TypeId} {x i : Operand} {b o n j sz : Nat} {r : Bool} {k : IntKind} {z : Int} (hx : evT tm x = some (.pointer (some ⟨b, o, none⟩))) (hi : evT tm i = some (.int k z)) (ht : arrInfo P t = some (n, sz, r)) (hz : z = (j : Int)) (hj : j < n) : PE P K L ⟨d, .indexAddr t x i, T, pos, af, gd⟩ (tget tm) (.pointer (some ⟨b, o + j * sz, none⟩)) := fun ρ w ha hr => by
  have h1 := ha x (by simp [Op.operands]) _ hx
  have h2 := ha i (by simp [Op.operands]) _ hi
  obtain ⟨e, inf, de, hu, hin, hsz, _, _⟩ := arrInfo_spec ht
  subst hz
  unfold execOp
  simp only [h1, h2]
  have h3 : (0 : Int) ≤ (j : Int) ∧ (j : Int) < (n : Int) := by omega
  simp [Instr.indexAt, Sem.run_bind, run_underlying hu, asIntOf, h3, hj, run_sz hin, hsz, addr_add_plain, Instr.sureAddr]

/-! Loads. -/
theorem pe_ldG {ty : TypeId} {x : Operand} {p : Addr} {v : Value} (hx : evT tm x = some (.pointer (some p))) (h : ∀ w, Rdw K L w → (loadVar ty p).run P w = .ok v w) : PE P K L ⟨d, .load ty x, T, pos, af, gd⟩ (tget tm) v := fun ρ w ha hr => by
  have h1 := ha x (by simp [Op.operands]) _ hx
  unfold execOp
  simp only [h1]
  simp [Instr.loadAt, Instr.sureAddr, Sem.run_bind, h w hr]
theorem pe_ld {ty T' : TypeId} {x : Operand} {b i : Nat} {cs : List Value} {v : Value} (hx : evT tm x = some (.pointer (some ⟨b, i, none⟩))) (hm : Tk L (pts b cs T') R) (ht : cellTy P ty = true) (hv : cs[i]? = some v) : PE P K L ⟨d, .load ty x, T, pos, af, gd⟩ (tget tm) v :=
  pe_ldG hx fun w hr => run_load_cell ht (by rw [(hr.blk hm).cell]; simpa using hv)
theorem pe_ldW {ty T' : TypeId} {x : Operand} {b : Nat} {cs : List Value} (hx : evT tm x = some (.pointer (some ⟨b, 0, none⟩))) (hm : Tk L (pts b cs T') R) (ht : rowTy P ty cs.length = true) : PE P K L ⟨d, .load ty x, T, pos, af, gd⟩ (tget tm) (.agg cs.toArray) :=
  pe_ldG hx fun w hr => run_load_row ht (by simpa using (hr.blk hm).range)
theorem pe_ldS {ty T' : TypeId} {x : Operand} {b i n : Nat} {cs vs : List Value} (hx : evT tm x = some (.pointer (some ⟨b, i, none⟩))) (hm : Tk L (pts b cs T') R) (hn : (P.info? ty).map (·.size) = some n) (hs : Seg cs i n vs) (ht : rowTy P ty n = true) : PE P K L ⟨d, .load ty x, T, pos, af, gd⟩ (tget tm) (.agg vs.toArray) :=
  pe_ldG hx fun w hr => run_load_row (hs.len ▸ ht) (fun j v hv => by rw [(hr.blk hm).cell]; simpa using hs.get j v hv)
/-- What the known memory holds. -/
theorem pe_ldK {ty : TypeId} {x : Operand} {p : Addr} {v : Value} (hx : evT tm x = some (.pointer (some p))) (h : Kn K (fun w => w.cell? p = some v)) (ht : cellTy P ty = true) : PE P K L ⟨d, .load ty x, T, pos, af, gd⟩ (tget tm) v :=
  pe_ldG hx fun w hr => run_load_cell ht (h w hr.1)
/-- The cells of one element, from off on. -/
theorem Src.at {a : Option Addr} {n c sz n' j : Nat} {α : Type} {enc : α → List Value} {es : List α} {x : α} (hs : Src K L (.slice a n c) sz n' (flat enc es)) (hl : ∀ x, (enc x).length = sz) (hj : es[j]? = some x) {w : World} (hr : Rdw K L w) (hz : 0 < sz) : ∃ b o, a = some ⟨b, o, none⟩ ∧ w.rangeAt b (o + j * sz) (enc x) := by
  have hlt := (List.getElem?_eq_some_iff.1 hj).1
  have hv := hs w hr
  obtain ⟨a', c', he, h1, _⟩ := hs w hr
  injection he with h2 h3 h4
  subst h2 h3 h4
  rw [flat_length hl] at h1
  have hnn : es.length = n := Nat.eq_of_mul_eq_mul_right hz h1
  have hne : flat enc es ≠ [] := fun h0 => by
    have h5 := congrArg List.length h0
    rw [flat_length hl] at h5
    rcases Nat.mul_eq_zero.1 h5 with h | h <;> omega
  obtain ⟨b, o, rfl⟩ := hv.addr hne
  have := hv.row hl hnn j hlt
  refine ⟨b, o, rfl, ?_⟩
  rw [List.getElem?_eq_getElem hlt] at hj
  cases hj
  exact this
theorem elA_some (b o j sz m : Nat) : elA (some ⟨b, o, none⟩) j sz m = ⟨b, o + (j * sz + m), none⟩ := by unfold elA; exact addr_add_plain _ _ _
/-- A whole element: a row, a cell; a part of an element. -/
theorem pe_el {ty : TypeId} {x : Operand} {a : Option Addr} {n c sz n' j : Nat} {α : Type} {enc : α → List Value} {es : List α} {y : α} (hx : evT tm x = some (.pointer (some (elA a j sz 0)))) (hs : Src K L (.slice a n c) sz n' (flat enc es)) (hl : ∀ x, (enc x).length = sz) (hz : Nat.blt 0 sz = true) (ht : rowTy P ty sz = true) (hj : es[j]? = some y) : PE P K L ⟨d, .load ty x, T, pos, af, gd⟩ (tget tm) (.agg (enc y).toArray) :=
  pe_ldG hx fun w hr => by
    obtain ⟨b, o, rfl, hc⟩ := hs.at hl hj hr (by simpa using hz)
    rw [elA_some]
    exact run_load_row (by rw [hl]; exact ht) (by simpa using hc)
theorem pe_elC {ty : TypeId} {x : Operand} {a : Option Addr} {n c sz n' j : Nat} {α : Type} {enc : α → List Value} {es : List α} {y : α} {v : Value} (hx : evT tm x = some (.pointer (some (elA a j sz 0)))) (hs : Src K L (.slice a n c) sz n' (flat enc es)) (hl : ∀ x, (enc x).length = sz) (hz : Nat.blt 0 sz = true) (ht : cellTy P ty = true) (hj : es[j]? = some y) (hv : (enc y)[0]? = some v) : PE P K L ⟨d, .load ty x, T, pos, af, gd⟩ (tget tm) v :=
  pe_ldG hx fun w hr => by
    obtain ⟨b, o, rfl, hc⟩ := hs.at hl hj hr (by simpa using hz)
    rw [elA_some]
    exact run_load_cell ht (by simpa using hc 0 v hv)
theorem pe_elF {ty : TypeId} {x : Operand} {a : Option Addr} {n c sz n' j off : Nat} {α : Type} {enc : α → List Value} {es : List α} {y : α} {v : Value} (hx : evT tm x = some (.pointer (some (elA a j sz off)))) (hs : Src K L (.slice a n c) sz n' (flat enc es)) (hl : ∀ x, (enc x).length = sz) (hz : Nat.blt 0 sz = true) (ht : cellTy P ty = true) (hj : es[j]? = some y) (hv : (enc y)[off]? = some v) : PE P K L ⟨d, .load ty x, T, pos, af, gd⟩ (tget tm) v :=
  pe_ldG hx fun w hr => by
    obtain ⟨b, o, rfl, hc⟩ := hs.at hl hj hr (by simpa using hz)
    rw [elA_some]
    exact run_load_cell ht (by have := hc off v hv; rwa [Nat.add_assoc] at this)
theorem pe_elS {ty : TypeId} {x : Operand} {a : Option Addr} {n c sz n' j off m : Nat} {α : Type} {enc : α → List Value} {es : List α} {y : α} {vs : List Value} (hx : evT tm x = some (.pointer (some (elA a j sz off)))) (hs : Src K L (.slice a n c) sz n' (flat enc es)) (hl : ∀ x, (enc x).length = sz) (hz : Nat.blt 0 sz = true) (hn : (P.info? ty).map (·.size) = some m) (hj : es[j]? = some y) (hv : Seg (enc y) off m vs) (ht : rowTy P ty m = true) : PE P K L ⟨d, .load ty x, T, pos, af, gd⟩ (tget tm) (.agg vs.toArray) :=
  pe_ldG hx fun w hr => by
    obtain ⟨b, o, rfl, hc⟩ := hs.at hl hj hr (by simpa using hz)
    rw [elA_some]
    exact run_load_row (hv.len ▸ ht) (fun i u hu => by have := hc (off + i) u (hv.get i u hu); rw [← this]; congr 2; omega)

/-! Builtins that read. -/
theorem pe_call {b : Builtin} {xs : Array Operand} {ts : Array TypeId} {vs : List Value} {v : Value} (h1 : xs.toList.mapM (evT tm) = some vs) (h2 : ∀ w, Rdw K L w → ∀ cs, (builtin b ts T cs vs.toArray).run P w = .ok (.value v) w) : PE P K L ⟨d, .call ⟨.builtin b, xs, ts⟩, T, pos, af, gd⟩ (tget tm) v := fun ρ w ha hr => by
  have key : ∀ (l : List Operand) (r : List Value), (∀ x ∈ l, x ∈ xs.toList) → l.mapM (evT tm) = some r → l.map ρ = r := by
    intro l
    induction l with
    | nil => intro r _ h; simpa using h
    | cons x l ih =>
      intro r hm h
      simp only [List.mapM_cons, Option.pure_def, Option.bind_eq_bind, Option.bind_eq_some_iff, Option.some.injEq] at h
      obtain ⟨v, hv, r', hr, rfl⟩ := h
      have := ha x (by simpa [Op.operands, Call.operands] using hm x (by simp)) v hv
      simp [this, ih r' (fun y hy => hm y (by simp [hy])) hr]
  have e1 := key xs.toList vs (fun x hx => hx) h1
  have e3 : xs.map ρ = vs.toArray := Array.ext' (by rw [Array.toList_map]; exact e1)
  unfold execOp
  simp only [resolve, Sem.run_bind, Sem.run_pure, Result.andThen_ok, invoke, e3, h2 w hr]
theorem pe_len {x : Operand} {t : TypeId} {a : Option Addr} {n c : Nat} (hx : evT tm x = some (.slice a n c)) (ht : tyIs P t isSliceD = true) : PE P K L ⟨d, .call ⟨.builtin .len, #[x], #[t]⟩, T, pos, af, gd⟩ (tget tm) (.int .i64 n) := pe_call (vs := [.slice a n c]) (by simp [hx]) fun w _ cs => by
  obtain ⟨de, hd, hf⟩ := tyIs_spec ht
  cases de <;> simp [isSliceD] at hf
  simp [builtin, Builtin.len_, Sem.run_bind, run_underlying hd, goInt]
theorem pe_cap {x : Operand} {t : TypeId} {a : Option Addr} {n c : Nat} (hx : evT tm x = some (.slice a n c)) (ht : tyIs P t isSliceD = true) : PE P K L ⟨d, .call ⟨.builtin .cap, #[x], #[t]⟩, T, pos, af, gd⟩ (tget tm) (.int .i64 c) := pe_call (vs := [.slice a n c]) (by simp [hx]) fun w _ cs => by
  obtain ⟨de, hd, hf⟩ := tyIs_spec ht
  cases de <;> simp [isSliceD] at hf
  simp [builtin, Builtin.cap_, Sem.run_bind, run_underlying hd, goInt]
theorem pe_min {x y : Operand} {ts : Array TypeId} {k : IntKind} {a b : Int} (hx : evT tm x = some (.int k a)) (hy : evT tm y = some (.int k b)) : PE P K L ⟨d, .call ⟨.builtin .min, #[x, y], ts⟩, T, pos, af, gd⟩ (tget tm) (.int k (min a b)) := pe_call (vs := [.int k a, .int k b]) (by simp [hx, hy]) fun w _ cs => by
  have : (if b < a then b else a) = min a b := by omega
  simp [builtin, Builtin.min_, Builtin.min2, this]
theorem pe_max {x y : Operand} {ts : Array TypeId} {k : IntKind} {a b : Int} (hx : evT tm x = some (.int k a)) (hy : evT tm y = some (.int k b)) : PE P K L ⟨d, .call ⟨.builtin .max, #[x, y], ts⟩, T, pos, af, gd⟩ (tget tm) (.int k (max a b)) := pe_call (vs := [.int k a, .int k b]) (by simp [hx, hy]) fun w _ cs => by
  have : (if a < b then b else a) = max a b := by omega
  simp [builtin, Builtin.max_, Builtin.max2, this]

/-! Slice expressions. -/
theorem run_bound {k : IntKind} {z : Int} {j y : Nat} {code : BoundsCode} (hz : z = (j : Int)) (hj : j ≤ y) (w : World) : (Instr.sliceBound (.int k z) y code).run P w = .ok j w := by
  subst hz
  simp [Instr.sliceBound, asIntOf, hj]
theorem pe_sl {t : TypeId} {x : Operand} {lo hi : Option Operand} {a : Option Addr} {n c l h sz b' : Nat} {e : TypeId} (hx : evT tm x = some (.slice a n c)) (ht : elemInfo P t = some (e, sz, b'))
    (hl : match lo with | none => l = 0 | some y => ∃ k z, evT tm y = some (.int k z) ∧ z = (l : Int)) (hh : match hi with | none => h = n | some y => ∃ k z, evT tm y = some (.int k z) ∧ z = (h : Int)) (hlh : l ≤ h) (hhc : h ≤ c) :
    PE P K L ⟨d, .slice t x lo hi none, T, pos, af, gd⟩ (tget tm) (.slice (slA a c l sz) (h - l) (c - l)) := fun ρ w ha _ => by
  have h1 := ha x (by simp [Op.operands]) _ hx
  obtain ⟨inf, hu, hin, hsz, _⟩ := elemInfo_spec ht
  have e2 : (Instr.sliceBounds true n c (lo.map ρ) (hi.map ρ) (none : Option Value)).run P w = .ok (l, h, c) w := by
    cases lo with
    | none =>
      subst hl
      cases hi with
      | none => subst hh; simp [Instr.sliceBounds]
      | some y =>
        obtain ⟨k, z, hy, hz⟩ := hh
        have := ha y (by simp [Op.operands]) _ hy
        simp [Instr.sliceBounds, Sem.run_bind, this, run_bound hz hhc]
    | some y =>
      obtain ⟨k, z, hy, hz⟩ := hl
      have e3 := ha y (by simp [Op.operands]) _ hy
      cases hi with
      | none => subst hh; simp [Instr.sliceBounds, Sem.run_bind, e3, run_bound hz hlh]
      | some y2 =>
        obtain ⟨k2, z2, hy2, hz2⟩ := hh
        have := ha y2 (by simp [Op.operands]) _ hy2
        simp [Instr.sliceBounds, Sem.run_bind, this, e3, run_bound hz2 hhc, run_bound hz hlh]
  have e4 : (none : Option Operand).map ρ = none := rfl
  unfold execOp
  simp only [h1, e4]
  simp [Instr.sliceAt, Instr.slice, Sem.run_bind, run_underlying hu, e2, run_sz hin, hsz, slA]
theorem slA_zero (a : Option Addr) (c sz : Nat) : slA a c 0 sz = a := by
  unfold slA
  split
  · rfl
  · cases a <;> simp [Addr.add]
/-- From the start on. -/
theorem pe_sl0 {t : TypeId} {x : Operand} {hi : Option Operand} {a : Option Addr} {n c h sz b' : Nat} {e : TypeId} (hx : evT tm x = some (.slice a n c)) (ht : elemInfo P t = some (e, sz, b'))
    (hh : match hi with | none => h = n | some y => ∃ k z, evT tm y = some (.int k z) ∧ z = (h : Int)) (hlh : 0 ≤ h) (hhc : h ≤ c) :
    PE P K L ⟨d, .slice t x none hi none, T, pos, af, gd⟩ (tget tm) (.slice a h c) := by
  have := pe_sl (P := P) (K := K) (L := L) (d := d) (T := T) (pos := pos) (af := af) (gd := gd) (lo := none) (l := 0) hx ht rfl hh hlh hhc
  rwa [slA_zero, Nat.sub_zero, Nat.sub_zero] at this
end
end Go.Pm
namespace Go.Pm
set_option linter.unusedSimpArgs false
set_option linter.unusedVariables false
open Go.RowKit

/-! A list is written out. -/
inductive Nrm : List Value → List Value → Prop
  | nil : Nrm [] []
  | cons {v : Value} {r r' : List Value} : Nrm r r' → Nrm (v :: r) (v :: r')
theorem Nrm.eq {l r : List Value} (h : Nrm l r) : l = r := by
  induction h with
  | nil => rfl
  | cons _ ih => rw [ih]
def cellsL (v : Value) : List Value := match v with
  | .agg cs => cs.toList
  | v => [v]
def fillL (pl : List (Nat × Nat)) : List Value → List (Nat × Value) → List Value
  | cs, [] => cs
  | cs, (i, v) :: r => match pl[i]? with
    | some (off, sz) => fillL pl (cs.take off ++ (cellsL v ++ cs.drop (off + sz))) r
    | none => []
def zeroC (P : Program) (t : TypeId) : List Value := match P.info? t with
  | some i => match i.zero with
    | some z => cellsL z
    | none => []
  | none => []
def cellsIn (P : Program) (t : TypeId) : Nat := ((P.info? t).map (·.size)).getD 0
def placesL (P : Program) (t : TypeId) : List (Nat × Nat) := match P.underlying t with
  | some (.struct fs) => fs.toList.map fun f => (f.offset, cellsIn P f.type)
  | some (.array n e) => (List.range n).map fun i => (i * cellsIn P e, cellsIn P e)
  | _ => []
def bldC (P : Program) (t : TypeId) (vals : List (Nat × Value)) : List Value := fillL (placesL P t) (zeroC P t) vals
def rep (n : Nat) (l : List Value) : List Value := match n with
  | 0 => []
  | n + 1 => l ++ rep n l
def bslC (P : Program) (t : TypeId) (n : Nat) (vals : List (Nat × Value)) : List Value := match P.underlying t with
  | some (.slice e) => fillL ((List.range n).map fun i => (i * cellsIn P e, cellsIn P e)) (rep n (zeroC P e)) vals
  | _ => []
def evP (tm : TM) : List (Nat × Operand) → Option (List (Nat × Value))
  | [] => some []
  | (i, x) :: r => match evT tm x, evP tm r with
    | some v, some vs => some ((i, v) :: vs)
    | _, _ => none
theorem evP_map {tm : TM} {ρ : Operand → Value} : ∀ {l : List (Nat × Operand)} {r : List (Nat × Value)}, (∀ p ∈ l, ∀ v, evT tm p.2 = some v → ρ p.2 = v) → evP tm l = some r → l.map (fun (i, x) => (i, ρ x)) = r
  | [], r, _, h => by simpa [evP] using h
  | (i, x) :: l, r, ha, h => by
    simp only [evP] at h
    split at h
    · rename_i v vs hv hvs
      cases h
      have h1 := ha (i, x) (by simp) v hv
      simp only at h1
      simp only [List.map_cons, h1, evP_map (fun p hp => ha p (by simp [hp])) hvs]
    · cases h

section
variable {P : Program} {n : Nat} {W : World} {K : Hl} {F : Fp} {k : List It} {tm : TM} {L L' R S M : List HP} {T : TypeId} {pos : String} {af : Array Edge} {gd : Option (Nat × Bool)} {ops : Array Oper} {rest nx : List Oper} {d : Tmp}

theorem pe_build {od : Option Tmp} {t : TypeId} {ps : Array (Nat × Operand)} {vals : List (Nat × Value)} {cs : List Value} (h1 : evP tm ps.toList = some vals) (h2 : Nrm (bldC P t vals) cs) (h3 : ∀ w, (Instr.build t vals.toArray).run P w = .ok (.agg cs.toArray) w) : PE P K L ⟨od, .build t ps, T, pos, af, gd⟩ (tget tm) (.agg cs.toArray) := fun ρ w ha _ => by
  have e1 := evP_map (ρ := ρ) (fun p hp v hv => ha p.2 (by simp only [Op.operands, List.toList_toArray, List.mem_map]; exact ⟨p, hp, rfl⟩) v hv) h1
  have e2 : (ps.map fun (i, x) => (i, ρ x)) = vals.toArray := Array.ext' (by rw [Array.toList_map]; exact e1)
  unfold execOp
  simp only [e2]
  simp [Sem.run_bind, h3 w]

/-! A block is made. -/
theorem al_alloc {od : Option Tmp} {t : TypeId} {cs : List Value} (h1 : Nrm (zeroC P t) cs) (h2 : ∀ w, (Instr.alloc t true (.tuple #[])).run P w = .ok (.pointer (some ⟨w.heap.size, 0, none⟩)) (w.alloc (.cells cs.toArray t))) : AL P ⟨od, .alloc t, T, pos, af, gd⟩ (tget tm) (.cells cs.toArray t) (fun b => .pointer (some ⟨b, 0, none⟩)) := fun ρ w ha => by
  unfold execOp
  simp [Sem.run_bind, h2 w]
theorem al_boxA {od : Option Tmp} {t : TypeId} {x : Operand} {cs : List Value} (hx : evT tm x = some (.agg cs.toArray)) : AL P ⟨od, .box t x, T, pos, af, gd⟩ (tget tm) (.cells cs.toArray t) (fun b => .pointer (some ⟨b, 0, none⟩)) := fun ρ w ha => by
  have h1 := ha x (by simp [Op.operands]) _ hx
  unfold execOp
  simp only [h1]
  rfl
theorem al_boxC {od : Option Tmp} {t : TypeId} {x : Operand} {v : Value} (hx : evT tm x = some v) (h1 : v.oneCell' = true) : AL P ⟨od, .box t x, T, pos, af, gd⟩ (tget tm) (.cells [v].toArray t) (fun b => .pointer (some ⟨b, 0, none⟩)) := fun ρ w ha => by
  have h2 := ha x (by simp [Op.operands]) _ hx
  have hv : v.cells = #[v] := by cases v <;> first | rfl | (simp [Value.oneCell'] at h1)
  unfold execOp
  simp only [h2, Instr.box, newVar, hv]
  rfl
theorem al_bs {od : Option Tmp} {t e : TypeId} {m sz b' : Nat} {ps : Array (Nat × Operand)} {vals : List (Nat × Value)} {cs : List Value} (h1 : evP tm ps.toList = some vals) (_ht : elemInfo P t = some (e, sz, b')) (h2 : Nrm (bslC P t m vals) cs) (h3 : ∀ w, (Instr.buildSlice t m vals.toArray).run P w = .ok (.slice (some ⟨w.heap.size, 0, none⟩) m m) (w.alloc (.cells cs.toArray e))) :
    AL P ⟨od, .buildSlice t m ps, T, pos, af, gd⟩ (tget tm) (.cells cs.toArray e) (fun b => .slice (some ⟨b, 0, none⟩) m m) := fun ρ w ha => by
  have e1 := evP_map (ρ := ρ) (fun p hp v hv => ha p.2 (by simp only [Op.operands, List.toList_toArray, List.mem_map]; exact ⟨p, hp, rfl⟩) v hv) h1
  have e2 : (ps.map fun (i, x) => (i, ρ x)) = vals.toArray := Array.ext' (by rw [Array.toList_map]; exact e1)
  unfold execOp
  simp only [e2]
  simp [Sem.run_bind, h3 w]
/-- A literal of one element that is a row: the row is kept as it was said. -/
theorem al_bs1 {od : Option Tmp} {t e : TypeId} {sz b' : Nat} {x : Operand} {cs : List Value} (hx : evT tm x = some (.agg cs.toArray)) (_ht : elemInfo P t = some (e, sz, b')) (h3 : ∀ w, (Instr.buildSlice t 1 #[(0, .agg cs.toArray)]).run P w = .ok (.slice (some ⟨w.heap.size, 0, none⟩) 1 1) (w.alloc (.cells cs.toArray e))) :
    AL P ⟨od, .buildSlice t 1 #[(0, x)], T, pos, af, gd⟩ (tget tm) (.cells cs.toArray e) (fun b => .slice (some ⟨b, 0, none⟩) 1 1) := fun ρ w ha => by
  have h1 := ha x (by simp [Op.operands]) _ hx
  unfold execOp
  simp only [List.map_toArray, List.map_cons, List.map_nil, h1]
  simp [Sem.run_bind, h3 w]
theorem JL_mc {o : Oper} {cs : List Value} {t : TypeId} {g : Nat → Value} (hd : o.dst = some d) (hn : Nat.blt d n = true) (hg : wantF ops o (tget tm) = some true) (hp : AL P o (tget tm) (.cells cs.toArray t) g) (h : ∀ b, JL P n W K F ops k rest ((d, g b) :: tm) (pts b cs t :: L)) : JL P n W K F ops k (o :: rest) tm L := JL_m hd hn hg hp h
theorem JD_mc {o : Oper} {cs : List Value} {t : TypeId} {g : Nat → Value} (hd : o.dst = some d) (hg : wantF ops o (tget tm) = some true) (hk : kindOp o.op = 1) (hp : AL P o (tget tm) (.cells cs.toArray t) g) (h : ∀ b, JD P n W K F ops k nx rest ((d, g b) :: tm) S (pts b cs t :: M)) : JD P n W K F ops k nx (o :: rest) tm S M := JD_m hd hg hk hp h

/-! Writes. -/
theorem wp_done {o : Oper} {a : Act} {w w' : World} {next : Act → World → Prop} (hr : (execOp a.eval o).run P w = .ok .skip w') (h : next (a.put o.dst undef) w') : wpI P o a w next := wpI_of_wp (by
  unfold Oper.wp
  rw [hr]
  exact h)
def one (v : Value) (L0 : List HP) : Value → List HP → Prop := fun u L' => u = v ∧ L' = L0
theorem ae_stG {od : Option Tmp} {t : TypeId} {x y : Operand} {p : Addr} {v : Value} {C L0 : List HP} (hx : evT tm x = some (.pointer (some p))) (hy : evT tm y = some v) (h : ∀ W K' w, K.le K' → Ow W K' (C ++ R) w → ∃ w', (storeVar t p v).run P w = .ok () w' ∧ Ow W K' (L0 ++ R) w') : AE P n K R C ⟨od, .store t x y, T, pos, af, gd⟩ (tget tm) (one undef L0) := fun W K' w a next hK hf hO hn => by
  obtain ⟨w', h1, h2⟩ := h W K' w hK hO
  refine wp_done (w' := w') ?_ (hn undef L0 w' ⟨rfl, rfl⟩ h2)
  unfold execOp
  simp only [hf.eval hx, hf.eval hy]
  simp [Instr.storeAt, Instr.sureAddr, Sem.run_bind, h1]
theorem ae_st {od : Option Tmp} {t T' : TypeId} {x y : Operand} {b i : Nat} {cs cs' : List Value} {v : Value} (hx : evT tm x = some (.pointer (some ⟨b, i, none⟩))) (hy : evT tm y = some v) (ht : cellTy P t = true) (h1 : v.oneCell' = true) (hs : SetAt cs i v cs') : AE P n K R [pts b cs T'] ⟨od, .store t x y, T, pos, af, gd⟩ (tget tm) (one undef [pts b cs' T']) :=
  ae_stG hx hy fun W K' w _ hO => by
    have hb := hO.blk .here
    have hl := hs.eq.2
    exact ⟨_, run_store_cell ht (show w.cell? ⟨b, i, none⟩ = some cs[i] by rw [hb.cell]; simp [hl]) (hb.free i) h1, hO.set .here hs⟩
theorem run_store_row {t : TypeId} {w : World} {b o : Nat} {cs vs : List Value} {T' : TypeId} {W : World} {K : Hl} {R : List HP} (hO : Ow W K (pts b cs T' :: R) w) (ht : rowTy P t vs.length = true) (hl : o + vs.length ≤ cs.length) (h1 : vs.all (·.oneCell') = true) : ∃ w', (storeVar t ⟨b, o, none⟩ (.agg vs.toArray)).run P w = .ok () w' ∧ Ow W K (pts b (splice cs.toArray o vs).toList T' :: R) w' := by
  have hr : ∃ i, P.info? t = some i ∧ i.size = vs.length := by
    unfold rowTy at ht
    cases hu : P.underlying t with
    | none => simp [hu] at ht
    | some d =>
      cases hi : P.info? t with
      | none => simp [hu, hi] at ht
      | some i => simp [hu, hi] at ht; exact ⟨i, rfl, ht.2⟩
  obtain ⟨i, hi, hsz⟩ := hr
  have hth := (hO.blk .here).there o vs.length (by simpa using hl)
  have hs := run_storeCells_cells (P := P) b o vs 0 w (fun j hj => by simpa using (hth j hj).1) (fun j hj => by simpa using (hth j hj).2) (by simpa using h1)
  simp only [Nat.add_zero] at hs
  refine ⟨w.setCells b o vs, ?_, hO.setCells vs o .here hl⟩
  simp [storeVar, Sem.run_bind, run_sz hi, Value.cells, hsz, hs]
theorem ae_stW {od : Option Tmp} {t T' : TypeId} {x y : Operand} {b : Nat} {cs vs : List Value} (hx : evT tm x = some (.pointer (some ⟨b, 0, none⟩))) (hy : evT tm y = some (.agg vs.toArray)) (ht : rowTy P t vs.length = true) (hl : vs.length = cs.length) (h1 : vs.all (·.oneCell') = true) : AE P n K R [pts b cs T'] ⟨od, .store t x y, T, pos, af, gd⟩ (tget tm) (one undef [pts b vs T']) :=
  ae_stG hx hy fun W K' w _ hO => by
    obtain ⟨w', h2, h3⟩ := run_store_row (t := t) hO ht (o := 0) (by omega) h1
    rw [splice_full cs.toArray vs (by simpa using hl)] at h3
    exact ⟨w', h2, by simpa using h3⟩
/-- A part of a block is written: vs from place i on. -/
inductive Put : List Value → Nat → List Value → List Value → Prop
  | e {r : List Value} : Put r 0 [] r
  | t {x v : Value} {r vs r' : List Value} : Put r 0 vs r' → Put (x :: r) 0 (v :: vs) (v :: r')
  | s {x : Value} {r vs r' : List Value} {i : Nat} : Put r i vs r' → Put (x :: r) (i + 1) vs (x :: r')
theorem Put.eq {r vs r' : List Value} {i : Nat} (h : Put r i vs r') : r' = (splice r.toArray i vs).toList ∧ i + vs.length ≤ r.length := by
  have key : i + vs.length ≤ r.length ∧ r'.length = r.length ∧ ∀ j, r'[j]? = if i ≤ j ∧ j < i + vs.length then vs[j - i]? else r[j]? := by
    induction h with
    | e => exact ⟨by simp, rfl, fun j => by rw [if_neg (by simp)]⟩
    | t _ ih =>
      obtain ⟨h1, h2, h3⟩ := ih
      refine ⟨by simp at h1 ⊢; omega, by simp [h2], fun j => ?_⟩
      cases j with
      | zero => simp
      | succ j =>
        have := h3 j
        simp only [Nat.zero_le, true_and, Nat.zero_add, Nat.sub_zero] at this
        simp only [List.getElem?_cons_succ, this, List.length_cons, Nat.zero_le, true_and, Nat.zero_add, Nat.sub_zero]
        split
        · rw [if_pos (by omega)]
        · rw [if_neg (by omega)]
    | s _ ih =>
      obtain ⟨h1, h2, h3⟩ := ih
      refine ⟨by simp at h1 ⊢; omega, by simp [h2], fun j => ?_⟩
      cases j with
      | zero => rw [if_neg (by omega)]; rfl
      | succ j =>
        simp only [List.getElem?_cons_succ, h3 j]
        split
        · rename_i hj
          rw [if_pos (by omega)]
          congr 1
          omega
        · rename_i hj
          rw [if_neg (by omega)]
  refine ⟨?_, key.1⟩
  apply List.ext_getElem?
  intro j
  have h2 := splice_get vs i r.toArray j (by simpa using key.1)
  rw [key.2.2 j, Array.getElem?_toList (xs := splice r.toArray i vs), h2]
  simp
theorem ae_stS {od : Option Tmp} {t T' : TypeId} {x y : Operand} {b i : Nat} {cs vs cs' : List Value} (hx : evT tm x = some (.pointer (some ⟨b, i, none⟩))) (hy : evT tm y = some (.agg vs.toArray)) (ht : rowTy P t vs.length = true) (hp : Put cs i vs cs') (h1 : vs.all (·.oneCell') = true) : AE P n K R [pts b cs T'] ⟨od, .store t x y, T, pos, af, gd⟩ (tget tm) (one undef [pts b cs' T']) :=
  ae_stG hx hy fun W K' w _ hO => by
    obtain ⟨w', h2, h3⟩ := run_store_row (t := t) hO ht hp.eq.2 h1
    rw [hp.eq.1]
    exact ⟨w', h2, h3⟩
/-- An element of a slice of the call's own is written. -/
theorem ae_stE {α : Type} {enc : α → List Value} {od : Option Tmp} {t e : TypeId} {x y : Operand} {a : Option Addr} {m c j off sz : Nat} {es : List α} {z z' : α} {vs : List Value} {v : Value} (hx : evT tm x = some (.pointer (some (elA a j sz off)))) (hy : evT tm y = some v) (hv : cellsL v = vs) (hl : ∀ x, (enc x).length = sz) (hz : Nat.blt 0 sz = true) (hj : es[j]? = some z) (ht : (P.info? t).map (·.size) = some vs.length) (hp : enc z' = (splice (enc z).toArray off vs).toList) (ho : off + vs.length ≤ sz) (h1 : vs.all (·.oneCell') = true) :
    AE P n K R [Ar e sz enc (.slice a m c) es] ⟨od, .store t x y, T, pos, af, gd⟩ (tget tm) (one undef [Ar e sz enc (.slice a m c) (es.set j z')]) :=
  ae_stG hx hy fun W K' w _ hO => by
    have hlt := (List.getElem?_eq_some_iff.1 hj).1
    have hmm : m = es.length := by
      obtain ⟨_, a', c', he, _⟩ := Ow.slShape hO .here
      injection he
    subst hmm
    have hzz : 0 < sz := by simpa using hz
    obtain ⟨g, cur, rfl, H2, hcl, hct, hnc, hcm⟩ := hO.slOpen .here (by omega)
    have hsz1 : (j + 1) * sz ≤ es.length * sz := Nat.mul_le_mul_right _ hlt
    have hsz2 : es.length * sz ≤ cur.length := by rw [hcl]; exact Nat.mul_le_mul_right _ hnc
    have e1 : (j + 1) * sz = j * sz + sz := Nat.succ_mul j sz
    obtain ⟨inf, hi, hs⟩ : ∃ i, P.info? t = some i ∧ i.size = vs.length := by
      cases hq : P.info? t with
      | none => simp [hq] at ht
      | some i => exact ⟨i, rfl, by simpa [hq] using ht⟩
    have hth := (H2.blk .here).there (j * sz + off) vs.length (by simp; omega)
    have hst := run_storeCells_cells (P := P) g (j * sz + off) vs 0 w (fun j hj => by simpa using (hth j hj).1) (fun j hj => by simpa using (hth j hj).2) (by simpa using h1)
    simp only [Nat.add_zero] at hst
    have hvc : v.cells.toList = vs := by rw [← hv]; cases v <;> rfl
    refine ⟨w.setCells g (j * sz + off) vs, ?_, ?_⟩
    · have hsz3 : v.cells.size = vs.length := by rw [← hvc]; simp
      rw [elA_some, Nat.zero_add]
      simp [storeVar, Sem.run_bind, run_sz hi, hsz3, hs, hvc, hst]
    · have H3 := H2.setCells vs (j * sz + off) .here (by omega)
      have hset : ∀ i u, (es.set j z')[i]? = some u → u = if i = j then z' else (es[i]?).getD u := by
        intro i u hu
        rw [List.getElem?_set] at hu
        by_cases hij : j = i
        · subst hij; simp [hlt] at hu; simp [hu]
        · rw [if_neg hij] at hu; simp [Ne.symm hij, hu]
      have hlen : (es.set j z').length = es.length := by simp
      have hx : (splice cur.toArray (j * sz + off) vs).toList.take (es.length * sz) = flat enc (es.set j z') := by
        rw [← hlen]
        refine take_rows hl (es.set j z') (by rw [hlen, Array.length_toList (xs := splice cur.toArray (j * sz + off) vs), splice_size]; simpa using hsz2) fun i hi => ?_
        have hi' : i < es.length := by simpa using hi
        have hri := rows_of hl hct i hi'
        have e2 : (i + 1) * sz = i * sz + sz := Nat.succ_mul i sz
        have hsz4 : (i + 1) * sz ≤ es.length * sz := Nat.mul_le_mul_right _ hi'
        apply List.ext_getElem?
        intro q
        by_cases hq : q < sz
        · rw [rowOf_get hq, Array.getElem?_toList (xs := splice cur.toArray (j * sz + off) vs), splice_get vs (j * sz + off) cur.toArray (i * sz + q) (by simp; omega)]
          by_cases hij : i = j
          · subst hij
            rw [List.getElem_set_self, hp, Array.getElem?_toList (xs := splice (enc z).toArray off vs), splice_get vs off (enc z).toArray q (by simp [hl]; omega)]
            have hz2 : enc z = rowOf sz cur i := by
              rw [hri]
              rw [List.getElem?_eq_getElem hi'] at hj
              cases hj; rfl
            by_cases hoff : off ≤ q ∧ q < off + vs.length
            · rw [if_pos (by omega), if_pos hoff, show i * sz + q - (i * sz + off) = q - off by omega]
            · rw [if_neg (by omega), if_neg hoff, hz2]
              simp [rowOf_get hq]
          · have hne : ¬ (j * sz + off ≤ i * sz + q ∧ i * sz + q < j * sz + off + vs.length) := by
              rintro ⟨h2, h3⟩
              rcases Nat.lt_or_ge i j with h4 | h4
              · have : (i + 1) * sz ≤ j * sz := Nat.mul_le_mul_right _ h4
                omega
              · have : (j + 1) * sz ≤ i * sz := Nat.mul_le_mul_right _ (by omega)
                omega
            rw [if_neg hne, List.getElem_set_ne (Ne.symm hij), ← hri, rowOf_get hq]
            simp
        · have l1 : (rowOf sz (splice cur.toArray (j * sz + off) vs).toList i).length ≤ sz := by unfold rowOf; rw [List.length_take]; omega
          rw [List.getElem?_eq_none (by omega), List.getElem?_eq_none (by rw [hl]; omega)]
      have H4 := H3.slShut (n := es.length) (cap := c) .here (by rw [Array.length_toList (xs := splice cur.toArray (j * sz + off) vs), splice_size]; simpa using hcl) hx hnc hcm
      show Ow W K' (Sl e sz _ (es.set j z').length (flat enc (es.set j z')) :: R) _
      rw [hlen]
      exact H4
end
end Go.Pm
namespace Go.Pm
set_option linter.unusedSimpArgs false
set_option linter.unusedVariables false
open Go.RowKit

section
variable {P : Program} {n : Nat} {W : World} {K : Hl} {F : Fp} {k : List It} {tm : TM} {L L' R S M C : List HP} {T : TypeId} {pos : String} {af : Array Edge} {gd : Option (Nat × Bool)} {ops : Array Oper} {rest : List Oper} {d : Tmp}

/-! Append. -/
def AppR {α : Type} (e : TypeId) (sz : Nat) (enc : α → List Value) (m : Nat) (es : List α) (l : Nat) : Value → List HP → Prop := fun u L' => ∃ ad c, l + m ≤ c ∧ c ≤ maxLen ∧ u = .slice ad (l + m) c ∧ L' = [Ar e sz enc (.slice ad (l + m) c) es]
theorem ae_app {α : Type} {enc : α → List Value} {od : Option Tmp} {t e : TypeId} {sz bytes m : Nat} {s x : Operand} {v y : Value} {es fs : List α} (E : El P t e sz bytes) (hs : evT tm s = some v) (hx : evT tm x = some y) (hv : Src K R y sz m (flat enc fs)) (hl : ∀ x, (enc x).length = sz) (h1 : ∀ u ∈ flat enc fs, u.oneCell' = true) (hb : (es.length + m) * bytes ≤ 140737488355328) :
    AE P n K R [Ar e sz enc v es] ⟨od, .call ⟨.builtin .append, #[s, x], #[t, t]⟩, T, pos, af, gd⟩ (tget tm) (AppR e sz enc m (es ++ fs) es.length) := fun W K' w a next hK hf hO hn => by
  have hown : w.ownsRow 0 e sz v es.length (flat enc es) := Ow.owns hO .here
  have hv := hv w ((Ow.rdw (M := [Ar e sz enc v es]) hO).le hK)
  obtain ⟨ad, cap, rfl, hlen, hnc, hcm, hnn, hvv⟩ := hv
  have hm : fs.length = m := Nat.eq_of_mul_eq_mul_right E.pos (by rw [flat_length hl] at hlen; exact hlen)
  have key : ∀ v' w', Bld e sz 0 w w' v v' (es.length + m) (flat enc es ++ flat enc fs) → next (a.put od v') w' := fun v' w' hbld => by
    have H2 : Ow W K' (Sl e sz v' (es.length + m) (flat enc es ++ flat enc fs) :: R) w' := Ow.bld hO hbld
    obtain ⟨_, ad', c', rfl, h3, h4⟩ := H2.slShape .here
    refine hn _ _ w' ⟨ad', c', h3, h4, rfl, rfl⟩ ?_
    show Ow W K' (Sl e sz _ (es ++ fs).length (flat enc (es ++ fs)) :: R) w'
    rw [List.length_append, hm, flat_append]
    exact H2
  refine wpI_of_wp ?_
  unfold Oper.wp execOp
  cases ad with
  | none =>
    obtain ⟨rfl, rfl⟩ := hnn rfl
    have hfs : fs = [] := List.eq_nil_of_length_eq_zero hm
    subst hfs
    obtain ⟨i, z, hi, _⟩ := E.inf
    have hrun := run_append_owned_none (P := P) (w := w) 0 t T e i sz E.sl hi v es.length (flat enc es) hown
    simp only [resolve, invoke, builtin, Sem.run_bind, Sem.run_pure, Result.andThen_ok, List.map_toArray, List.map_cons, List.map_nil, hf.eval hs, hf.eval hx, hrun]
    exact key v w (by have := Bld.refl hown; simpa [flat] using this)
  | some ad =>
    have hcells : ∀ j u, (flat enc fs)[j]? = some u → w.cell? (ad.add j) = some u := by
      intro j u hu
      obtain ⟨b, off, he, hc⟩ := hvv (by intro h0; rw [h0] at hu; simp at hu)
      cases he
      rw [addr_add_plain]
      exact hc j u hu
    obtain ⟨v', w', hr, hbld⟩ := run_app E T hown ad m cap (flat enc fs) hlen hcells h1 hb (Nat.zero_le _)
    simp only [resolve, invoke, builtin, Sem.run_bind, Sem.run_pure, Result.andThen_ok, List.map_toArray, List.map_cons, List.map_nil, hf.eval hs, hf.eval hx, hr]
    exact key v' w' hbld
theorem flat_one {α : Type} (enc : α → List Value) (y : α) : flat enc [y] = enc y := by simp [flat]
theorem all_one {α : Type} {enc : α → List Value} (fs : List α) (h : ∀ y ∈ fs, (enc y).all (·.oneCell') = true) : ∀ u ∈ flat enc fs, u.oneCell' = true := by
  intro u hu
  obtain ⟨y, hy, hu⟩ := List.mem_flatMap.1 hu
  exact List.all_eq_true.1 (h y hy) u hu
/-- Append of a literal of one element. -/
theorem ae_ap1 {α : Type} {enc : α → List Value} {od : Option Tmp} {t e T' : TypeId} {sz bytes g : Nat} {s x : Operand} {v : Value} {es : List α} {y : α} {cs : List Value} {R' : List HP} (E : El P t e sz bytes) (hs : evT tm s = some v) (hx : evT tm x = some (.slice (some ⟨g, 0, none⟩) 1 1)) (hg : Tk R (pts g cs T') R') (hy : cs = enc y) (hl : ∀ x, (enc x).length = sz) (h1 : cs.all (·.oneCell') = true) (hb : (es.length + 1) * bytes ≤ 140737488355328) :
    AE P n K R [Ar e sz enc v es] ⟨od, .call ⟨.builtin .append, #[s, x], #[t, t]⟩, T, pos, af, gd⟩ (tget tm) (AppR e sz enc 1 (es ++ [y]) es.length) :=
  ae_app E hs hx (by rw [flat_one, ← hy]; exact Src.lit hg (by rw [hy, hl]; omega) (by simp [maxLen])) hl (by rw [flat_one, ← hy]; exact List.all_eq_true.1 h1) hb
def elOk (P : Program) (t e : TypeId) (sz bytes : Nat) : Bool := match elemInfo P t with
  | some (e', s', b') => e' == e && s' == sz && b' == bytes && Nat.blt 0 sz && Nat.blt 0 bytes && (match P.info? e with
    | some i => match i.zero with
      | some z => z.cells.size == sz
      | none => false
    | none => false)
  | none => false
theorem El.ofOk {t e : TypeId} {sz bytes : Nat} (h : elOk P t e sz bytes = true) : El P t e sz bytes := by
  unfold elOk at h
  split at h
  · rename_i e' s' b' he
    simp only [Bool.and_eq_true, beq_iff_eq] at h
    obtain ⟨⟨⟨⟨⟨rfl, rfl⟩, rfl⟩, h0⟩, h1⟩, h2⟩ := h
    split at h2
    · rename_i i hi
      split at h2
      · rename_i z hz
        obtain ⟨i', hu, hi', hs, hb⟩ := elemInfo_spec he
        rw [hi] at hi'
        cases hi'
        exact ⟨hu, ⟨i, z, hi, hz, hs, hb, by simpa using h2⟩, by simpa using h0, by simpa using h1⟩
      · cases h2
    · cases h2
  · cases h

/-! Calls. -/
theorem Sb.all : ∀ (A R : List HP), Sb (A ++ R) A R
  | [], _ => .nil
  | _ :: A, R => .cons .here (Sb.all A R)
def ownB (P : Program) (f : FuncId) : Bool := match P.funcs[f]? with
  | some fn => fn.name != "runtime.NumGoroutine" && fn.body.isSome
  | none => false
theorem run_own {f : FuncId} (h : ownB P f = true) (args : Array Value) (w : World) : (callFunc f args).run P w = .ok (.enter f args) w := by
  unfold ownB at h
  split at h
  · rename_i fn hfn
    simp only [Bool.and_eq_true, bne_iff_ne, ne_eq] at h
    obtain ⟨b, hb⟩ := Option.isSome_iff_exists.1 h.2
    simp [callFunc, Sem.run_bind, hfn, h.1, hb]
  · cases h
theorem Kr.of {φ : World → Prop} (h : ∀ w, Rdw K R w → φ w) : Kr K R φ := fun x s d w i => h w ⟨((Hl.inn_add d.symm).1 i).1, x, s, d, ((Hl.inn_add d.symm).1 i).2⟩
theorem mapM_eval {a : Act} {f : TF} (hf : Fit n f a) : ∀ {l : List Operand} {r : List Value}, l.mapM (evF f) = some r → l.map a.eval = r
  | [], r, h => by simpa using h
  | x :: l, r, h => by
    simp only [List.mapM_cons, Option.pure_def, Option.bind_eq_bind, Option.bind_eq_some_iff, Option.some.injEq] at h
    obtain ⟨v, hv, r', hr, rfl⟩ := h
    simp [hf.eval hv, mapM_eval hf hr]
theorem ae_go {od : Option Tmp} {c : Operand} {xs : Array Operand} {ts : Array TypeId} {f : FuncId} {first caps : Array Value} {us vs : List Value} {φ : World → Prop} {Rr : Value → List HP → Prop} (hc : evT tm c = some (.func (.func f) first caps)) (ha : xs.toList.mapM (evT tm) = some us) (hv : (first ++ us.toArray ++ caps).toList = vs) (ho : ownB P f = true) (Sp : Pact P f vs.toArray φ C Rr) (hφ : ∀ w, Rdw K R w → φ w) :
    AE P n K R C ⟨od, .call ⟨.value c, xs, ts⟩, T, pos, af, gd⟩ (tget tm) Rr := fun W K' w a next hK hf hO hn => by
  have e1 : xs.map a.eval = us.toArray := Array.ext' (by rw [Array.toList_map]; exact mapM_eval hf ha)
  have e2 : first ++ us.toArray ++ caps = vs.toArray := Array.ext' hv
  refine wpI_of_wp ?_
  unfold Oper.wp execOp
  simp only [resolve, e1, hf.eval hc, Deferred.ofValue, Sem.run_bind, Sem.run_pure, Result.andThen_ok, invoke, e2, run_own ho]
  refine Sp.call hO (Sb.all _ _) (Kr.of fun w h => hφ w (h.le hK)) fun v L' hr w' H' => hn v L' w' hr H'
end
end Go.Pm
namespace Go.Pm
set_option linter.unusedSimpArgs false
set_option linter.unusedVariables false
open Go.RowKit

theorem Tk.app {L M : List HP} {A : HP} (h : Tk L A M) (S : List HP) : Tk (L ++ S) A (M ++ S) := by
  induction h with
  | here => exact .here
  | there _ ih => exact .there ih
theorem il0 : (0 : Int) = ((0 : Nat) : Int) := rfl
theorem il1 : (1 : Int) = ((1 : Nat) : Int) := rfl
theorem il2 : (2 : Int) = ((2 : Nat) : Int) := rfl
theorem il3 : (3 : Int) = ((3 : Nat) : Int) := rfl
theorem ic_succ (n : Nat) : (n : Int) + 1 = ((n + 1 : Nat) : Int) := rfl
def guardSlot (ops : Array Oper) (j : Nat) : Option Tmp := (ops[j]?).bind (·.dst)

section
variable {P : Program} {n : Nat} {W : World} {K : Hl} {F : Fp} {k : List It} {tm : TM} {L L' R R' S M M' C : List HP} {T : TypeId} {pos : String} {af : Array Edge} {gd : Option (Nat × Bool)} {ops : Array Oper} {rest nx : List Oper} {d : Tmp} {op : Op} {g : Nat × Bool}

theorem JL_skip (hg : wantF ops ⟨some d, op, T, pos, af, some g⟩ (tget tm) = some false) (hn : Nat.blt d n = true) (h : JL P n W K F ops k rest ((d, undef) :: tm) L) : JL P n W K F ops k (⟨some d, op, T, pos, af, some g⟩ :: rest) tm L :=
  JL_no hg (by simpa [inB] using hn) (fun _ h => (Option.some.inj h).symm) h (fun h => by cases h)
theorem JD_skip (hg : wantF ops ⟨some d, op, T, pos, af, some g⟩ (tget tm) = some false) (h : JD P n W K F ops k nx rest ((d, undef) :: tm) S M) : JD P n W K F ops k nx (⟨some d, op, T, pos, af, some g⟩ :: rest) tm S M := JD_no hg rfl h
theorem JL_guard {t : Tmp} {od : Option Tmp} {p : Prop} [Decidable p] (hs : guardSlot ops g.1 = some t) (hc : tget tm t = some (.bool (decide p))) (h1 : p → JL P n W K F ops k (⟨od, op, T, pos, af, some g⟩ :: rest) ((t, .bool true) :: tm) L) (h2 : ¬ p → JL P n W K F ops k (⟨od, op, T, pos, af, some g⟩ :: rest) ((t, .bool false) :: tm) L) : JL P n W K F ops k (⟨od, op, T, pos, af, some g⟩ :: rest) tm L := JL_split hc h1 h2
theorem JL_guardb {t : Tmp} {od : Option Tmp} {b : Bool} (hs : guardSlot ops g.1 = some t) (hc : tget tm t = some (.bool b)) (h1 : b = true → JL P n W K F ops k (⟨od, op, T, pos, af, some g⟩ :: rest) ((t, .bool true) :: tm) L) (h2 : b = false → JL P n W K F ops k (⟨od, op, T, pos, af, some g⟩ :: rest) ((t, .bool false) :: tm) L) : JL P n W K F ops k (⟨od, op, T, pos, af, some g⟩ :: rest) tm L := JL_splitb hc h1 h2
theorem JD_guard {t : Tmp} {od : Option Tmp} {p : Prop} [Decidable p] (hs : guardSlot ops g.1 = some t) (hc : tget tm t = some (.bool (decide p))) (h1 : p → JD P n W K F ops k nx (⟨od, op, T, pos, af, some g⟩ :: rest) ((t, .bool true) :: tm) S M) (h2 : ¬ p → JD P n W K F ops k nx (⟨od, op, T, pos, af, some g⟩ :: rest) ((t, .bool false) :: tm) S M) : JD P n W K F ops k nx (⟨od, op, T, pos, af, some g⟩ :: rest) tm S M := JD_split hc h1 h2
theorem JD_guardb {t : Tmp} {od : Option Tmp} {b : Bool} (hs : guardSlot ops g.1 = some t) (hc : tget tm t = some (.bool b)) (h1 : b = true → JD P n W K F ops k nx (⟨od, op, T, pos, af, some g⟩ :: rest) ((t, .bool true) :: tm) S M) (h2 : b = false → JD P n W K F ops k nx (⟨od, op, T, pos, af, some g⟩ :: rest) ((t, .bool false) :: tm) S M) : JD P n W K F ops k nx (⟨od, op, T, pos, af, some g⟩ :: rest) tm S M := JD_splitb hc h1 h2

/-! Elements. -/
section
variable {ty : TypeId} {x : Operand} {a : Option Addr} {m c sz n' j : Nat} {α : Type} {enc : α → List Value} {es : List α}
end

/-! Stores. -/
section
variable {t T' : TypeId} {x y : Operand} {b i : Nat} {cs cs' vs : List Value} {v : Value}
theorem JL_st (hx : evT tm x = some (.pointer (some ⟨b, i, none⟩))) (hy : evT tm y = some v) (hm : Tk L (pts b cs T') R) (ht : cellTy P t = true) (h1 : v.oneCell' = true) (hs : SetAt cs i v cs') (hg : wantF ops ⟨none, .store t x y, T, pos, af, gd⟩ (tget tm) = some true) (h : JL P n W K F ops k rest tm (pts b cs' T' :: R)) : JL P n W K F ops k (⟨none, .store t x y, T, pos, af, gd⟩ :: rest) tm L :=
  JL_a0 rfl hg (.cons hm .nil) (ae_st hx hy ht h1 hs) (by rintro _ _ ⟨rfl, rfl⟩; exact h)
theorem JL_stW (hx : evT tm x = some (.pointer (some ⟨b, 0, none⟩))) (hy : evT tm y = some (.agg vs.toArray)) (hm : Tk L (pts b cs T') R) (ht : rowTy P t vs.length = true) (hl : vs.length = cs.length) (h1 : vs.all (·.oneCell') = true) (hg : wantF ops ⟨none, .store t x y, T, pos, af, gd⟩ (tget tm) = some true) (h : JL P n W K F ops k rest tm (pts b vs T' :: R)) : JL P n W K F ops k (⟨none, .store t x y, T, pos, af, gd⟩ :: rest) tm L :=
  JL_a0 rfl hg (.cons hm .nil) (ae_stW hx hy ht hl h1) (by rintro _ _ ⟨rfl, rfl⟩; exact h)
theorem JL_stS (hx : evT tm x = some (.pointer (some ⟨b, i, none⟩))) (hy : evT tm y = some (.agg vs.toArray)) (hm : Tk L (pts b cs T') R) (ht : rowTy P t vs.length = true) (hp : Put cs i vs cs') (h1 : vs.all (·.oneCell') = true) (hg : wantF ops ⟨none, .store t x y, T, pos, af, gd⟩ (tget tm) = some true) (h : JL P n W K F ops k rest tm (pts b cs' T' :: R)) : JL P n W K F ops k (⟨none, .store t x y, T, pos, af, gd⟩ :: rest) tm L :=
  JL_a0 rfl hg (.cons hm .nil) (ae_stS hx hy ht hp h1) (by rintro _ _ ⟨rfl, rfl⟩; exact h)
theorem JD_st (hx : evT tm x = some (.pointer (some ⟨b, i, none⟩))) (hy : evT tm y = some v) (hm : Tk M (pts b cs T') R) (ht : cellTy P t = true) (h1 : v.oneCell' = true) (hs : SetAt cs i v cs') (hg : wantF ops ⟨none, .store t x y, T, pos, af, gd⟩ (tget tm) = some true) (h : JD P n W K F ops k nx rest tm S (pts b cs' T' :: R)) : JD P n W K F ops k nx (⟨none, .store t x y, T, pos, af, gd⟩ :: rest) tm S M :=
  JD_a0 rfl hg rfl (.cons hm .nil) (ae_st hx hy ht h1 hs) (by rintro _ _ ⟨rfl, rfl⟩; exact h)
theorem JD_stW (hx : evT tm x = some (.pointer (some ⟨b, 0, none⟩))) (hy : evT tm y = some (.agg vs.toArray)) (hm : Tk M (pts b cs T') R) (ht : rowTy P t vs.length = true) (hl : vs.length = cs.length) (h1 : vs.all (·.oneCell') = true) (hg : wantF ops ⟨none, .store t x y, T, pos, af, gd⟩ (tget tm) = some true) (h : JD P n W K F ops k nx rest tm S (pts b vs T' :: R)) : JD P n W K F ops k nx (⟨none, .store t x y, T, pos, af, gd⟩ :: rest) tm S M :=
  JD_a0 rfl hg rfl (.cons hm .nil) (ae_stW hx hy ht hl h1) (by rintro _ _ ⟨rfl, rfl⟩; exact h)
theorem JD_stS (hx : evT tm x = some (.pointer (some ⟨b, i, none⟩))) (hy : evT tm y = some (.agg vs.toArray)) (hm : Tk M (pts b cs T') R) (ht : rowTy P t vs.length = true) (hp : Put cs i vs cs') (h1 : vs.all (·.oneCell') = true) (hg : wantF ops ⟨none, .store t x y, T, pos, af, gd⟩ (tget tm) = some true) (h : JD P n W K F ops k nx rest tm S (pts b cs' T' :: R)) : JD P n W K F ops k nx (⟨none, .store t x y, T, pos, af, gd⟩ :: rest) tm S M :=
  JD_a0 rfl hg rfl (.cons hm .nil) (ae_stS hx hy ht hp h1) (by rintro _ _ ⟨rfl, rfl⟩; exact h)
end

/-! A whole element of a slice of the call's own is written. -/
section
variable {α : Type} {enc : α → List Value} {t e : TypeId} {x y : Operand} {a : Option Addr} {m c j sz : Nat} {es : List α} {z' : α} {v : Value}
theorem ae_stEl (hx : evT tm x = some (.pointer (some (elA a j sz 0)))) (hy : evT tm y = some v) (hv : cellsL v = enc z') (hl : ∀ x, (enc x).length = sz) (hz : Nat.blt 0 sz = true) (hj : j < es.length) (ht : (P.info? t).map (·.size) = some sz) (h1 : (enc z').all (·.oneCell') = true) {od : Option Tmp} :
    AE P n K R [Ar e sz enc (.slice a m c) es] ⟨od, .store t x y, T, pos, af, gd⟩ (tget tm) (one undef [Ar e sz enc (.slice a m c) (es.set j z')]) :=
  ae_stE (z := es[j]) hx hy hv hl hz (List.getElem?_eq_getElem hj) (by rw [hl]; exact ht) (by rw [splice_full _ _ (by simp [hl])]) (by simp [hl]) h1
theorem JL_stEl (hx : evT tm x = some (.pointer (some (elA a j sz 0)))) (hy : evT tm y = some v) (hm : Tk L (Ar e sz enc (.slice a m c) es) R) (hv : cellsL v = enc z') (hl : ∀ x, (enc x).length = sz) (hz : Nat.blt 0 sz = true) (ht : (P.info? t).map (·.size) = some sz) (h1 : (enc z').all (·.oneCell') = true) (hg : wantF ops ⟨none, .store t x y, T, pos, af, gd⟩ (tget tm) = some true) (hj : j < es.length)
    (h : JL P n W K F ops k rest tm (Ar e sz enc (.slice a m c) (es.set j z') :: R)) : JL P n W K F ops k (⟨none, .store t x y, T, pos, af, gd⟩ :: rest) tm L :=
  JL_a0 rfl hg (.cons hm .nil) (ae_stEl hx hy hv hl hz hj ht h1) (by rintro _ _ ⟨rfl, rfl⟩; exact h)
theorem JD_stEl (hx : evT tm x = some (.pointer (some (elA a j sz 0)))) (hy : evT tm y = some v) (hm : Tk M (Ar e sz enc (.slice a m c) es) R) (hv : cellsL v = enc z') (hl : ∀ x, (enc x).length = sz) (hz : Nat.blt 0 sz = true) (ht : (P.info? t).map (·.size) = some sz) (h1 : (enc z').all (·.oneCell') = true) (hg : wantF ops ⟨none, .store t x y, T, pos, af, gd⟩ (tget tm) = some true) (hj : j < es.length)
    (h : JD P n W K F ops k nx rest tm S (Ar e sz enc (.slice a m c) (es.set j z') :: R)) : JD P n W K F ops k nx (⟨none, .store t x y, T, pos, af, gd⟩ :: rest) tm S M :=
  JD_a0 rfl hg rfl (.cons hm .nil) (ae_stEl hx hy hv hl hz hj ht h1) (by rintro _ _ ⟨rfl, rfl⟩; exact h)
end

/-! Append. -/
section
variable {α : Type} {enc : α → List Value} {t e T' : TypeId} {sz bytes m b : Nat} {s x : Operand} {v y : Value} {es fs : List α} {z : α} {cs : List Value}
theorem JL_ap1 (hi : elemInfo P t = some (e, sz, bytes)) (hs : evT tm s = some v) (hx : evT tm x = some (.slice (some ⟨b, 0, none⟩) 1 1)) (hm : Tk L (Ar e sz enc v es) R) (hb : Tk R (pts b cs T') R') (hok : elOk P t e sz bytes = true) (hy : cs = enc z) (hl : ∀ x, (enc x).length = sz) (h1 : cs.all (·.oneCell') = true) (hsz : (es.length + 1) * bytes ≤ 140737488355328)
    (hn : Nat.blt d n = true) (hg : wantF ops ⟨some d, .call ⟨.builtin .append, #[s, x], #[t, t]⟩, T, pos, af, gd⟩ (tget tm) = some true) (h : ∀ ad c, es.length + 1 ≤ c → c ≤ maxLen → JL P n W K F ops k rest ((d, .slice ad (es.length + 1) c) :: tm) (Ar e sz enc (.slice ad (es.length + 1) c) (es ++ [z]) :: R')) : JL P n W K F ops k (⟨some d, .call ⟨.builtin .append, #[s, x], #[t, t]⟩, T, pos, af, gd⟩ :: rest) tm L :=
  JL_a rfl hn hg (.cons hm .nil) (ae_ap1 (.ofOk hok) hs hx hb hy hl h1 hsz) (by
    rintro _ _ ⟨ad, c, h2, h3, rfl, rfl⟩
    refine ⟨fun a w hf hO => ?_⟩
    exact h ad c h2 h3 a w hf ((hO.perm ((hb.perm.cons _).trans (.swap ..))).drop))
theorem JD_ap1 (hi : elemInfo P t = some (e, sz, bytes)) (hs : evT tm s = some v) (hx : evT tm x = some (.slice (some ⟨b, 0, none⟩) 1 1)) (hm : Tk M (Ar e sz enc v es) R) (hb : Tk R (pts b cs T') R') (hok : elOk P t e sz bytes = true) (hy : cs = enc z) (hl : ∀ x, (enc x).length = sz) (h1 : cs.all (·.oneCell') = true) (hsz : (es.length + 1) * bytes ≤ 140737488355328)
    (hg : wantF ops ⟨some d, .call ⟨.builtin .append, #[s, x], #[t, t]⟩, T, pos, af, gd⟩ (tget tm) = some true) (h : ∀ ad c, es.length + 1 ≤ c → c ≤ maxLen → JD P n W K F ops k nx rest ((d, .slice ad (es.length + 1) c) :: tm) S (Ar e sz enc (.slice ad (es.length + 1) c) (es ++ [z]) :: R)) : JD P n W K F ops k nx (⟨some d, .call ⟨.builtin .append, #[s, x], #[t, t]⟩, T, pos, af, gd⟩ :: rest) tm S M :=
  JD_a rfl hg rfl (.cons hm .nil) (ae_app (R := R ++ S) (.ofOk hok) hs hx (by
    rw [flat_one, ← hy]
    have hb' := hb.app S
    exact Src.lit hb' (by rw [hy, hl]; omega) (by simp [maxLen])) hl (by rw [flat_one, ← hy]; exact List.all_eq_true.1 h1) hsz) (by
    rintro _ _ ⟨ad, c, h2, h3, rfl, rfl⟩
    exact h ad c h2 h3)
theorem JL_app (hi : elemInfo P t = some (e, sz, bytes)) (hs : evT tm s = some v) (hx : evT tm x = some y) (hm : Tk L (Ar e sz enc v es) R) (hv : Src K R y sz m (flat enc fs)) (hok : elOk P t e sz bytes = true) (hl : ∀ x, (enc x).length = sz) (h1 : ∀ u ∈ flat enc fs, u.oneCell' = true) (hsz : (es.length + m) * bytes ≤ 140737488355328)
    (hn : Nat.blt d n = true) (hg : wantF ops ⟨some d, .call ⟨.builtin .append, #[s, x], #[t, t]⟩, T, pos, af, gd⟩ (tget tm) = some true) (h : ∀ ad c, es.length + m ≤ c → c ≤ maxLen → JL P n W K F ops k rest ((d, .slice ad (es.length + m) c) :: tm) (Ar e sz enc (.slice ad (es.length + m) c) (es ++ fs) :: R)) : JL P n W K F ops k (⟨some d, .call ⟨.builtin .append, #[s, x], #[t, t]⟩, T, pos, af, gd⟩ :: rest) tm L :=
  JL_a rfl hn hg (.cons hm .nil) (ae_app (.ofOk hok) hs hx hv hl h1 hsz) (by
    rintro _ _ ⟨ad, c, h2, h3, rfl, rfl⟩
    exact h ad c h2 h3)
theorem JD_app (hi : elemInfo P t = some (e, sz, bytes)) (hs : evT tm s = some v) (hx : evT tm x = some y) (hm : Tk M (Ar e sz enc v es) R) (hv : Src K (R ++ S) y sz m (flat enc fs)) (hok : elOk P t e sz bytes = true) (hl : ∀ x, (enc x).length = sz) (h1 : ∀ u ∈ flat enc fs, u.oneCell' = true) (hsz : (es.length + m) * bytes ≤ 140737488355328)
    (hg : wantF ops ⟨some d, .call ⟨.builtin .append, #[s, x], #[t, t]⟩, T, pos, af, gd⟩ (tget tm) = some true) (h : ∀ ad c, es.length + m ≤ c → c ≤ maxLen → JD P n W K F ops k nx rest ((d, .slice ad (es.length + m) c) :: tm) S (Ar e sz enc (.slice ad (es.length + m) c) (es ++ fs) :: R)) : JD P n W K F ops k nx (⟨some d, .call ⟨.builtin .append, #[s, x], #[t, t]⟩, T, pos, af, gd⟩ :: rest) tm S M :=
  JD_a rfl hg rfl (.cons hm .nil) (ae_app (.ofOk hok) hs hx hv hl h1 hsz) (by
    rintro _ _ ⟨ad, c, h2, h3, rfl, rfl⟩
    exact h ad c h2 h3)
/-- An empty slice of the call's own, out of nothing. -/
theorem Ow.arNil {W : World} {w : World} (H : Ow W K L w) : Ow W K (Ar e sz enc (.slice none 0 0) ([] : List α) :: L) w := H.slNil
theorem Ow.arLit0 {W : World} {w : World} {b : Nat} {T : TypeId} (H : Ow W K L w) (h : Tk L (pts b [] T) R) : Ow W K (Ar T sz enc (.slice (some ⟨b, 0, none⟩) 0 0) ([] : List α) :: R) w := by
  show Ow W K (Sl T sz _ 0 [] :: R) w
  exact H.slLit h (by simp) (by simp [maxLen])
end

/-! Calls. -/
section
variable {c : Operand} {xs : Array Operand} {ts : Array TypeId} {f : FuncId} {first caps : Array Value} {us vs : List Value} {φ : World → Prop} {Rr : Value → List HP → Prop}
end
end
end Go.Pm
namespace Go.Pm
set_option linter.unusedSimpArgs false
set_option linter.unusedVariables false
open Go.RowKit

section
variable {P : Program} {n : Nat} {W : World} {K : Hl} {F : Fp} {k : List It} {tm : TM} {L L' R R' S M M' C : List HP} {T : TypeId} {pos : String} {af : Array Edge} {gd : Option (Nat × Bool)} {ops : Array Oper} {rest nx : List Oper} {d : Tmp}
theorem JD_ldM {ty T' : TypeId} {x : Operand} {b i : Nat} {cs : List Value} {v : Value} (hx : evT tm x = some (.pointer (some ⟨b, i, none⟩))) (hm : Tk M (pts b cs T') M') (ht : cellTy P ty = true) (hv : cs[i]? = some v) (hg : wantF ops ⟨some d, .load ty x, T, pos, af, gd⟩ (tget tm) = some true)
    (h : JD P n W K F ops k nx rest ((d, v) :: tm) (pts b cs T' :: S) M') : JD P n W K F ops k nx (⟨some d, .load ty x, T, pos, af, gd⟩ :: rest) tm S M := JD_pM rfl hg rfl hm (pe_ld hx .here ht hv) h
theorem JD_ldWM {ty T' : TypeId} {x : Operand} {b : Nat} {cs : List Value} (hx : evT tm x = some (.pointer (some ⟨b, 0, none⟩))) (hm : Tk M (pts b cs T') M') (ht : rowTy P ty cs.length = true) (hg : wantF ops ⟨some d, .load ty x, T, pos, af, gd⟩ (tget tm) = some true)
    (h : JD P n W K F ops k nx rest ((d, .agg cs.toArray) :: tm) (pts b cs T' :: S) M') : JD P n W K F ops k nx (⟨some d, .load ty x, T, pos, af, gd⟩ :: rest) tm S M := JD_pM rfl hg rfl hm (pe_ldW hx .here ht) h
theorem JD_ldSM {ty T' : TypeId} {x : Operand} {b i m : Nat} {cs vs : List Value} (hx : evT tm x = some (.pointer (some ⟨b, i, none⟩))) (hm : Tk M (pts b cs T') M') (hn : (P.info? ty).map (·.size) = some m) (hs : Seg cs i m vs) (ht : rowTy P ty m = true) (hg : wantF ops ⟨some d, .load ty x, T, pos, af, gd⟩ (tget tm) = some true)
    (h : JD P n W K F ops k nx rest ((d, .agg vs.toArray) :: tm) (pts b cs T' :: S) M') : JD P n W K F ops k nx (⟨some d, .load ty x, T, pos, af, gd⟩ :: rest) tm S M := JD_pM rfl hg rfl hm (pe_ldS hx .here hn hs ht) h
section
variable {x : Operand} {a : Option Addr} {m c sz j : Nat} {α : Type} {enc : α → List Value} {es : List α} {e : TypeId}
theorem JD_ixM {t : TypeId} {i : Operand} {sz' b' : Nat} {k' : IntKind} {z : Int} {e' : TypeId} (hx : evT tm x = some (.slice a m c)) (hi : evT tm i = some (.int k' z)) (ht : elemInfo P t = some (e', sz', b')) (hm : Tk M (Ar e sz enc (.slice a m c) es) M') (hz : z = (j : Int)) (hj : j < m) (hg : wantF ops ⟨some d, .indexAddr t x i, T, pos, af, gd⟩ (tget tm) = some true)
    (h : JD P n W K F ops k nx rest ((d, .pointer (some (elA a j sz' 0))) :: tm) (Ar e sz enc (.slice a m c) es :: S) M') : JD P n W K F ops k nx (⟨some d, .indexAddr t x i, T, pos, af, gd⟩ :: rest) tm S M := JD_pM rfl hg rfl hm (pe_ix hx hi ht (Src.ar .here) hz hj) h
theorem JD_ixV {t : TypeId} {i : Operand} {sz' b' : Nat} {k' : IntKind} {z : Int} {e' : TypeId} (hx : evT tm x = some (.slice a m c)) (hi : evT tm i = some (.int k' z)) (ht : elemInfo P t = some (e', sz', b')) (hm : Tk M (Vr sz enc (.slice a m c) es) M') (hz : z = (j : Int)) (hj : j < m) (hg : wantF ops ⟨some d, .indexAddr t x i, T, pos, af, gd⟩ (tget tm) = some true)
    (h : JD P n W K F ops k nx rest ((d, .pointer (some (elA a j sz' 0))) :: tm) (Vr sz enc (.slice a m c) es :: S) M') : JD P n W K F ops k nx (⟨some d, .indexAddr t x i, T, pos, af, gd⟩ :: rest) tm S M := JD_pM rfl hg rfl hm (pe_ix hx hi ht (Src.vr .here) hz hj) h
variable {ty : TypeId} {n' : Nat}
end
end
end Go.Pm
namespace Go.Pm
set_option linter.unusedSimpArgs false
set_option linter.unusedVariables false
open Go.RowKit
section
variable {P : Program} {n : Nat} {W : World} {K : Hl} {F : Fp} {k : List It} {tm : TM} {L S M : List HP} {T t u : TypeId} {pos : String} {af : Array Edge} {gd : Option (Nat × Bool)} {ops : Array Oper} {rest nx : List Oper} {od : Option Tmp} {x y z : Operand} {i : Nat} {fn : Fn} {as_ bs : Array Operand} {ts : Array TypeId} {ps : Array (Nat × Operand)} {lo hi mx : Option Operand} {bb : Bool} {r : List Oper} {op : Op} {g : Nat × Bool} {c d : Code} {id : Nat} {dr : Bool} {l : List Oper} {H : Act → World → Prop}
theorem gL (h : JL P n W K F ops k r tm L) : JL P n W K F ops k r tm L := h
theorem gD (h : JD P n W K F ops k nx r tm S M) : JD P n W K F ops k nx r tm S M := h
theorem gL_gd (h : JL P n W K F ops k (⟨od, op, T, pos, af, some g⟩ :: rest) tm L) : JL P n W K F ops k (⟨od, op, T, pos, af, some g⟩ :: rest) tm L := h
theorem gD_gd (h : JD P n W K F ops k nx (⟨od, op, T, pos, af, some g⟩ :: rest) tm S M) : JD P n W K F ops k nx (⟨od, op, T, pos, af, some g⟩ :: rest) tm S M := h
theorem gJ_if (h : J P n W K F (.code (.cond x c d) :: k) tm L) : J P n W K F (.code (.cond x c d) :: k) tm L := h
theorem gL_convert (h : JL P n W K F ops k (⟨od, .convert t u x, T, pos, af, gd⟩ :: rest) tm L) : JL P n W K F ops k (⟨od, .convert t u x, T, pos, af, gd⟩ :: rest) tm L := h
theorem gL_indexAddr (h : JL P n W K F ops k (⟨od, .indexAddr t x y, T, pos, af, gd⟩ :: rest) tm L) : JL P n W K F ops k (⟨od, .indexAddr t x y, T, pos, af, gd⟩ :: rest) tm L := h
theorem gD_indexAddr (h : JD P n W K F ops k nx (⟨od, .indexAddr t x y, T, pos, af, gd⟩ :: rest) tm S M) : JD P n W K F ops k nx (⟨od, .indexAddr t x y, T, pos, af, gd⟩ :: rest) tm S M := h
theorem gL_load (h : JL P n W K F ops k (⟨od, .load t x, T, pos, af, gd⟩ :: rest) tm L) : JL P n W K F ops k (⟨od, .load t x, T, pos, af, gd⟩ :: rest) tm L := h
theorem gD_load (h : JD P n W K F ops k nx (⟨od, .load t x, T, pos, af, gd⟩ :: rest) tm S M) : JD P n W K F ops k nx (⟨od, .load t x, T, pos, af, gd⟩ :: rest) tm S M := h
theorem gL_store (h : JL P n W K F ops k (⟨od, .store t x y, T, pos, af, gd⟩ :: rest) tm L) : JL P n W K F ops k (⟨od, .store t x y, T, pos, af, gd⟩ :: rest) tm L := h
theorem gD_store (h : JD P n W K F ops k nx (⟨od, .store t x y, T, pos, af, gd⟩ :: rest) tm S M) : JD P n W K F ops k nx (⟨od, .store t x y, T, pos, af, gd⟩ :: rest) tm S M := h
theorem gL_lookup (h : JL P n W K F ops k (⟨od, .lookup t x y bb, T, pos, af, gd⟩ :: rest) tm L) : JL P n W K F ops k (⟨od, .lookup t x y bb, T, pos, af, gd⟩ :: rest) tm L := h
theorem gD_mapUpdate (h : JD P n W K F ops k nx (⟨od, .mapUpdate t x y z, T, pos, af, gd⟩ :: rest) tm S M) : JD P n W K F ops k nx (⟨od, .mapUpdate t x y z, T, pos, af, gd⟩ :: rest) tm S M := h
theorem gL_makeMap (h : JL P n W K F ops k (⟨od, .makeMap t lo, T, pos, af, gd⟩ :: rest) tm L) : JL P n W K F ops k (⟨od, .makeMap t lo, T, pos, af, gd⟩ :: rest) tm L := h
theorem gL_bin_shl (h : JL P n W K F ops k (⟨od, .binOp .shl t x y u, T, pos, af, gd⟩ :: rest) tm L) : JL P n W K F ops k (⟨od, .binOp .shl t x y u, T, pos, af, gd⟩ :: rest) tm L := h
theorem gL_bin_shr (h : JL P n W K F ops k (⟨od, .binOp .shr t x y u, T, pos, af, gd⟩ :: rest) tm L) : JL P n W K F ops k (⟨od, .binOp .shr t x y u, T, pos, af, gd⟩ :: rest) tm L := h
theorem gL_bin_neq (h : JL P n W K F ops k (⟨od, .binOp .neq t x y u, T, pos, af, gd⟩ :: rest) tm L) : JL P n W K F ops k (⟨od, .binOp .neq t x y u, T, pos, af, gd⟩ :: rest) tm L := h
theorem gL_c_append (h : JL P n W K F ops k (⟨od, .call ⟨.builtin .append, as_, ts⟩, T, pos, af, gd⟩ :: rest) tm L) : JL P n W K F ops k (⟨od, .call ⟨.builtin .append, as_, ts⟩, T, pos, af, gd⟩ :: rest) tm L := h
theorem gD_c_append (h : JD P n W K F ops k nx (⟨od, .call ⟨.builtin .append, as_, ts⟩, T, pos, af, gd⟩ :: rest) tm S M) : JD P n W K F ops k nx (⟨od, .call ⟨.builtin .append, as_, ts⟩, T, pos, af, gd⟩ :: rest) tm S M := h
theorem gL_c_len (h : JL P n W K F ops k (⟨od, .call ⟨.builtin .len, as_, ts⟩, T, pos, af, gd⟩ :: rest) tm L) : JL P n W K F ops k (⟨od, .call ⟨.builtin .len, as_, ts⟩, T, pos, af, gd⟩ :: rest) tm L := h
theorem gL_c_clear (h : JL P n W K F ops k (⟨od, .call ⟨.builtin .clear, as_, ts⟩, T, pos, af, gd⟩ :: rest) tm L) : JL P n W K F ops k (⟨od, .call ⟨.builtin .clear, as_, ts⟩, T, pos, af, gd⟩ :: rest) tm L := h
theorem gL_c_delete (h : JL P n W K F ops k (⟨od, .call ⟨.builtin .delete, as_, ts⟩, T, pos, af, gd⟩ :: rest) tm L) : JL P n W K F ops k (⟨od, .call ⟨.builtin .delete, as_, ts⟩, T, pos, af, gd⟩ :: rest) tm L := h
theorem gD_c_delete (h : JD P n W K F ops k nx (⟨od, .call ⟨.builtin .delete, as_, ts⟩, T, pos, af, gd⟩ :: rest) tm S M) : JD P n W K F ops k nx (⟨od, .call ⟨.builtin .delete, as_, ts⟩, T, pos, af, gd⟩ :: rest) tm S M := h
theorem gL_go (h : JL P n W K F ops k (⟨od, .call ⟨.value x, as_, ts⟩, T, pos, af, gd⟩ :: rest) tm L) : JL P n W K F ops k (⟨od, .call ⟨.value x, as_, ts⟩, T, pos, af, gd⟩ :: rest) tm L := h
theorem gD_go (h : JD P n W K F ops k nx (⟨od, .call ⟨.value x, as_, ts⟩, T, pos, af, gd⟩ :: rest) tm S M) : JD P n W K F ops k nx (⟨od, .call ⟨.value x, as_, ts⟩, T, pos, af, gd⟩ :: rest) tm S M := h
/-! A long region's text stands as two lists, appended. -/
theorem gL_app {x : Oper} {l m : List Oper} (h : JL P n W K F ops k (x :: List.append l m) tm L) : JL P n W K F ops k (List.append (x :: l) m) tm L := h
theorem gL_app0 {m : List Oper} (h : JL P n W K F ops k m tm L) : JL P n W K F ops k (List.append [] m) tm L := h
theorem gD_app {x : Oper} {l m : List Oper} (h : JD P n W K F ops k nx (x :: List.append l m) tm S M) : JD P n W K F ops k nx (List.append (x :: l) m) tm S M := h
theorem gD_app0 {m : List Oper} (h : JD P n W K F ops k nx m tm S M) : JD P n W K F ops k nx (List.append [] m) tm S M := h
end
end Go.Pm
