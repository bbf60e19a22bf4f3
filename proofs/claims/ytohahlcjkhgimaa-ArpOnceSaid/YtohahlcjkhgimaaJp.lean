/-
  Bytes and strings: bytes as a string; two strings held against each other; a copy of a slice's type.
-/
import Derived.Test.YtohahlcjkhgimaaJo
import Derived.Test.YtohahlcjkhgimaaMore
import Derived.Lib.AppendZeros
namespace Go.Pm
set_option linter.unusedSimpArgs false
set_option linter.unusedVariables false
open Go.RowKit

section
variable {P : Program} {n : Nat} {W : World} {K : Hl} {F : Fp} {k : List It} {tm : TM} {L L' R S M C : List HP} {T : TypeId} {pos : String} {af : Array Edge} {gd : Option (Nat × Bool)} {ops : Array Oper} {rest nx : List Oper} {d : Option Tmp}

def byC (z : Int) : List Value := [.int .u8 z]
theorem flat_byC (l : List Int) : flat byC l = bys l := by
  unfold flat bys
  induction l with
  | nil => rfl
  | cons x r ih => rw [List.flatMap_cons, ih]; rfl
def isStrD : TypeDesc → Bool
  | .string => true
  | _ => false
/-- Two strings, known to be the same or not. -/
theorem pe_eqStr {xt yt : TypeId} {x y : Operand} {a b : ByteArray} {c : Bool} (hx : evT tm x = some (.string a)) (hy : evT tm y = some (.string b)) (ht : tyIs P xt isStrD = true) (hc : decide (a = b) = c) : PE P K L ⟨d, .binOp .eql xt x y yt, T, pos, af, gd⟩ (tget tm) (.bool c) := pe_bin hx hy fun w => by
  have : (a.toList == b.toList) = c := by
    rw [← hc, ByteArray.toList_eq, ByteArray.toList_eq]
    by_cases h : a = b
    · subst h; simp
    · have h2 : ¬ a.data.toList = b.data.toList := fun e => h (ByteArray.ext (Array.toList_inj.1 e))
      rw [decide_eq_false h]
      simpa using h2
  simp [eqGuard, Sem.run_bind, binOp_string_eql, this]
def isBytes (P : Program) (t : TypeId) : Bool := match P.underlying t with
  | some (.slice e) => match P.underlying e with
    | some (.int .u8) => true
    | _ => false
  | _ => false
theorem isBytes_spec {t : TypeId} (h : isBytes P t = true) : ∃ e, P.underlying t = some (.slice e) ∧ P.underlying e = some (.int .u8) := by
  unfold isBytes at h
  split at h
  · rename_i e he
    split at h
    · rename_i h2; exact ⟨e, he, h2⟩
    · cases h
  · cases h
/-- string(b). -/
theorem pe_str {st dt : TypeId} {x : Operand} {v : Value} {m : Nat} {l : List Int} (hx : evT tm x = some v) (hs : isBytes P st = true) (hd : tyIs P dt isStrD = true) (hv : Src K L v 1 m (flat byC l)) : PE P K L ⟨d, .convert st dt x, T, pos, af, gd⟩ (tget tm) (.string (strOfNums l)) := fun ρ w ha hr => by
  have h1 := ha x (by simp [Op.operands]) _ hx
  obtain ⟨e, h2, h3⟩ := isBytes_spec hs
  obtain ⟨dd, h4, h5⟩ := tyIs_spec hd
  cases dd <;> simp [isStrD] at h5
  have h6 := hv w hr
  rw [flat_byC] at h6
  have h7 := run_string h2 h3 h4 h6
  unfold execOp
  simp only [h1]
  simp [Sem.run_bind, h7]
/-- The least of three. -/
theorem pe_min3 {x y z : Operand} {ts : Array TypeId} {k : IntKind} {a b c m : Int} (hx : evT tm x = some (.int k a)) (hy : evT tm y = some (.int k b)) (hz : evT tm z = some (.int k c)) (hm : min (min a b) c = m) : PE P K L ⟨d, .call ⟨.builtin .min, #[x, y, z], ts⟩, T, pos, af, gd⟩ (tget tm) (.int k m) := pe_call (vs := [.int k a, .int k b, .int k c]) (by simp [hx, hy, hz]) fun w _ cs => by
  have h1 : (if b < a then b else a) = min a b := by omega
  have h2 : (if c < min a b then c else min a b) = m := by omega
  simp [builtin, Builtin.min_, Builtin.min2, h1, h2]
/-- A constant string's bytes: the row is marked, and only read from then on. -/
theorem ae_cvB {od : Option Tmp} {st T' : TypeId} {x : Operand} {b m c : Nat} {cs : List Value} (hx : evT tm x = some (.slice (some ⟨b, 0, none⟩) m c)) (hs : isBytes P st = true) (hm : cs.length = m) (hc : Nat.ble m c && Nat.ble c maxLen = true) : AE P n K R [pts b cs T'] ⟨od, .convert st st x, T, pos, af, gd⟩ (tget tm) (one (.slice (some ⟨b, 0, none⟩) m c) [V 1 (.slice (some ⟨b, 0, none⟩) m c) m cs]) := fun W K' w a next hK hf hO hn => by
  obtain ⟨e, h2, h3⟩ := isBytes_spec hs
  have hb : Blk w b cs.toArray T' := hO.blk .here
  have hB : w.heap[b]? = some (.cells cs.toArray T' (0, 0)) := hb
  have hsh : w.shape? b = some (T', cs.toArray.size) := by
    unfold World.shape?
    rw [hB]
  have hr : (convert st st (.slice (some ⟨b, 0, none⟩) m c)).run P w = .ok (.slice (some ⟨b, 0, none⟩) m c) (w.freeze ⟨b, cs.toArray.size, none⟩ 1) := by
    simp [convert, run_underlying h2, run_underlying h3, markStringish, hsh]
  have hw : (w.freeze ⟨b, cs.toArray.size, none⟩ 1).heap[b]? = some (.cells cs.toArray T' (cs.toArray.size, cs.toArray.size + 1)) := by
    unfold World.freeze
    rw [if_neg (by decide)]
    show (w.heap.modify b _)[b]? = _
    rw [Array.getElem?_modify, hB]
    simp
  have ho : ∀ g, g ≠ b → (w.freeze ⟨b, cs.toArray.size, none⟩ 1).heap[g]? = w.heap[g]? := fun g hg => by
    unfold World.freeze
    rw [if_neg (by decide)]
    show (w.heap.modify b _)[g]? = _
    rw [Array.getElem?_modify, if_neg (fun h => hg h.symm)]
  have hO2 : Ow W K' (V 1 (.slice (some ⟨b, 0, none⟩) m c) m cs :: R) (w.freeze ⟨b, cs.toArray.size, none⟩ 1) := by
    simp only [Bool.and_eq_true, Nat.ble_eq, decide_eq_true_eq] at hc
    refine Ow.change (show Ow W K' (pts b cs T' :: R) w from hO) rfl ((Tp.refl _).same (by unfold World.freeze; rw [if_neg (by decide)]) (by unfold World.freeze; rw [if_neg (by decide)])) rfl (by unfold World.freeze; rw [if_neg (by decide)]; simp) (fun k hk ik => ⟨⟨Hl.one b (.cells cs.toArray T' (cs.toArray.size, cs.toArray.size + 1)), ⟨_, c, rfl, by simpa using hm, hc.1, hc.2, (fun h => by cases h), fun _ => ⟨b, 0, rfl, fun j u hu => ?_⟩⟩, fun g o e => ?_, fun g hg => ?_⟩, fun g hl hg => ?_⟩)
    · simp only [hcell, Hl.one, if_true, Nat.zero_add]
      simpa using hu
    · unfold Hl.one at e
      split at e
      · rename_i hgb
        subst hgb
        cases e
        exact hw
      · cases e
    · have hk' : k = Hl.one b (.cells cs.toArray T' (0, 0)) := hk
      subst hk'
      left
      unfold Hl.one at hg ⊢
      split at hg <;> simp_all
    · have hk' : k = Hl.one b (.cells cs.toArray T' (0, 0)) := hk
      subst hk'
      refine ho g (fun e => ?_)
      subst e
      simp [Hl.one] at hg
  have h5 : (execOp a.eval ⟨od, .convert st st x, T, pos, af, gd⟩).run P w = .ok (.value (.slice (some ⟨b, 0, none⟩) m c)) (w.freeze ⟨b, cs.toArray.size, none⟩ 1) := by
    unfold execOp
    simp only [hf.eval hx]
    simp [Sem.run_bind, hr]
  refine wpI_of_wp ?_
  unfold Oper.wp
  rw [h5]
  exact hn _ _ _ ⟨rfl, rfl⟩ hO2
end
end Go.Pm
