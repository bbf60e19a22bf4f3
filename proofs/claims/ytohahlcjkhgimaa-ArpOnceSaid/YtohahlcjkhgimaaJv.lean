/-
  Strings: one behind the other; a part of one.
-/
import Derived.Test.YtohahlcjkhgimaaJp
import Derived.Laws.Concat
import Derived.Laws.Strings2
namespace Go.Pm
set_option linter.unusedSimpArgs false
set_option linter.unusedVariables false
open Go.RowKit
section
variable {P : Program} {n : Nat} {W : World} {K : Hl} {F : Fp} {k : List It} {tm : TM} {L L' R S M C : List HP} {T : TypeId} {pos : String} {af : Array Edge} {gd : Option (Nat × Bool)} {ops : Array Oper} {rest nx : List Oper} {d : Option Tmp}
theorem pe_strAdd {xt yt : TypeId} {x y : Operand} {a b c : ByteArray} (hx : evT tm x = some (.string a)) (hy : evT tm y = some (.string b)) (hs : a.size + b.size ≤ 9223372036854775807) (hc : a ++ b = c) : PE P K L ⟨d, .binOp .add xt x y yt, T, pos, af, gd⟩ (tget tm) (.string c) := pe_bin hx hy fun w => by
  subst hc
  simp [eqGuard, Sem.run_bind, binOp_string_add, run_string_add_sum w a b hs]
theorem pe_strSl {t : TypeId} {x lo hi : Operand} {s r : ByteArray} {k1 k2 : IntKind} {i j : Int} (hx : evT tm x = some (.string s)) (hlo : evT tm lo = some (.int k1 i)) (hhi : evT tm hi = some (.int k2 j)) (ht : tyIs P t isStrD = true) (h0 : 0 ≤ i) (h1 : i ≤ j) (h2 : j ≤ s.size) (hr : s.extract i.toNat j.toNat = r) : PE P K L ⟨d, .slice t x (some lo) (some hi) none, T, pos, af, gd⟩ (tget tm) (.string r) := fun ρ w ha _ => by
  have e1 := ha x (by simp [Op.operands]) _ hx
  have e2 := ha lo (by simp [Op.operands]) _ hlo
  have e3 := ha hi (by simp [Op.operands]) _ hhi
  obtain ⟨dd, h4, h5⟩ := tyIs_spec ht
  cases dd <;> simp [isStrD] at h5
  have h6 := run_slice_string (P := P) w t s k1 k2 i j h4 h0 h1 h2
  subst hr
  unfold execOp
  simp only [e1, Option.map_some, e2, e3]
  simp [Sem.run_bind, run_sliceAt_string w t _ _ _ _ h4, h6]
/-- Two strings, known to differ or not. -/
theorem pe_neStr {xt yt : TypeId} {x y : Operand} {a b : ByteArray} {c : Bool} (hx : evT tm x = some (.string a)) (hy : evT tm y = some (.string b)) (_ht : tyIs P xt isStrD = true) (hc : decide (a ≠ b) = c) : PE P K L ⟨d, .binOp .neq xt x y yt, T, pos, af, gd⟩ (tget tm) (.bool c) := pe_bin hx hy fun w => by
  have : (!(a.toList == b.toList)) = c := by
    rw [← hc, ByteArray.toList_eq, ByteArray.toList_eq]
    by_cases h : a = b
    · subst h; simp
    · have h2 : ¬ a.data.toList = b.data.toList := fun e => h (ByteArray.ext (Array.toList_inj.1 e))
      rw [decide_eq_true h]
      simpa using h2
  simp [eqGuard, Sem.run_bind, binOp_string_neq, this]
end
end Go.Pm
