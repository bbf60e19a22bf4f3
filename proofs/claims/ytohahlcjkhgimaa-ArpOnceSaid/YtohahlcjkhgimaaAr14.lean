/-
  What the laws are handed.
-/
import Derived.Test.YtohahlcjkhgimaaAr10
import Derived.WideShapes
namespace Go.Proofs.Ytohahlcjkhgimaa
set_option linter.unusedSimpArgs false
set_option linter.unusedVariables false
open Go.RowKit Go.Pm Go.Sort

theorem okWide_array {P : Program} {w : World} {r : Reach} {base : Nat} {t : TypeId} {v : Value} {n : Nat} {e : TypeId} (ht : P.underlying t = some (.array n e)) (h : Value.okWide P w r base t v) : ∃ cs, v = .agg cs ∧ cs.size = P.cellsOf t := by
  simp only [Value.okWide, ht] at h
  obtain ⟨cs, h1, h2, _⟩ := h
  exact ⟨cs, h1, h2⟩
theorem mac_leaf {w : World} {ts : List TypeId} {cs : List Value} (h : Leaf Try.prog w (5 :: 5 :: 5 :: 5 :: 5 :: 5 :: ts) cs) : ∃ (m : Mc) (r : List Value), cs = mcC m ++ r ∧ Leaf Try.prog w ts r := by
  obtain ⟨a, r, e, b0, h1⟩ := h.u8 Try.underlying5
  subst e
  obtain ⟨b, r, e, b1, h2⟩ := h1.u8 Try.underlying5
  subst e
  obtain ⟨c, r, e, b2, h3⟩ := h2.u8 Try.underlying5
  subst e
  obtain ⟨d, r, e, b3, h4⟩ := h3.u8 Try.underlying5
  subst e
  obtain ⟨f, r, e, b4, h5⟩ := h4.u8 Try.underlying5
  subst e
  obtain ⟨g, r, e, b5, h6⟩ := h5.u8 Try.underlying5
  subst e
  exact ⟨⟨a, b, c, d, f, g⟩, _, rfl, h6⟩
theorem mac_arg {W : World} {n : Nat} {cs : Array Value} (h : Rs Try.prog W n 26 (Value.agg cs).cells.toList) : ∃ m : Mc, cs = (mcC m).toArray := by
  have h0 := leaf_of 3 26 [5, 5, 5, 5, 5, 5] n cs.toList (by kernel_rfl) h
  obtain ⟨m, r, e, h1⟩ := mac_leaf h0
  cases h1
  exact ⟨m, by rw [List.append_nil] at e; rw [← e]⟩
end Go.Proofs.Ytohahlcjkhgimaa
