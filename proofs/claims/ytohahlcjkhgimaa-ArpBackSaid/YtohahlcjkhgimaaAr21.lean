/-
  Bytes and messages that are handed in, with what their numbers may be.
-/
import Derived.Test.YtohahlcjkhgimaaAr20
namespace Go.Proofs.Ytohahlcjkhgimaa
set_option linter.unusedSimpArgs false
set_option linter.unusedVariables false
open Go.RowKit Go.Pm Go.Sort

theorem mac_leaf2 {w : World} {ts : List TypeId} {cs : List Value} (h : Leaf Try.prog w (5 :: 5 :: 5 :: 5 :: 5 :: 5 :: ts) cs) : ∃ (m : Mc) (r : List Value), cs = mcC m ++ r ∧ McN m ∧ Leaf Try.prog w ts r := by
  obtain ⟨a, r, e, b1, h1⟩ := h.u8 Try.underlying5
  subst e
  obtain ⟨b, r, e, b2, h2⟩ := h1.u8 Try.underlying5
  subst e
  obtain ⟨c, r, e, b3, h3⟩ := h2.u8 Try.underlying5
  subst e
  obtain ⟨d, r, e, b4, h4⟩ := h3.u8 Try.underlying5
  subst e
  obtain ⟨f, r, e, b5, h5⟩ := h4.u8 Try.underlying5
  subst e
  obtain ⟨g, r, e, b6, h6⟩ := h5.u8 Try.underlying5
  subst e
  refine ⟨⟨a, b, c, d, f, g⟩, _, rfl, fun x hx => ?_, h6⟩
  simp only [Mc.ns, List.mem_cons, List.not_mem_nil, or_false] at hx
  rcases hx with h | h | h | h | h | h <;> subst h <;> assumption
theorem msg_arg2 {W : World} {n : Nat} {cs : Array Value} (h : Rs Try.prog W n 45 (Value.agg cs).cells.toList) : ∃ m : Ms, cs = (msC m).toArray ∧ U32 m.fa ∧ U32 m.ta ∧ McN m.f ∧ McN m.t := by
  have h0 := leaf_of 4 45 [3, 5, 5, 5, 5, 5, 5, 24, 5, 5, 5, 5, 5, 5, 24] n cs.toList (by kernel_rfl) h
  obtain ⟨k, r, e, bk, h1⟩ := h0.i64 Try.underlying3
  obtain ⟨f, r2, e2, n1, h2⟩ := mac_leaf2 h1
  subst e2
  obtain ⟨fa, r3, e3, bf, h3⟩ := h2.u32 Try.underlying24
  subst e3
  obtain ⟨t, r4, e4, n2, h4⟩ := mac_leaf2 h3
  subst e4
  obtain ⟨ta, r5, e5, bt, h5⟩ := h4.u32 Try.underlying24
  subst e5
  cases h5
  exact ⟨⟨k, f, fa, t, ta⟩, by
    have e6 : cs = cs.toList.toArray := by simp
    rw [e6, e]
    rfl, bf, bt, n1, n2⟩
theorem u8_el {w : World} (m : Nat) (d : List Value) (_ : d.length = 1) (h : Rs Try.prog w m 5 d) : ∃ z : Int, d = byC z ∧ U8 z := by
  have h0 := leaf_of 5 5 [5] m d (by kernel_rfl) h
  obtain ⟨z, r, e, b, h1⟩ := h0.u8 Try.underlying5
  subst e
  obtain rfl := h1.nil'
  exact ⟨z, rfl, b⟩
theorem bytes_arg {W : World} {n : Nat} {a : Option Addr} {l c : Nat} (h : Rs Try.prog W n 33 [.slice a l c]) : ∃ B : List Int, B.length = l ∧ U8s B ∧ B.length ≤ 140737488355328 ∧ Kn (World.all W) (fun w => Vw w (.slice a B.length c) 1 B.length (flat byC B)) := by
  obtain ⟨es, rfl, h1, h2, h3, h4, h5⟩ := h.list (sz := 1) (b := 1) (enc := byC) (ok := U8) Try.underlying33 (by kernel_rfl) (by kernel_rfl) u8_el
  exact ⟨es, rfl, fun x hx => h5 x hx, by simp only [reachBytes] at h3; omega, vwKn h4⟩
end Go.Proofs.Ytohahlcjkhgimaa
