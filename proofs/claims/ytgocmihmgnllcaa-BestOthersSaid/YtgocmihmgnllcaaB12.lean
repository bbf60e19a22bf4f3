/-
  Candidates that came in; the law BestOne.
-/
import Derived.Test.YtgocmihmgnllcaaB11
import Derived.Test.YtgocmihmgnllcaaLaw
namespace Go.Proofs.Ytgocmihmgnllcaa
set_option linter.unusedSimpArgs false
set_option linter.unusedVariables false
open Go.RowKit Go.Pm




theorem u32_el {w : World} (m : Nat) (d : List Value) (_ : d.length = 1) (h : Rs Try.prog w m 31 d) : ∃ z : Int, d = u32C z ∧ U32 z := by
  obtain ⟨z, e, h1, h2⟩ := (Rs.rd _ _ _ h).u32 Try.underlying31
  exact ⟨z, e, h1, h2⟩
theorem seg_el {w : World} (m : Nat) (d : List Value) (_ : d.length = 2) (h : Rs Try.prog w m 44 d) : ∃ s : Sg, d = sgC s ∧ segV w s := by
  have h0 := leaf_of 5 44 [4, 34] m d (by kernel_rfl) h
  obtain ⟨b, r, e, h1⟩ := h0.bool Try.underlying4
  subst e
  obtain ⟨a, l, c, r, e, ⟨m', hs⟩, h2⟩ := h1.sl Try.underlying34
  subst e
  obtain rfl := h2.nil'
  obtain ⟨es, e, g1, g2, g3, g4, g5⟩ := hs.list (sz := 1) (b := 4) (enc := u32C) (ok := U32) Try.underlying34 (by kernel_rfl) (by kernel_rfl) u32_el
  subst e
  exact ⟨⟨b, a, c, es⟩, rfl, g4, by show es.length ≤ 35184372088832; simp only [reachBytes] at g3; omega, g5⟩
def CandOk (w : World) (x : Cd) : Prop := CdN x ∧ PathU w x.pa x.pc x.path
theorem cand_el {w : World} (m : Nat) (d : List Value) (_ : d.length = 17) (h : Rs Try.prog w m 39 d) : ∃ x : Cd, d = cdC x ∧ CandOk w x := by
  have h0 := leaf_of 5 39 [3, 31, 32, 32, 3, 33, 32, 4, 31, 4, 31, 4, 4, 31, 32, 34, 35] m d (by kernel_rfl) h
  obtain ⟨peer, r, e, b0, h1⟩ := h0.i64 Try.underlying3
  subst e
  obtain ⟨as_, r, e, b1, h2⟩ := h1.u32 Try.underlying31
  subst e
  obtain ⟨id, r, e, b2, h3⟩ := h2.u32 Try.underlying32
  subst e
  obtain ⟨addr, r, e, b3, h4⟩ := h3.u32 Try.underlying32
  subst e
  obtain ⟨origin, r, e, b4, h5⟩ := h4.i64 Try.underlying3
  subst e
  obtain ⟨pa, pl, pc, r, e, ⟨m', hs⟩, h6⟩ := h5.sl Try.underlying33
  subst e
  obtain ⟨path, e, g1, g2, g3, g4, g5⟩ := hs.list (sz := 2) (b := 32) (enc := sgC) (ok := segV w) Try.underlying33 (by kernel_rfl) (by kernel_rfl) seg_el
  subst e
  obtain ⟨next, r, e, b5, h7⟩ := h6.u32 Try.underlying32
  subst e
  obtain ⟨hasMed, r, e, h8⟩ := h7.bool Try.underlying4
  subst e
  obtain ⟨med, r, e, b6, h9⟩ := h8.u32 Try.underlying31
  subst e
  obtain ⟨hasLocal, r, e, h10⟩ := h9.bool Try.underlying4
  subst e
  obtain ⟨loc, r, e, b7, h11⟩ := h10.u32 Try.underlying31
  subst e
  obtain ⟨atomic, r, e, h12⟩ := h11.bool Try.underlying4
  subst e
  obtain ⟨hasMaker, r, e, h13⟩ := h12.bool Try.underlying4
  subst e
  obtain ⟨makerAS, r, e, b8, h14⟩ := h13.u32 Try.underlying31
  subst e
  obtain ⟨maker, r, e, b9, h15⟩ := h14.u32 Try.underlying32
  subst e
  obtain ⟨ca, cn, cc, r, e, _, h16⟩ := h15.sl Try.underlying34
  subst e
  obtain ⟨oa, on, oc, r, e, _, h17⟩ := h16.sl Try.underlying35
  subst e
  obtain rfl := h17.nil'
  exact ⟨⟨peer, as_, id, addr, origin, pa, pc, path, next, hasMed, med, hasLocal, loc, atomic, hasMaker, makerAS, maker, ca, cn, cc, oa, on, oc⟩, rfl, ⟨b0, b1, b2, b3, b4, b6, b7⟩, g4, g5⟩
/-- What is read of candidates that came in. -/
def candsIn (a : Option Addr) (c : Nat) (cs : List Cd) (w : World) : Prop := Vw w (.slice a cs.length c) 17 cs.length (flat cdC cs) ∧ ∀ x ∈ cs, PathU w x.pa x.pc x.path
theorem Vw.keepL {w w' : World} (hc : ∀ b o u, w.cell? ⟨b, o, none⟩ = some u → w'.cell? ⟨b, o, none⟩ = some u) {v : Value} {sz n : Nat} {xs : List Value} (h : Vw w v sz n xs) : Vw w' v sz n xs := by
  obtain ⟨a, cap, rfl, h1, h2, h3, h4, h5⟩ := h
  refine ⟨a, cap, rfl, h1, h2, h3, h4, fun hne => ?_⟩
  obtain ⟨b, off, h6, h7⟩ := h5 hne
  exact ⟨b, off, h6, fun j u hu => hc _ _ _ (h7 j u hu)⟩
theorem candsIn.keep {w w' : World} (hc : ∀ b o u, w.cell? ⟨b, o, none⟩ = some u → w'.cell? ⟨b, o, none⟩ = some u) {a : Option Addr} {c : Nat} {cs : List Cd} (h : candsIn a c cs w) : candsIn a c cs w' :=
  ⟨Vw.keepL hc h.1, fun x hx => ⟨Vw.keepL hc (h.2 x hx).vw, fun s hs => ⟨Vw.keepL hc ((h.2 x hx).segs s hs).1, ((h.2 x hx).segs s hs).2⟩⟩⟩
theorem cands_arg {W : World} {n : Nat} {a : Option Addr} {l c : Nat} (h : Rs Try.prog W n 22 [.slice a l c]) : ∃ cs : List Cd, cs.length = l ∧ cs.length ≤ 140737488355328 ∧ (∀ x ∈ cs, CdN x) ∧ Kn (World.all W) (candsIn a c cs) := by
  obtain ⟨cs, rfl, h1, h2, h3, h4, h5⟩ := h.list (sz := 17) (b := 136) (enc := cdC) (ok := CandOk W) Try.underlying22 (by kernel_rfl) (by kernel_rfl) cand_el
  have h0 : candsIn a c cs W := ⟨h4, fun x hx => (h5 x hx).2⟩
  refine ⟨cs, rfl, by simp only [reachBytes] at h3; omega, fun x hx => (h5 x hx).1, Kn.all (fun w ho => h0.keep fun b o u hu => ?_) fun w w' hh hr => hr.keep fun b o u hu => by rw [cell?_heap hh]; exact hu⟩
  rw [World.cell?_of_block (w := W) (ho.block b (World.block_lt_of_cell? _ _ hu) (by simp))]
  exact hu
end Go.Proofs.Ytgocmihmgnllcaa
