/-
  By-blocks under short names.
-/
import Derived.Test.YtohahlcjkhgimaaJo
namespace Go.Pm
set_option linter.unusedSimpArgs false
set_option linter.unusedVariables false
open Go.RowKit
theorem xR {p : Prop} (h : p := by rfl) : p := h
theorem xC {p : Prop} (h : p := by decide +kernel) : p := h
theorem xW {p : Prop} (h : p := by first | decide +kernel | rfl) : p := h
theorem xT {p : Prop} (h : p := by first | ((with_reducible (repeat (first | exact Tk.here | apply Tk.there))); done) | fail) : p := h
theorem xA {p : Prop} (h : p := by first | ((with_reducible (repeat (first | exact Tk.here | apply Tk.there))); done) | ((simp only [List.cons_append, List.nil_append]); (with_reducible (repeat (first | exact Tk.here | apply Tk.there))); done) | fail) : p := h
theorem xS {p : Prop} (h : p := by first | ((with_reducible (repeat (first | exact Sb.nil | apply Sb.cons | exact Tk.here | apply Tk.there))); done) | fail) : p := h
theorem xG {p : Prop} (h : p := by first | ((repeat (first | exact Seg.e | apply Seg.t | apply Seg.s)); done) | fail) : p := h
theorem xE {p : Prop} (h : p := by first | ((repeat (first | exact SetAt.z | apply SetAt.s)); done) | fail) : p := h
theorem xP {p : Prop} (h : p := by first | ((repeat (first | exact Put.e | apply Put.t | apply Put.s)); done) | fail) : p := h
theorem xN {p : Prop} (h : p := by first | ((repeat (first | exact Nrm.nil | apply Nrm.cons)); done) | fail) : p := h
theorem xI {p : Prop} (h : p := by first | exact il0 | exact il1 | exact il2 | exact il3 | exact ic_succ _ | rfl | exact (Int.toNat_of_nonneg (by omega)).symm) : p := h
theorem xV {p : Prop} (h : p := by first | exact Src.kn (by assumption) | exact Src.ar xA | exact Src.vr xA | exact Src.sl xA | exact Src.ofV xA) : p := h
theorem xO {p : Prop} (h : p := by omega) : p := h
theorem xL {p : Prop} (h : p := by intro _; rfl) : p := h
theorem xK {p : Prop} (h : p := by intro _; kernel_rfl) : p := h
theorem xU {p : Prop} (h : p := by exact all_one _ (by intro _ _; rfl)) : p := h
theorem xD {p : Prop} (h : p := by first | ((repeat (first | exact Pick.nil | apply Pick.cons rfl)); done) | fail) : p := h
theorem xH {p : Prop} (h : p := by assumption) : p := h
theorem xB {p : Prop} (h : p := by first | assumption | decide +kernel) : p := h
theorem xF {p : Prop} (h : p := by exact fun _ _ => trivial) : p := h
theorem xQ {p : Prop} (h : p := by first | rfl | (simp; done) | fail) : p := h
end Go.Pm
