/-
  The walk in our own words, ninth part: where the order is drawn, what is read stands still from then on.
-/
import Derived.Test.YtohahlcjkhgimaaJh
namespace Go.Pm
set_option linter.unusedSimpArgs false
set_option linter.unusedVariables false
open Go.RowKit

section
variable {P : Program} {n : Nat} {W : World} {K : Hl} {F : Fp} {k : List It} {tm : TM} {L L' R R' S M M' C : List HP} {T : TypeId} {pos : String} {af : Array Edge} {gd : Option (Nat × Bool)} {ops : Array Oper} {rest nx : List Oper} {d : Tmp}
theorem JD_ldM {ty T' : TypeId} {x : Operand} {b i : Nat} {cs : List Value} {v : Value} (hx : evT tm x = some (.pointer (some ⟨b, i, none⟩))) (hm : Tk M (pts b cs T') M') (ht : cellTy P ty = true) (hv : cs[i]? = some v) (hg : wantF ops ⟨some d, .load ty x, T, pos, af, gd⟩ (tget tm) = some true)
    (h : JD P n W K F ops k nx rest ((d, v) :: tm) (pts b cs T' :: S) M') : JD P n W K F ops k nx (⟨some d, .load ty x, T, pos, af, gd⟩ :: rest) tm S M := JD_pM rfl hg rfl hm (pe_ld hx .here ht hv) h
theorem JD_ldWM {ty T' : TypeId} {x : Operand} {b : Nat} {cs : List Value} (hx : evT tm x = some (.pointer (some ⟨b, 0, none⟩))) (hm : Tk M (pts b cs T') M') (ht : rowTy P ty cs.length = true) (hg : wantF ops ⟨some d, .load ty x, T, pos, af, gd⟩ (tget tm) = some true)
    (h : JD P n W K F ops k nx rest ((d, .agg cs.toArray) :: tm) (pts b cs T' :: S) M') : JD P n W K F ops k nx (⟨some d, .load ty x, T, pos, af, gd⟩ :: rest) tm S M := JD_pM rfl hg rfl hm (pe_ldW hx .here ht) h
theorem JD_ldSM {ty T' : TypeId} {x : Operand} {b i m : Nat} {cs vs : List Value} (hx : evT tm x = some (.pointer (some ⟨b, i, none⟩))) (hm : Tk M (pts b cs T') M') (hn : (P.info? ty).map (·.size) = some m) (hs : Seg cs i m vs) (ht : rowTy P ty m = true) (hg : wantF ops ⟨some d, .load ty x, T, pos, af, gd⟩ (tget tm) = some true)
    (h : JD P n W K F ops k nx rest ((d, .agg vs.toArray) :: tm) (pts b cs T' :: S) M') : JD P n W K F ops k nx (⟨some d, .load ty x, T, pos, af, gd⟩ :: rest) tm S M := JD_pM rfl hg rfl hm (pe_ldS hx .here hn hs ht) h
section
variable {x : Operand} {a : Option Addr} {m c sz j : Nat} {α : Type} {enc : α → List Value} {es : List α} {e : TypeId}
theorem JD_ixM {t : TypeId} {i : Operand} {sz' b' : Nat} {k' : IntKind} {z : Int} {e' : TypeId} (hx : evT tm x = some (.slice a m c)) (hi : evT tm i = some (.int k' z)) (ht : elemInfo P t = some (e', sz', b')) (hm : Tk M (Ar e sz enc (.slice a m c) es) M') (hz : z = (j : Int)) (hj : j < m) (hg : wantF ops ⟨some d, .indexAddr t x i, T, pos, af, gd⟩ (tget tm) = some true)
    (h : JD P n W K F ops k nx rest ((d, .pointer (some (elA a j sz' 0))) :: tm) (Ar e sz enc (.slice a m c) es :: S) M') : JD P n W K F ops k nx (⟨some d, .indexAddr t x i, T, pos, af, gd⟩ :: rest) tm S M := JD_pM rfl hg rfl hm (pe_ix hx hi ht (Src.ar .here) hz hj) h
theorem JD_ixV {t : TypeId} {i : Operand} {sz' b' : Nat} {k' : IntKind} {z : Int} {e' : TypeId} (hx : evT tm x = some (.slice a m c)) (hi : evT tm i = some (.int k' z)) (ht : elemInfo P t = some (e', sz', b')) (hm : Tk M (Vr sz enc (.slice a m c) es) M') (hz : z = (j : Int)) (hj : j < m) (hg : wantF ops ⟨some d, .indexAddr t x i, T, pos, af, gd⟩ (tget tm) = some true)
    (h : JD P n W K F ops k nx rest ((d, .pointer (some (elA a j sz' 0))) :: tm) (Vr sz enc (.slice a m c) es :: S) M') : JD P n W K F ops k nx (⟨some d, .indexAddr t x i, T, pos, af, gd⟩ :: rest) tm S M := JD_pM rfl hg rfl hm (pe_ix hx hi ht (Src.vr .here) hz hj) h
variable {ty : TypeId} {n' : Nat}
theorem JD_el (hx : evT tm x = some (.pointer (some (elA a j sz 0)))) (hs : Src K S (.slice a m c) sz n' (flat enc es)) (hl : ∀ x, (enc x).length = sz) (hz : Nat.blt 0 sz = true) (ht : rowTy P ty sz = true) (hg : wantF ops ⟨some d, .load ty x, T, pos, af, gd⟩ (tget tm) = some true) (hj : j < es.length)
    (h : ∀ y, es[j]? = some y → JD P n W K F ops k nx rest ((d, .agg (enc y).toArray) :: tm) S M) : JD P n W K F ops k nx (⟨some d, .load ty x, T, pos, af, gd⟩ :: rest) tm S M :=
  JD_p rfl hg rfl (pe_el hx hs hl hz ht (List.getElem?_eq_getElem hj)) (h _ (List.getElem?_eq_getElem hj))
theorem JD_elC {v : α → Value} (hx : evT tm x = some (.pointer (some (elA a j sz 0)))) (hs : Src K S (.slice a m c) sz n' (flat enc es)) (hl : ∀ x, (enc x).length = sz) (hz : Nat.blt 0 sz = true) (ht : cellTy P ty = true) (hv : ∀ y, (enc y)[0]? = some (v y)) (hg : wantF ops ⟨some d, .load ty x, T, pos, af, gd⟩ (tget tm) = some true) (hj : j < es.length)
    (h : ∀ y, es[j]? = some y → JD P n W K F ops k nx rest ((d, v y) :: tm) S M) : JD P n W K F ops k nx (⟨some d, .load ty x, T, pos, af, gd⟩ :: rest) tm S M :=
  JD_p rfl hg rfl (pe_elC hx hs hl hz ht (List.getElem?_eq_getElem hj) (hv _)) (h _ (List.getElem?_eq_getElem hj))
theorem JD_elF {off : Nat} {v : α → Value} (hx : evT tm x = some (.pointer (some (elA a j sz off)))) (hs : Src K S (.slice a m c) sz n' (flat enc es)) (hl : ∀ x, (enc x).length = sz) (hz : Nat.blt 0 sz = true) (ht : cellTy P ty = true) (hv : ∀ y, (enc y)[off]? = some (v y)) (hg : wantF ops ⟨some d, .load ty x, T, pos, af, gd⟩ (tget tm) = some true) (hj : j < es.length)
    (h : ∀ y, es[j]? = some y → JD P n W K F ops k nx rest ((d, v y) :: tm) S M) : JD P n W K F ops k nx (⟨some d, .load ty x, T, pos, af, gd⟩ :: rest) tm S M :=
  JD_p rfl hg rfl (pe_elF hx hs hl hz ht (List.getElem?_eq_getElem hj) (hv _)) (h _ (List.getElem?_eq_getElem hj))
end
end
end Go.Pm
