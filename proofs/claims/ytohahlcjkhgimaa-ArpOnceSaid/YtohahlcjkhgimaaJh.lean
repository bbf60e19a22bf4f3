/-
  The walk in our own words, eighth part: the rules as the walk uses them.
-/
import Derived.Test.YtohahlcjkhgimaaJg
namespace Go.Pm
set_option linter.unusedSimpArgs false
set_option linter.unusedVariables false
open Go.RowKit

theorem Tk.app {L M : List HP} {A : HP} (h : Tk L A M) (S : List HP) : Tk (L ++ S) A (M ++ S) := by
  induction h with
  | here => exact .here
  | there _ ih => exact .there ih
theorem il (n : Nat) : (OfNat.ofNat n : Int) = (n : Int) := rfl
theorem il0 : (0 : Int) = ((0 : Nat) : Int) := rfl
theorem il1 : (1 : Int) = ((1 : Nat) : Int) := rfl
theorem il2 : (2 : Int) = ((2 : Nat) : Int) := rfl
theorem il3 : (3 : Int) = ((3 : Nat) : Int) := rfl
theorem il4 : (4 : Int) = ((4 : Nat) : Int) := rfl
theorem il5 : (5 : Int) = ((5 : Nat) : Int) := rfl
theorem il6 : (6 : Int) = ((6 : Nat) : Int) := rfl
theorem il7 : (7 : Int) = ((7 : Nat) : Int) := rfl
theorem il8 : (8 : Int) = ((8 : Nat) : Int) := rfl
theorem il9 : (9 : Int) = ((9 : Nat) : Int) := rfl
theorem il10 : (10 : Int) = ((10 : Nat) : Int) := rfl
theorem il11 : (11 : Int) = ((11 : Nat) : Int) := rfl
theorem il12 : (12 : Int) = ((12 : Nat) : Int) := rfl
theorem ic_succ (n : Nat) : (n : Int) + 1 = ((n + 1 : Nat) : Int) := rfl
def guardSlot (ops : Array Oper) (j : Nat) : Option Tmp := (ops[j]?).bind (·.dst)

section
variable {P : Program} {n : Nat} {W : World} {K : Hl} {F : Fp} {k : List It} {tm : TM} {L L' R R' S M M' C : List HP} {T : TypeId} {pos : String} {af : Array Edge} {gd : Option (Nat × Bool)} {ops : Array Oper} {rest nx : List Oper} {d : Tmp} {op : Op} {g : Nat × Bool}

theorem JL_skip (hg : wantF ops ⟨some d, op, T, pos, af, some g⟩ (tget tm) = some false) (hn : Nat.blt d n = true) (h : JL P n W K F ops k rest ((d, undef) :: tm) L) : JL P n W K F ops k (⟨some d, op, T, pos, af, some g⟩ :: rest) tm L :=
  JL_no hg (by simpa [inB] using hn) (fun _ h => (Option.some.inj h).symm) h (fun h => by cases h)
theorem JD_skip (hg : wantF ops ⟨some d, op, T, pos, af, some g⟩ (tget tm) = some false) (h : JD P n W K F ops k nx rest ((d, undef) :: tm) S M) : JD P n W K F ops k nx (⟨some d, op, T, pos, af, some g⟩ :: rest) tm S M := JD_no hg rfl h
theorem JL_guard {t : Tmp} {od : Option Tmp} {p : Prop} [Decidable p] (hs : guardSlot ops g.1 = some t) (hc : tget tm t = some (.bool (decide p))) (h1 : p → JL P n W K F ops k (⟨od, op, T, pos, af, some g⟩ :: rest) ((t, .bool true) :: tm) L) (h2 : ¬ p → JL P n W K F ops k (⟨od, op, T, pos, af, some g⟩ :: rest) ((t, .bool false) :: tm) L) : JL P n W K F ops k (⟨od, op, T, pos, af, some g⟩ :: rest) tm L := JL_split hc h1 h2
theorem JL_guardb {t : Tmp} {od : Option Tmp} {b : Bool} (hs : guardSlot ops g.1 = some t) (hc : tget tm t = some (.bool b)) (h1 : b = true → JL P n W K F ops k (⟨od, op, T, pos, af, some g⟩ :: rest) ((t, .bool true) :: tm) L) (h2 : b = false → JL P n W K F ops k (⟨od, op, T, pos, af, some g⟩ :: rest) ((t, .bool false) :: tm) L) : JL P n W K F ops k (⟨od, op, T, pos, af, some g⟩ :: rest) tm L := JL_splitb hc h1 h2
theorem JD_guard {t : Tmp} {od : Option Tmp} {p : Prop} [Decidable p] (hs : guardSlot ops g.1 = some t) (hc : tget tm t = some (.bool (decide p))) (h1 : p → JD P n W K F ops k nx (⟨od, op, T, pos, af, some g⟩ :: rest) ((t, .bool true) :: tm) S M) (h2 : ¬ p → JD P n W K F ops k nx (⟨od, op, T, pos, af, some g⟩ :: rest) ((t, .bool false) :: tm) S M) : JD P n W K F ops k nx (⟨od, op, T, pos, af, some g⟩ :: rest) tm S M := JD_split hc h1 h2
theorem JD_guardb {t : Tmp} {od : Option Tmp} {b : Bool} (hs : guardSlot ops g.1 = some t) (hc : tget tm t = some (.bool b)) (h1 : b = true → JD P n W K F ops k nx (⟨od, op, T, pos, af, some g⟩ :: rest) ((t, .bool true) :: tm) S M) (h2 : b = false → JD P n W K F ops k nx (⟨od, op, T, pos, af, some g⟩ :: rest) ((t, .bool false) :: tm) S M) : JD P n W K F ops k nx (⟨od, op, T, pos, af, some g⟩ :: rest) tm S M := JD_splitb hc h1 h2

/-! Elements. -/
section
variable {ty : TypeId} {x : Operand} {a : Option Addr} {m c sz n' j : Nat} {α : Type} {enc : α → List Value} {es : List α}
theorem JL_el (hx : evT tm x = some (.pointer (some (elA a j sz 0)))) (hs : Src K L (.slice a m c) sz n' (flat enc es)) (hl : ∀ x, (enc x).length = sz) (hz : Nat.blt 0 sz = true) (ht : rowTy P ty sz = true) (hn : Nat.blt d n = true) (hg : wantF ops ⟨some d, .load ty x, T, pos, af, gd⟩ (tget tm) = some true) (hj : j < es.length)
    (h : ∀ y, es[j]? = some y → JL P n W K F ops k rest ((d, .agg (enc y).toArray) :: tm) L) : JL P n W K F ops k (⟨some d, .load ty x, T, pos, af, gd⟩ :: rest) tm L :=
  JL_p rfl hn hg (pe_el hx hs hl hz ht (List.getElem?_eq_getElem hj)) (h _ (List.getElem?_eq_getElem hj))
theorem JL_elC {v : α → Value} (hx : evT tm x = some (.pointer (some (elA a j sz 0)))) (hs : Src K L (.slice a m c) sz n' (flat enc es)) (hl : ∀ x, (enc x).length = sz) (hz : Nat.blt 0 sz = true) (ht : cellTy P ty = true) (hv : ∀ y, (enc y)[0]? = some (v y)) (hn : Nat.blt d n = true) (hg : wantF ops ⟨some d, .load ty x, T, pos, af, gd⟩ (tget tm) = some true) (hj : j < es.length)
    (h : ∀ y, es[j]? = some y → JL P n W K F ops k rest ((d, v y) :: tm) L) : JL P n W K F ops k (⟨some d, .load ty x, T, pos, af, gd⟩ :: rest) tm L :=
  JL_p rfl hn hg (pe_elC hx hs hl hz ht (List.getElem?_eq_getElem hj) (hv _)) (h _ (List.getElem?_eq_getElem hj))
theorem JL_elF {off : Nat} {v : α → Value} (hx : evT tm x = some (.pointer (some (elA a j sz off)))) (hs : Src K L (.slice a m c) sz n' (flat enc es)) (hl : ∀ x, (enc x).length = sz) (hz : Nat.blt 0 sz = true) (ht : cellTy P ty = true) (hv : ∀ y, (enc y)[off]? = some (v y)) (hn : Nat.blt d n = true) (hg : wantF ops ⟨some d, .load ty x, T, pos, af, gd⟩ (tget tm) = some true) (hj : j < es.length)
    (h : ∀ y, es[j]? = some y → JL P n W K F ops k rest ((d, v y) :: tm) L) : JL P n W K F ops k (⟨some d, .load ty x, T, pos, af, gd⟩ :: rest) tm L :=
  JL_p rfl hn hg (pe_elF hx hs hl hz ht (List.getElem?_eq_getElem hj) (hv _)) (h _ (List.getElem?_eq_getElem hj))
end

/-! Stores. -/
section
variable {t T' : TypeId} {x y : Operand} {b i : Nat} {cs cs' vs : List Value} {v : Value}
theorem JL_st (hx : evT tm x = some (.pointer (some ⟨b, i, none⟩))) (hy : evT tm y = some v) (hm : Tk L (pts b cs T') R) (ht : cellTy P t = true) (h1 : v.oneCell' = true) (hs : SetAt cs i v cs') (hg : wantF ops ⟨none, .store t x y, T, pos, af, gd⟩ (tget tm) = some true) (h : JL P n W K F ops k rest tm (pts b cs' T' :: R)) : JL P n W K F ops k (⟨none, .store t x y, T, pos, af, gd⟩ :: rest) tm L :=
  JL_a0 rfl hg (.cons hm .nil) (ae_st hx hy ht h1 hs) (by rintro _ _ ⟨rfl, rfl⟩; exact h)
theorem JL_stW (hx : evT tm x = some (.pointer (some ⟨b, 0, none⟩))) (hy : evT tm y = some (.agg vs.toArray)) (hm : Tk L (pts b cs T') R) (ht : rowTy P t vs.length = true) (hl : vs.length = cs.length) (h1 : vs.all (·.oneCell') = true) (hg : wantF ops ⟨none, .store t x y, T, pos, af, gd⟩ (tget tm) = some true) (h : JL P n W K F ops k rest tm (pts b vs T' :: R)) : JL P n W K F ops k (⟨none, .store t x y, T, pos, af, gd⟩ :: rest) tm L :=
  JL_a0 rfl hg (.cons hm .nil) (ae_stW hx hy ht hl h1) (by rintro _ _ ⟨rfl, rfl⟩; exact h)
theorem JL_stS (hx : evT tm x = some (.pointer (some ⟨b, i, none⟩))) (hy : evT tm y = some (.agg vs.toArray)) (hm : Tk L (pts b cs T') R) (ht : rowTy P t vs.length = true) (hp : Put cs i vs cs') (h1 : vs.all (·.oneCell') = true) (hg : wantF ops ⟨none, .store t x y, T, pos, af, gd⟩ (tget tm) = some true) (h : JL P n W K F ops k rest tm (pts b cs' T' :: R)) : JL P n W K F ops k (⟨none, .store t x y, T, pos, af, gd⟩ :: rest) tm L :=
  JL_a0 rfl hg (.cons hm .nil) (ae_stS hx hy ht hp h1) (by rintro _ _ ⟨rfl, rfl⟩; exact h)
theorem JD_st (hx : evT tm x = some (.pointer (some ⟨b, i, none⟩))) (hy : evT tm y = some v) (hm : Tk M (pts b cs T') R) (ht : cellTy P t = true) (h1 : v.oneCell' = true) (hs : SetAt cs i v cs') (hg : wantF ops ⟨none, .store t x y, T, pos, af, gd⟩ (tget tm) = some true) (h : JD P n W K F ops k nx rest tm S (pts b cs' T' :: R)) : JD P n W K F ops k nx (⟨none, .store t x y, T, pos, af, gd⟩ :: rest) tm S M :=
  JD_a0 rfl hg rfl (.cons hm .nil) (ae_st hx hy ht h1 hs) (by rintro _ _ ⟨rfl, rfl⟩; exact h)
theorem JD_stW (hx : evT tm x = some (.pointer (some ⟨b, 0, none⟩))) (hy : evT tm y = some (.agg vs.toArray)) (hm : Tk M (pts b cs T') R) (ht : rowTy P t vs.length = true) (hl : vs.length = cs.length) (h1 : vs.all (·.oneCell') = true) (hg : wantF ops ⟨none, .store t x y, T, pos, af, gd⟩ (tget tm) = some true) (h : JD P n W K F ops k nx rest tm S (pts b vs T' :: R)) : JD P n W K F ops k nx (⟨none, .store t x y, T, pos, af, gd⟩ :: rest) tm S M :=
  JD_a0 rfl hg rfl (.cons hm .nil) (ae_stW hx hy ht hl h1) (by rintro _ _ ⟨rfl, rfl⟩; exact h)
theorem JD_stS (hx : evT tm x = some (.pointer (some ⟨b, i, none⟩))) (hy : evT tm y = some (.agg vs.toArray)) (hm : Tk M (pts b cs T') R) (ht : rowTy P t vs.length = true) (hp : Put cs i vs cs') (h1 : vs.all (·.oneCell') = true) (hg : wantF ops ⟨none, .store t x y, T, pos, af, gd⟩ (tget tm) = some true) (h : JD P n W K F ops k nx rest tm S (pts b cs' T' :: R)) : JD P n W K F ops k nx (⟨none, .store t x y, T, pos, af, gd⟩ :: rest) tm S M :=
  JD_a0 rfl hg rfl (.cons hm .nil) (ae_stS hx hy ht hp h1) (by rintro _ _ ⟨rfl, rfl⟩; exact h)
end

/-! A whole element of a slice of the call's own is written. -/
section
variable {α : Type} {enc : α → List Value} {t e : TypeId} {x y : Operand} {a : Option Addr} {m c j sz : Nat} {es : List α} {z' : α} {v : Value}
theorem ae_stEl (hx : evT tm x = some (.pointer (some (elA a j sz 0)))) (hy : evT tm y = some v) (hv : cellsL v = enc z') (hl : ∀ x, (enc x).length = sz) (hz : Nat.blt 0 sz = true) (hj : j < es.length) (ht : (P.info? t).map (·.size) = some sz) (h1 : (enc z').all (·.oneCell') = true) {od : Option Tmp} :
    AE P n K R [Ar e sz enc (.slice a m c) es] ⟨od, .store t x y, T, pos, af, gd⟩ (tget tm) (one undef [Ar e sz enc (.slice a m c) (es.set j z')]) :=
  ae_stE (z := es[j]) hx hy hv hl hz (List.getElem?_eq_getElem hj) (by rw [hl]; exact ht) (by rw [splice_full _ _ (by simp [hl])]) (by simp [hl]) h1
theorem JL_stEl (hx : evT tm x = some (.pointer (some (elA a j sz 0)))) (hy : evT tm y = some v) (hm : Tk L (Ar e sz enc (.slice a m c) es) R) (hv : cellsL v = enc z') (hl : ∀ x, (enc x).length = sz) (hz : Nat.blt 0 sz = true) (ht : (P.info? t).map (·.size) = some sz) (h1 : (enc z').all (·.oneCell') = true) (hg : wantF ops ⟨none, .store t x y, T, pos, af, gd⟩ (tget tm) = some true) (hj : j < es.length)
    (h : JL P n W K F ops k rest tm (Ar e sz enc (.slice a m c) (es.set j z') :: R)) : JL P n W K F ops k (⟨none, .store t x y, T, pos, af, gd⟩ :: rest) tm L :=
  JL_a0 rfl hg (.cons hm .nil) (ae_stEl hx hy hv hl hz hj ht h1) (by rintro _ _ ⟨rfl, rfl⟩; exact h)
theorem JD_stEl (hx : evT tm x = some (.pointer (some (elA a j sz 0)))) (hy : evT tm y = some v) (hm : Tk M (Ar e sz enc (.slice a m c) es) R) (hv : cellsL v = enc z') (hl : ∀ x, (enc x).length = sz) (hz : Nat.blt 0 sz = true) (ht : (P.info? t).map (·.size) = some sz) (h1 : (enc z').all (·.oneCell') = true) (hg : wantF ops ⟨none, .store t x y, T, pos, af, gd⟩ (tget tm) = some true) (hj : j < es.length)
    (h : JD P n W K F ops k nx rest tm S (Ar e sz enc (.slice a m c) (es.set j z') :: R)) : JD P n W K F ops k nx (⟨none, .store t x y, T, pos, af, gd⟩ :: rest) tm S M :=
  JD_a0 rfl hg rfl (.cons hm .nil) (ae_stEl hx hy hv hl hz hj ht h1) (by rintro _ _ ⟨rfl, rfl⟩; exact h)
/-- A part of an element. -/
theorem JL_stEf {z : α} {off : Nat} {vs : List Value} (hx : evT tm x = some (.pointer (some (elA a j sz off)))) (hy : evT tm y = some v) (hm : Tk L (Ar e sz enc (.slice a m c) es) R) (hj : es[j]? = some z) (hv : cellsL v = vs) (hl : ∀ x, (enc x).length = sz) (hz : Nat.blt 0 sz = true) (ht : (P.info? t).map (·.size) = some vs.length) {cs : List Value} (hp : Put (enc z) off vs cs) (hq : enc z' = cs) (h1 : vs.all (·.oneCell') = true) (hg : wantF ops ⟨none, .store t x y, T, pos, af, gd⟩ (tget tm) = some true)
    (h : JL P n W K F ops k rest tm (Ar e sz enc (.slice a m c) (es.set j z') :: R)) : JL P n W K F ops k (⟨none, .store t x y, T, pos, af, gd⟩ :: rest) tm L :=
  JL_a0 rfl hg (.cons hm .nil) (ae_stE hx hy hv hl hz hj ht (by rw [hq]; exact hp.eq.1) (by have := hp.eq.2; rw [hl] at this; exact this) h1) (by rintro _ _ ⟨rfl, rfl⟩; exact h)
end

/-! Append. -/
section
variable {α : Type} {enc : α → List Value} {t e T' : TypeId} {sz bytes m b : Nat} {s x : Operand} {v y : Value} {es fs : List α} {z : α} {cs : List Value}
theorem JL_ap1 (hi : elemInfo P t = some (e, sz, bytes)) (hs : evT tm s = some v) (hx : evT tm x = some (.slice (some ⟨b, 0, none⟩) 1 1)) (hm : Tk L (Ar e sz enc v es) R) (hb : Tk R (pts b cs T') R') (hok : elOk P t e sz bytes = true) (hy : cs = enc z) (hl : ∀ x, (enc x).length = sz) (h1 : cs.all (·.oneCell') = true) (hsz : (es.length + 1) * bytes ≤ 140737488355328)
    (hn : Nat.blt d n = true) (hg : wantF ops ⟨some d, .call ⟨.builtin .append, #[s, x], #[t, t]⟩, T, pos, af, gd⟩ (tget tm) = some true) (h : ∀ ad c, es.length + 1 ≤ c → c ≤ maxLen → JL P n W K F ops k rest ((d, .slice ad (es.length + 1) c) :: tm) (Ar e sz enc (.slice ad (es.length + 1) c) (es ++ [z]) :: R')) : JL P n W K F ops k (⟨some d, .call ⟨.builtin .append, #[s, x], #[t, t]⟩, T, pos, af, gd⟩ :: rest) tm L :=
  JL_a rfl hn hg (.cons hm .nil) (ae_ap1 (.ofOk hok) hs hx hb hy hl h1 hsz) (by
    rintro _ _ ⟨ad, c, h2, h3, rfl, rfl⟩
    refine ⟨fun a w hf hO => ?_⟩
    exact h ad c h2 h3 a w hf ((hO.perm ((hb.perm.cons _).trans (.swap ..))).drop))
theorem JD_ap1 (hi : elemInfo P t = some (e, sz, bytes)) (hs : evT tm s = some v) (hx : evT tm x = some (.slice (some ⟨b, 0, none⟩) 1 1)) (hm : Tk M (Ar e sz enc v es) R) (hb : Tk R (pts b cs T') R') (hok : elOk P t e sz bytes = true) (hy : cs = enc z) (hl : ∀ x, (enc x).length = sz) (h1 : cs.all (·.oneCell') = true) (hsz : (es.length + 1) * bytes ≤ 140737488355328)
    (hg : wantF ops ⟨some d, .call ⟨.builtin .append, #[s, x], #[t, t]⟩, T, pos, af, gd⟩ (tget tm) = some true) (h : ∀ ad c, es.length + 1 ≤ c → c ≤ maxLen → JD P n W K F ops k nx rest ((d, .slice ad (es.length + 1) c) :: tm) S (Ar e sz enc (.slice ad (es.length + 1) c) (es ++ [z]) :: R)) : JD P n W K F ops k nx (⟨some d, .call ⟨.builtin .append, #[s, x], #[t, t]⟩, T, pos, af, gd⟩ :: rest) tm S M :=
  JD_a rfl hg rfl (.cons hm .nil) (ae_app (R := R ++ S) (.ofOk hok) hs hx (by
    rw [flat_one, ← hy]
    have hb' := hb.app S
    exact Src.lit hb' (by rw [hy, hl]; omega) (by simp [maxLen])) hl (by rw [flat_one, ← hy]; exact List.all_eq_true.1 h1) hsz) (by
    rintro _ _ ⟨ad, c, h2, h3, rfl, rfl⟩
    exact h ad c h2 h3)
theorem JL_app (hi : elemInfo P t = some (e, sz, bytes)) (hs : evT tm s = some v) (hx : evT tm x = some y) (hm : Tk L (Ar e sz enc v es) R) (hv : Src K R y sz m (flat enc fs)) (hok : elOk P t e sz bytes = true) (hl : ∀ x, (enc x).length = sz) (h1 : ∀ u ∈ flat enc fs, u.oneCell' = true) (hsz : (es.length + m) * bytes ≤ 140737488355328)
    (hn : Nat.blt d n = true) (hg : wantF ops ⟨some d, .call ⟨.builtin .append, #[s, x], #[t, t]⟩, T, pos, af, gd⟩ (tget tm) = some true) (h : ∀ ad c, es.length + m ≤ c → c ≤ maxLen → JL P n W K F ops k rest ((d, .slice ad (es.length + m) c) :: tm) (Ar e sz enc (.slice ad (es.length + m) c) (es ++ fs) :: R)) : JL P n W K F ops k (⟨some d, .call ⟨.builtin .append, #[s, x], #[t, t]⟩, T, pos, af, gd⟩ :: rest) tm L :=
  JL_a rfl hn hg (.cons hm .nil) (ae_app (.ofOk hok) hs hx hv hl h1 hsz) (by
    rintro _ _ ⟨ad, c, h2, h3, rfl, rfl⟩
    exact h ad c h2 h3)
theorem JD_app (hi : elemInfo P t = some (e, sz, bytes)) (hs : evT tm s = some v) (hx : evT tm x = some y) (hm : Tk M (Ar e sz enc v es) R) (hv : Src K (R ++ S) y sz m (flat enc fs)) (hok : elOk P t e sz bytes = true) (hl : ∀ x, (enc x).length = sz) (h1 : ∀ u ∈ flat enc fs, u.oneCell' = true) (hsz : (es.length + m) * bytes ≤ 140737488355328)
    (hg : wantF ops ⟨some d, .call ⟨.builtin .append, #[s, x], #[t, t]⟩, T, pos, af, gd⟩ (tget tm) = some true) (h : ∀ ad c, es.length + m ≤ c → c ≤ maxLen → JD P n W K F ops k nx rest ((d, .slice ad (es.length + m) c) :: tm) S (Ar e sz enc (.slice ad (es.length + m) c) (es ++ fs) :: R)) : JD P n W K F ops k nx (⟨some d, .call ⟨.builtin .append, #[s, x], #[t, t]⟩, T, pos, af, gd⟩ :: rest) tm S M :=
  JD_a rfl hg rfl (.cons hm .nil) (ae_app (.ofOk hok) hs hx hv hl h1 hsz) (by
    rintro _ _ ⟨ad, c, h2, h3, rfl, rfl⟩
    exact h ad c h2 h3)
/-- An empty slice of the call's own, out of nothing. -/
theorem Ow.arNil {W : World} {w : World} (H : Ow W K L w) : Ow W K (Ar e sz enc (.slice none 0 0) ([] : List α) :: L) w := H.slNil
theorem Ow.arLit0 {W : World} {w : World} {b : Nat} {T : TypeId} (H : Ow W K L w) (h : Tk L (pts b [] T) R) : Ow W K (Ar T sz enc (.slice (some ⟨b, 0, none⟩) 0 0) ([] : List α) :: R) w := by
  show Ow W K (Sl T sz _ 0 [] :: R) w
  exact H.slLit h (by simp) (by simp [maxLen])
end

/-! Calls. -/
section
variable {c : Operand} {xs : Array Operand} {ts : Array TypeId} {f : FuncId} {first caps : Array Value} {us vs : List Value} {φ : World → Prop} {Rr : Value → List HP → Prop}
theorem JL_go (Sp : Pact P f vs.toArray φ C Rr) (hc : evT tm c = some (.func (.func f) first caps)) (ha : xs.toList.mapM (evT tm) = some us) (hv : (first ++ us.toArray ++ caps).toList = vs) (hs : Sb L C R) (hφ : ∀ w, Rdw K R w → φ w) (ho : ownB P f = true) (hn : Nat.blt d n = true) (hg : wantF ops ⟨some d, .call ⟨.value c, xs, ts⟩, T, pos, af, gd⟩ (tget tm) = some true)
    (h : ∀ v L', Rr v L' → JL P n W K F ops k rest ((d, v) :: tm) (L' ++ R)) : JL P n W K F ops k (⟨some d, .call ⟨.value c, xs, ts⟩, T, pos, af, gd⟩ :: rest) tm L := JL_a rfl hn hg hs (ae_go hc ha hv ho Sp hφ) h
theorem JL_go0 (Sp : Pact P f vs.toArray φ C Rr) (hc : evT tm c = some (.func (.func f) first caps)) (ha : xs.toList.mapM (evT tm) = some us) (hv : (first ++ us.toArray ++ caps).toList = vs) (hs : Sb L C R) (hφ : ∀ w, Rdw K R w → φ w) (ho : ownB P f = true) (hg : wantF ops ⟨none, .call ⟨.value c, xs, ts⟩, T, pos, af, gd⟩ (tget tm) = some true)
    (h : ∀ v L', Rr v L' → JL P n W K F ops k rest tm (L' ++ R)) : JL P n W K F ops k (⟨none, .call ⟨.value c, xs, ts⟩, T, pos, af, gd⟩ :: rest) tm L := JL_a0 rfl hg hs (ae_go hc ha hv ho Sp hφ) h
theorem JD_go (Sp : Pact P f vs.toArray φ C Rr) (hc : evT tm c = some (.func (.func f) first caps)) (ha : xs.toList.mapM (evT tm) = some us) (hv : (first ++ us.toArray ++ caps).toList = vs) (hs : Sb M C R) (hφ : ∀ w, Rdw K (R ++ S) w → φ w) (ho : ownB P f = true) (hg : wantF ops ⟨some d, .call ⟨.value c, xs, ts⟩, T, pos, af, gd⟩ (tget tm) = some true)
    (h : ∀ v L', Rr v L' → JD P n W K F ops k nx rest ((d, v) :: tm) S (L' ++ R)) : JD P n W K F ops k nx (⟨some d, .call ⟨.value c, xs, ts⟩, T, pos, af, gd⟩ :: rest) tm S M := JD_a rfl hg rfl hs (ae_go hc ha hv ho Sp hφ) h
theorem JD_go0 (Sp : Pact P f vs.toArray φ C Rr) (hc : evT tm c = some (.func (.func f) first caps)) (ha : xs.toList.mapM (evT tm) = some us) (hv : (first ++ us.toArray ++ caps).toList = vs) (hs : Sb M C R) (hφ : ∀ w, Rdw K (R ++ S) w → φ w) (ho : ownB P f = true) (hg : wantF ops ⟨none, .call ⟨.value c, xs, ts⟩, T, pos, af, gd⟩ (tget tm) = some true)
    (h : ∀ v L', Rr v L' → JD P n W K F ops k nx rest tm S (L' ++ R)) : JD P n W K F ops k nx (⟨none, .call ⟨.value c, xs, ts⟩, T, pos, af, gd⟩ :: rest) tm S M := JD_a0 rfl hg rfl hs (ae_go hc ha hv ho Sp hφ) h
end
end
end Go.Pm
