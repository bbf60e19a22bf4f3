/-
  Jh, Ji, Jj, Jk: merged.
-/
import Derived.Test.YtdnokmpnemaoaaaGreatZViewChooses7
namespace Go.Pm
set_option linter.unusedSimpArgs false
set_option linter.unusedVariables false
open Go.RowKit

theorem Tk.app {L M : List HP} {A : HP} (h : Tk L A M) (S : List HP) : Tk (L ++ S) A (M ++ S) := by
  induction h with
  | here => exact .here
  | there _ ih => exact .there ih
theorem il0 : (0 : Int) = ((0 : Nat) : Int) := rfl
theorem il1 : (1 : Int) = ((1 : Nat) : Int) := rfl
theorem il2 : (2 : Int) = ((2 : Nat) : Int) := rfl
theorem il3 : (3 : Int) = ((3 : Nat) : Int) := rfl
theorem ic_succ (n : Nat) : (n : Int) + 1 = ((n + 1 : Nat) : Int) := rfl
def guardSlot (ops : Array Oper) (j : Nat) : Option Tmp := (ops[j]?).bind (·.dst)

section
variable {P : Program} {n : Nat} {W : World} {K : Hl} {F : Fp} {k : List It} {tm : TM} {L L' R R' S M M' C : List HP} {T : TypeId} {pos : String} {af : Array Edge} {gd : Option (Nat × Bool)} {ops : Array Oper} {rest nx : List Oper} {d : Tmp} {op : Op} {g : Nat × Bool}

theorem JL_skip (hg : wantF ops ⟨some d, op, T, pos, af, some g⟩ (tget tm) = some false) (hn : Nat.blt d n = true) (h : JL P n W K F ops k rest ((d, undef) :: tm) L) : JL P n W K F ops k (⟨some d, op, T, pos, af, some g⟩ :: rest) tm L :=
  JL_no hg (by simpa [inB] using hn) (fun _ h => (Option.some.inj h).symm) h (fun h => by cases h)
theorem JD_skip (hg : wantF ops ⟨some d, op, T, pos, af, some g⟩ (tget tm) = some false) (h : JD P n W K F ops k nx rest ((d, undef) :: tm) S M) : JD P n W K F ops k nx (⟨some d, op, T, pos, af, some g⟩ :: rest) tm S M := JD_no hg rfl h
theorem JL_guard {t : Tmp} {od : Option Tmp} {p : Prop} [Decidable p] (hs : guardSlot ops g.1 = some t) (hc : tget tm t = some (.bool (decide p))) (h1 : p → JL P n W K F ops k (⟨od, op, T, pos, af, some g⟩ :: rest) ((t, .bool true) :: tm) L) (h2 : ¬ p → JL P n W K F ops k (⟨od, op, T, pos, af, some g⟩ :: rest) ((t, .bool false) :: tm) L) : JL P n W K F ops k (⟨od, op, T, pos, af, some g⟩ :: rest) tm L := JL_split hc h1 h2
theorem JL_guardb {t : Tmp} {od : Option Tmp} {b : Bool} (hs : guardSlot ops g.1 = some t) (hc : tget tm t = some (.bool b)) (h1 : b = true → JL P n W K F ops k (⟨od, op, T, pos, af, some g⟩ :: rest) ((t, .bool true) :: tm) L) (h2 : b = false → JL P n W K F ops k (⟨od, op, T, pos, af, some g⟩ :: rest) ((t, .bool false) :: tm) L) : JL P n W K F ops k (⟨od, op, T, pos, af, some g⟩ :: rest) tm L := JL_splitb hc h1 h2
theorem JD_guard {t : Tmp} {od : Option Tmp} {p : Prop} [Decidable p] (hs : guardSlot ops g.1 = some t) (hc : tget tm t = some (.bool (decide p))) (h1 : p → JD P n W K F ops k nx (⟨od, op, T, pos, af, some g⟩ :: rest) ((t, .bool true) :: tm) S M) (h2 : ¬ p → JD P n W K F ops k nx (⟨od, op, T, pos, af, some g⟩ :: rest) ((t, .bool false) :: tm) S M) : JD P n W K F ops k nx (⟨od, op, T, pos, af, some g⟩ :: rest) tm S M := JD_split hc h1 h2
theorem JD_guardb {t : Tmp} {od : Option Tmp} {b : Bool} (hs : guardSlot ops g.1 = some t) (hc : tget tm t = some (.bool b)) (h1 : b = true → JD P n W K F ops k nx (⟨od, op, T, pos, af, some g⟩ :: rest) ((t, .bool true) :: tm) S M) (h2 : b = false → JD P n W K F ops k nx (⟨od, op, T, pos, af, some g⟩ :: rest) ((t, .bool false) :: tm) S M) : JD P n W K F ops k nx (⟨od, op, T, pos, af, some g⟩ :: rest) tm S M := JD_splitb hc h1 h2

/-! Elements. -/
section
variable {ty : TypeId} {x : Operand} {a : Option Addr} {m c sz n' j : Nat} {α : Type} {enc : α → List Value} {es : List α}
theorem JL_el (hx : evT tm x = some (.pointer (some (elA a j sz 0)))) (hs : Src K L (.slice a m c) sz n' (flat enc es)) (hl : ∀ x, (enc x).length = sz) (hz : Nat.blt 0 sz = true) (ht : rowTy P ty sz = true) (hn : Nat.blt d n = true) (hg : wantF ops ⟨some d, .load ty x, T, pos, af, gd⟩ (tget tm) = some true) (hj : j < es.length)
    (h : ∀ y, es[j]? = some y → JL P n W K F ops k rest ((d, .agg (enc y).toArray) :: tm) L) : JL P n W K F ops k (⟨some d, .load ty x, T, pos, af, gd⟩ :: rest) tm L :=
  JL_p rfl hn hg (pe_el hx hs hl hz ht (List.getElem?_eq_getElem hj)) (h _ (List.getElem?_eq_getElem hj))
theorem JL_elC {v : α → Value} (hx : evT tm x = some (.pointer (some (elA a j sz 0)))) (hs : Src K L (.slice a m c) sz n' (flat enc es)) (hl : ∀ x, (enc x).length = sz) (hz : Nat.blt 0 sz = true) (ht : cellTy P ty = true) (hv : ∀ y, (enc y)[0]? = some (v y)) (hn : Nat.blt d n = true) (hg : wantF ops ⟨some d, .load ty x, T, pos, af, gd⟩ (tget tm) = some true) (hj : j < es.length)
    (h : ∀ y, es[j]? = some y → JL P n W K F ops k rest ((d, v y) :: tm) L) : JL P n W K F ops k (⟨some d, .load ty x, T, pos, af, gd⟩ :: rest) tm L :=
  JL_p rfl hn hg (pe_elC hx hs hl hz ht (List.getElem?_eq_getElem hj) (hv _)) (h _ (List.getElem?_eq_getElem hj))
theorem JL_elF {off : Nat} {v : α → Value} (hx : evT tm x = some (.pointer (some (elA a j sz off)))) (hs : Src K L (.slice a m c) sz n' (flat enc es)) (hl : ∀ x, (enc x).length = sz) (hz : Nat.blt 0 sz = true) (ht : cellTy P ty = true) (hv : ∀ y, (enc y)[off]? = some (v y)) (hn : Nat.blt d n = true) (hg : wantF ops ⟨some d, .load ty x, T, pos, af, gd⟩ (tget tm) = some true) (hj : j < es.length)
    (h : ∀ y, es[j]? = some y → JL P n W K F ops k rest ((d, v y) :: tm) L) : JL P n W K F ops k (⟨some d, .load ty x, T, pos, af, gd⟩ :: rest) tm L :=
  JL_p rfl hn hg (pe_elF hx hs hl hz ht (List.getElem?_eq_getElem hj) (hv _)) (h _ (List.getElem?_eq_getElem hj))
end

/-! Stores. -/
section
variable {t T' : TypeId} {x y : Operand} {b i : Nat} {cs cs' vs : List Value} {v : Value}
theorem JL_st (hx : evT tm x = some (.pointer (some ⟨b, i, none⟩))) (hy : evT tm y = some v) (hm : Tk L (pts b cs T') R) (ht : cellTy P t = true) (h1 : v.oneCell' = true) (hs : SetAt cs i v cs') (hg : wantF ops ⟨none, .store t x y, T, pos, af, gd⟩ (tget tm) = some true) (h : JL P n W K F ops k rest tm (pts b cs' T' :: R)) : JL P n W K F ops k (⟨none, .store t x y, T, pos, af, gd⟩ :: rest) tm L :=
  JL_a0 rfl hg (.cons hm .nil) (ae_st hx hy ht h1 hs) (by rintro _ _ ⟨rfl, rfl⟩; exact h)
theorem JL_stW (hx : evT tm x = some (.pointer (some ⟨b, 0, none⟩))) (hy : evT tm y = some (.agg vs.toArray)) (hm : Tk L (pts b cs T') R) (ht : rowTy P t vs.length = true) (hl : vs.length = cs.length) (h1 : vs.all (·.oneCell') = true) (hg : wantF ops ⟨none, .store t x y, T, pos, af, gd⟩ (tget tm) = some true) (h : JL P n W K F ops k rest tm (pts b vs T' :: R)) : JL P n W K F ops k (⟨none, .store t x y, T, pos, af, gd⟩ :: rest) tm L :=
  JL_a0 rfl hg (.cons hm .nil) (ae_stW hx hy ht hl h1) (by rintro _ _ ⟨rfl, rfl⟩; exact h)
theorem JL_stS (hx : evT tm x = some (.pointer (some ⟨b, i, none⟩))) (hy : evT tm y = some (.agg vs.toArray)) (hm : Tk L (pts b cs T') R) (ht : rowTy P t vs.length = true) (hp : Put cs i vs cs') (h1 : vs.all (·.oneCell') = true) (hg : wantF ops ⟨none, .store t x y, T, pos, af, gd⟩ (tget tm) = some true) (h : JL P n W K F ops k rest tm (pts b cs' T' :: R)) : JL P n W K F ops k (⟨none, .store t x y, T, pos, af, gd⟩ :: rest) tm L :=
  JL_a0 rfl hg (.cons hm .nil) (ae_stS hx hy ht hp h1) (by rintro _ _ ⟨rfl, rfl⟩; exact h)
theorem JD_st (hx : evT tm x = some (.pointer (some ⟨b, i, none⟩))) (hy : evT tm y = some v) (hm : Tk M (pts b cs T') R) (ht : cellTy P t = true) (h1 : v.oneCell' = true) (hs : SetAt cs i v cs') (hg : wantF ops ⟨none, .store t x y, T, pos, af, gd⟩ (tget tm) = some true) (h : JD P n W K F ops k nx rest tm S (pts b cs' T' :: R)) : JD P n W K F ops k nx (⟨none, .store t x y, T, pos, af, gd⟩ :: rest) tm S M :=
  JD_a0 rfl hg rfl (.cons hm .nil) (ae_st hx hy ht h1 hs) (by rintro _ _ ⟨rfl, rfl⟩; exact h)
theorem JD_stW (hx : evT tm x = some (.pointer (some ⟨b, 0, none⟩))) (hy : evT tm y = some (.agg vs.toArray)) (hm : Tk M (pts b cs T') R) (ht : rowTy P t vs.length = true) (hl : vs.length = cs.length) (h1 : vs.all (·.oneCell') = true) (hg : wantF ops ⟨none, .store t x y, T, pos, af, gd⟩ (tget tm) = some true) (h : JD P n W K F ops k nx rest tm S (pts b vs T' :: R)) : JD P n W K F ops k nx (⟨none, .store t x y, T, pos, af, gd⟩ :: rest) tm S M :=
  JD_a0 rfl hg rfl (.cons hm .nil) (ae_stW hx hy ht hl h1) (by rintro _ _ ⟨rfl, rfl⟩; exact h)
theorem JD_stS (hx : evT tm x = some (.pointer (some ⟨b, i, none⟩))) (hy : evT tm y = some (.agg vs.toArray)) (hm : Tk M (pts b cs T') R) (ht : rowTy P t vs.length = true) (hp : Put cs i vs cs') (h1 : vs.all (·.oneCell') = true) (hg : wantF ops ⟨none, .store t x y, T, pos, af, gd⟩ (tget tm) = some true) (h : JD P n W K F ops k nx rest tm S (pts b cs' T' :: R)) : JD P n W K F ops k nx (⟨none, .store t x y, T, pos, af, gd⟩ :: rest) tm S M :=
  JD_a0 rfl hg rfl (.cons hm .nil) (ae_stS hx hy ht hp h1) (by rintro _ _ ⟨rfl, rfl⟩; exact h)
end

/-! A whole element of a slice of the call's own is written. -/
section
variable {α : Type} {enc : α → List Value} {t e : TypeId} {x y : Operand} {a : Option Addr} {m c j sz : Nat} {es : List α} {z' : α} {v : Value}
theorem ae_stEl (hx : evT tm x = some (.pointer (some (elA a j sz 0)))) (hy : evT tm y = some v) (hv : cellsL v = enc z') (hl : ∀ x, (enc x).length = sz) (hz : Nat.blt 0 sz = true) (hj : j < es.length) (ht : (P.info? t).map (·.size) = some sz) (h1 : (enc z').all (·.oneCell') = true) {od : Option Tmp} :
    AE P n K R [Ar e sz enc (.slice a m c) es] ⟨od, .store t x y, T, pos, af, gd⟩ (tget tm) (one undef [Ar e sz enc (.slice a m c) (es.set j z')]) :=
  ae_stE (z := es[j]) hx hy hv hl hz (List.getElem?_eq_getElem hj) (by rw [hl]; exact ht) (by rw [splice_full _ _ (by simp [hl])]) (by simp [hl]) h1
theorem JL_stEl (hx : evT tm x = some (.pointer (some (elA a j sz 0)))) (hy : evT tm y = some v) (hm : Tk L (Ar e sz enc (.slice a m c) es) R) (hv : cellsL v = enc z') (hl : ∀ x, (enc x).length = sz) (hz : Nat.blt 0 sz = true) (ht : (P.info? t).map (·.size) = some sz) (h1 : (enc z').all (·.oneCell') = true) (hg : wantF ops ⟨none, .store t x y, T, pos, af, gd⟩ (tget tm) = some true) (hj : j < es.length)
    (h : JL P n W K F ops k rest tm (Ar e sz enc (.slice a m c) (es.set j z') :: R)) : JL P n W K F ops k (⟨none, .store t x y, T, pos, af, gd⟩ :: rest) tm L :=
  JL_a0 rfl hg (.cons hm .nil) (ae_stEl hx hy hv hl hz hj ht h1) (by rintro _ _ ⟨rfl, rfl⟩; exact h)
theorem JD_stEl (hx : evT tm x = some (.pointer (some (elA a j sz 0)))) (hy : evT tm y = some v) (hm : Tk M (Ar e sz enc (.slice a m c) es) R) (hv : cellsL v = enc z') (hl : ∀ x, (enc x).length = sz) (hz : Nat.blt 0 sz = true) (ht : (P.info? t).map (·.size) = some sz) (h1 : (enc z').all (·.oneCell') = true) (hg : wantF ops ⟨none, .store t x y, T, pos, af, gd⟩ (tget tm) = some true) (hj : j < es.length)
    (h : JD P n W K F ops k nx rest tm S (Ar e sz enc (.slice a m c) (es.set j z') :: R)) : JD P n W K F ops k nx (⟨none, .store t x y, T, pos, af, gd⟩ :: rest) tm S M :=
  JD_a0 rfl hg rfl (.cons hm .nil) (ae_stEl hx hy hv hl hz hj ht h1) (by rintro _ _ ⟨rfl, rfl⟩; exact h)
theorem JL_stEf {z : α} {off : Nat} {vs : List Value} (hx : evT tm x = some (.pointer (some (elA a j sz off)))) (hy : evT tm y = some v) (hm : Tk L (Ar e sz enc (.slice a m c) es) R) (hj : es[j]? = some z) (hv : cellsL v = vs) (hl : ∀ x, (enc x).length = sz) (hz : Nat.blt 0 sz = true) (ht : (P.info? t).map (·.size) = some vs.length) {cs : List Value} (hp : Put (enc z) off vs cs) (hq : enc z' = cs) (h1 : vs.all (·.oneCell') = true) (hg : wantF ops ⟨none, .store t x y, T, pos, af, gd⟩ (tget tm) = some true)
    (h : JL P n W K F ops k rest tm (Ar e sz enc (.slice a m c) (es.set j z') :: R)) : JL P n W K F ops k (⟨none, .store t x y, T, pos, af, gd⟩ :: rest) tm L :=
  JL_a0 rfl hg (.cons hm .nil) (ae_stE hx hy hv hl hz hj ht (by rw [hq]; exact hp.eq.1) (by have := hp.eq.2; rw [hl] at this; exact this) h1) (by rintro _ _ ⟨rfl, rfl⟩; exact h)
end

/-! Append. -/
section
variable {α : Type} {enc : α → List Value} {t e T' : TypeId} {sz bytes m b : Nat} {s x : Operand} {v y : Value} {es fs : List α} {z : α} {cs : List Value}
theorem JL_ap1 (hi : elemInfo P t = some (e, sz, bytes)) (hs : evT tm s = some v) (hx : evT tm x = some (.slice (some ⟨b, 0, none⟩) 1 1)) (hm : Tk L (Ar e sz enc v es) R) (hb : Tk R (pts b cs T') R') (hok : elOk P t e sz bytes = true) (hy : cs = enc z) (hl : ∀ x, (enc x).length = sz) (h1 : cs.all (·.oneCell') = true) (hsz : (es.length + 1) * bytes ≤ 140737488355328)
    (hn : Nat.blt d n = true) (hg : wantF ops ⟨some d, .call ⟨.builtin .append, #[s, x], #[t, t]⟩, T, pos, af, gd⟩ (tget tm) = some true) (h : ∀ ad c, es.length + 1 ≤ c → c ≤ maxLen → JL P n W K F ops k rest ((d, .slice ad (es.length + 1) c) :: tm) (Ar e sz enc (.slice ad (es.length + 1) c) (es ++ [z]) :: R')) : JL P n W K F ops k (⟨some d, .call ⟨.builtin .append, #[s, x], #[t, t]⟩, T, pos, af, gd⟩ :: rest) tm L :=
  JL_a rfl hn hg (.cons hm .nil) (ae_ap1 (.ofOk hok) hs hx hb hy hl h1 hsz) (by
    rintro _ _ ⟨ad, c, h2, h3, rfl, rfl⟩
    refine ⟨fun a w hf hO => ?_⟩
    exact h ad c h2 h3 a w hf ((hO.perm ((hb.perm.cons _).trans (.swap ..))).drop))
theorem JD_ap1 (hi : elemInfo P t = some (e, sz, bytes)) (hs : evT tm s = some v) (hx : evT tm x = some (.slice (some ⟨b, 0, none⟩) 1 1)) (hm : Tk M (Ar e sz enc v es) R) (hb : Tk R (pts b cs T') R') (hok : elOk P t e sz bytes = true) (hy : cs = enc z) (hl : ∀ x, (enc x).length = sz) (h1 : cs.all (·.oneCell') = true) (hsz : (es.length + 1) * bytes ≤ 140737488355328)
    (hg : wantF ops ⟨some d, .call ⟨.builtin .append, #[s, x], #[t, t]⟩, T, pos, af, gd⟩ (tget tm) = some true) (h : ∀ ad c, es.length + 1 ≤ c → c ≤ maxLen → JD P n W K F ops k nx rest ((d, .slice ad (es.length + 1) c) :: tm) S (Ar e sz enc (.slice ad (es.length + 1) c) (es ++ [z]) :: R)) : JD P n W K F ops k nx (⟨some d, .call ⟨.builtin .append, #[s, x], #[t, t]⟩, T, pos, af, gd⟩ :: rest) tm S M :=
  JD_a rfl hg rfl (.cons hm .nil) (ae_app (R := R ++ S) (.ofOk hok) hs hx (by
    rw [flat_one, ← hy]
    have hb' := hb.app S
    exact Src.lit hb' (by rw [hy, hl]; omega) (by simp [maxLen])) hl (by rw [flat_one, ← hy]; exact List.all_eq_true.1 h1) hsz) (by
    rintro _ _ ⟨ad, c, h2, h3, rfl, rfl⟩
    exact h ad c h2 h3)
theorem JL_app (hi : elemInfo P t = some (e, sz, bytes)) (hs : evT tm s = some v) (hx : evT tm x = some y) (hm : Tk L (Ar e sz enc v es) R) (hv : Src K R y sz m (flat enc fs)) (hok : elOk P t e sz bytes = true) (hl : ∀ x, (enc x).length = sz) (h1 : ∀ u ∈ flat enc fs, u.oneCell' = true) (hsz : (es.length + m) * bytes ≤ 140737488355328)
    (hn : Nat.blt d n = true) (hg : wantF ops ⟨some d, .call ⟨.builtin .append, #[s, x], #[t, t]⟩, T, pos, af, gd⟩ (tget tm) = some true) (h : ∀ ad c, es.length + m ≤ c → c ≤ maxLen → JL P n W K F ops k rest ((d, .slice ad (es.length + m) c) :: tm) (Ar e sz enc (.slice ad (es.length + m) c) (es ++ fs) :: R)) : JL P n W K F ops k (⟨some d, .call ⟨.builtin .append, #[s, x], #[t, t]⟩, T, pos, af, gd⟩ :: rest) tm L :=
  JL_a rfl hn hg (.cons hm .nil) (ae_app (.ofOk hok) hs hx hv hl h1 hsz) (by
    rintro _ _ ⟨ad, c, h2, h3, rfl, rfl⟩
    exact h ad c h2 h3)
theorem JD_app (hi : elemInfo P t = some (e, sz, bytes)) (hs : evT tm s = some v) (hx : evT tm x = some y) (hm : Tk M (Ar e sz enc v es) R) (hv : Src K (R ++ S) y sz m (flat enc fs)) (hok : elOk P t e sz bytes = true) (hl : ∀ x, (enc x).length = sz) (h1 : ∀ u ∈ flat enc fs, u.oneCell' = true) (hsz : (es.length + m) * bytes ≤ 140737488355328)
    (hg : wantF ops ⟨some d, .call ⟨.builtin .append, #[s, x], #[t, t]⟩, T, pos, af, gd⟩ (tget tm) = some true) (h : ∀ ad c, es.length + m ≤ c → c ≤ maxLen → JD P n W K F ops k nx rest ((d, .slice ad (es.length + m) c) :: tm) S (Ar e sz enc (.slice ad (es.length + m) c) (es ++ fs) :: R)) : JD P n W K F ops k nx (⟨some d, .call ⟨.builtin .append, #[s, x], #[t, t]⟩, T, pos, af, gd⟩ :: rest) tm S M :=
  JD_a rfl hg rfl (.cons hm .nil) (ae_app (.ofOk hok) hs hx hv hl h1 hsz) (by
    rintro _ _ ⟨ad, c, h2, h3, rfl, rfl⟩
    exact h ad c h2 h3)
theorem Ow.arNil {W : World} {w : World} (H : Ow W K L w) : Ow W K (Ar e sz enc (.slice none 0 0) ([] : List α) :: L) w := H.slNil
theorem Ow.arLit0 {W : World} {w : World} {b : Nat} {T : TypeId} (H : Ow W K L w) (h : Tk L (pts b [] T) R) : Ow W K (Ar T sz enc (.slice (some ⟨b, 0, none⟩) 0 0) ([] : List α) :: R) w := by
  show Ow W K (Sl T sz _ 0 [] :: R) w
  exact H.slLit h (by simp) (by simp [maxLen])
end

/-! Calls. -/
section
variable {c : Operand} {xs : Array Operand} {ts : Array TypeId} {f : FuncId} {first caps : Array Value} {us vs : List Value} {φ : World → Prop} {Rr : Value → List HP → Prop}
end
end
end Go.Pm
namespace Go.Pm
set_option linter.unusedSimpArgs false
set_option linter.unusedVariables false
open Go.RowKit

section
variable {P : Program} {n : Nat} {W : World} {K : Hl} {F : Fp} {k : List It} {tm : TM} {L L' R R' S M M' C : List HP} {T : TypeId} {pos : String} {af : Array Edge} {gd : Option (Nat × Bool)} {ops : Array Oper} {rest nx : List Oper} {d : Tmp}
theorem JD_ldM {ty T' : TypeId} {x : Operand} {b i : Nat} {cs : List Value} {v : Value} (hx : evT tm x = some (.pointer (some ⟨b, i, none⟩))) (hm : Tk M (pts b cs T') M') (ht : cellTy P ty = true) (hv : cs[i]? = some v) (hg : wantF ops ⟨some d, .load ty x, T, pos, af, gd⟩ (tget tm) = some true)
    (h : JD P n W K F ops k nx rest ((d, v) :: tm) (pts b cs T' :: S) M') : JD P n W K F ops k nx (⟨some d, .load ty x, T, pos, af, gd⟩ :: rest) tm S M := JD_pM rfl hg rfl hm (pe_ld hx .here ht hv) h
theorem JD_ldWM {ty T' : TypeId} {x : Operand} {b : Nat} {cs : List Value} (hx : evT tm x = some (.pointer (some ⟨b, 0, none⟩))) (hm : Tk M (pts b cs T') M') (ht : rowTy P ty cs.length = true) (hg : wantF ops ⟨some d, .load ty x, T, pos, af, gd⟩ (tget tm) = some true)
    (h : JD P n W K F ops k nx rest ((d, .agg cs.toArray) :: tm) (pts b cs T' :: S) M') : JD P n W K F ops k nx (⟨some d, .load ty x, T, pos, af, gd⟩ :: rest) tm S M := JD_pM rfl hg rfl hm (pe_ldW hx .here ht) h
theorem JD_ldSM {ty T' : TypeId} {x : Operand} {b i m : Nat} {cs vs : List Value} (hx : evT tm x = some (.pointer (some ⟨b, i, none⟩))) (hm : Tk M (pts b cs T') M') (hn : (P.info? ty).map (·.size) = some m) (hs : Seg cs i m vs) (ht : rowTy P ty m = true) (hg : wantF ops ⟨some d, .load ty x, T, pos, af, gd⟩ (tget tm) = some true)
    (h : JD P n W K F ops k nx rest ((d, .agg vs.toArray) :: tm) (pts b cs T' :: S) M') : JD P n W K F ops k nx (⟨some d, .load ty x, T, pos, af, gd⟩ :: rest) tm S M := JD_pM rfl hg rfl hm (pe_ldS hx .here hn hs ht) h
section
variable {x : Operand} {a : Option Addr} {m c sz j : Nat} {α : Type} {enc : α → List Value} {es : List α} {e : TypeId}
theorem JD_ixM {t : TypeId} {i : Operand} {sz' b' : Nat} {k' : IntKind} {z : Int} {e' : TypeId} (hx : evT tm x = some (.slice a m c)) (hi : evT tm i = some (.int k' z)) (ht : elemInfo P t = some (e', sz', b')) (hm : Tk M (Ar e sz enc (.slice a m c) es) M') (hz : z = (j : Int)) (hj : j < m) (hg : wantF ops ⟨some d, .indexAddr t x i, T, pos, af, gd⟩ (tget tm) = some true)
    (h : JD P n W K F ops k nx rest ((d, .pointer (some (elA a j sz' 0))) :: tm) (Ar e sz enc (.slice a m c) es :: S) M') : JD P n W K F ops k nx (⟨some d, .indexAddr t x i, T, pos, af, gd⟩ :: rest) tm S M := JD_pM rfl hg rfl hm (pe_ix hx hi ht (Src.ar .here) hz hj) h
theorem JD_ixV {t : TypeId} {i : Operand} {sz' b' : Nat} {k' : IntKind} {z : Int} {e' : TypeId} (hx : evT tm x = some (.slice a m c)) (hi : evT tm i = some (.int k' z)) (ht : elemInfo P t = some (e', sz', b')) (hm : Tk M (Vr sz enc (.slice a m c) es) M') (hz : z = (j : Int)) (hj : j < m) (hg : wantF ops ⟨some d, .indexAddr t x i, T, pos, af, gd⟩ (tget tm) = some true)
    (h : JD P n W K F ops k nx rest ((d, .pointer (some (elA a j sz' 0))) :: tm) (Vr sz enc (.slice a m c) es :: S) M') : JD P n W K F ops k nx (⟨some d, .indexAddr t x i, T, pos, af, gd⟩ :: rest) tm S M := JD_pM rfl hg rfl hm (pe_ix hx hi ht (Src.vr .here) hz hj) h
variable {ty : TypeId} {n' : Nat}
end
end
end Go.Pm
namespace Go.Pm
set_option linter.unusedSimpArgs false
set_option linter.unusedVariables false
open Go.RowKit
section
variable {P : Program} {n : Nat} {W : World} {K : Hl} {F : Fp} {k : List It} {tm : TM} {L S M : List HP} {T t u : TypeId} {pos : String} {af : Array Edge} {gd : Option (Nat × Bool)} {ops : Array Oper} {rest nx : List Oper} {od : Option Tmp} {x y z : Operand} {i : Nat} {fn : Fn} {as_ bs : Array Operand} {ts : Array TypeId} {ps : Array (Nat × Operand)} {lo hi mx : Option Operand} {bb : Bool} {r : List Oper} {op : Op} {g : Nat × Bool} {c d : Code} {id : Nat} {dr : Bool} {l : List Oper} {H : Act → World → Prop}
theorem gL (h : JL P n W K F ops k r tm L) : JL P n W K F ops k r tm L := h
theorem gD (h : JD P n W K F ops k nx r tm S M) : JD P n W K F ops k nx r tm S M := h
theorem gL_convert (h : JL P n W K F ops k (⟨od, .convert t u x, T, pos, af, gd⟩ :: rest) tm L) : JL P n W K F ops k (⟨od, .convert t u x, T, pos, af, gd⟩ :: rest) tm L := h
theorem gD_convert (h : JD P n W K F ops k nx (⟨od, .convert t u x, T, pos, af, gd⟩ :: rest) tm S M) : JD P n W K F ops k nx (⟨od, .convert t u x, T, pos, af, gd⟩ :: rest) tm S M := h
theorem gL_load (h : JL P n W K F ops k (⟨od, .load t x, T, pos, af, gd⟩ :: rest) tm L) : JL P n W K F ops k (⟨od, .load t x, T, pos, af, gd⟩ :: rest) tm L := h
theorem gD_load (h : JD P n W K F ops k nx (⟨od, .load t x, T, pos, af, gd⟩ :: rest) tm S M) : JD P n W K F ops k nx (⟨od, .load t x, T, pos, af, gd⟩ :: rest) tm S M := h
theorem gL_store (h : JL P n W K F ops k (⟨od, .store t x y, T, pos, af, gd⟩ :: rest) tm L) : JL P n W K F ops k (⟨od, .store t x y, T, pos, af, gd⟩ :: rest) tm L := h
theorem gD_store (h : JD P n W K F ops k nx (⟨od, .store t x y, T, pos, af, gd⟩ :: rest) tm S M) : JD P n W K F ops k nx (⟨od, .store t x y, T, pos, af, gd⟩ :: rest) tm S M := h
theorem gL_lookup (h : JL P n W K F ops k (⟨od, .lookup t x y bb, T, pos, af, gd⟩ :: rest) tm L) : JL P n W K F ops k (⟨od, .lookup t x y bb, T, pos, af, gd⟩ :: rest) tm L := h
theorem gD_lookup (h : JD P n W K F ops k nx (⟨od, .lookup t x y bb, T, pos, af, gd⟩ :: rest) tm S M) : JD P n W K F ops k nx (⟨od, .lookup t x y bb, T, pos, af, gd⟩ :: rest) tm S M := h
theorem gD_mapUpdate (h : JD P n W K F ops k nx (⟨od, .mapUpdate t x y z, T, pos, af, gd⟩ :: rest) tm S M) : JD P n W K F ops k nx (⟨od, .mapUpdate t x y z, T, pos, af, gd⟩ :: rest) tm S M := h
theorem gL_makeMap (h : JL P n W K F ops k (⟨od, .makeMap t lo, T, pos, af, gd⟩ :: rest) tm L) : JL P n W K F ops k (⟨od, .makeMap t lo, T, pos, af, gd⟩ :: rest) tm L := h
theorem gL_makeSlice (h : JL P n W K F ops k (⟨od, .makeSlice t x y, T, pos, af, gd⟩ :: rest) tm L) : JL P n W K F ops k (⟨od, .makeSlice t x y, T, pos, af, gd⟩ :: rest) tm L := h
theorem gL_bin_add (h : JL P n W K F ops k (⟨od, .binOp .add t x y u, T, pos, af, gd⟩ :: rest) tm L) : JL P n W K F ops k (⟨od, .binOp .add t x y u, T, pos, af, gd⟩ :: rest) tm L := h
theorem gL_bin_sub (h : JL P n W K F ops k (⟨od, .binOp .sub t x y u, T, pos, af, gd⟩ :: rest) tm L) : JL P n W K F ops k (⟨od, .binOp .sub t x y u, T, pos, af, gd⟩ :: rest) tm L := h
theorem gL_bin_mul (h : JL P n W K F ops k (⟨od, .binOp .mul t x y u, T, pos, af, gd⟩ :: rest) tm L) : JL P n W K F ops k (⟨od, .binOp .mul t x y u, T, pos, af, gd⟩ :: rest) tm L := h
theorem gL_bin_and (h : JL P n W K F ops k (⟨od, .binOp .and t x y u, T, pos, af, gd⟩ :: rest) tm L) : JL P n W K F ops k (⟨od, .binOp .and t x y u, T, pos, af, gd⟩ :: rest) tm L := h
theorem gL_bin_shl (h : JL P n W K F ops k (⟨od, .binOp .shl t x y u, T, pos, af, gd⟩ :: rest) tm L) : JL P n W K F ops k (⟨od, .binOp .shl t x y u, T, pos, af, gd⟩ :: rest) tm L := h
theorem gL_bin_shr (h : JL P n W K F ops k (⟨od, .binOp .shr t x y u, T, pos, af, gd⟩ :: rest) tm L) : JL P n W K F ops k (⟨od, .binOp .shr t x y u, T, pos, af, gd⟩ :: rest) tm L := h
theorem gL_bin_eql (h : JL P n W K F ops k (⟨od, .binOp .eql t x y u, T, pos, af, gd⟩ :: rest) tm L) : JL P n W K F ops k (⟨od, .binOp .eql t x y u, T, pos, af, gd⟩ :: rest) tm L := h
theorem gL_bin_neq (h : JL P n W K F ops k (⟨od, .binOp .neq t x y u, T, pos, af, gd⟩ :: rest) tm L) : JL P n W K F ops k (⟨od, .binOp .neq t x y u, T, pos, af, gd⟩ :: rest) tm L := h
theorem gD_bin_neq (h : JD P n W K F ops k nx (⟨od, .binOp .neq t x y u, T, pos, af, gd⟩ :: rest) tm S M) : JD P n W K F ops k nx (⟨od, .binOp .neq t x y u, T, pos, af, gd⟩ :: rest) tm S M := h
theorem gL_c_append (h : JL P n W K F ops k (⟨od, .call ⟨.builtin .append, as_, ts⟩, T, pos, af, gd⟩ :: rest) tm L) : JL P n W K F ops k (⟨od, .call ⟨.builtin .append, as_, ts⟩, T, pos, af, gd⟩ :: rest) tm L := h
theorem gD_c_append (h : JD P n W K F ops k nx (⟨od, .call ⟨.builtin .append, as_, ts⟩, T, pos, af, gd⟩ :: rest) tm S M) : JD P n W K F ops k nx (⟨od, .call ⟨.builtin .append, as_, ts⟩, T, pos, af, gd⟩ :: rest) tm S M := h
theorem gL_c_len (h : JL P n W K F ops k (⟨od, .call ⟨.builtin .len, as_, ts⟩, T, pos, af, gd⟩ :: rest) tm L) : JL P n W K F ops k (⟨od, .call ⟨.builtin .len, as_, ts⟩, T, pos, af, gd⟩ :: rest) tm L := h
theorem gL_c_copy (h : JL P n W K F ops k (⟨od, .call ⟨.builtin .copy, as_, ts⟩, T, pos, af, gd⟩ :: rest) tm L) : JL P n W K F ops k (⟨od, .call ⟨.builtin .copy, as_, ts⟩, T, pos, af, gd⟩ :: rest) tm L := h
theorem gD_c_copy (h : JD P n W K F ops k nx (⟨od, .call ⟨.builtin .copy, as_, ts⟩, T, pos, af, gd⟩ :: rest) tm S M) : JD P n W K F ops k nx (⟨od, .call ⟨.builtin .copy, as_, ts⟩, T, pos, af, gd⟩ :: rest) tm S M := h
theorem gL_c_clear (h : JL P n W K F ops k (⟨od, .call ⟨.builtin .clear, as_, ts⟩, T, pos, af, gd⟩ :: rest) tm L) : JL P n W K F ops k (⟨od, .call ⟨.builtin .clear, as_, ts⟩, T, pos, af, gd⟩ :: rest) tm L := h
theorem gL_c_delete (h : JL P n W K F ops k (⟨od, .call ⟨.builtin .delete, as_, ts⟩, T, pos, af, gd⟩ :: rest) tm L) : JL P n W K F ops k (⟨od, .call ⟨.builtin .delete, as_, ts⟩, T, pos, af, gd⟩ :: rest) tm L := h
theorem gD_c_delete (h : JD P n W K F ops k nx (⟨od, .call ⟨.builtin .delete, as_, ts⟩, T, pos, af, gd⟩ :: rest) tm S M) : JD P n W K F ops k nx (⟨od, .call ⟨.builtin .delete, as_, ts⟩, T, pos, af, gd⟩ :: rest) tm S M := h
theorem gL_go (h : JL P n W K F ops k (⟨od, .call ⟨.value x, as_, ts⟩, T, pos, af, gd⟩ :: rest) tm L) : JL P n W K F ops k (⟨od, .call ⟨.value x, as_, ts⟩, T, pos, af, gd⟩ :: rest) tm L := h
theorem gD_go (h : JD P n W K F ops k nx (⟨od, .call ⟨.value x, as_, ts⟩, T, pos, af, gd⟩ :: rest) tm S M) : JD P n W K F ops k nx (⟨od, .call ⟨.value x, as_, ts⟩, T, pos, af, gd⟩ :: rest) tm S M := h
/-! A long region's text stands as two lists, appended. -/
theorem gL_app {x : Oper} {l m : List Oper} (h : JL P n W K F ops k (x :: List.append l m) tm L) : JL P n W K F ops k (List.append (x :: l) m) tm L := h
theorem gL_app0 {m : List Oper} (h : JL P n W K F ops k m tm L) : JL P n W K F ops k (List.append [] m) tm L := h
theorem gD_app {x : Oper} {l m : List Oper} (h : JD P n W K F ops k nx (x :: List.append l m) tm S M) : JD P n W K F ops k nx (List.append (x :: l) m) tm S M := h
theorem gD_app0 {m : List Oper} (h : JD P n W K F ops k nx m tm S M) : JD P n W K F ops k nx (List.append [] m) tm S M := h
end
end Go.Pm
namespace Go.Pm
set_option linter.unusedSimpArgs false
set_option linter.unusedVariables false
open Go.RowKit

section
variable {P : Program} {n : Nat} {W : World} {K : Hl} {F : Fp} {k : List It} {tm : TM} {L L' R S M : List HP} {T : TypeId} {pos : String} {af : Array Edge} {gd : Option (Nat × Bool)} {ops : Array Oper} {rest nx : List Oper} {d : Tmp}
variable {α : Type} {enc : α → List Value} {e : TypeId} {sz : Nat} {a : Option Addr} {m c : Nat} {es : List α} {w : World}

theorem Rdw.cell {b i : Nat} {cs : List Value} {v : Value} (h : Rdw K L w) (t : Tk L (pts b cs T) R) (hv : cs[i]? = some v) : w.cell? ⟨b, i, none⟩ = some v := by
  rw [(h.blk t).cell]; simpa using hv
theorem flat_take (hl : ∀ x, (enc x).length = sz) (es : List α) (j : Nat) (hj : j ≤ es.length) : (flat enc es).take (j * sz) = flat enc (es.take j) := by
  have h1 : flat enc es = flat enc (es.take j) ++ flat enc (es.drop j) := by rw [← flat_append, List.take_append_drop]
  rw [h1, List.take_append_of_le_length (by rw [flat_length hl]; simp [Nat.min_eq_left hj]), List.take_of_length_le (by rw [flat_length hl]; simp [Nat.min_eq_left hj])]

theorem Ow.arShape (H : Ow W K L w) (h : Tk L (Ar e sz enc (.slice a m c) es) R) : m = es.length ∧ m ≤ c ∧ c ≤ maxLen := by
  obtain ⟨_, a', c', he, h1, h2⟩ := Ow.slShape H h
  injection he with h3 h4 h5
  subst h4 h5
  exact ⟨rfl, h1, h2⟩
theorem Ow.arTake (H : Ow W K L w) (h : Tk L (Ar e sz enc (.slice a m c) es) R) (hl : ∀ x, (enc x).length = sz) (j : Nat) (hj : j ≤ es.length) : Ow W K (Ar e sz enc (.slice a j c) (es.take j) :: R) w := by
  obtain ⟨hm, hmc, hcm⟩ := H.arShape h
  refine (H.tk h).imp fun q hq => ?_
  have hlen : (es.take j).length = j := by simp; omega
  obtain ⟨h1, h2⟩ := hq
  show Sl e sz _ (es.take j).length _ q
  rw [hlen]
  refine ⟨by rw [flat_length hl, hlen], ?_⟩
  rcases h2 with ⟨h2, h3, h4⟩ | ⟨g, cap, cur, h2, h3, h4, h5, h6, h7⟩
  · injection h2 with h8 h9 h10
    subst h8 h10
    left
    have : j = 0 := by omega
    subst this
    exact ⟨rfl, rfl, h4⟩
  · injection h2 with h8 h9 h10
    subst h8 h10
    refine .inr ⟨g, c, cur, rfl, by omega, hcm, h5, ?_, h7⟩
    have h8 : cur.toList.take (j * sz) = (cur.toList.take (es.length * sz)).take (j * sz) := by
      rw [List.take_take, Nat.min_eq_left (Nat.mul_le_mul_right _ hj)]
    rw [h8, h6]
    exact flat_take hl es j hj

theorem slA_lt {b o l : Nat} (h : l < c) : slA (some ⟨b, o, none⟩) c l sz = some ⟨b, o + l * sz, none⟩ := by
  unfold slA
  rw [if_neg (by omega)]
  simp [addr_add_plain]

theorem ae_clear {od : Option Tmp} {t : TypeId} {x : Operand} {l b' q q' : Nat} {z : α} (hi : elemInfo P t = some (e, sz, b')) (hx : evT tm x = some (.slice (slA a c l sz) q q')) (hz : enc z = zeroC P e) (hz0 : zeroC P e ≠ []) (h1 : (zeroC P e).all (·.oneCell') = true) (hl : ∀ x, (enc x).length = sz) (hq : l + q = es.length) :
    AE P n K R [Ar e sz enc (.slice a m c) es] ⟨od, .call ⟨.builtin .clear, #[x], #[t]⟩, T, pos, af, gd⟩ (tget tm) (one (.tuple #[]) [Ar e sz enc (.slice a m c) (es.take l ++ List.replicate q z)]) := fun W K' w act next hK hf hO hn => by
  obtain ⟨hm, hmc, hcm⟩ := Ow.arShape hO .here
  subst hm
  obtain ⟨i, hu, hin, hsz, _⟩ := elemInfo_spec hi
  obtain ⟨zv, hzv, hzc⟩ : ∃ zv, i.zero = some zv ∧ zeroC P e = cellsL zv := by
    unfold zeroC at hz0 ⊢
    rw [hin] at hz0 ⊢
    dsimp only at hz0 ⊢
    cases hq : i.zero with
    | none => simp [hq] at hz0
    | some zv => exact ⟨zv, rfl, rfl⟩
  have hcl : cellsL zv = zv.cells.toList := by cases zv <;> rfl
  have hzl : zv.cells.size = sz := by
    have := hl z
    rw [hz, hzc, hcl] at this
    simpa using this
  have hsz0 : 0 < sz := by
    rcases Nat.eq_zero_or_pos sz with h0 | h0
    · exfalso
      have := hl z
      rw [hz, h0] at this
      exact hz0 (List.eq_nil_of_length_eq_zero this)
    · exact h0
  refine wpI_of_wp ?_
  unfold Oper.wp execOp
  by_cases hle : l = es.length
  · have hq0 : q = 0 := by omega
    subst hq0
    have hr : (Builtin.clear_ #[t] T #[.slice (slA a c l sz) 0 q']).run P w = .ok (.tuple #[]) w := by
      cases h9 : slA a c l sz <;> simp [Builtin.clear_, Sem.run_bind, run_underlying hu w]
    simp only [resolve, invoke, builtin, Sem.run_bind, Sem.run_pure, Result.andThen_ok, List.map_toArray, List.map_cons, List.map_nil, hf.eval hx, hr]
    refine hn _ _ w ⟨rfl, rfl⟩ ?_
    rw [hle]
    simpa using hO
  · have hlt : l < es.length := by omega
    obtain ⟨g, cur, rfl, H2, hcl2, hct, hnc, _⟩ := Ow.slOpen hO .here (by omega)
    have hzs : (Builtin.zeroCells zv.cells q).toList.length = q * sz := by simp [size_zeroCells, hzl]
    have hbd : l * sz + q * sz ≤ cur.length := by
      rw [← Nat.add_mul, hq, hcl2]
      exact Nat.mul_le_mul_right _ hnc
    have hth := (H2.blk .here).there (l * sz) (q * sz) (by simpa using hbd)
    have h1z : ∀ v ∈ (Builtin.zeroCells zv.cells q).toList, v.oneCell' = true := by
      intro v hv
      simp only [Builtin.zeroCells, Array.toList_map, List.mem_map] at hv
      obtain ⟨k, hk, rfl⟩ := hv
      have hlt2 := Nat.mod_lt k (show 0 < zv.cells.size by omega)
      rw [getElem!_pos zv.cells (k % zv.cells.size) hlt2]
      refine List.all_eq_true.1 h1 _ ?_
      rw [hzc, hcl]
      simp
    have hs := run_storeCells_cells (P := P) g (l * sz) (Builtin.zeroCells zv.cells q).toList 0 w (fun j hj => by simpa using (hth j (by omega)).1) (fun j hj => by simpa using (hth j (by omega)).2) h1z
    simp only [Nat.add_zero] at hs
    have hr : (Builtin.clear_ #[t] T #[.slice (slA (some ⟨g, 0, none⟩) c l sz) q q']).run P w = .ok (.tuple #[]) (w.setCells g (l * sz) (Builtin.zeroCells zv.cells q).toList) := by
      rw [slA_lt (by omega), Nat.zero_add]
      obtain ⟨m', hm'⟩ : ∃ m', q = m' + 1 := ⟨q - 1, by omega⟩
      rw [hm'] at hs ⊢
      simp [Builtin.clear_, Sem.run_bind, run_underlying hu w, zeroValue, typeInfo, hin, hzv, hs]
    simp only [resolve, invoke, builtin, Sem.run_bind, Sem.run_pure, Result.andThen_ok, List.map_toArray, List.map_cons, List.map_nil, hf.eval hx, hr]
    refine hn _ _ _ ⟨rfl, rfl⟩ ?_
    have H3 := H2.setCells (Builtin.zeroCells zv.cells q).toList (l * sz) .here (by omega)
    have hlen : (es.take l ++ List.replicate q z).length = es.length := by simp; omega
    have hx2 : (splice cur.toArray (l * sz) (Builtin.zeroCells zv.cells q).toList).toList.take (es.length * sz) = flat enc (es.take l ++ List.replicate q z) := by
      rw [← hlen]
      refine take_rows hl _ (by rw [hlen, Array.length_toList (xs := splice cur.toArray (l * sz) (Builtin.zeroCells zv.cells q).toList), splice_size]; simp; rw [hcl2]; exact Nat.mul_le_mul_right _ hnc) fun i hi => ?_
      have hi' : i < es.length := by rw [hlen] at hi; exact hi
      have e2 : (i + 1) * sz = i * sz + sz := Nat.succ_mul i sz
      have hsz4 : (i + 1) * sz ≤ es.length * sz := Nat.mul_le_mul_right _ hi'
      have hri := rows_of hl hct i hi'
      have hbd2 : es.length * sz ≤ cur.length := by rw [hcl2]; exact Nat.mul_le_mul_right _ hnc
      by_cases hil : i < l
      · have e3 : (i + 1) * sz ≤ l * sz := Nat.mul_le_mul_right _ hil
        rw [List.getElem_append_left (by simp; omega), rowOf_splice_lt (by rw [hzs]; omega) i hil, hri, List.getElem_take]
      · rw [List.getElem_append_right (by simp; omega), List.getElem_replicate]
        apply List.ext_getElem?
        intro j
        by_cases hj : j < sz
        · have e4 : l * sz ≤ i * sz := Nat.mul_le_mul_right _ (by omega)
          have e5 : l * sz + q * sz = es.length * sz := by rw [← Nat.add_mul, hq]
          rw [rowOf_get hj, Array.getElem?_toList (xs := splice cur.toArray (l * sz) (Builtin.zeroCells zv.cells q).toList), splice_get _ (l * sz) cur.toArray (i * sz + j) (by rw [hzs]; simpa using hbd), if_pos (by rw [hzs]; omega)]
          have e7 : i * sz + j - l * sz = (i - l) * sz + j := by rw [Nat.sub_mul]; omega
          have e6 : (i * sz + j - l * sz) % sz = j := by
            rw [e7, Nat.mul_comm, Nat.mul_add_mod, Nat.mod_eq_of_lt hj]
          have e8 : i * sz + j - l * sz < q * sz := by omega
          rw [hz, hzc, hcl]
          simp only [Builtin.zeroCells, Array.toList_map, List.getElem?_map, Array.toList_range, hzl]
          rw [List.getElem?_range e8]
          simp only [Option.map_some, e6]
          rw [getElem!_pos zv.cells j (by omega)]
          simp [hzl, hj]
        · rw [List.getElem?_eq_none (by unfold rowOf; rw [List.length_take]; omega), List.getElem?_eq_none (by rw [hl]; omega)]
    show Ow W K' (Sl e sz _ (es.take l ++ List.replicate q z).length _ :: R) _
    rw [hlen]
    exact H3.slShut (n := es.length) (cap := c) .here (by rw [Array.length_toList (xs := splice cur.toArray (l * sz) (Builtin.zeroCells zv.cells q).toList), splice_size]; simpa using hcl2) hx2 hnc hcm
theorem JL_clear {t : TypeId} {x : Operand} {l b' q q' : Nat} (z : α) (hi : elemInfo P t = some (e, sz, b')) (hx : evT tm x = some (.slice (slA a c l sz) q q')) (hm : Tk L (Ar e sz enc (.slice a m c) es) R) (hz : enc z = zeroC P e) (hz0 : zeroC P e ≠ []) (h1 : (zeroC P e).all (·.oneCell') = true) (hl : ∀ x, (enc x).length = sz) (hq : l + q = es.length)
    (hg : wantF ops ⟨none, .call ⟨.builtin .clear, #[x], #[t]⟩, T, pos, af, gd⟩ (tget tm) = some true) (h : JL P n W K F ops k rest tm (Ar e sz enc (.slice a m c) (es.take l ++ List.replicate q z) :: R)) : JL P n W K F ops k (⟨none, .call ⟨.builtin .clear, #[x], #[t]⟩, T, pos, af, gd⟩ :: rest) tm L :=
  JL_a0 rfl hg (.cons hm .nil) (ae_clear hi hx hz hz0 h1 hl hq) (by rintro _ _ ⟨rfl, rfl⟩; exact h)
end
end Go.Pm
