/-
  Appends of a few bytes that are written out.
-/
import Derived.Test.YtohahlcjkhgimaaJp
namespace Go.Pm
set_option linter.unusedSimpArgs false
set_option linter.unusedVariables false
open Go.RowKit
inductive NumsOf : List Value → List Int → Prop
  | nil : NumsOf [] []
  | cons {x : Int} {cs : List Value} {bs : List Int} : NumsOf cs bs → NumsOf (.int .u8 x :: cs) (x :: bs)
theorem NumsOf.eq {cs : List Value} {bs : List Int} (h : NumsOf cs bs) : cs = flat byC bs := by
  induction h with
  | nil => rfl
  | cons _ ih => rw [ih]; rfl
theorem NumsOf.cons' {x y : Int} {cs : List Value} {bs : List Int} (h : y = x) (hc : NumsOf cs bs) : NumsOf (.int .u8 y :: cs) (x :: bs) := by subst h; exact .cons hc
theorem flat_byC_len (bs : List Int) : (flat byC bs).length = bs.length := by
  have := flat_length (f := byC) (sz := 1) (fun _ => rfl) bs
  omega
theorem flat_byC_one (bs : List Int) : ∀ u ∈ flat byC bs, u.oneCell' = true := by
  intro u hu
  obtain ⟨x, _, hx⟩ := List.mem_flatMap.1 hu
  obtain rfl := List.mem_singleton.1 hx
  rfl
section
variable {P : Program} {n : Nat} {W : World} {K : Hl} {F : Fp} {k : List It} {tm : TM} {L L' R S M M' R' : List HP} {T : TypeId} {pos : String} {af : Array Edge} {gd : Option (Nat × Bool)} {ops : Array Oper} {rest nx : List Oper} {d : Tmp}
variable {t e T' : TypeId} {m b : Nat} {s x : Operand} {v : Value} {es bs : List Int} {cs : List Value}
theorem Src.nums {K : Hl} {L R : List HP} {g m : Nat} {cs : List Value} {e : TypeId} {bs : List Int} (t : Tk L (pts g cs e) R) (hb : NumsOf cs bs) (hl : Nat.beq bs.length m = true) (hm : Nat.ble m 1000000 = true) : Src K L (.slice (some ⟨g, 0, none⟩) m m) 1 m (flat byC bs) := by
  rw [← hb.eq]
  have h1 := Nat.eq_of_beq_eq_true hl
  have h2 := Nat.le_of_ble_eq_true hm
  exact Src.lit t (by rw [hb.eq, flat_byC_len]; omega) (by simp [maxLen]; omega)
theorem JL_apN (hi : elemInfo P t = some (e, 1, 1)) (hs : evT tm s = some v) (hx : evT tm x = some (.slice (some ⟨b, 0, none⟩) m m)) (hm : Tk L (Ar e 1 byC v es) R) (hb : Tk R (pts b cs T') R') (hy : NumsOf cs bs) (hlen : Nat.beq bs.length m = true) (hm2 : Nat.ble m 1000000 = true) (hok : elOk P t e 1 1 = true) (hsz : es.length + m ≤ 140737488355328)
    (hn : Nat.blt d n = true) (hg : wantF ops ⟨some d, .call ⟨.builtin .append, #[s, x], #[t, t]⟩, T, pos, af, gd⟩ (tget tm) = some true) (h : ∀ ad c, es.length + m ≤ c → c ≤ maxLen → JL P n W K F ops k rest ((d, .slice ad (es.length + m) c) :: tm) (Ar e 1 byC (.slice ad (es.length + m) c) (es ++ bs) :: R)) : JL P n W K F ops k (⟨some d, .call ⟨.builtin .append, #[s, x], #[t, t]⟩, T, pos, af, gd⟩ :: rest) tm L :=
  JL_app hi hs hx hm (Src.nums hb hy hlen hm2) hok (fun _ => rfl) (flat_byC_one bs) (by omega) hn hg h
theorem JD_apN (hi : elemInfo P t = some (e, 1, 1)) (hs : evT tm s = some v) (hx : evT tm x = some (.slice (some ⟨b, 0, none⟩) m m)) (hm : Tk M (Ar e 1 byC v es) R) (hb : Tk R (pts b cs T') R') (hy : NumsOf cs bs) (hlen : Nat.beq bs.length m = true) (hm2 : Nat.ble m 1000000 = true) (hok : elOk P t e 1 1 = true) (hsz : es.length + m ≤ 140737488355328)
    (hg : wantF ops ⟨some d, .call ⟨.builtin .append, #[s, x], #[t, t]⟩, T, pos, af, gd⟩ (tget tm) = some true) (h : ∀ ad c, es.length + m ≤ c → c ≤ maxLen → JD P n W K F ops k nx rest ((d, .slice ad (es.length + m) c) :: tm) S (Ar e 1 byC (.slice ad (es.length + m) c) (es ++ bs) :: R)) : JD P n W K F ops k nx (⟨some d, .call ⟨.builtin .append, #[s, x], #[t, t]⟩, T, pos, af, gd⟩ :: rest) tm S M :=
  JD_app hi hs hx hm (Src.nums (hb.app S) hy hlen hm2) hok (fun _ => rfl) (flat_byC_one bs) (by omega) hg h
/-- Bytes that are written out, as a slice. -/
theorem Ow.arNums {w : World} (H : Ow W K L w) (hb : Tk L (pts b cs e) R) (hy : NumsOf cs bs) (hlen : Nat.beq bs.length m = true) (hm2 : Nat.ble m 1000000 = true) : Ow W K (Ar e 1 byC (.slice (some ⟨b, 0, none⟩) m m) bs :: R) w := by
  have h1 := Nat.eq_of_beq_eq_true hlen
  have h2 := Nat.le_of_ble_eq_true hm2
  unfold Ar
  rw [h1, ← hy.eq]
  exact H.slLit hb (by rw [hy.eq, flat_byC_len]; omega) (by simp [maxLen]; omega)
end
end Go.Pm
