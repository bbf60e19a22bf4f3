/-
  Scopes with a label, in whatever frame.
-/
import Derived.Test.YtohahlcjkhgimaaJc
import Derived.ScopeJumps
namespace Go.Pm
set_option linter.unusedSimpArgs false
set_option linter.unusedVariables false
open Go.RowKit

section
variable {P : Program} {b : Frame} {a : Act} {k : List Item} {cs : List Frame} {w : World}
theorem stepR_scope {c : Code} : step P (lone (b.atR a (.code (.scope c) :: k)) cs w) = .next (lone (b.atR a (.code c :: .inScope c :: k)) cs w) :=
  step_lone_go (by simp [stepG, stepG.exec, Frame.atR])
theorem stepR_inScope {c : Code} : step P (lone (b.atR a (.inScope c :: k)) cs w) = .next (lone (b.atR a k) cs w) :=
  step_lone_go (by simp [stepG, stepG.exec, Frame.atR])
end
theorem wpIn_scope_jumps {F : Fence} {n : Nat} {P : Program} {a : Act} {w : World} {Q : Exit → Act → World → Prop} {c rest : Code} (l : Nat) (J : Act → World → Prop) (μ : Act → World → Nat) (hf : findLabel c l = some rest)
    (first : c.wpIn F n P (Exit.jump l J Q) a w)
    (pass : ∀ a w, J a w → rest.wpIn F n P (Exit.jump l (fun a' w' => J a' w' ∧ μ a' w' < μ a w) Q) a w) : (Code.scope c).wpIn F n P Q a w := by
  intro b k cs hro hb hr
  have hg : gotoIn l (.inScope c :: k) = some (.code rest :: .inScope c :: k) := by simp [gotoIn, hf]
  have hx : ∀ id, exitTo id (.inScope c :: k) = exitTo id k := fun id => by simp [exitTo]
  have key : ∀ m a w, μ a w = m → J a w → ∃ e a' w', Q e a' w' ∧ ArrivesIn (Machine.fenced P F) P (lone (b.atR a (.code rest :: .inScope c :: k)) cs w) b k cs e a' w' := by
    intro m
    induction m using Nat.strongRecOn with
    | _ m ih =>
      intro a w hn hJ
      obtain ⟨e, a₁, w₁, hq, harr⟩ := pass a w hJ b (.inScope c :: k) cs hro hb hr
      cases e with
      | normal => exact ⟨.normal, a₁, w₁, hq, StepsIn.trans harr (.one (fenced_calm hb hr rfl) stepR_inScope)⟩
      | exit id => exact ⟨.exit id, a₁, w₁, hq, fun k' hk => harr.1 k' (by rw [hx]; exact hk), fun hr' hk => harr.2 hr' (by rw [hx]; exact hk)⟩
      | goto l' =>
        obtain ⟨rfl, hJ', hlt⟩ := hq
        obtain ⟨e₂, a₂, w₂, hq₂, harr₂⟩ := ih _ (by omega) a₁ w₁ rfl hJ'
        exact ⟨e₂, a₂, w₂, hq₂, .of_steps (harr.1 _ hg) harr₂⟩
      | ret => exact ⟨_, a₁, w₁, hq, harr⟩
      | panic ch => exact ⟨_, a₁, w₁, hq, harr⟩
      | outgrown => exact ⟨_, a₁, w₁, hq, harr⟩
  have h0 : (lone (b.atR a (.code (.scope c) :: k)) cs w).fenced P F := fenced_calm hb hr rfl
  obtain ⟨e, a₁, w₁, hq, harr⟩ := first b (.inScope c :: k) cs hro hb hr
  cases e with
  | normal => exact ⟨.normal, a₁, w₁, hq, .head h0 stepR_scope (StepsIn.trans harr (.one (fenced_calm hb hr rfl) stepR_inScope))⟩
  | exit id => exact ⟨.exit id, a₁, w₁, hq, fun k' hk => .head h0 stepR_scope (harr.1 k' (by rw [hx]; exact hk)), fun hr' hk => let ⟨k₁, h1, h2⟩ := harr.2 hr' (by rw [hx]; exact hk); ⟨k₁, h1, .head h0 stepR_scope h2⟩⟩
  | goto l' =>
    obtain ⟨rfl, hJ'⟩ := hq
    obtain ⟨e₂, a₂, w₂, hq₂, harr₂⟩ := key _ a₁ w₁ rfl hJ'
    exact ⟨e₂, a₂, w₂, hq₂, .of_steps (.head h0 stepR_scope (harr.1 _ hg)) harr₂⟩
  | ret => exact ⟨_, a₁, w₁, hq, .of_steps (.one h0 stepR_scope) harr⟩
  | panic ch => exact ⟨_, a₁, w₁, hq, .of_steps (.one h0 stepR_scope) harr⟩
  | outgrown => exact ⟨_, a₁, w₁, hq, .of_steps (.one h0 stepR_scope) harr⟩

/-- Codes one behind the other, then K. -/
def wpKI (F : Fence) (n : Nat) (P : Program) : List Code → (Act → World → Prop) → (Exit → Act → World → Prop) → Act → World → Prop
  | [], K, _ => K
  | c :: cs, K, Q => c.wpIn F n P (Exit.then (wpKI F n P cs K Q) Q)

theorem wpKI_mono {F : Fence} {n : Nat} {P : Program} {Q Q' : Exit → Act → World → Prop} (hq : ∀ e a w, e ≠ .normal → Q e a w → Q' e a w) : ∀ (l : List Code) {K K' : Act → World → Prop} (_ : ∀ a w, K a w → K' a w) (a : Act) (w : World),
    wpKI F n P l K Q a w → wpKI F n P l K' Q' a w
  | [], _, _, hk, a, w, h => hk a w h
  | c :: cs, K, K', hk, a, w, h => by
    refine wpIn_mono (c := c) h ?_
    intro e a w he
    cases e <;> first | exact wpKI_mono hq cs hk _ _ he | exact hq _ _ _ (by simp) he

theorem wpKI_append {F : Fence} {n : Nat} {P : Program} {Q : Exit → Act → World → Prop} {K : Act → World → Prop} (y : List Code) : ∀ (l : List Code), wpKI F n P (l ++ y) K Q = wpKI F n P l (wpKI F n P y K Q) Q
  | [] => rfl
  | c :: cs => by simp only [List.cons_append, wpKI, wpKI_append y cs]

theorem wpI_upto {F : Fence} {n : Nat} {P : Program} : ∀ (c : Code) (l : Nat) (bs rs : List Code) (Q : Exit → Act → World → Prop) (a : Act) (w : World), upto c l = some (bs, rs) →
    wpKI F n P bs (wpKI F n P rs (Q .normal) Q) Q a w → c.wpIn F n P Q a w := by
  intro c l
  induction c with
  | seq x y ihx ihy =>
    intro bs rs Q a w hu h
    simp only [upto] at hu
    cases hx : upto x l with
    | some p =>
      obtain ⟨b1, r1⟩ := p
      simp only [hx, Option.some.injEq, Prod.mk.injEq] at hu
      obtain ⟨rfl, rfl⟩ := hu
      refine wpIn_seq (ihx b1 r1 _ a w hx ?_)
      refine wpKI_mono (fun e a w hne he => ?_) b1 (fun a w hk => ?_) a w h
      · cases e <;> first | exact (hne rfl).elim | exact he
      · rw [wpKI_append] at hk
        refine wpKI_mono (fun e a w hne he => ?_) r1 (fun a w hk => ?_) a w hk
        · cases e <;> first | exact (hne rfl).elim | exact he
        · refine wpIn_mono (c := y) hk ?_
          intro e a w he
          cases e <;> exact he
    | none =>
      simp only [hx] at hu
      cases hy : upto y l with
      | none => simp [hy] at hu
      | some p =>
        obtain ⟨b1, r1⟩ := p
        simp only [hy, Option.some.injEq, Prod.mk.injEq] at hu
        obtain ⟨rfl, rfl⟩ := hu
        refine wpIn_seq (wpIn_mono (c := x) h ?_)
        intro e a w he
        cases e <;> first | exact ihy b1 r1 Q a w hy he | exact he
  | label l' =>
    intro bs rs Q a w hu h
    simp only [upto] at hu
    split at hu
    · simp only [Option.some.injEq, Prod.mk.injEq] at hu
      obtain ⟨rfl, rfl⟩ := hu
      refine wpIn_mono (c := .label l') h ?_
      intro e a w he
      cases e <;> exact he
    · simp at hu
  | _ => intro _ _ _ _ _ hu; simp [upto] at hu

theorem wpI_rest {F : Fence} {n : Nat} {P : Program} : ∀ (c : Code) (l : Nat) (bs rs : List Code) (rest : Code) (Q : Exit → Act → World → Prop) (a : Act) (w : World), upto c l = some (bs, rs) → findLabel c l = some rest →
    wpKI F n P rs (Q .normal) Q a w → rest.wpIn F n P Q a w := by
  intro c l
  induction c with
  | seq x y ihx ihy =>
    intro bs rs rest Q a w hu hf h
    simp only [upto] at hu
    simp only [findLabel] at hf
    cases hx : upto x l with
    | some p =>
      obtain ⟨b1, r1⟩ := p
      simp only [hx, Option.some.injEq, Prod.mk.injEq] at hu
      obtain ⟨rfl, rfl⟩ := hu
      cases hfx : findLabel x l with
      | none => exact (no_label x l b1 r1 hx hfx).elim
      | some r =>
        simp only [hfx, Option.some.injEq] at hf
        subst hf
        refine wpIn_seq (ihx b1 r1 r _ a w hx hfx ?_)
        rw [wpKI_append] at h
        refine wpKI_mono (fun e a w hne he => ?_) r1 (fun a w hk => ?_) a w h
        · cases e <;> first | exact (hne rfl).elim | exact he
        · refine wpIn_mono (c := y) hk ?_
          intro e a w he
          cases e <;> exact he
    | none =>
      simp only [hx] at hu
      cases hy : upto y l with
      | none => simp [hy] at hu
      | some p =>
        obtain ⟨b1, r1⟩ := p
        simp only [hy, Option.some.injEq, Prod.mk.injEq] at hu
        obtain ⟨rfl, rfl⟩ := hu
        have hfx := no_upto x l hx
        simp only [hfx] at hf
        exact ihy b1 r1 rest Q a w hy hf h
  | label l' =>
    intro bs rs rest Q a w hu hf h
    simp only [upto] at hu
    simp only [findLabel] at hf
    split at hu
    · rename_i hl
      simp only [Option.some.injEq, Prod.mk.injEq] at hu
      obtain ⟨rfl, rfl⟩ := hu
      simp only [hl, if_true, Option.some.injEq] at hf
      subst hf
      exact wpIn_skip h
    · simp at hu
  | _ => intro _ _ _ _ _ _ hu; simp [upto] at hu

end Go.Pm
