/-
  The walk in our own words, seventh part: append, calls.
-/
import Derived.Test.YtohahlcjkhgimaaJf
namespace Go.Pm
set_option linter.unusedSimpArgs false
set_option linter.unusedVariables false
open Go.RowKit

section
variable {P : Program} {n : Nat} {W : World} {K : Hl} {F : Fp} {k : List It} {tm : TM} {L L' R S M C : List HP} {T : TypeId} {pos : String} {af : Array Edge} {gd : Option (Nat × Bool)} {ops : Array Oper} {rest : List Oper} {d : Tmp}

/-! Append. -/
def AppR {α : Type} (e : TypeId) (sz : Nat) (enc : α → List Value) (m : Nat) (es : List α) (l : Nat) : Value → List HP → Prop := fun u L' => ∃ ad c, l + m ≤ c ∧ c ≤ maxLen ∧ u = .slice ad (l + m) c ∧ L' = [Ar e sz enc (.slice ad (l + m) c) es]
theorem ae_app {α : Type} {enc : α → List Value} {od : Option Tmp} {t e : TypeId} {sz bytes m : Nat} {s x : Operand} {v y : Value} {es fs : List α} (E : El P t e sz bytes) (hs : evT tm s = some v) (hx : evT tm x = some y) (hv : Src K R y sz m (flat enc fs)) (hl : ∀ x, (enc x).length = sz) (h1 : ∀ u ∈ flat enc fs, u.oneCell' = true) (hb : (es.length + m) * bytes ≤ 140737488355328) :
    AE P n K R [Ar e sz enc v es] ⟨od, .call ⟨.builtin .append, #[s, x], #[t, t]⟩, T, pos, af, gd⟩ (tget tm) (AppR e sz enc m (es ++ fs) es.length) := fun W K' w a next hK hf hO hn => by
  have hown : w.ownsRow 0 e sz v es.length (flat enc es) := Ow.owns hO .here
  have hv := hv w ((Ow.rdw (M := [Ar e sz enc v es]) hO).le hK)
  obtain ⟨ad, cap, rfl, hlen, hnc, hcm, hnn, hvv⟩ := hv
  have hm : fs.length = m := Nat.eq_of_mul_eq_mul_right E.pos (by rw [flat_length hl] at hlen; exact hlen)
  have key : ∀ v' w', Bld e sz 0 w w' v v' (es.length + m) (flat enc es ++ flat enc fs) → next (a.put od v') w' := fun v' w' hbld => by
    have H2 : Ow W K' (Sl e sz v' (es.length + m) (flat enc es ++ flat enc fs) :: R) w' := Ow.bld hO hbld
    obtain ⟨_, ad', c', rfl, h3, h4⟩ := H2.slShape .here
    refine hn _ _ w' ⟨ad', c', h3, h4, rfl, rfl⟩ ?_
    show Ow W K' (Sl e sz _ (es ++ fs).length (flat enc (es ++ fs)) :: R) w'
    rw [List.length_append, hm, flat_append]
    exact H2
  refine wpI_of_wp ?_
  unfold Oper.wp execOp
  cases ad with
  | none =>
    obtain ⟨rfl, rfl⟩ := hnn rfl
    have hfs : fs = [] := List.eq_nil_of_length_eq_zero hm
    subst hfs
    obtain ⟨i, z, hi, _⟩ := E.inf
    have hrun := run_append_owned_none (P := P) (w := w) 0 t T e i sz E.sl hi v es.length (flat enc es) hown
    simp only [resolve, invoke, builtin, Sem.run_bind, Sem.run_pure, Result.andThen_ok, List.map_toArray, List.map_cons, List.map_nil, hf.eval hs, hf.eval hx, hrun]
    exact key v w (by have := Bld.refl hown; simpa [flat] using this)
  | some ad =>
    have hcells : ∀ j u, (flat enc fs)[j]? = some u → w.cell? (ad.add j) = some u := by
      intro j u hu
      obtain ⟨b, off, he, hc⟩ := hvv (by intro h0; rw [h0] at hu; simp at hu)
      cases he
      rw [addr_add_plain]
      exact hc j u hu
    obtain ⟨v', w', hr, hbld⟩ := run_app E T hown ad m cap (flat enc fs) hlen hcells h1 hb (Nat.zero_le _)
    simp only [resolve, invoke, builtin, Sem.run_bind, Sem.run_pure, Result.andThen_ok, List.map_toArray, List.map_cons, List.map_nil, hf.eval hs, hf.eval hx, hr]
    exact key v' w' hbld
theorem flat_one {α : Type} (enc : α → List Value) (y : α) : flat enc [y] = enc y := by simp [flat]
theorem all_one {α : Type} {enc : α → List Value} (fs : List α) (h : ∀ y ∈ fs, (enc y).all (·.oneCell') = true) : ∀ u ∈ flat enc fs, u.oneCell' = true := by
  intro u hu
  obtain ⟨y, hy, hu⟩ := List.mem_flatMap.1 hu
  exact List.all_eq_true.1 (h y hy) u hu
/-- Append of a literal of one element. -/
theorem ae_ap1 {α : Type} {enc : α → List Value} {od : Option Tmp} {t e T' : TypeId} {sz bytes g : Nat} {s x : Operand} {v : Value} {es : List α} {y : α} {cs : List Value} {R' : List HP} (E : El P t e sz bytes) (hs : evT tm s = some v) (hx : evT tm x = some (.slice (some ⟨g, 0, none⟩) 1 1)) (hg : Tk R (pts g cs T') R') (hy : cs = enc y) (hl : ∀ x, (enc x).length = sz) (h1 : cs.all (·.oneCell') = true) (hb : (es.length + 1) * bytes ≤ 140737488355328) :
    AE P n K R [Ar e sz enc v es] ⟨od, .call ⟨.builtin .append, #[s, x], #[t, t]⟩, T, pos, af, gd⟩ (tget tm) (AppR e sz enc 1 (es ++ [y]) es.length) :=
  ae_app E hs hx (by rw [flat_one, ← hy]; exact Src.lit hg (by rw [hy, hl]; omega) (by simp [maxLen])) hl (by rw [flat_one, ← hy]; exact List.all_eq_true.1 h1) hb
theorem El.ofInfo {t e : TypeId} {sz bytes : Nat} (h : elemInfo P t = some (e, sz, bytes)) (hz : (P.info? e).map (fun i => (i.zero.map (·.cells.size)) == some sz) = some true) (h0 : Nat.blt 0 sz = true) (h1 : Nat.blt 0 bytes = true) : El P t e sz bytes := by
  obtain ⟨i, hu, hi, hs, hb⟩ := elemInfo_spec h
  rw [hi] at hz
  simp only [Option.map_some, Option.some.injEq, beq_iff_eq] at hz
  cases hq : i.zero with
  | none => simp [hq] at hz
  | some z => simp only [hq, Option.map_some, Option.some.injEq] at hz; exact ⟨hu, ⟨i, z, hi, hq, hs, hb, hz⟩, by simpa using h0, by simpa using h1⟩
def elOk (P : Program) (t e : TypeId) (sz bytes : Nat) : Bool := match elemInfo P t with
  | some (e', s', b') => e' == e && s' == sz && b' == bytes && Nat.blt 0 sz && Nat.blt 0 bytes && (match P.info? e with
    | some i => match i.zero with
      | some z => z.cells.size == sz
      | none => false
    | none => false)
  | none => false
theorem El.ofOk {t e : TypeId} {sz bytes : Nat} (h : elOk P t e sz bytes = true) : El P t e sz bytes := by
  unfold elOk at h
  split at h
  · rename_i e' s' b' he
    simp only [Bool.and_eq_true, beq_iff_eq] at h
    obtain ⟨⟨⟨⟨⟨rfl, rfl⟩, rfl⟩, h0⟩, h1⟩, h2⟩ := h
    split at h2
    · rename_i i hi
      split at h2
      · rename_i z hz
        obtain ⟨i', hu, hi', hs, hb⟩ := elemInfo_spec he
        rw [hi] at hi'
        cases hi'
        exact ⟨hu, ⟨i, z, hi, hz, hs, hb, by simpa using h2⟩, by simpa using h0, by simpa using h1⟩
      · cases h2
    · cases h2
  · cases h

/-! Calls. -/
theorem Sb.all : ∀ (A R : List HP), Sb (A ++ R) A R
  | [], _ => .nil
  | _ :: A, R => .cons .here (Sb.all A R)
def ownB (P : Program) (f : FuncId) : Bool := match P.funcs[f]? with
  | some fn => fn.name != "runtime.NumGoroutine" && fn.body.isSome
  | none => false
theorem run_own {f : FuncId} (h : ownB P f = true) (args : Array Value) (w : World) : (callFunc f args).run P w = .ok (.enter f args) w := by
  unfold ownB at h
  split at h
  · rename_i fn hfn
    simp only [Bool.and_eq_true, bne_iff_ne, ne_eq] at h
    obtain ⟨b, hb⟩ := Option.isSome_iff_exists.1 h.2
    simp [callFunc, Sem.run_bind, hfn, h.1, hb]
  · cases h
theorem Kr.of {φ : World → Prop} (h : ∀ w, Rdw K R w → φ w) : Kr K R φ := fun x s d w i => h w ⟨((Hl.inn_add d.symm).1 i).1, x, s, d, ((Hl.inn_add d.symm).1 i).2⟩
theorem mapM_eval {a : Act} {f : TF} (hf : Fit n f a) : ∀ {l : List Operand} {r : List Value}, l.mapM (evF f) = some r → l.map a.eval = r
  | [], r, h => by simpa using h
  | x :: l, r, h => by
    simp only [List.mapM_cons, Option.pure_def, Option.bind_eq_bind, Option.bind_eq_some_iff, Option.some.injEq] at h
    obtain ⟨v, hv, r', hr, rfl⟩ := h
    simp [hf.eval hv, mapM_eval hf hr]
theorem ae_go {od : Option Tmp} {c : Operand} {xs : Array Operand} {ts : Array TypeId} {f : FuncId} {first caps : Array Value} {us vs : List Value} {φ : World → Prop} {Rr : Value → List HP → Prop} (hc : evT tm c = some (.func (.func f) first caps)) (ha : xs.toList.mapM (evT tm) = some us) (hv : (first ++ us.toArray ++ caps).toList = vs) (ho : ownB P f = true) (Sp : Pact P f vs.toArray φ C Rr) (hφ : ∀ w, Rdw K R w → φ w) :
    AE P n K R C ⟨od, .call ⟨.value c, xs, ts⟩, T, pos, af, gd⟩ (tget tm) Rr := fun W K' w a next hK hf hO hn => by
  have e1 : xs.map a.eval = us.toArray := Array.ext' (by rw [Array.toList_map]; exact mapM_eval hf ha)
  have e2 : first ++ us.toArray ++ caps = vs.toArray := Array.ext' hv
  refine wpI_of_wp ?_
  unfold Oper.wp execOp
  simp only [resolve, e1, hf.eval hc, Deferred.ofValue, Sem.run_bind, Sem.run_pure, Result.andThen_ok, invoke, e2, run_own ho]
  refine Sp.call hO (Sb.all _ _) (Kr.of fun w h => hφ w (h.le hK)) fun v L' hr w' H' => hn v L' w' hr H'
end
end Go.Pm
