/-
  Maps held against nil; plain laws of maps as lists.
-/
import Derived.Test.YtohahlcjkhgimaaJu
namespace Go.Pm
set_option linter.unusedSimpArgs false
set_option linter.unusedVariables false
open Go.RowKit
section
variable {P : Program} {n : Nat} {W : World} {K : Hl} {F : Fp} {k : List It} {tm : TM} {L L' R S M C : List HP} {T : TypeId} {pos : String} {af : Array Edge} {gd : Option (Nat × Bool)} {ops : Array Oper} {rest nx : List Oper} {d : Option Tmp}
def isMapT : TypeDesc → Bool
  | .map _ _ => true
  | _ => false
theorem run_eqM {t : TypeId} (ht : tyIs P t isMapT = true) (a : Option Nat) (w : World) : (Op.equal t (.map a) (.map none)).run P w = .ok a.isNone w := by
  obtain ⟨d, hd, hf⟩ := tyIs_spec ht
  cases d <;> simp [isMapT] at hf
  have key : ∀ m, (Op.equalIn (m + 1) t (.map a) (.map none)).run P w = .ok a.isNone w := fun m => by cases a <;> simp [Op.equalIn, Sem.run_bind, run_underlying hd]
  exact key 9999
theorem pe_neM {xt yt : TypeId} {x y : Operand} {a : Option Nat} (hx : evT tm x = some (.map a)) (hy : evT tm y = some (.map none)) (ht : tyIs P xt isMapT = true) : PE P K L ⟨d, .binOp .neq xt x y yt, T, pos, af, gd⟩ (tget tm) (.bool (decide (a ≠ none))) := pe_bin hx hy fun w => by
  cases a <;> simp [eqGuard, binOp, Sem.run_bind, run_eqM ht]
end
section
variable {κ : Type} [DecidableEq κ]
theorem mi_of {P : Program} {t key elem : TypeId} {kv : κ → Value} {zv : Value} (h1 : P.underlying t = some (.map key elem)) (hk : KeyOk P key kv) (h2 : (P.info? elem).bind (·.zero) = some zv) : MI P t kv zv := by
  rcases h : P.info? elem with _ | i
  · rw [h] at h2; cases h2
  · rw [h] at h2; exact ⟨key, elem, i, h1, hk, h, h2⟩
theorem aG_none {A : List (κ × Value)} {z : κ} (h : ∀ p ∈ A, p.1 ≠ z) : aG A z = none := by
  induction A with
  | nil => rfl
  | cons p A ih =>
    obtain ⟨x, v⟩ := p
    unfold aG
    rw [if_neg (h (x, v) (List.mem_cons_self ..))]
    exact ih fun q hq => h q (List.mem_cons_of_mem _ hq)
theorem aG_mid {A B : List (κ × Value)} {z : κ} {v : Value} (h : ∀ p ∈ A, p.1 ≠ z) : aG (A ++ (z, v) :: B) z = some v := by
  induction A with
  | nil => simp [aG]
  | cons p A ih =>
    obtain ⟨x, u⟩ := p
    show (if x = z then some u else aG (A ++ (z, v) :: B) z) = _
    rw [if_neg (h (x, u) (List.mem_cons_self ..))]
    exact ih fun q hq => h q (List.mem_cons_of_mem _ hq)
theorem aD_mid {A B : List (κ × Value)} {z : κ} {v : Value} (h : ∀ p ∈ A, p.1 ≠ z) : aD (A ++ (z, v) :: B) z = A ++ B := by
  induction A with
  | nil => simp [aD]
  | cons p A ih =>
    obtain ⟨x, u⟩ := p
    show (if x = z then A ++ (z, v) :: B else (x, u) :: aD (A ++ (z, v) :: B) z) = _
    rw [if_neg (h (x, u) (List.mem_cons_self ..)), ih fun q hq => h q (List.mem_cons_of_mem _ hq)]
    rfl
theorem aP_new {A : List (κ × Value)} {z : κ} {v : Value} (h : ∀ p ∈ A, p.1 ≠ z) : aP A z v = A ++ [(z, v)] := by
  induction A with
  | nil => rfl
  | cons p A ih =>
    obtain ⟨x, u⟩ := p
    show (if x = z then (x, v) :: A else (x, u) :: aP A z v) = _
    rw [if_neg (h (x, u) (List.mem_cons_self ..)), ih fun q hq => h q (List.mem_cons_of_mem _ hq)]
    rfl
end
/-- Take one part out of many, put it back. -/
theorem Ow.satsMid {α : Type} {f : α → HP} {A B : List α} {m : α} {W : World} {K : Hl} {L R : List HP} {w : World} (H : Ow W K L w) (t : Tk L (sats ((A ++ m :: B).map f)) R) : Ow W K (f m :: sats ((A ++ B).map f) :: R) w := by
  have h1 := H.flat t
  rw [List.map_append, List.map_cons] at h1
  have h2 : Ow W K ((A.map f ++ B.map f) ++ (f m :: R)) w := h1.perm (by
    refine List.Perm.trans (l₂ := f m :: ((A.map f ++ B.map f) ++ R)) ?_ ?_
    · simp
    · exact (List.perm_middle (a := f m) (l₁ := A.map f ++ B.map f) (l₂ := R)).symm)
  have h3 := h2.unflat (As := A.map f ++ B.map f) (Sb.all _ _)
  rw [List.map_append]
  exact h3.perm (.swap ..)
theorem Ow.satsBack {α : Type} {f : α → HP} {A B : List α} {m : α} {W : World} {K : Hl} {L R R' : List HP} {w : World} (H : Ow W K L w) (t1 : Tk L (f m) R) (t2 : Tk R (sats ((A ++ B).map f)) R') : Ow W K (sats ((A ++ m :: B).map f) :: R') w := by
  have h0 := H.perm (t1.perm.trans ((t2.perm.cons _).trans (.swap ..)))
  have h1 := h0.flat .here
  have h2 : Ow W K ((A ++ m :: B).map f ++ R') w := h1.perm (by
    rw [List.map_append, List.map_append, List.map_cons]
    refine List.Perm.trans (List.perm_middle (a := f m) (l₁ := A.map f ++ B.map f) (l₂ := R')) ?_
    have := (List.perm_middle (a := f m) (l₁ := A.map f) (l₂ := B.map f ++ R')).symm
    simpa using this)
  exact h2.unflat (Sb.all _ _)
theorem Ow.satsDrop {α : Type} {f : α → HP} {A B : List α} {m : α} {W : World} {K : Hl} {L R : List HP} {w : World} (H : Ow W K L w) (t : Tk L (sats ((A ++ m :: B).map f)) R) : Ow W K (sats ((A ++ B).map f) :: R) w := (H.satsMid t).drop
end Go.Pm
