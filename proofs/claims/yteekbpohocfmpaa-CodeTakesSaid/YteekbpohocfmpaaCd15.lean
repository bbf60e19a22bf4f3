/-
  put: how long; the code of statements.
-/
import Derived.Test.YteekbpohocfmpaaCd14
namespace Go.Proofs.Yteekbpohocfmpaa
set_option linter.unusedSimpArgs false
set_option linter.unusedVariables false
open Go.RowKit Go.Pm

theorem cond_head {d : Nat} {x : Cd} (h : CdF d x) (hc : condB d x = true) (ho : 1 ≤ x.op ∧ x.op ≤ 3) : (x.op = 3 → x.l.length = 1) ∧ (x.op < 3 → 2 ≤ x.l.length) ∧ ∀ y ∈ x.l, condB (d - 1) y = true := by
  rw [condB_eq h, condG, if_pos ho, Bool.and_eq_true] at hc
  obtain ⟨h1, h2⟩ := hc
  simp only [okHead, decide_eq_true_eq] at h1
  exact ⟨h1.2.2.1, h1.2.2.2, List.all_eq_true.1 h2⟩
theorem cond_leaf {d : Nat} {x : Cd} (h : CdF d x) (hc : condB d x = true) (ho : ¬ (1 ≤ x.op ∧ x.op ≤ 3)) : x.l = [] ∧ TestOk x.op x.n (x.pa, x.pl) := by
  rw [condB_eq h, condG, if_neg ho, okLeaf, Bool.and_eq_true, decide_eq_true_eq, decide_eq_true_eq] at hc
  exact ⟨List.eq_nil_of_length_eq_zero hc.1, hc.2⟩
theorem cond_zero {x : Cd} (h : CdF 0 x) (hc : condB 0 x = true) : ¬ (1 ≤ x.op ∧ x.op ≤ 3) := fun ho => by
  obtain ⟨h1, h2, _⟩ := cond_head h hc ho
  have h3 := congrArg List.length h.2
  simp only [List.length_nil] at h3
  omega
theorem putL_eq {d : Nat} {x : Cd} (h : CdF d x) (hc : condB d x = true) (k : Nat) (X Y : Int) : putL d k x X Y = putG (putL (d - 1)) (tests (d - 1)) k x X Y := by
  cases d with
  | zero =>
    have ho := cond_zero h hc
    unfold putL putG
    rw [if_neg (by omega), if_neg (by omega), if_neg (by omega), if_neg (by omega), if_neg (by omega), if_neg (by omega)]
  | succ d => rfl
theorem seqP_len {f : Nat → Cd → Int → Int → List Sp} {t : Cd → Nat} {X Y : Int} (sw : Bool) : ∀ {l : List Cd} {k : Nat}, (∀ y ∈ l, ∀ k X Y, (f k y X Y).length = t y) → (seqP f t sw X Y k l).length = (l.map t).sum
  | [], _, _ => rfl
  | y :: r, k, hf => by
    have h1 := fun k X Y => hf y (by simp) k X Y
    have ih := fun k => seqP_len (X := X) (Y := Y) sw (l := r) (k := k) fun z hz => hf z (List.mem_cons_of_mem _ hz)
    simp only [seqP, List.length_append, List.map_cons, List.sum_cons, ih]
    cases sw <;> simp only [Bool.false_eq_true, if_false, if_true, h1]
theorem putL_len : ∀ {d : Nat} {x : Cd}, CdF d x → condB d x = true → ∀ k X Y, (putL d k x X Y).length = tests d x
  | 0, x, h, hc, k, X, Y => by
    have ho := cond_zero h hc
    rw [putL_eq h hc, putG, if_neg (by omega), if_neg (by omega), if_neg (by omega)]
    rfl
  | d + 1, x, h, hc, k, X, Y => by
    rw [putL_eq h hc, putG, tests_eq h]
    by_cases ho : 1 ≤ x.op ∧ x.op ≤ 3
    · obtain ⟨h1, h2, h3⟩ := cond_head h hc ho
      have hf : ∀ y ∈ x.l, ∀ k X Y, (putL d k y X Y).length = tests d y := fun y hy k X Y => putL_len (h.2.2 y hy) (h3 y hy) k X Y
      have hne : x.l ≠ [] := fun e => by
        rw [e] at h1 h2
        simp only [List.length_nil] at h1 h2
        omega
      rw [if_neg hne]
      by_cases o1 : x.op = 1
      · rw [if_pos o1]; exact seqP_len _ hf
      · rw [if_neg o1]
        by_cases o2 : x.op = 2
        · rw [if_pos o2]; exact seqP_len _ hf
        · rw [if_neg o2, if_pos (by omega)]
          obtain ⟨y, r, hyr⟩ := List.exists_cons_of_ne_nil hne
          have h4 := h1 (by omega)
          rw [hyr] at h4 hf ⊢
          have hr : r = [] := List.eq_nil_of_length_eq_zero (by simpa using h4)
          subst hr
          simpa using hf y (by simp) k Y X
    · obtain ⟨h1, _⟩ := cond_leaf h hc ho
      rw [if_pos h1, if_neg (by omega), if_neg (by omega), if_neg (by omega)]
      rfl
def pm : Nat → Nat
  | 0 => 1
  | d + 1 => 5 * pm d + 1
theorem pow_pm : ∀ d : Nat, 5 ^ d ≤ pm d
  | 0 => Nat.le_refl _
  | d + 1 => by have := pow_pm d; rw [Nat.pow_succ, pm]; omega
theorem PutOk.mono {F : FuncId} {y : Cd} {φ ψ : World → Prop} {f : Nat → Int → Int → List Sp} {m m' : Nat} (h : PutOk F y φ f m) (hm : m ≤ m') (hφ : ∀ w, ψ w → φ w) : PutOk F y ψ f m' := fun a c T X Y T2 h1 h2 => preP (h a c T X Y T2 (by omega) h2) hφ
theorem rput_s : ∀ (d : Nat) (x : Cd), CdF d x → condB d x = true → d ≤ 5 → PutOk 34 x (fun w => CdV w d x) (fun k X Y => putL d k x X Y) (pm d) := by
  intro d
  induction d with
  | zero =>
    intro x hx hc _
    have hno : ∀ s ∈ x.l, False := fun s hs => by rw [hx.2] at hs; cases hs
    have hz := cond_zero hx hc
    have := rput_core x (fun y w => CdV w (0 - 1) y) (putL (0 - 1)) (tests (0 - 1)) 0 hx.nn hx.len (fun h => by omega) (fun y hy => (hno y hy).elim) (fun y hy => (hno y hy).elim) (fun y hy => (hno y hy).elim) (fun y hy => (hno y hy).elim)
    intro a c T X Y T2 h1 h2
    exact preP (this a c T X Y T2 (by show T.length + (x.l.length * 0 + 1) ≤ 500000000; simp only [pm] at h1; omega) (by dsimp only at h2 ⊢; rw [← putL_eq hx hc]; exact h2)) fun w h => hx.kids h
  | succ d ih =>
    intro x hx hc hd
    have hk : ∀ y ∈ x.l, condB d y = true := fun y hy => by
      by_cases ho : 1 ≤ x.op ∧ x.op ≤ 3
      · exact (cond_head hx hc ho).2.2 y hy
      · rw [(cond_leaf hx hc ho).1] at hy; cases hy
    have h3 : x.op = 3 → x.l ≠ [] := fun h e => by
      have := (cond_head hx hc (by omega)).1 h
      rw [e] at this
      simp at this
    have ht : ∀ y ∈ x.l, tests d y ≤ 5 ^ d := fun y hy => tests_le (hx.2.2 y hy)
    have h5 : 5 ^ d ≤ 625 := by
      have h6 : (5 : Nat) ^ d ≤ 5 ^ 4 := Nat.pow_le_pow_right (by omega) (by omega)
      exact Nat.le_trans h6 (by decide)
    have hpm := pow_pm d
    have := rput_core x (fun y w => CdV w d y) (putL d) (tests d) (pm d) hx.nn hx.len h3 (fun y hy k X Y => by rw [putL_len (hx.2.2 y hy) (hk y hy)]; have := ht y hy; omega) (fun y hy => by have := ht y hy; omega) (fun y hy => rtests_s d y (hx.2.2 y hy) (by omega)) (fun y hy => ih y (hx.2.2 y hy) (hk y hy) (by omega))
    have hlm : x.l.length * pm d ≤ 5 * pm d := Nat.mul_le_mul_right _ hx.len
    intro a c T X Y T2 h1 h2
    exact preP (this a c T X Y T2 (by simp only [pm] at h1; omega) h2) fun w h => hx.kids h
/-! Statements. -/
def codeS (g : Nat → List St → List Sp) (gs : List St → Nat) (k : Nat) (s : St) : List Sp :=
  if s.op = 1 then
    if s.el.length = 0 then
      let P := putL 5 k s.cd ((k : Int) + tests 5 s.cd) ((k : Int) + tests 5 s.cd + gs s.th)
      P ++ g (k + P.length) s.th
    else
      let P := putL 5 k s.cd ((k : Int) + tests 5 s.cd) ((k : Int) + tests 5 s.cd + gs s.th + 1)
      let B := P ++ g (k + P.length) s.th
      (B ++ [⟨21, 0, 0, 0, 0, (k : Int) + tests 5 s.cd + gs s.th + 1 + gs s.el, 0⟩]) ++ g (k + B.length + 1) s.el
  else [⟨20 + s.op, s.n, s.m, 0, 0, if 3 < s.op then (k : Int) + 1 else 0, 0⟩]
def codeG (g : Nat → List St → List Sp) (gs : List St → Nat) : Nat → List St → List Sp
  | _, [] => []
  | k, s :: r => codeS g gs k s ++ codeG g gs (k + (codeS g gs k s).length) r
def codeL : Nat → Nat → List St → List Sp
  | 0, _, _ => []
  | d + 1, k, l => codeG (codeL d) (sizeL d) k l
theorem codeL_eq {d : Nat} {l : List St} (h : LsF d l) (k : Nat) : codeL d k l = codeG (codeL (d - 1)) (sizeL (d - 1)) k l := by
  cases d with
  | zero => rw [show l = [] from h]; rfl
  | succ d => rfl
theorem right_st {d : Nat} {l : List St} (h : LsF d l) (hr : rightB d l = true) {s : St} (hs : s ∈ l) : (s.op = 1 → (s.n = 0 ∧ s.m = 0) ∧ condB 5 s.cd = true ∧ rightB (d - 1) s.th = true ∧ rightB (d - 1) s.el = true) ∧ (s.op ≠ 1 → ActOk s.op s.n s.m ∧ s.th.length + s.el.length = 0) := by
  rw [rightB_eq h] at hr
  have h1 := List.all_eq_true.1 hr s hs
  unfold stG at h1
  constructor
  · intro ho
    rw [if_pos ho] at h1
    simpa using h1
  · intro ho
    rw [if_neg ho, Bool.and_eq_true, decide_eq_true_eq, bareB, Bool.and_eq_true, decide_eq_true_eq] at h1
    exact ⟨h1.1, h1.2.2⟩
theorem codeG_len {g : Nat → List St → List Sp} {gs : List St → Nat} : ∀ {l : List St} {k : Nat}, (∀ s ∈ l, ∀ k, (codeS g gs k s).length = sizeG gs s) → (codeG g gs k l).length = (l.map (sizeG gs)).sum
  | [], _, _ => rfl
  | s :: r, k, h => by
    rw [codeG, List.length_append, codeG_len fun z hz => h z (List.mem_cons_of_mem _ hz), h s (by simp)]
    simp
theorem codeS_len {g : Nat → List St → List Sp} {gs : List St → Nat} {s : St} (hp : s.op = 1 → ∀ k X Y, (putL 5 k s.cd X Y).length = tests 5 s.cd) (ht : s.op = 1 → ∀ k, (g k s.th).length = gs s.th) (he : s.op = 1 → ∀ k, (g k s.el).length = gs s.el) (h0 : s.el.length = 0 → gs s.el = 0) (k : Nat) : (codeS g gs k s).length = sizeG gs s := by
  unfold codeS sizeG
  by_cases ho : s.op = 1
  · rw [if_pos ho, if_pos ho]
    by_cases hl : s.el.length = 0
    · rw [if_pos hl, if_neg (by omega), h0 hl]
      simp only [List.length_append, hp ho, ht ho]
      omega
    · rw [if_neg hl, if_pos (by omega)]
      simp only [List.length_append, hp ho, ht ho, he ho, List.length_cons, List.length_nil]
      omega
  · rw [if_neg ho, if_neg ho]
    rfl
theorem codeL_len : ∀ {d : Nat} {l : List St}, LsF d l → rightB d l = true → ∀ k, (codeL d k l).length = sizeL d l
  | 0, _, _, _, _ => rfl
  | d + 1, l, h, hr, k => by
    rw [codeL_eq h, sizeL_eq h]
    refine codeG_len fun s hs k => ?_
    obtain ⟨_, h2, h3, h4⟩ := h.2 s hs
    obtain ⟨r1, _⟩ := right_st h hr hs
    refine codeS_len (fun ho k X Y => putL_len h2 (r1 ho).2.1 k X Y) (fun ho k => codeL_len h3 (r1 ho).2.2.1 k) (fun ho k => codeL_len h4 (r1 ho).2.2.2 k) (fun h0 => ?_) k
    rw [List.eq_nil_of_length_eq_zero h0]
    cases d <;> rfl
end Go.Proofs.Yteekbpohocfmpaa
